import Derived.Test.YtdfihhebgllpcaaGreatDoorAo03
import Derived.Test.YtdfihhebgllpcaaGreatDoorAo11
import Derived.Test.YtdfihhebgllpcaaGreatDoorAo10
import Derived.Test.YtdfihhebgllpcaaGreatDoorAo14
import Derived.Great.Walk

/- The walk of lex.next. -/
namespace Go.Proofs.YtdfihhebgllpcaaGreatDoor
open Go.RowKit Go.Proofs.QuotePlain Go.Proofs.UtfPlain Go.Proofs.LexPlain

/-- All signs. -/
def signA : Array Value := #[.string ⟨#[61, 61]⟩, .string ⟨#[33, 61]⟩, .string ⟨#[60, 61]⟩, .string ⟨#[62, 61]⟩, .string ⟨#[38, 38]⟩, .string ⟨#[124, 124]⟩, .string ⟨#[61]⟩, .string ⟨#[60]⟩, .string ⟨#[62]⟩, .string ⟨#[43]⟩, .string ⟨#[45]⟩, .string ⟨#[42]⟩, .string ⟨#[47]⟩, .string ⟨#[37]⟩, .string ⟨#[33]⟩, .string ⟨#[63]⟩, .string ⟨#[58]⟩, .string ⟨#[44]⟩, .string ⟨#[46]⟩, .string ⟨#[40]⟩, .string ⟨#[41]⟩, .string ⟨#[91]⟩, .string ⟨#[93]⟩, .string ⟨#[123]⟩, .string ⟨#[125]⟩]
def SignsAt (w : World) : Prop := Blk w 5 232 signA
theorem SignsAt.below {w w' : World} (h : SignsAt w) (hb : Below w.heap.size w w') : SignsAt w' := Blk.below h hb (Blk.lt h)
theorem sign_index (j : Nat) (hj : j < 25) : ∃ X : ByteArray, 1 ≤ X.size ∧ X.size ≤ 2 ∧ ∀ w, (Instr.index 232 (.agg signA) (.int .i64 (j : Int))).run Tryz.prog w = .ok (.string X) w := by
  have hc : j = 0 ∨ j = 1 ∨ j = 2 ∨ j = 3 ∨ j = 4 ∨ j = 5 ∨ j = 6 ∨ j = 7 ∨ j = 8 ∨ j = 9 ∨ j = 10 ∨ j = 11 ∨ j = 12 ∨ j = 13 ∨ j = 14 ∨ j = 15 ∨ j = 16 ∨ j = 17 ∨ j = 18 ∨ j = 19 ∨ j = 20 ∨ j = 21 ∨ j = 22 ∨ j = 23 ∨ j = 24 := by omega
  rcases hc with rfl | rfl | rfl | rfl | rfl | rfl | rfl | rfl | rfl | rfl | rfl | rfl | rfl | rfl | rfl | rfl | rfl | rfl | rfl | rfl | rfl | rfl | rfl | rfl | rfl
  · exact ⟨⟨#[61, 61]⟩, by decide, by decide, fun w => by kernel_rfl⟩
  · exact ⟨⟨#[33, 61]⟩, by decide, by decide, fun w => by kernel_rfl⟩
  · exact ⟨⟨#[60, 61]⟩, by decide, by decide, fun w => by kernel_rfl⟩
  · exact ⟨⟨#[62, 61]⟩, by decide, by decide, fun w => by kernel_rfl⟩
  · exact ⟨⟨#[38, 38]⟩, by decide, by decide, fun w => by kernel_rfl⟩
  · exact ⟨⟨#[124, 124]⟩, by decide, by decide, fun w => by kernel_rfl⟩
  · exact ⟨⟨#[61]⟩, by decide, by decide, fun w => by kernel_rfl⟩
  · exact ⟨⟨#[60]⟩, by decide, by decide, fun w => by kernel_rfl⟩
  · exact ⟨⟨#[62]⟩, by decide, by decide, fun w => by kernel_rfl⟩
  · exact ⟨⟨#[43]⟩, by decide, by decide, fun w => by kernel_rfl⟩
  · exact ⟨⟨#[45]⟩, by decide, by decide, fun w => by kernel_rfl⟩
  · exact ⟨⟨#[42]⟩, by decide, by decide, fun w => by kernel_rfl⟩
  · exact ⟨⟨#[47]⟩, by decide, by decide, fun w => by kernel_rfl⟩
  · exact ⟨⟨#[37]⟩, by decide, by decide, fun w => by kernel_rfl⟩
  · exact ⟨⟨#[33]⟩, by decide, by decide, fun w => by kernel_rfl⟩
  · exact ⟨⟨#[63]⟩, by decide, by decide, fun w => by kernel_rfl⟩
  · exact ⟨⟨#[58]⟩, by decide, by decide, fun w => by kernel_rfl⟩
  · exact ⟨⟨#[44]⟩, by decide, by decide, fun w => by kernel_rfl⟩
  · exact ⟨⟨#[46]⟩, by decide, by decide, fun w => by kernel_rfl⟩
  · exact ⟨⟨#[40]⟩, by decide, by decide, fun w => by kernel_rfl⟩
  · exact ⟨⟨#[41]⟩, by decide, by decide, fun w => by kernel_rfl⟩
  · exact ⟨⟨#[91]⟩, by decide, by decide, fun w => by kernel_rfl⟩
  · exact ⟨⟨#[93]⟩, by decide, by decide, fun w => by kernel_rfl⟩
  · exact ⟨⟨#[123]⟩, by decide, by decide, fun w => by kernel_rfl⟩
  · exact ⟨⟨#[125]⟩, by decide, by decide, fun w => by kernel_rfl⟩
theorem sign_exec (o : Oper) (w : World) (hS : SignsAt w) : ∀ ρ : Operand → Value, ρ (.global 5) = .pointer (some ⟨5, 0, none⟩) → (execOp ρ { o with op := .load 232 (.global 5) }).run Tryz.prog w = .ok (.value (.agg signA)) w := by
  intro ρ hρ
  have h1 : (Instr.loadAt 232 (.pointer (some ⟨5, 0, none⟩))).run Tryz.prog w = .ok (.agg signA) w := by
    simp only [Instr.loadAt, Instr.sureAddr, Sem.run_bind, Sem.run_pure, Result.andThen]
    exact run_loadVar_row w 5 232 232 signA (0, 0) _ hS (show Tryz.prog.underlying 232 = some (.array 25 9) from by kernel_rfl) rfl (by kernel_rfl)
  unfold execOp
  simp only [hρ, Sem.run_bind, h1, Result.andThen, Sem.run_pure]
theorem next_res (B : Nat) (k n b e : Int) (W : World) (tmps : Array Value) (hB : Blk W B 202 (toldA k n b e)) (h2 : tmps[2]? = some (.pointer (some ⟨B, 0, none⟩))) :
    (results Tryz.f186 tmps).run Tryz.prog W = .ok (.agg (toldA k n b e)) W := by
  have c0 : W.cell? ⟨B, 0, none⟩ = some (.int .i64 k) := hB.cell 0
  have c1 : W.cell? ⟨B, 1, none⟩ = some (.int .i64 n) := hB.cell 1
  have c2 : W.cell? ⟨B, 2, none⟩ = some (.int .i64 b) := hB.cell 2
  have c3 : W.cell? ⟨B, 3, none⟩ = some (.int .i64 e) := hB.cell 3
  simp [results, Tryz.results186, go_sem, h2, c0, c1, c2, c3]
/-- The end of every way: what is told. -/
def NEnd (l : List UInt8) (w : World) (e : Ending) (w' : World) : Prop := (∃ k n b x : Int, e = .returned (.agg (toldA k n b x)) ∧ (x = 0 → ∃ K N : Nat, k = K ∧ n = N ∧ Tok l K N) ∧ (∀ c r, l = c :: r → letter c = true → x = 0)) ∧ Below w.heap.size w w'

set_option maxRecDepth 100000 in
set_option maxHeartbeats 4000000 in
theorem next_line (s : ByteArray) (w : World) (hG : Glob w) (hs : s.size ≤ 100000) (c : UInt8) (r : List UInt8) (hl : s.data.toList = c :: r) (h : c = 10) :
    Calls Tryz.prog 186 #[.string s] w (NEnd (c :: r) w) := by
  have h0 : 0 < s.size := by rw [Lib.size_eq, hl]; simp
  have hc0 : s[0] = c := get_head s c r hl h0
  obtain ⟨n, hn⟩ : ∃ n : Int, n = (c.toNat : Int) := ⟨_, rfl⟩
  have hnd : ((s[0].toNat : Nat) : Int) = n := by rw [hc0, hn]
  have n0 : 0 ≤ n := by omega
  have n1 : n < 256 := by have := c.toNat_lt; omega
  obtain ⟨m, hm⟩ := hG.maxLen
  obtain ⟨Ln, hLn⟩ : ∃ Ln : ByteArray, Ln = ⟨(Lib.cut s.data.toList [10]).1.toArray⟩ := ⟨_, rfl⟩
  obtain ⟨Rs, hRs⟩ : ∃ Rs : ByteArray, Rs = ⟨(Lib.cut s.data.toList [10]).2.1.toArray⟩ := ⟨_, rfl⟩
  obtain ⟨ok, hok⟩ : ∃ ok, ok = (Lib.cut s.data.toList [10]).2.2 := ⟨_, rfl⟩
  have CC : Hid (∀ W, W.cell? ⟨0, 0, none⟩ = some (.int .i64 m) → Calls Tryz.prog 83 #[.string s, .string ⟨#[10]⟩] W fun e w' => e = .returned (.tuple #[.string Ln, .string Rs, .bool ok]) ∧ ∃ k, w' = W.drewN k) := fun W h => by
    have := Tryz.strings_Cut s ⟨#[10]⟩ m W (by omega) h
    rw [hLn, hRs, hok]
    exact this
  have HG := Lib.hid hG
  have HM := Lib.hid hm
  have hl10 : letter c = false := by rw [h]; decide
  have HNL := Lib.hid hl10
  have HT : Hid (Tok (c :: r) 5 1) := tok_other c r 5 1 hl10 (by decide) (by decide) (by simp)
  have e10 : n = 10 := by rw [hn, h]; rfl
  subst e10
  clear hG hm hn hc0 h hl hLn hRs hok hl10
  go_enter Tryz.func186, Tryz.ntmps186
  go_upto_region 1 with fail
  have hB0 := Blk.new w 202 (toldA 0 0 0 0)
  have hl0 : Below w.heap.size w (w.alloc (.cells (toldA 0 0 0 0) 202)) := (Below.refl _ _).alloc (Nat.le_refl _) _
  obtain ⟨W, hW⟩ : ∃ W, w.alloc (.cells (toldA 0 0 0 0) 202) = W := ⟨_, rfl⟩
  obtain ⟨B, hB⟩ : ∃ B, w.heap.size = B := ⟨_, rfl⟩
  rw [hW] at hB0 hl0 ⊢
  have hm0 : W.cell? ⟨0, 0, none⟩ = some (.int .i64 m) := (hl0.cell (p := ⟨0, 0, none⟩) (by have := HG.out.size; show 0 < w.heap.size; omega)).trans HM.out
  rw [hB] at hB0 hl0 ⊢
  have HBB := Lib.hid hB
  clear hB
  go_wp2_with fail
  refine (CC.out W hm0).mono ?_
  rintro e w1 ⟨rfl, q, rfl⟩
  have HB0 := Lib.hid (hB0.drewN q)
  have HL0 := Lib.hid (below_drewN hl0 q)
  have hsz1 : W.heap.size = (W.drewN q).heap.size := rfl
  obtain ⟨W1, hW1⟩ : ∃ W1, W.drewN q = W1 := ⟨_, rfl⟩
  rw [hW1] at HB0 HL0 ⊢
  have HW1 : Hid (Below w.heap.size w W1) := by rw [HBB.out]; exact HL0.out
  clear hB0 hl0 hW hW1 hm0 hsz1
  have c0 : W1.cell? ⟨B, 0, none⟩ = some (.int .i64 0) := HB0.out.cell 0
  have c1 : W1.cell? ⟨B, 1, none⟩ = some (.int .i64 0) := HB0.out.cell 1
  have c2 : W1.cell? ⟨B, 2, none⟩ = some (.int .i64 0) := HB0.out.cell 2
  have c3 : W1.cell? ⟨B, 3, none⟩ = some (.int .i64 0) := HB0.out.cell 3
  have f0 : W1.frozen? ⟨B, 0, none⟩ = false := HB0.out.frozen 0
  have f1 : W1.frozen? ⟨B, 1, none⟩ = false := HB0.out.frozen 1
  have f2 : W1.frozen? ⟨B, 2, none⟩ = false := HB0.out.frozen 2
  have f3 : W1.frozen? ⟨B, 3, none⟩ = false := HB0.out.frozen 3
  go_wp2_with fail
  refine bodyPost_ret (next_res B ((5 : Nat) : Int) ((1 : Nat) : Int) 0 0 _ _ (((((HB0.out).set_ 0 _).set_ 1 _).set_ 2 _).set_ 3 _) rfl) rfl ⟨⟨((5 : Nat) : Int), ((1 : Nat) : Int), 0, 0, rfl, fun _ => ⟨_, _, rfl, rfl, HT.out⟩, fun c1 r1 e1 h1 => absurd h1 (by injection e1 with e2 _; rw [← e2, HNL.out]; decide)⟩, ?_⟩
  rw [HBB.out]
  exact ((((HL0.out).setCell (p := ⟨B, 0, none⟩) (Nat.le_refl _) _).setCell (p := ⟨B, 1, none⟩) (Nat.le_refl _) _).setCell (p := ⟨B, 2, none⟩) (Nat.le_refl _) _).setCell (p := ⟨B, 3, none⟩) (Nat.le_refl _) _
set_option maxRecDepth 100000 in
set_option maxHeartbeats 4000000 in
theorem next_name (s : ByteArray) (w : World) (hG : Glob w) (hs : s.size ≤ 100000) (c : UInt8) (r : List UInt8) (hl : s.data.toList = c :: r) (h : letter c = true) :
    Calls Tryz.prog 186 #[.string s] w (NEnd (c :: r) w) := by
  have h0 : 0 < s.size := by rw [Lib.size_eq, hl]; simp
  have hc0 : s[0] = c := get_head s c r hl h0
  obtain ⟨n, hn⟩ : ∃ n : Int, n = (c.toNat : Int) := ⟨_, rfl⟩
  have hnd : ((s[0].toNat : Nat) : Int) = n := by rw [hc0, hn]
  have n0 : 0 ≤ n := by omega
  have n1 : n < 256 := by have := c.toNat_lt; omega
  obtain ⟨m, hm⟩ := hG.maxLen
  obtain ⟨Ln, hLn⟩ : ∃ Ln : ByteArray, Ln = ⟨(Lib.cut s.data.toList [10]).1.toArray⟩ := ⟨_, rfl⟩
  obtain ⟨Rs, hRs⟩ : ∃ Rs : ByteArray, Rs = ⟨(Lib.cut s.data.toList [10]).2.1.toArray⟩ := ⟨_, rfl⟩
  obtain ⟨ok, hok⟩ : ∃ ok, ok = (Lib.cut s.data.toList [10]).2.2 := ⟨_, rfl⟩
  have CC : Hid (∀ W, W.cell? ⟨0, 0, none⟩ = some (.int .i64 m) → Calls Tryz.prog 83 #[.string s, .string ⟨#[10]⟩] W fun e w' => e = .returned (.tuple #[.string Ln, .string Rs, .bool ok]) ∧ ∃ k, w' = W.drewN k) := fun W h => by
    have := Tryz.strings_Cut s ⟨#[10]⟩ m W (by omega) h
    rw [hLn, hRs, hok]
    exact this
  have HG := Lib.hid hG
  have HM := Lib.hid hm
  have HT := Lib.hid (tok_name c r h)
  have CL := Lib.hid (fun w => letter_any c w)
  have CN := Lib.hid (fun w => name_any s w c r hl h (by omega))
  rw [h, ← hn] at CL
  have e10 : (n == 10) = false := by rw [beq_eq_false_iff_ne]; intro e; rw [hn] at e; have : c = 10 := UInt8.toNat_inj.1 (by show c.toNat = 10; omega); rw [this] at h; exact absurd h (by decide)
  obtain ⟨N, hN⟩ : ∃ N, N = nameLen (c :: r) := ⟨_, rfl⟩
  rw [← hN] at CN HT
  clear hG hm hn hc0 h hl hLn hRs hok hN
  go_enter Tryz.func186, Tryz.ntmps186
  go_upto_region 1 with fail
  have hB0 := Blk.new w 202 (toldA 0 0 0 0)
  have hl0 : Below w.heap.size w (w.alloc (.cells (toldA 0 0 0 0) 202)) := (Below.refl _ _).alloc (Nat.le_refl _) _
  obtain ⟨W, hW⟩ : ∃ W, w.alloc (.cells (toldA 0 0 0 0) 202) = W := ⟨_, rfl⟩
  obtain ⟨B, hB⟩ : ∃ B, w.heap.size = B := ⟨_, rfl⟩
  rw [hW] at hB0 hl0 ⊢
  have hm0 : W.cell? ⟨0, 0, none⟩ = some (.int .i64 m) := (hl0.cell (p := ⟨0, 0, none⟩) (by have := HG.out.size; show 0 < w.heap.size; omega)).trans HM.out
  rw [hB] at hB0 hl0 ⊢
  have HBB := Lib.hid hB
  clear hB
  go_wp2_with fail
  refine (CC.out W hm0).mono ?_
  rintro e w1 ⟨rfl, q, rfl⟩
  have HB0 := Lib.hid (hB0.drewN q)
  have HL0 := Lib.hid (below_drewN hl0 q)
  have hsz1 : W.heap.size = (W.drewN q).heap.size := rfl
  obtain ⟨W1, hW1⟩ : ∃ W1, W.drewN q = W1 := ⟨_, rfl⟩
  rw [hW1] at HB0 HL0 ⊢
  have HW1 : Hid (Below w.heap.size w W1) := by rw [HBB.out]; exact HL0.out
  clear hB0 hl0 hW hW1 hm0 hsz1
  have c0 : W1.cell? ⟨B, 0, none⟩ = some (.int .i64 0) := HB0.out.cell 0
  have c1 : W1.cell? ⟨B, 1, none⟩ = some (.int .i64 0) := HB0.out.cell 1
  have c2 : W1.cell? ⟨B, 2, none⟩ = some (.int .i64 0) := HB0.out.cell 2
  have c3 : W1.cell? ⟨B, 3, none⟩ = some (.int .i64 0) := HB0.out.cell 3
  have f0 : W1.frozen? ⟨B, 0, none⟩ = false := HB0.out.frozen 0
  have f1 : W1.frozen? ⟨B, 1, none⟩ = false := HB0.out.frozen 1
  have f2 : W1.frozen? ⟨B, 2, none⟩ = false := HB0.out.frozen 2
  have f3 : W1.frozen? ⟨B, 3, none⟩ = false := HB0.out.frozen 3
  go_wp2_with fail
  refine (CL.out _).mono ?_
  rintro e w2 ⟨rfl, rfl⟩
  go_wp2_with fail
  refine (CN.out _).mono ?_
  rintro e w3 ⟨rfl, rfl⟩
  go_wp2_with fail
  refine bodyPost_ret (next_res B ((1 : Nat) : Int) (N : Int) 0 0 _ _ (((((HB0.out).set_ 0 _).set_ 1 _).set_ 2 _).set_ 3 _) rfl) rfl ⟨⟨((1 : Nat) : Int), (N : Int), 0, 0, rfl, fun _ => ⟨_, _, rfl, rfl, HT.out⟩, fun _ _ _ _ => rfl⟩, ?_⟩
  rw [HBB.out]
  exact ((((HL0.out).setCell (p := ⟨B, 0, none⟩) (Nat.le_refl _) _).setCell (p := ⟨B, 1, none⟩) (Nat.le_refl _) _).setCell (p := ⟨B, 2, none⟩) (Nat.le_refl _) _).setCell (p := ⟨B, 3, none⟩) (Nat.le_refl _) _
set_option maxRecDepth 100000 in
set_option maxHeartbeats 4000000 in
theorem next_num (s : ByteArray) (w : World) (hG : Glob w) (hs : s.size ≤ 100000) (c : UInt8) (r : List UInt8) (hl : s.data.toList = c :: r) (h : letter c = false) (h1 : 48 ≤ c.toNat) (h2 : c.toNat ≤ 57) :
    Calls Tryz.prog 186 #[.string s] w (NEnd (c :: r) w) := by
  have h10 : c ≠ 10 := fun e => by rw [e] at h1; exact absurd h1 (by decide)
  have h0 : 0 < s.size := by rw [Lib.size_eq, hl]; simp
  have hc0 : s[0] = c := get_head s c r hl h0
  obtain ⟨n, hn⟩ : ∃ n : Int, n = (c.toNat : Int) := ⟨_, rfl⟩
  have hnd : ((s[0].toNat : Nat) : Int) = n := by rw [hc0, hn]
  have n0 : 0 ≤ n := by omega
  have n1 : n < 256 := by have := c.toNat_lt; omega
  obtain ⟨m, hm⟩ := hG.maxLen
  obtain ⟨Ln, hLn⟩ : ∃ Ln : ByteArray, Ln = ⟨(Lib.cut s.data.toList [10]).1.toArray⟩ := ⟨_, rfl⟩
  obtain ⟨Rs, hRs⟩ : ∃ Rs : ByteArray, Rs = ⟨(Lib.cut s.data.toList [10]).2.1.toArray⟩ := ⟨_, rfl⟩
  obtain ⟨ok, hok⟩ : ∃ ok, ok = (Lib.cut s.data.toList [10]).2.2 := ⟨_, rfl⟩
  have CC : Hid (∀ W, W.cell? ⟨0, 0, none⟩ = some (.int .i64 m) → Calls Tryz.prog 83 #[.string s, .string ⟨#[10]⟩] W fun e w' => e = .returned (.tuple #[.string Ln, .string Rs, .bool ok]) ∧ ∃ k, w' = W.drewN k) := fun W h => by
    have := Tryz.strings_Cut s ⟨#[10]⟩ m W (by omega) h
    rw [hLn, hRs, hok]
    exact this
  have HG := Lib.hid hG
  have HM := Lib.hid hm
  have HNL := Lib.hid h
  have CL := Lib.hid (fun w => letter_any c w)
  rw [h, ← hn] at CL
  have e10 : (n == 10) = false := by rw [beq_eq_false_iff_ne]; intro e; rw [hn] at e; exact h10 (UInt8.toNat_inj.1 (by show c.toNat = 10; omega))
  have g1 : 48 ≤ n := by omega
  have g2 : n ≤ 57 := by omega
  have hle := scan_le s.data.toList
  obtain ⟨N, hN⟩ : ∃ N, N = NumPlain.scan s.data.toList := ⟨_, rfl⟩
  rw [← hN, ← Lib.size_eq] at hle
  have CS : Hid (∀ w, Glob w → Calls Tryz.prog 207 #[.string s] w fun e w' => e = .returned (.int .i64 (N : Int)) ∧ w = w') := fun w hG => by rw [hN]; exact scan_any s w (by omega) hG
  obtain ⟨X, hX⟩ : ∃ X : ByteArray, X = s.extract 0 N := ⟨_, rfl⟩
  have hXs : X.size ≤ 100000 := by rw [hX, ByteArray.size_extract]; omega
  obtain ⟨R, hR⟩ := parsed_ex X.data.toList
  obtain ⟨x, hx⟩ : ∃ x : Int, x = R.2 := ⟨_, rfl⟩
  have CP : Hid (∀ w, Glob w → Calls Tryz.prog 208 #[.string (s.extract 0 N)] w fun e w' => e = .returned (.tuple #[nv R.1, .int .i64 x]) ∧ Below w.heap.size w w') := fun w hG => by rw [hx, ← hX]; exact parse_all X w R hR hXs hG
  have HT : Hid (x = 0 → Tok (c :: r) 2 N) := fun hx0 => by
    refine tok_other c r 2 N h (by decide) ?_ (by rw [← hl, ← Lib.size_eq]; exact hle)
    refine Nat.pos_of_ne_zero fun hz => ?_
    have hXn : X.data.toList = [] := by rw [hX, hz, data_extract]; rfl
    rcases hR with ⟨_, hR⟩ | ⟨neg, I, pt, F, ex, hg, hr, hsc, _⟩
    · rw [hx, hR] at hx0; exact absurd hx0 (by decide)
    · rw [hXn] at hr
      have h1 := congrArg List.length hr
      simp only [NumPlain.render, List.length_nil, List.length_append] at h1
      have h2 : I = [] := List.length_eq_zero_iff.1 (by omega)
      exact absurd h2 hg.iNe
  obtain ⟨vN, hv⟩ : ∃ v, nv R.1 = v := ⟨_, rfl⟩
  rw [hv] at CP
  unfold nv at hv
  subst hv
  clear hG hm hn hc0 hl hLn hRs hok hN hX hXs hR hx h h10 h1 h2
  go_enter Tryz.func186, Tryz.ntmps186
  go_upto_region 1 with fail
  have hB0 := Blk.new w 202 (toldA 0 0 0 0)
  have hl0 : Below w.heap.size w (w.alloc (.cells (toldA 0 0 0 0) 202)) := (Below.refl _ _).alloc (Nat.le_refl _) _
  obtain ⟨W, hW⟩ : ∃ W, w.alloc (.cells (toldA 0 0 0 0) 202) = W := ⟨_, rfl⟩
  obtain ⟨B, hB⟩ : ∃ B, w.heap.size = B := ⟨_, rfl⟩
  rw [hW] at hB0 hl0 ⊢
  have hm0 : W.cell? ⟨0, 0, none⟩ = some (.int .i64 m) := (hl0.cell (p := ⟨0, 0, none⟩) (by have := HG.out.size; show 0 < w.heap.size; omega)).trans HM.out
  rw [hB] at hB0 hl0 ⊢
  have HBB := Lib.hid hB
  clear hB
  go_wp2_with fail
  refine (CC.out W hm0).mono ?_
  rintro e w1 ⟨rfl, q, rfl⟩
  have HB0 := Lib.hid (hB0.drewN q)
  have HL0 := Lib.hid (below_drewN hl0 q)
  have hsz1 : W.heap.size = (W.drewN q).heap.size := rfl
  obtain ⟨W1, hW1⟩ : ∃ W1, W.drewN q = W1 := ⟨_, rfl⟩
  rw [hW1] at HB0 HL0 ⊢
  have HW1 : Hid (Below w.heap.size w W1) := by rw [HBB.out]; exact HL0.out
  clear hB0 hl0 hW hW1 hm0 hsz1
  go_wp2_with fail
  refine (CL.out _).mono ?_
  rintro e w2 ⟨rfl, rfl⟩
  go_wp2_with fail
  refine (CS.out _ (HG.out.below HW1.out)).mono ?_
  rintro e w3 ⟨rfl, rfl⟩
  go_wp2_with fail
  refine (CP.out _ (HG.out.below HW1.out)).mono ?_
  rintro e w4 ⟨rfl, hb⟩
  have HB4 := Lib.hid (HB0.out.below hb HB0.out.lt)
  have HL4 := Lib.hid (HL0.out.trans (hb.mono (by have := HB0.out.lt; omega)))
  have hBl := HB4.out.lt
  have hBn : ¬ B = w4.heap.size := by omega
  clear hb
  have c0 : w4.cell? ⟨B, 0, none⟩ = some (.int .i64 0) := HB4.out.cell 0
  have c1 : w4.cell? ⟨B, 1, none⟩ = some (.int .i64 0) := HB4.out.cell 1
  have c2 : w4.cell? ⟨B, 2, none⟩ = some (.int .i64 0) := HB4.out.cell 2
  have c3 : w4.cell? ⟨B, 3, none⟩ = some (.int .i64 0) := HB4.out.cell 3
  have f0 : w4.frozen? ⟨B, 0, none⟩ = false := HB4.out.frozen 0
  have f1 : w4.frozen? ⟨B, 1, none⟩ = false := HB4.out.frozen 1
  have f2 : w4.frozen? ⟨B, 2, none⟩ = false := HB4.out.frozen 2
  have f3 : w4.frozen? ⟨B, 3, none⟩ = false := HB4.out.frozen 3
  go_wp2_with fail
  refine bodyPost_ret (next_res B ((2 : Nat) : Int) (N : Int) 0 x _ _ ((((((HB4.out).set_ 0 _).set_ 1 _).set_ 2 _).set_ 3 _).alloc _) rfl) rfl ⟨⟨((2 : Nat) : Int), (N : Int), 0, x, rfl, fun h => ⟨_, _, rfl, rfl, HT.out h⟩, fun c1 r1 e1 h1 => absurd h1 (by injection e1 with e2 _; rw [← e2, HNL.out]; decide)⟩, ?_⟩
  rw [HBB.out]
  exact (((((HL4.out).setCell (p := ⟨B, 0, none⟩) (Nat.le_refl _) _).setCell (p := ⟨B, 1, none⟩) (Nat.le_refl _) _).setCell (p := ⟨B, 2, none⟩) (Nat.le_refl _) _).setCell (p := ⟨B, 3, none⟩) (Nat.le_refl _) _).alloc (by simp; omega) _
set_option maxRecDepth 100000 in
set_option maxHeartbeats 4000000 in
theorem next_quot (s : ByteArray) (w : World) (hG : Glob w) (hs : s.size ≤ 100000) (c : UInt8) (r : List UInt8) (hl : s.data.toList = c :: r) (hF : FormsAt w) (h : letter c = false) (h4 : c = 34) :
    Calls Tryz.prog 186 #[.string s] w (NEnd (c :: r) w) := by
  have h10 : c ≠ 10 := by rw [h4]; decide
  have h0 : 0 < s.size := by rw [Lib.size_eq, hl]; simp
  have hc0 : s[0] = c := get_head s c r hl h0
  obtain ⟨n, hn⟩ : ∃ n : Int, n = (c.toNat : Int) := ⟨_, rfl⟩
  have hnd : ((s[0].toNat : Nat) : Int) = n := by rw [hc0, hn]
  have n0 : 0 ≤ n := by omega
  have n1 : n < 256 := by have := c.toNat_lt; omega
  obtain ⟨m, hm⟩ := hG.maxLen
  obtain ⟨Ln, hLn⟩ : ∃ Ln : ByteArray, Ln = ⟨(Lib.cut s.data.toList [10]).1.toArray⟩ := ⟨_, rfl⟩
  obtain ⟨Rs, hRs⟩ : ∃ Rs : ByteArray, Rs = ⟨(Lib.cut s.data.toList [10]).2.1.toArray⟩ := ⟨_, rfl⟩
  obtain ⟨ok, hok⟩ : ∃ ok, ok = (Lib.cut s.data.toList [10]).2.2 := ⟨_, rfl⟩
  have CC : Hid (∀ W, W.cell? ⟨0, 0, none⟩ = some (.int .i64 m) → Calls Tryz.prog 83 #[.string s, .string ⟨#[10]⟩] W fun e w' => e = .returned (.tuple #[.string Ln, .string Rs, .bool ok]) ∧ ∃ k, w' = W.drewN k) := fun W h => by
    have := Tryz.strings_Cut s ⟨#[10]⟩ m W (by omega) h
    rw [hLn, hRs, hok]
    exact this
  have HG := Lib.hid hG
  have HM := Lib.hid hm
  have HNL := Lib.hid h
  have CL := Lib.hid (fun w => letter_any c w)
  rw [h, ← hn] at CL
  obtain ⟨E, hE⟩ : ∃ E, scanQ s.data.toList = E := ⟨_, rfl⟩
  have CQ := Lib.hid (fun w hF => scan_any_q s w (by omega) hF E hE)
  have HT : Hid ((E.1 : Int) = 0 → Tok (c :: r) 3 E.2.2) := fun hx0 => by
    have := scanQ_ok s.data.toList (by rw [hE]; omega)
    rw [hE, hl] at this
    exact tok_other c r 3 _ h (by decide) (by omega) this.2.1
  obtain ⟨N, hN⟩ : ∃ N, N = E.2.2 := ⟨_, rfl⟩
  obtain ⟨T, hT⟩ : ∃ T : ByteArray, T = ⟨E.2.1.toArray⟩ := ⟨_, rfl⟩
  obtain ⟨x, hx⟩ : ∃ x : Int, x = (E.1 : Int) := ⟨_, rfl⟩
  rw [← hT, ← hN, ← hx] at CQ
  rw [← hN, ← hx] at HT
  have e34 : n = 34 := by rw [hn, h4]; rfl
  subst e34
  have HF := Lib.hid hF
  clear hG hm hn hc0 hl hLn hRs hok hE hN hT hx h h10 hF h4
  go_enter Tryz.func186, Tryz.ntmps186
  go_upto_region 1 with fail
  have hB0 := Blk.new w 202 (toldA 0 0 0 0)
  have hl0 : Below w.heap.size w (w.alloc (.cells (toldA 0 0 0 0) 202)) := (Below.refl _ _).alloc (Nat.le_refl _) _
  obtain ⟨W, hW⟩ : ∃ W, w.alloc (.cells (toldA 0 0 0 0) 202) = W := ⟨_, rfl⟩
  obtain ⟨B, hB⟩ : ∃ B, w.heap.size = B := ⟨_, rfl⟩
  rw [hW] at hB0 hl0 ⊢
  have hm0 : W.cell? ⟨0, 0, none⟩ = some (.int .i64 m) := (hl0.cell (p := ⟨0, 0, none⟩) (by have := HG.out.size; show 0 < w.heap.size; omega)).trans HM.out
  rw [hB] at hB0 hl0 ⊢
  have HBB := Lib.hid hB
  clear hB
  go_wp2_with fail
  refine (CC.out W hm0).mono ?_
  rintro e w1 ⟨rfl, q, rfl⟩
  have HB0 := Lib.hid (hB0.drewN q)
  have HL0 := Lib.hid (below_drewN hl0 q)
  have hsz1 : W.heap.size = (W.drewN q).heap.size := rfl
  obtain ⟨W1, hW1⟩ : ∃ W1, W.drewN q = W1 := ⟨_, rfl⟩
  rw [hW1] at HB0 HL0 ⊢
  have HW1 : Hid (Below w.heap.size w W1) := by rw [HBB.out]; exact HL0.out
  clear hB0 hl0 hW hW1 hm0 hsz1
  go_wp2_with fail
  refine (CL.out _).mono ?_
  rintro e w2 ⟨rfl, rfl⟩
  go_wp2_with fail
  refine (CQ.out _ (HF.out.below HW1.out)).mono ?_
  rintro e w4 ⟨rfl, hb⟩
  have HB4 := Lib.hid (HB0.out.below hb HB0.out.lt)
  have HL4 := Lib.hid (HL0.out.trans (hb.mono (by have := HB0.out.lt; omega)))
  clear hb
  have c0 : w4.cell? ⟨B, 0, none⟩ = some (.int .i64 0) := HB4.out.cell 0
  have c1 : w4.cell? ⟨B, 1, none⟩ = some (.int .i64 0) := HB4.out.cell 1
  have c2 : w4.cell? ⟨B, 2, none⟩ = some (.int .i64 0) := HB4.out.cell 2
  have c3 : w4.cell? ⟨B, 3, none⟩ = some (.int .i64 0) := HB4.out.cell 3
  have f0 : w4.frozen? ⟨B, 0, none⟩ = false := HB4.out.frozen 0
  have f1 : w4.frozen? ⟨B, 1, none⟩ = false := HB4.out.frozen 1
  have f2 : w4.frozen? ⟨B, 2, none⟩ = false := HB4.out.frozen 2
  have f3 : w4.frozen? ⟨B, 3, none⟩ = false := HB4.out.frozen 3
  go_wp2_with fail
  refine bodyPost_ret (next_res B ((3 : Nat) : Int) (N : Int) 0 x _ _ (((((HB4.out).set_ 0 _).set_ 1 _).set_ 2 _).set_ 3 _) rfl) rfl ⟨⟨((3 : Nat) : Int), (N : Int), 0, x, rfl, fun h => ⟨_, _, rfl, rfl, HT.out h⟩, fun c1 r1 e1 h1 => absurd h1 (by injection e1 with e2 _; rw [← e2, HNL.out]; decide)⟩, ?_⟩
  rw [HBB.out]
  exact ((((HL4.out).setCell (p := ⟨B, 0, none⟩) (Nat.le_refl _) _).setCell (p := ⟨B, 1, none⟩) (Nat.le_refl _) _).setCell (p := ⟨B, 2, none⟩) (Nat.le_refl _) _).setCell (p := ⟨B, 3, none⟩) (Nat.le_refl _) _
set_option maxRecDepth 100000 in
set_option maxHeartbeats 4000000 in
theorem next_hash (s : ByteArray) (w : World) (hG : Glob w) (hs : s.size ≤ 100000) (c : UInt8) (r : List UInt8) (hl : s.data.toList = c :: r) (hF : FormsAt w) (h : letter c = false) (h4 : c = 35) :
    Calls Tryz.prog 186 #[.string s] w (NEnd (c :: r) w) := by
  have h10 : c ≠ 10 := by rw [h4]; decide
  have hbl : ([32, 9, 13] : List UInt8).contains c = false := by rw [h4]; decide
  have h0 : 0 < s.size := by rw [Lib.size_eq, hl]; simp
  have hc0 : s[0] = c := get_head s c r hl h0
  obtain ⟨n, hn⟩ : ∃ n : Int, n = (c.toNat : Int) := ⟨_, rfl⟩
  have hnd : ((s[0].toNat : Nat) : Int) = n := by rw [hc0, hn]
  have n0 : 0 ≤ n := by omega
  have n1 : n < 256 := by have := c.toNat_lt; omega
  obtain ⟨m, hm⟩ := hG.maxLen
  obtain ⟨Ln, hLn⟩ : ∃ Ln : ByteArray, Ln = ⟨(Lib.cut s.data.toList [10]).1.toArray⟩ := ⟨_, rfl⟩
  obtain ⟨Rs, hRs⟩ : ∃ Rs : ByteArray, Rs = ⟨(Lib.cut s.data.toList [10]).2.1.toArray⟩ := ⟨_, rfl⟩
  obtain ⟨ok, hok⟩ : ∃ ok, ok = (Lib.cut s.data.toList [10]).2.2 := ⟨_, rfl⟩
  have CC : Hid (∀ W, W.cell? ⟨0, 0, none⟩ = some (.int .i64 m) → Calls Tryz.prog 83 #[.string s, .string ⟨#[10]⟩] W fun e w' => e = .returned (.tuple #[.string Ln, .string Rs, .bool ok]) ∧ ∃ k, w' = W.drewN k) := fun W h => by
    have := Tryz.strings_Cut s ⟨#[10]⟩ m W (by omega) h
    rw [hLn, hRs, hok]
    exact this
  have HG := Lib.hid hG
  have HM := Lib.hid hm
  have HNL := Lib.hid h
  have CL := Lib.hid (fun w => letter_any c w)
  rw [h, ← hn] at CL
  obtain ⟨kl, hkl, hcut, hcut2⟩ := cut_cons c 10 r h10
  have hLd : Ln.data.toList = c :: r.take kl := by rw [hLn, hl]; exact hcut
  have hLs : Ln.size ≤ s.size := by
    rw [Lib.size_eq, hLd, Lib.size_eq s, hl, List.length_cons, List.length_cons, List.length_take]; omega
  obtain ⟨T, hT⟩ : ∃ T : ByteArray, T = ⟨(Lib.trimRightS Ln.data.toList [32, 9, 13]).toArray⟩ := ⟨_, rfl⟩
  have hT1 : 1 ≤ T.size := by rw [hT, Lib.size_eq, hLd]; exact trimR_pos c _ _ hbl
  have hT2 : T.size ≤ s.size := by
    have := trimR_le Ln.data.toList [32, 9, 13]
    rw [← Lib.size_eq] at this
    rw [hT, Lib.size_eq]; exact Nat.le_trans this hLs
  have CT : Hid (∀ w, Calls Tryz.prog 211 #[.string Ln, .string ⟨#[32, 9, 13]⟩] w fun e w' => e = .returned (.string T) ∧ Below w.heap.size w w') := fun w => by
    rw [hT]
    exact Any.strings_TrimRight_laid Tryz.lays162 (by kernel_rfl) Ln ⟨#[32, 9, 13]⟩ w (by omega) (by decide) (ascii_of_all (by decide))
  have CR := Lib.hid (fun w hF => remark_any 6 T w hF (by omega))
  have HT : Hid (Tok (c :: r) 6 T.size) := tok_other c r 6 _ h (by decide) hT1 (by rw [← hl, ← Lib.size_eq]; exact hT2)
  have HF := Lib.hid hF
  have e35 : n = 35 := by rw [hn, h4]; rfl
  subst e35
  clear hG hm hn hc0 hl hLn hRs hok hT h h10 hF h4 hLd hLs hT1 hT2 hcut hcut2 hkl hbl
  go_enter Tryz.func186, Tryz.ntmps186
  go_upto_region 1 with fail
  have hB0 := Blk.new w 202 (toldA 0 0 0 0)
  have hl0 : Below w.heap.size w (w.alloc (.cells (toldA 0 0 0 0) 202)) := (Below.refl _ _).alloc (Nat.le_refl _) _
  obtain ⟨W, hW⟩ : ∃ W, w.alloc (.cells (toldA 0 0 0 0) 202) = W := ⟨_, rfl⟩
  obtain ⟨B, hB⟩ : ∃ B, w.heap.size = B := ⟨_, rfl⟩
  rw [hW] at hB0 hl0 ⊢
  have hm0 : W.cell? ⟨0, 0, none⟩ = some (.int .i64 m) := (hl0.cell (p := ⟨0, 0, none⟩) (by have := HG.out.size; show 0 < w.heap.size; omega)).trans HM.out
  rw [hB] at hB0 hl0 ⊢
  have HBB := Lib.hid hB
  clear hB
  go_wp2_with fail
  refine (CC.out W hm0).mono ?_
  rintro e w1 ⟨rfl, q, rfl⟩
  have HB0 := Lib.hid (hB0.drewN q)
  have HL0 := Lib.hid (below_drewN hl0 q)
  have hsz1 : W.heap.size = (W.drewN q).heap.size := rfl
  obtain ⟨W1, hW1⟩ : ∃ W1, W.drewN q = W1 := ⟨_, rfl⟩
  rw [hW1] at HB0 HL0 ⊢
  have HW1 : Hid (Below w.heap.size w W1) := by rw [HBB.out]; exact HL0.out
  clear hB0 hl0 hW hW1 hm0 hsz1
  go_wp2_with fail
  refine (CL.out _).mono ?_
  rintro e w2 ⟨rfl, rfl⟩
  go_wp2_with fail
  refine (CT.out _).mono ?_
  rintro e w4 ⟨rfl, hb⟩
  have HB4 := Lib.hid (HB0.out.below hb HB0.out.lt)
  have HL4 := Lib.hid (HL0.out.trans (hb.mono (by have := HB0.out.lt; omega)))
  have HW4 := Lib.hid (HW1.out.trans (hb.mono HW1.out.size))
  clear hb
  go_wp2_with fail
  refine (CR.out _ (HF.out.below HW4.out)).mono ?_
  rintro e w5 ⟨⟨k, m', b, x, rfl, hx⟩, hb⟩
  have HB5 := Lib.hid (HB4.out.below hb HB4.out.lt)
  have HL5 := Lib.hid (HL4.out.trans (hb.mono (by have := HB4.out.lt; omega)))
  have HX := Lib.hid hx
  clear hb hx
  have c0 : w5.cell? ⟨B, 0, none⟩ = some (.int .i64 0) := HB5.out.cell 0
  have c1 : w5.cell? ⟨B, 1, none⟩ = some (.int .i64 0) := HB5.out.cell 1
  have c2 : w5.cell? ⟨B, 2, none⟩ = some (.int .i64 0) := HB5.out.cell 2
  have c3 : w5.cell? ⟨B, 3, none⟩ = some (.int .i64 0) := HB5.out.cell 3
  have f0 : w5.frozen? ⟨B, 0, none⟩ = false := HB5.out.frozen 0
  have f1 : w5.frozen? ⟨B, 1, none⟩ = false := HB5.out.frozen 1
  have f2 : w5.frozen? ⟨B, 2, none⟩ = false := HB5.out.frozen 2
  have f3 : w5.frozen? ⟨B, 3, none⟩ = false := HB5.out.frozen 3
  go_wp2_with fail
  refine bodyPost_ret (next_res B k m' b x _ _ (((((HB5.out).set_ 0 _).set_ 1 _).set_ 2 _).set_ 3 _) rfl) rfl ⟨⟨k, m', b, x, rfl, fun h => ⟨_, _, (HX.out h).1, (HX.out h).2, HT.out⟩, fun c1 r1 e1 h1 => absurd h1 (by injection e1 with e2 _; rw [← e2, HNL.out]; decide)⟩, ?_⟩
  rw [HBB.out]
  exact ((((HL5.out).setCell (p := ⟨B, 0, none⟩) (Nat.le_refl _) _).setCell (p := ⟨B, 1, none⟩) (Nat.le_refl _) _).setCell (p := ⟨B, 2, none⟩) (Nat.le_refl _) _).setCell (p := ⟨B, 3, none⟩) (Nat.le_refl _) _
set_option maxRecDepth 100000 in
set_option maxHeartbeats 4000000 in
theorem next_slash (s : ByteArray) (w : World) (hG : Glob w) (hs : s.size ≤ 100000) (c : UInt8) (r : List UInt8) (hl : s.data.toList = c :: r) (hF : FormsAt w) (h : letter c = false) (h4 : c = 47) (hp : Lib.hasPrefix (c :: r) [47, 47] = true) :
    Calls Tryz.prog 186 #[.string s] w (NEnd (c :: r) w) := by
  have h10 : c ≠ 10 := by rw [h4]; decide
  have hbl : ([32, 9, 13] : List UInt8).contains c = false := by rw [h4]; decide
  have h0 : 0 < s.size := by rw [Lib.size_eq, hl]; simp
  have hc0 : s[0] = c := get_head s c r hl h0
  obtain ⟨n, hn⟩ : ∃ n : Int, n = (c.toNat : Int) := ⟨_, rfl⟩
  have hnd : ((s[0].toNat : Nat) : Int) = n := by rw [hc0, hn]
  have n0 : 0 ≤ n := by omega
  have n1 : n < 256 := by have := c.toNat_lt; omega
  obtain ⟨m, hm⟩ := hG.maxLen
  obtain ⟨Ln, hLn⟩ : ∃ Ln : ByteArray, Ln = ⟨(Lib.cut s.data.toList [10]).1.toArray⟩ := ⟨_, rfl⟩
  obtain ⟨Rs, hRs⟩ : ∃ Rs : ByteArray, Rs = ⟨(Lib.cut s.data.toList [10]).2.1.toArray⟩ := ⟨_, rfl⟩
  obtain ⟨ok, hok⟩ : ∃ ok, ok = (Lib.cut s.data.toList [10]).2.2 := ⟨_, rfl⟩
  have CC : Hid (∀ W, W.cell? ⟨0, 0, none⟩ = some (.int .i64 m) → Calls Tryz.prog 83 #[.string s, .string ⟨#[10]⟩] W fun e w' => e = .returned (.tuple #[.string Ln, .string Rs, .bool ok]) ∧ ∃ k, w' = W.drewN k) := fun W h => by
    have := Tryz.strings_Cut s ⟨#[10]⟩ m W (by omega) h
    rw [hLn, hRs, hok]
    exact this
  have HG := Lib.hid hG
  have HM := Lib.hid hm
  have HNL := Lib.hid h
  have CL := Lib.hid (fun w => letter_any c w)
  rw [h, ← hn] at CL
  obtain ⟨kl, hkl, hcut, hcut2⟩ := cut_cons c 10 r h10
  have hLd : Ln.data.toList = c :: r.take kl := by rw [hLn, hl]; exact hcut
  have hLs : Ln.size ≤ s.size := by
    rw [Lib.size_eq, hLd, Lib.size_eq s, hl, List.length_cons, List.length_cons, List.length_take]; omega
  obtain ⟨T, hT⟩ : ∃ T : ByteArray, T = ⟨(Lib.trimRightS Ln.data.toList [32, 9, 13]).toArray⟩ := ⟨_, rfl⟩
  have hT1 : 1 ≤ T.size := by rw [hT, Lib.size_eq, hLd]; exact trimR_pos c _ _ hbl
  have hT2 : T.size ≤ s.size := by
    have := trimR_le Ln.data.toList [32, 9, 13]
    rw [← Lib.size_eq] at this
    rw [hT, Lib.size_eq]; exact Nat.le_trans this hLs
  have CT : Hid (∀ w, Calls Tryz.prog 211 #[.string Ln, .string ⟨#[32, 9, 13]⟩] w fun e w' => e = .returned (.string T) ∧ Below w.heap.size w w') := fun w => by
    rw [hT]
    exact Any.strings_TrimRight_laid Tryz.lays162 (by kernel_rfl) Ln ⟨#[32, 9, 13]⟩ w (by omega) (by decide) (ascii_of_all (by decide))
  have CR := Lib.hid (fun w hF => remark_any 6 T w hF (by omega))
  have HT : Hid (Tok (c :: r) 6 T.size) := tok_other c r 6 _ h (by decide) hT1 (by rw [← hl, ← Lib.size_eq]; exact hT2)
  have HF := Lib.hid hF
  have CP : Hid (∀ w, Calls Tryz.prog 209 #[.string s, .string ⟨#[47, 47]⟩] w fun e w' => e = .returned (.bool true) ∧ w' = w) := fun w => by
    have := Tryz.strings_HasPrefix s ⟨#[47, 47]⟩ w
    rw [hl] at this
    rw [show Lib.hasPrefix (c :: r) (⟨#[47, 47]⟩ : ByteArray).data.toList = true from hp] at this
    exact this
  have e47 : n = 47 := by rw [hn, h4]; rfl
  subst e47
  clear hG hm hn hc0 hl hLn hRs hok hT h h10 hF h4 hLd hLs hT1 hT2 hcut hcut2 hkl hbl hp
  go_enter Tryz.func186, Tryz.ntmps186
  go_upto_region 1 with fail
  have hB0 := Blk.new w 202 (toldA 0 0 0 0)
  have hl0 : Below w.heap.size w (w.alloc (.cells (toldA 0 0 0 0) 202)) := (Below.refl _ _).alloc (Nat.le_refl _) _
  obtain ⟨W, hW⟩ : ∃ W, w.alloc (.cells (toldA 0 0 0 0) 202) = W := ⟨_, rfl⟩
  obtain ⟨B, hB⟩ : ∃ B, w.heap.size = B := ⟨_, rfl⟩
  rw [hW] at hB0 hl0 ⊢
  have hm0 : W.cell? ⟨0, 0, none⟩ = some (.int .i64 m) := (hl0.cell (p := ⟨0, 0, none⟩) (by have := HG.out.size; show 0 < w.heap.size; omega)).trans HM.out
  rw [hB] at hB0 hl0 ⊢
  have HBB := Lib.hid hB
  clear hB
  go_wp2_with fail
  refine (CC.out W hm0).mono ?_
  rintro e w1 ⟨rfl, q, rfl⟩
  have HB0 := Lib.hid (hB0.drewN q)
  have HL0 := Lib.hid (below_drewN hl0 q)
  have hsz1 : W.heap.size = (W.drewN q).heap.size := rfl
  obtain ⟨W1, hW1⟩ : ∃ W1, W.drewN q = W1 := ⟨_, rfl⟩
  rw [hW1] at HB0 HL0 ⊢
  have HW1 : Hid (Below w.heap.size w W1) := by rw [HBB.out]; exact HL0.out
  clear hB0 hl0 hW hW1 hm0 hsz1
  go_wp2_with fail
  refine (CL.out _).mono ?_
  rintro e w2 ⟨rfl, rfl⟩
  go_wp2_with fail
  refine (CP.out _).mono ?_
  rintro e w3 ⟨rfl, rfl⟩
  go_wp2_with fail
  refine (CT.out _).mono ?_
  rintro e w4 ⟨rfl, hb⟩
  have HB4 := Lib.hid (HB0.out.below hb HB0.out.lt)
  have HL4 := Lib.hid (HL0.out.trans (hb.mono (by have := HB0.out.lt; omega)))
  have HW4 := Lib.hid (HW1.out.trans (hb.mono HW1.out.size))
  clear hb
  go_wp2_with fail
  refine (CR.out _ (HF.out.below HW4.out)).mono ?_
  rintro e w5 ⟨⟨k, m', b, x, rfl, hx⟩, hb⟩
  have HB5 := Lib.hid (HB4.out.below hb HB4.out.lt)
  have HL5 := Lib.hid (HL4.out.trans (hb.mono (by have := HB4.out.lt; omega)))
  have HX := Lib.hid hx
  clear hb hx
  have c0 : w5.cell? ⟨B, 0, none⟩ = some (.int .i64 0) := HB5.out.cell 0
  have c1 : w5.cell? ⟨B, 1, none⟩ = some (.int .i64 0) := HB5.out.cell 1
  have c2 : w5.cell? ⟨B, 2, none⟩ = some (.int .i64 0) := HB5.out.cell 2
  have c3 : w5.cell? ⟨B, 3, none⟩ = some (.int .i64 0) := HB5.out.cell 3
  have f0 : w5.frozen? ⟨B, 0, none⟩ = false := HB5.out.frozen 0
  have f1 : w5.frozen? ⟨B, 1, none⟩ = false := HB5.out.frozen 1
  have f2 : w5.frozen? ⟨B, 2, none⟩ = false := HB5.out.frozen 2
  have f3 : w5.frozen? ⟨B, 3, none⟩ = false := HB5.out.frozen 3
  go_wp2_with fail
  refine bodyPost_ret (next_res B k m' b x _ _ (((((HB5.out).set_ 0 _).set_ 1 _).set_ 2 _).set_ 3 _) rfl) rfl ⟨⟨k, m', b, x, rfl, fun h => ⟨_, _, (HX.out h).1, (HX.out h).2, HT.out⟩, fun c1 r1 e1 h1 => absurd h1 (by injection e1 with e2 _; rw [← e2, HNL.out]; decide)⟩, ?_⟩
  rw [HBB.out]
  exact ((((HL5.out).setCell (p := ⟨B, 0, none⟩) (Nat.le_refl _) _).setCell (p := ⟨B, 1, none⟩) (Nat.le_refl _) _).setCell (p := ⟨B, 2, none⟩) (Nat.le_refl _) _).setCell (p := ⟨B, 3, none⟩) (Nat.le_refl _) _
set_option maxRecDepth 100000 in
set_option maxHeartbeats 4000000 in
theorem next_star (s : ByteArray) (w : World) (hG : Glob w) (hs : s.size ≤ 100000) (c : UInt8) (r : List UInt8) (hl : s.data.toList = c :: r) (hF : FormsAt w) (h : letter c = false) (h4 : c = 47) (hp : Lib.hasPrefix (c :: r) [47, 47] = false) (hp3 : Lib.hasPrefix (c :: r) [47, 42] = true) :
    Calls Tryz.prog 186 #[.string s] w (NEnd (c :: r) w) := by
  have h10 : c ≠ 10 := by rw [h4]; decide
  have h0 : 0 < s.size := by rw [Lib.size_eq, hl]; simp
  have hc0 : s[0] = c := get_head s c r hl h0
  obtain ⟨n, hn⟩ : ∃ n : Int, n = (c.toNat : Int) := ⟨_, rfl⟩
  have hnd : ((s[0].toNat : Nat) : Int) = n := by rw [hc0, hn]
  have n0 : 0 ≤ n := by omega
  have n1 : n < 256 := by have := c.toNat_lt; omega
  obtain ⟨m, hm⟩ := hG.maxLen
  obtain ⟨Ln, hLn⟩ : ∃ Ln : ByteArray, Ln = ⟨(Lib.cut s.data.toList [10]).1.toArray⟩ := ⟨_, rfl⟩
  obtain ⟨Rs, hRs⟩ : ∃ Rs : ByteArray, Rs = ⟨(Lib.cut s.data.toList [10]).2.1.toArray⟩ := ⟨_, rfl⟩
  obtain ⟨ok, hok⟩ : ∃ ok, ok = (Lib.cut s.data.toList [10]).2.2 := ⟨_, rfl⟩
  have CC : Hid (∀ W, W.cell? ⟨0, 0, none⟩ = some (.int .i64 m) → Calls Tryz.prog 83 #[.string s, .string ⟨#[10]⟩] W fun e w' => e = .returned (.tuple #[.string Ln, .string Rs, .bool ok]) ∧ ∃ k, w' = W.drewN k) := fun W h => by
    have := Tryz.strings_Cut s ⟨#[10]⟩ m W (by omega) h
    rw [hLn, hRs, hok]
    exact this
  have HG := Lib.hid hG
  have HM := Lib.hid hm
  have HNL := Lib.hid h
  have CL := Lib.hid (fun w => letter_any c w)
  rw [h, ← hn] at CL
  obtain ⟨kl, hkl, hcut, hcut2⟩ := cut_cons c 10 r h10
  have hLd : Ln.data.toList = c :: r.take kl := by rw [hLn, hl]; exact hcut
  have hLs : Ln.size ≤ s.size := by
    rw [Lib.size_eq, hLd, Lib.size_eq s, hl, List.length_cons, List.length_cons, List.length_take]; omega
  have CP : Hid (∀ w, Calls Tryz.prog 209 #[.string s, .string ⟨#[47, 47]⟩] w fun e w' => e = .returned (.bool false) ∧ w' = w) := fun w => by
    have := Tryz.strings_HasPrefix s ⟨#[47, 47]⟩ w
    rw [hl] at this
    rw [show Lib.hasPrefix (c :: r) (⟨#[47, 47]⟩ : ByteArray).data.toList = false from hp] at this
    exact this
  have CP3 : Hid (∀ w, Calls Tryz.prog 209 #[.string s, .string ⟨#[47, 42]⟩] w fun e w' => e = .returned (.bool true) ∧ w' = w) := fun w => by
    have := Tryz.strings_HasPrefix s ⟨#[47, 42]⟩ w
    rw [hl] at this
    rw [show Lib.hasPrefix (c :: r) (⟨#[47, 42]⟩ : ByteArray).data.toList = true from hp3] at this
    exact this
  obtain ⟨r2, hr2⟩ : ∃ r2, r = 42 :: r2 := by
    have := List.isPrefixOf_iff_prefix.1 (show List.isPrefixOf [47, 42] (c :: r) = true from hp3)
    obtain ⟨t, ht⟩ := this
    injection ht with h1 h2
    exact ⟨t, h2.symm⟩
  obtain ⟨kl2, hkl2, hcut3, _⟩ := cut_cons 42 10 r2 (by decide)
  have hLd2 : Ln.data.toList = c :: 42 :: r2.take kl2 := by
    rw [hLd, ← hcut2, hr2, hcut3]
  have hL2 : 2 ≤ Ln.size := by rw [Lib.size_eq, hLd2]; simp
  have hL2i : (2 : Int) ≤ (Ln.size : Int) := by omega
  obtain ⟨X, hX⟩ : ∃ X : ByteArray, Ln.extract 2 Ln.size = X := ⟨_, rfl⟩
  have hXs : X.size = Ln.size - 2 := by rw [← hX, ByteArray.size_extract]; omega
  obtain ⟨ix, hix⟩ : ∃ ix, Lib.index X.data.toList [42, 47] = ix := ⟨_, rfl⟩
  have CI : Hid (∀ w, w.cell? ⟨0, 0, none⟩ = some (.int .i64 m) → Calls Tryz.prog 138 #[.string X, .string ⟨#[42, 47]⟩] w fun e w' => e = .returned (.int .i64 ix) ∧ w' = w) := fun w hm => by
    rw [← hix]
    exact Tryz.strings_Index X ⟨#[42, 47]⟩ m w (by omega) hm
  have e47 : n = 47 := by rw [hn, h4]; rfl
  subst e47
  by_cases h0x : ix < 0

  · clear hG hm hn hc0 hl hLn hRs hok h h10 h4 hLd hcut hcut2 hkl hp hp3 hr2 hcut3 hkl2 hLd2 hLs hXs hix hF
    go_enter Tryz.func186, Tryz.ntmps186
    go_upto_region 1 with fail
    have hB0 := Blk.new w 202 (toldA 0 0 0 0)
    have hl0 : Below w.heap.size w (w.alloc (.cells (toldA 0 0 0 0) 202)) := (Below.refl _ _).alloc (Nat.le_refl _) _
    obtain ⟨W, hW⟩ : ∃ W, w.alloc (.cells (toldA 0 0 0 0) 202) = W := ⟨_, rfl⟩
    obtain ⟨B, hB⟩ : ∃ B, w.heap.size = B := ⟨_, rfl⟩
    rw [hW] at hB0 hl0 ⊢
    have hm0 : W.cell? ⟨0, 0, none⟩ = some (.int .i64 m) := (hl0.cell (p := ⟨0, 0, none⟩) (by have := HG.out.size; show 0 < w.heap.size; omega)).trans HM.out
    rw [hB] at hB0 hl0 ⊢
    have HBB := Lib.hid hB
    clear hB
    go_wp2_with fail
    refine (CC.out W hm0).mono ?_
    rintro e w1 ⟨rfl, q, rfl⟩
    have HB0 := Lib.hid (hB0.drewN q)
    have HL0 := Lib.hid (below_drewN hl0 q)
    have hsz1 : W.heap.size = (W.drewN q).heap.size := rfl
    obtain ⟨W1, hW1⟩ : ∃ W1, W.drewN q = W1 := ⟨_, rfl⟩
    rw [hW1] at HB0 HL0 ⊢
    have HW1 : Hid (Below w.heap.size w W1) := by rw [HBB.out]; exact HL0.out
    clear hB0 hl0 hW hW1 hm0 hsz1
    have hm1 : W1.cell? ⟨0, 0, none⟩ = some (.int .i64 m) := (HW1.out.cell (p := ⟨0, 0, none⟩) (by have := HG.out.size; show 0 < w.heap.size; omega)).trans HM.out
    have c0 : W1.cell? ⟨B, 0, none⟩ = some (.int .i64 0) := HB0.out.cell 0
    have c1 : W1.cell? ⟨B, 1, none⟩ = some (.int .i64 0) := HB0.out.cell 1
    have c2 : W1.cell? ⟨B, 2, none⟩ = some (.int .i64 0) := HB0.out.cell 2
    have c3 : W1.cell? ⟨B, 3, none⟩ = some (.int .i64 0) := HB0.out.cell 3
    have f0 : W1.frozen? ⟨B, 0, none⟩ = false := HB0.out.frozen 0
    have f1 : W1.frozen? ⟨B, 1, none⟩ = false := HB0.out.frozen 1
    have f2 : W1.frozen? ⟨B, 2, none⟩ = false := HB0.out.frozen 2
    have f3 : W1.frozen? ⟨B, 3, none⟩ = false := HB0.out.frozen 3
    go_wp2_with fail
    refine (CL.out _).mono ?_
    rintro e w2 ⟨rfl, rfl⟩
    go_wp2_with fail
    refine (CP.out _).mono ?_
    rintro e w3 ⟨rfl, rfl⟩
    go_wp2_with fail
    refine (CP3.out _).mono ?_
    rintro e w4 ⟨rfl, rfl⟩
    go_wp2_with fail
    refine (CI.out _ hm1).mono ?_
    rintro e w5 ⟨rfl, rfl⟩
    go_wp2_with fail
    refine bodyPost_ret (next_res B 0 0 0 2 _ _ (((((HB0.out).set_ 0 _).set_ 1 _).set_ 2 _).set_ 3 _) rfl) rfl ⟨⟨0, 0, 0, 2, rfl, fun h => absurd h (by decide), fun c1 r1 e1 h1 => absurd h1 (by injection e1 with e2 _; rw [← e2, HNL.out]; decide)⟩, ?_⟩
    rw [HBB.out]
    exact ((((HL0.out).setCell (p := ⟨B, 0, none⟩) (Nat.le_refl _) _).setCell (p := ⟨B, 1, none⟩) (Nat.le_refl _) _).setCell (p := ⟨B, 2, none⟩) (Nat.le_refl _) _).setCell (p := ⟨B, 3, none⟩) (Nat.le_refl _) _
  have hib := index_bound X.data.toList [42, 47] (by rw [hix]; omega)
  rw [hix, ← Lib.size_eq] at hib
  have hib2 : ix.toNat + 2 ≤ X.size := hib
  obtain ⟨N, hN⟩ : ∃ N : Nat, N = ix.toNat + 4 := ⟨_, rfl⟩
  have hNi : ix + 4 = (N : Int) := by omega
  have hNl : N ≤ Ln.size := by omega
  obtain ⟨T, hT⟩ : ∃ T : ByteArray, Ln.extract 0 N = T := ⟨_, rfl⟩
  have hTs : T.size = N := by rw [← hT, ByteArray.size_extract]; omega
  have CR := Lib.hid (fun w hF => remark_any 7 T w hF (by omega))
  have HT : Hid (Tok (c :: r) 7 T.size) := tok_other c r 7 _ h (by decide) (by omega) (by rw [← hl, ← Lib.size_eq]; omega)
  have HF := Lib.hid hF
  have h0i : ¬ ix < 0 := h0x
  have hN5 : (N : Int) ≤ 1000000 := by omega
  have hN6 : (N : Int) ≤ (Ln.size : Int) := by omega
  have hN7 : IntKind.i64.wrap (N : Int) = (N : Int) := IntWalk.i64_in _ (by omega)
  clear hG hm hn hc0 hl hLn hRs hok h h10 h4 hLd hcut hcut2 hkl hp hp3 hr2 hcut3 hkl2 hLd2 hLs hXs hix hib hib2 hN hTs h0x hF
  go_enter Tryz.func186, Tryz.ntmps186
  go_upto_region 1 with fail
  have hB0 := Blk.new w 202 (toldA 0 0 0 0)
  have hl0 : Below w.heap.size w (w.alloc (.cells (toldA 0 0 0 0) 202)) := (Below.refl _ _).alloc (Nat.le_refl _) _
  obtain ⟨W, hW⟩ : ∃ W, w.alloc (.cells (toldA 0 0 0 0) 202) = W := ⟨_, rfl⟩
  obtain ⟨B, hB⟩ : ∃ B, w.heap.size = B := ⟨_, rfl⟩
  rw [hW] at hB0 hl0 ⊢
  have hm0 : W.cell? ⟨0, 0, none⟩ = some (.int .i64 m) := (hl0.cell (p := ⟨0, 0, none⟩) (by have := HG.out.size; show 0 < w.heap.size; omega)).trans HM.out
  rw [hB] at hB0 hl0 ⊢
  have HBB := Lib.hid hB
  clear hB
  go_wp2_with fail
  refine (CC.out W hm0).mono ?_
  rintro e w1 ⟨rfl, q, rfl⟩
  have HB0 := Lib.hid (hB0.drewN q)
  have HL0 := Lib.hid (below_drewN hl0 q)
  have hsz1 : W.heap.size = (W.drewN q).heap.size := rfl
  obtain ⟨W1, hW1⟩ : ∃ W1, W.drewN q = W1 := ⟨_, rfl⟩
  rw [hW1] at HB0 HL0 ⊢
  have HW1 : Hid (Below w.heap.size w W1) := by rw [HBB.out]; exact HL0.out
  clear hB0 hl0 hW hW1 hm0 hsz1
  have hm1 : W1.cell? ⟨0, 0, none⟩ = some (.int .i64 m) := (HW1.out.cell (p := ⟨0, 0, none⟩) (by have := HG.out.size; show 0 < w.heap.size; omega)).trans HM.out
  go_wp2_with fail
  refine (CL.out _).mono ?_
  rintro e w2 ⟨rfl, rfl⟩
  go_wp2_with fail
  refine (CP.out _).mono ?_
  rintro e w3 ⟨rfl, rfl⟩
  go_wp2_with fail
  refine (CP3.out _).mono ?_
  rintro e w4 ⟨rfl, rfl⟩
  go_wp2_with fail
  refine (CI.out _ hm1).mono ?_
  rintro e w5 ⟨rfl, rfl⟩
  go_wp2_with fail
  refine (CR.out _ (HF.out.below HW1.out)).mono ?_
  rintro e w5 ⟨⟨k, m', b, x, rfl, hx⟩, hb⟩
  have HB5 := Lib.hid (HB0.out.below hb HB0.out.lt)
  have HL5 := Lib.hid (HL0.out.trans (hb.mono (by have := HB0.out.lt; omega)))
  have HX := Lib.hid hx
  clear hb hx
  have c0 : w5.cell? ⟨B, 0, none⟩ = some (.int .i64 0) := HB5.out.cell 0
  have c1 : w5.cell? ⟨B, 1, none⟩ = some (.int .i64 0) := HB5.out.cell 1
  have c2 : w5.cell? ⟨B, 2, none⟩ = some (.int .i64 0) := HB5.out.cell 2
  have c3 : w5.cell? ⟨B, 3, none⟩ = some (.int .i64 0) := HB5.out.cell 3
  have f0 : w5.frozen? ⟨B, 0, none⟩ = false := HB5.out.frozen 0
  have f1 : w5.frozen? ⟨B, 1, none⟩ = false := HB5.out.frozen 1
  have f2 : w5.frozen? ⟨B, 2, none⟩ = false := HB5.out.frozen 2
  have f3 : w5.frozen? ⟨B, 3, none⟩ = false := HB5.out.frozen 3
  go_wp2_with fail
  refine bodyPost_ret (next_res B k m' b x _ _ (((((HB5.out).set_ 0 _).set_ 1 _).set_ 2 _).set_ 3 _) rfl) rfl ⟨⟨k, m', b, x, rfl, fun h => ⟨_, _, (HX.out h).1, (HX.out h).2, HT.out⟩, fun c1 r1 e1 h1 => absurd h1 (by injection e1 with e2 _; rw [← e2, HNL.out]; decide)⟩, ?_⟩
  rw [HBB.out]
  exact ((((HL5.out).setCell (p := ⟨B, 0, none⟩) (Nat.le_refl _) _).setCell (p := ⟨B, 1, none⟩) (Nat.le_refl _) _).setCell (p := ⟨B, 2, none⟩) (Nat.le_refl _) _).setCell (p := ⟨B, 3, none⟩) (Nat.le_refl _) _
set_option maxRecDepth 100000 in
set_option maxHeartbeats 4000000 in
theorem next_sign (s : ByteArray) (w : World) (hG : Glob w) (hs : s.size ≤ 100000) (c : UInt8) (r : List UInt8) (hl : s.data.toList = c :: r) (hS : SignsAt w) (h : letter c = false) (h10 : c ≠ 10) (hd : ¬ (48 ≤ c.toNat ∧ c.toNat ≤ 57)) (hq : c ≠ 34) (hh : c ≠ 35) (hp : Lib.hasPrefix (c :: r) [47, 47] = false) (hp3 : Lib.hasPrefix (c :: r) [47, 42] = false) :
    Calls Tryz.prog 186 #[.string s] w (NEnd (c :: r) w) := by
  have h0 : 0 < s.size := by rw [Lib.size_eq, hl]; simp
  have hc0 : s[0] = c := get_head s c r hl h0
  obtain ⟨n, hn⟩ : ∃ n : Int, n = (c.toNat : Int) := ⟨_, rfl⟩
  have hnd : ((s[0].toNat : Nat) : Int) = n := by rw [hc0, hn]
  have n0 : 0 ≤ n := by omega
  have n1 : n < 256 := by have := c.toNat_lt; omega
  obtain ⟨m, hm⟩ := hG.maxLen
  obtain ⟨Ln, hLn⟩ : ∃ Ln : ByteArray, Ln = ⟨(Lib.cut s.data.toList [10]).1.toArray⟩ := ⟨_, rfl⟩
  obtain ⟨Rs, hRs⟩ : ∃ Rs : ByteArray, Rs = ⟨(Lib.cut s.data.toList [10]).2.1.toArray⟩ := ⟨_, rfl⟩
  obtain ⟨ok, hok⟩ : ∃ ok, ok = (Lib.cut s.data.toList [10]).2.2 := ⟨_, rfl⟩
  have CC : Hid (∀ W, W.cell? ⟨0, 0, none⟩ = some (.int .i64 m) → Calls Tryz.prog 83 #[.string s, .string ⟨#[10]⟩] W fun e w' => e = .returned (.tuple #[.string Ln, .string Rs, .bool ok]) ∧ ∃ k, w' = W.drewN k) := fun W h => by
    have := Tryz.strings_Cut s ⟨#[10]⟩ m W (by omega) h
    rw [hLn, hRs, hok]
    exact this
  have HG := Lib.hid hG
  have HM := Lib.hid hm
  have HNL := Lib.hid h
  have CL := Lib.hid (fun w => letter_any c w)
  rw [h, ← hn] at CL
  have CP : Hid (∀ w, Calls Tryz.prog 209 #[.string s, .string ⟨#[47, 47]⟩] w fun e w' => e = .returned (.bool false) ∧ w' = w) := fun w => by
    have := Tryz.strings_HasPrefix s ⟨#[47, 47]⟩ w
    rw [hl] at this
    rw [show Lib.hasPrefix (c :: r) (⟨#[47, 47]⟩ : ByteArray).data.toList = false from hp] at this
    exact this
  have CP3 : Hid (∀ w, Calls Tryz.prog 209 #[.string s, .string ⟨#[47, 42]⟩] w fun e w' => e = .returned (.bool false) ∧ w' = w) := fun w => by
    have := Tryz.strings_HasPrefix s ⟨#[47, 42]⟩ w
    rw [hl] at this
    rw [show Lib.hasPrefix (c :: r) (⟨#[47, 42]⟩ : ByteArray).data.toList = false from hp3] at this
    exact this
  have e10 : (n == 10) = false := by rw [beq_eq_false_iff_ne]; intro e; rw [hn] at e; exact h10 (UInt8.toNat_inj.1 (by show c.toNat = 10; omega))
  have e34 : (n == 34) = false := by rw [beq_eq_false_iff_ne]; intro e; rw [hn] at e; exact hq (UInt8.toNat_inj.1 (by show c.toNat = 34; omega))
  have e35 : (n == 35) = false := by rw [beq_eq_false_iff_ne]; intro e; rw [hn] at e; exact hh (UInt8.toNat_inj.1 (by show c.toNat = 35; omega))
  have hdg : ¬ 48 ≤ n ∨ (48 ≤ n ∧ ¬ n ≤ 57) := by omega
  have HS := Lib.hid hS
  have HLL := Lib.hid hl
  have HSZ := Lib.hid hs
  clear hG hm hn hc0 hl hLn hRs hok h h10 hd hq hh hp hp3 hS
  rcases hdg with g | ⟨g, g'⟩
  all_goals (
    go_enter Tryz.func186, Tryz.ntmps186
    go_upto_region 1 with fail
    have hB0 := Blk.new w 202 (toldA 0 0 0 0)
    have hl0 : Below w.heap.size w (w.alloc (.cells (toldA 0 0 0 0) 202)) := (Below.refl _ _).alloc (Nat.le_refl _) _
    obtain ⟨W, hW⟩ : ∃ W, w.alloc (.cells (toldA 0 0 0 0) 202) = W := ⟨_, rfl⟩
    obtain ⟨B, hB⟩ : ∃ B, w.heap.size = B := ⟨_, rfl⟩
    rw [hW] at hB0 hl0 ⊢
    have hm0 : W.cell? ⟨0, 0, none⟩ = some (.int .i64 m) := (hl0.cell (p := ⟨0, 0, none⟩) (by have := HG.out.size; show 0 < w.heap.size; omega)).trans HM.out
    rw [hB] at hB0 hl0 ⊢
    have HBB := Lib.hid hB
    clear hB
    go_wp2_with fail
    refine (CC.out W hm0).mono ?_
    rintro e w1 ⟨rfl, q, rfl⟩
    have HB0 := Lib.hid (hB0.drewN q)
    have HL0 := Lib.hid (below_drewN hl0 q)
    have hsz1 : W.heap.size = (W.drewN q).heap.size := rfl
    obtain ⟨W1, hW1⟩ : ∃ W1, W.drewN q = W1 := ⟨_, rfl⟩
    rw [hW1] at HB0 HL0 ⊢
    have HW1 : Hid (Below w.heap.size w W1) := by rw [HBB.out]; exact HL0.out
    clear hB0 hl0 hW hW1 hm0 hsz1
    have HS1 := Lib.hid (HS.out.below HW1.out)
    go_wp2_with fail
    refine (CL.out _).mono ?_
    rintro e w2 ⟨rfl, rfl⟩
    go_wp2_with fail
    refine (CP.out _).mono ?_
    rintro e w3 ⟨rfl, rfl⟩
    go_wp2_with fail
    refine (CP3.out _).mono ?_
    rintro e w4 ⟨rfl, hw4⟩
    subst hw4
    go_upto_region 21 with fail
    apply wp_region_lit
    refine Go.Great.wpList_loadVarTo rfl (some 89) rfl 232 5 rfl (.agg signA) (sign_exec _ w4 HS1.out) ?_
    go_wp2_with fail
    have c0 : w4.cell? ⟨B, 0, none⟩ = some (.int .i64 0) := HB0.out.cell 0
    have c1 : w4.cell? ⟨B, 1, none⟩ = some (.int .i64 0) := HB0.out.cell 1
    have c2 : w4.cell? ⟨B, 2, none⟩ = some (.int .i64 0) := HB0.out.cell 2
    have c3 : w4.cell? ⟨B, 3, none⟩ = some (.int .i64 0) := HB0.out.cell 3
    have f0 : w4.frozen? ⟨B, 0, none⟩ = false := HB0.out.frozen 0
    have f1 : w4.frozen? ⟨B, 1, none⟩ = false := HB0.out.frozen 1
    have f2 : w4.frozen? ⟨B, 2, none⟩ = false := HB0.out.frozen 2
    have f3 : w4.frozen? ⟨B, 3, none⟩ = false := HB0.out.frozen 3
    go_loop [90] (fun i => ∃ j : Nat, j ≤ 25 ∧ i = .int .i64 j) (fun i => 25 - (intOf i).toNat)
    case atStart => exact ⟨0, by omega, rfl⟩
    case round =>
      obtain ⟨j, hj, rfl⟩ := hrel
      by_cases hj2 : j < 25
      · have hj3 : (j : Int) < 25 := by omega
        obtain ⟨X, hX1, hX2, hix⟩ := sign_index j hj2
        have CH := Lib.hid (fun w => Tryz.strings_HasPrefix s X w)
        by_cases hx : Lib.hasPrefix s.data.toList X.data.toList = true
        · rw [hx] at CH
          have HT : Hid (Tok (c :: r) 4 X.size) := by
            have := (List.isPrefixOf_iff_prefix.1 (show List.isPrefixOf X.data.toList s.data.toList = true from hx)).length_le
            rw [HLL.out] at this
            exact tok_other c r 4 _ HNL.out (by decide) hX1 (by rw [Lib.size_eq]; exact this)
          clear hx hX2
          go_wp2_with fail
          refine (CH.out _).mono ?_
          rintro e w5 ⟨rfl, rfl⟩
          go_wp2_with fail
          refine bodyPost_ret (next_res B ((4 : Nat) : Int) (X.size : Int) 0 0 _ _ (((((HB0.out).set_ 0 _).set_ 1 _).set_ 2 _).set_ 3 _) rfl) rfl ⟨⟨((4 : Nat) : Int), (X.size : Int), 0, 0, rfl, fun _ => ⟨_, _, rfl, rfl, HT.out⟩, fun c1 r1 e1 h1 => absurd h1 (by injection e1 with e2 _; rw [← e2, HNL.out]; decide)⟩, ?_⟩
          rw [HBB.out]
          exact ((((HL0.out).setCell (p := ⟨B, 0, none⟩) (Nat.le_refl _) _).setCell (p := ⟨B, 1, none⟩) (Nat.le_refl _) _).setCell (p := ⟨B, 2, none⟩) (Nat.le_refl _) _).setCell (p := ⟨B, 3, none⟩) (Nat.le_refl _) _
        · rw [Bool.eq_false_iff.2 hx] at CH
          clear hx hX2
          go_wp2_with fail
          refine (CH.out _).mono ?_
          rintro e w5 ⟨rfl, rfl⟩
          go_wp2_with fail
          go_round
          case rel => exact ⟨j + 1, by omega, by go_num⟩
          case measure => simp [intOf]; omega
      · have hj3 : ¬ (j : Int) < 25 := by omega
        go_wp2_with fail
        refine bodyPost_ret (next_res B 0 0 0 3 _ _ (((((HB0.out).set_ 0 _).set_ 1 _).set_ 2 _).set_ 3 _) rfl) rfl ⟨⟨0, 0, 0, 3, rfl, fun h => absurd h (by decide), fun c1 r1 e1 h1 => absurd h1 (by injection e1 with e2 _; rw [← e2, HNL.out]; decide)⟩, ?_⟩
        rw [HBB.out]
        exact ((((HL0.out).setCell (p := ⟨B, 0, none⟩) (Nat.le_refl _) _).setCell (p := ⟨B, 1, none⟩) (Nat.le_refl _) _).setCell (p := ⟨B, 2, none⟩) (Nat.le_refl _) _).setCell (p := ⟨B, 3, none⟩) (Nat.le_refl _) _)
end Go.Proofs.YtdfihhebgllpcaaGreatDoor
