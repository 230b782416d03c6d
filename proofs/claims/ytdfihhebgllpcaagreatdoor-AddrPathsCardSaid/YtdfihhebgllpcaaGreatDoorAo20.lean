import Derived.Test.YtdfihhebgllpcaaGreatDoorAo19
import Derived.Test.YtdfihhebgllpcaaGreatDoorAo03
import Derived.LoopN

/- The walk of the reference's coded. -/
namespace Go.Proofs.YtdfihhebgllpcaaGreatDoor
open Go.RowKit Go.Proofs.QuotePlain Go.Proofs.UtfPlain

/-- A part as a value, and as it lies in memory. -/
abbrev prtA (s : ByteArray) (n e : Int) : Array Value := #[.string s, .int .i64 n, .int .i64 e]
theorem cod_res (B : Nat) (s : ByteArray) (n e : Int) (W : World) (tmps : Array Value) (hB : Blk W B 109 (prtA s n e)) (h4 : tmps[4]? = some (.pointer (some ⟨B, 0, none⟩))) :
    (results Tryz.f144 tmps).run Tryz.prog W = .ok (.agg (prtA s n e)) W := by
  have c0 : W.cell? ⟨B, 0, none⟩ = some (.string s) := hB.cell 0
  have c1 : W.cell? ⟨B, 1, none⟩ = some (.int .i64 n) := hB.cell 1
  have c2 : W.cell? ⟨B, 2, none⟩ = some (.int .i64 e) := hB.cell 2
  simp [results, Tryz.results144, go_sem, h4, c0, c1, c2]
theorem part_res (B : Nat) (s : ByteArray) (n e : Int) (W : World) (tmps : Array Value) (hB : Blk W B 109 (prtA s n e)) (h4 : tmps[4]? = some (.pointer (some ⟨B, 0, none⟩))) :
    (results Tryz.f118 tmps).run Tryz.prog W = .ok (.agg (prtA s n e)) W := by
  have c0 : W.cell? ⟨B, 0, none⟩ = some (.string s) := hB.cell 0
  have c1 : W.cell? ⟨B, 1, none⟩ = some (.int .i64 n) := hB.cell 1
  have c2 : W.cell? ⟨B, 2, none⟩ = some (.int .i64 e) := hB.cell 2
  simp [results, Tryz.results118, go_sem, h4, c0, c1, c2]
theorem rscan_res (B : Nat) (s : ByteArray) (n e : Int) (W : World) (tmps : Array Value) (hB : Blk W B 109 (prtA s n e)) (h4 : tmps[2]? = some (.pointer (some ⟨B, 0, none⟩))) :
    (results Tryz.f86 tmps).run Tryz.prog W = .ok (.agg (prtA s n e)) W := by
  have c0 : W.cell? ⟨B, 0, none⟩ = some (.string s) := hB.cell 0
  have c1 : W.cell? ⟨B, 1, none⟩ = some (.int .i64 n) := hB.cell 1
  have c2 : W.cell? ⟨B, 2, none⟩ = some (.int .i64 e) := hB.cell 2
  simp [results, Tryz.results86, go_sem, h4, c0, c1, c2]

set_option maxRecDepth 100000 in
set_option maxHeartbeats 2000000 in
theorem rcod_err (b : ByteArray) (k : Nat) (w : World) (hs : b.size ≤ 1000000) (hk : k ≤ 1000000) (U : Nat × Nat) (hU : unitF 4 0 (b.data.toList.drop (k + 2)) = U) (h : U.1 ≠ 0) :
    Calls Tryz.prog 144 #[.string b, .int .i64 (k : Int)] w (fun e w' => e = .returned (.agg #[.string ⟨#[]⟩, .int .i64 0, .int .i64 U.1]) ∧ Below w.heap.size w w') := by
  obtain ⟨k2, hk2⟩ : ∃ k2 : Nat, k2 = k + 2 := ⟨_, rfl⟩
  have hk2i : (k : Int) + 2 = (k2 : Int) := by omega
  rw [← hk2] at hU
  have CU := Lib.hid (fun w => runit_any b k2 w hs (by omega) U hU)
  have hz : U.2 = 0 := by
    have := unitF_err 4 0 (b.data.toList.drop k2) (by rw [hU]; exact h)
    rw [hU] at this; exact this
  obtain ⟨e1, he1⟩ : ∃ e1, e1 = U.1 := ⟨_, rfl⟩
  rw [hz, ← he1] at CU
  rw [← he1] at h ⊢
  have h1 : ¬ (e1 : Int) = 0 := by omega
  have h2 : ((e1 : Int) != 0) = true := by rw [bne_iff_ne]; exact h1
  clear hU hz he1 hk2 h
  go_enter Tryz.func144, Tryz.ntmps144
  go_wp2_with fail
  have hB0 := Blk.new w 109 #[.string ⟨#[]⟩, .int .i64 0, .int .i64 0]
  have hl0 : Below w.heap.size w (w.alloc (.cells #[.string ⟨#[]⟩, .int .i64 0, .int .i64 0] 109)) := (Below.refl _ _).alloc (Nat.le_refl _) _
  obtain ⟨W, hW⟩ : ∃ W, w.alloc (.cells #[.string ⟨#[]⟩, .int .i64 0, .int .i64 0] 109) = W := ⟨_, rfl⟩
  obtain ⟨B, hB⟩ : ∃ B, w.heap.size = B := ⟨_, rfl⟩
  rw [hW] at hB0 hl0 ⊢
  rw [hB] at hB0 hl0 ⊢
  have HB0 := Lib.hid hB0
  have HL0 := Lib.hid hl0
  have HBB := Lib.hid hB
  have hBl := hB0.lt
  have hBn : ¬ B = W.heap.size := by omega
  clear hW hB0 hl0 hB
  refine (CU.out _).mono ?_
  rintro e w1 ⟨rfl, rfl⟩
  have c0 : W.cell? ⟨B, 0, none⟩ = some (.string ⟨#[]⟩) := HB0.out.cell 0
  have c1 : W.cell? ⟨B, 1, none⟩ = some (.int .i64 0) := HB0.out.cell 1
  have c2 : W.cell? ⟨B, 2, none⟩ = some (.int .i64 0) := HB0.out.cell 2
  have f0 : W.frozen? ⟨B, 0, none⟩ = false := HB0.out.frozen 0
  have f1 : W.frozen? ⟨B, 1, none⟩ = false := HB0.out.frozen 1
  have f2 : W.frozen? ⟨B, 2, none⟩ = false := HB0.out.frozen 2
  go_wp2_with fail
  refine bodyPost_ret (cod_res B ⟨#[]⟩ 0 e1 _ _ (((HB0.out.set_ 0 _).set_ 1 _).set_ 2 _) rfl) rfl ⟨rfl, ?_⟩
  rw [HBB.out]
  exact ((HL0.out.setCell (p := ⟨B, 0, none⟩) (Nat.le_refl _) _).setCell (p := ⟨B, 1, none⟩) (Nat.le_refl _) _).setCell (p := ⟨B, 2, none⟩) (Nat.le_refl _) _
set_option maxRecDepth 100000 in
set_option maxHeartbeats 2000000 in
theorem rcod_low (b : ByteArray) (k : Nat) (w : World) (hs : b.size ≤ 1000000) (hk : k ≤ 1000000) (U : Nat × Nat) (hU : unitF 4 0 (b.data.toList.drop (k + 2)) = U) (h : U.1 = 0) (ha : 56320 ≤ U.2) (hb : U.2 ≤ 57343) :
    Calls Tryz.prog 144 #[.string b, .int .i64 (k : Int)] w (fun e w' => e = .returned (.agg #[.string ⟨#[]⟩, .int .i64 0, .int .i64 3]) ∧ Below w.heap.size w w') := by
  obtain ⟨n, hn⟩ : ∃ n : Int, n = (U.2 : Int) := ⟨_, rfl⟩
  obtain ⟨k2, hk2⟩ : ∃ k2 : Nat, k2 = k + 2 := ⟨_, rfl⟩
  have hk2i : (k : Int) + 2 = (k2 : Int) := by omega
  rw [← hk2] at hU
  have CU := Lib.hid (fun w => runit_any b k2 w hs (by omega) U hU)
  rw [h, ← hn] at CU
  have a1 : (56320 : Int) ≤ n := by omega
  have a2 : n ≤ 57343 := by omega
  clear hU hn hk2 h ha hb
  go_enter Tryz.func144, Tryz.ntmps144
  go_wp2_with fail
  have hB0 := Blk.new w 109 #[.string ⟨#[]⟩, .int .i64 0, .int .i64 0]
  have hl0 : Below w.heap.size w (w.alloc (.cells #[.string ⟨#[]⟩, .int .i64 0, .int .i64 0] 109)) := (Below.refl _ _).alloc (Nat.le_refl _) _
  obtain ⟨W, hW⟩ : ∃ W, w.alloc (.cells #[.string ⟨#[]⟩, .int .i64 0, .int .i64 0] 109) = W := ⟨_, rfl⟩
  obtain ⟨B, hB⟩ : ∃ B, w.heap.size = B := ⟨_, rfl⟩
  rw [hW] at hB0 hl0 ⊢
  rw [hB] at hB0 hl0 ⊢
  have HB0 := Lib.hid hB0
  have HL0 := Lib.hid hl0
  have HBB := Lib.hid hB
  have hBl := hB0.lt
  have hBn : ¬ B = W.heap.size := by omega
  clear hW hB0 hl0 hB
  refine (CU.out _).mono ?_
  rintro e w1 ⟨rfl, rfl⟩
  have c0 : W.cell? ⟨B, 0, none⟩ = some (.string ⟨#[]⟩) := HB0.out.cell 0
  have c1 : W.cell? ⟨B, 1, none⟩ = some (.int .i64 0) := HB0.out.cell 1
  have c2 : W.cell? ⟨B, 2, none⟩ = some (.int .i64 0) := HB0.out.cell 2
  have f0 : W.frozen? ⟨B, 0, none⟩ = false := HB0.out.frozen 0
  have f1 : W.frozen? ⟨B, 1, none⟩ = false := HB0.out.frozen 1
  have f2 : W.frozen? ⟨B, 2, none⟩ = false := HB0.out.frozen 2
  go_wp2_with fail
  refine bodyPost_ret (cod_res B ⟨#[]⟩ 0 3 _ _ (((HB0.out.set_ 0 _).set_ 1 _).set_ 2 _) rfl) rfl ⟨rfl, ?_⟩
  rw [HBB.out]
  exact ((HL0.out.setCell (p := ⟨B, 0, none⟩) (Nat.le_refl _) _).setCell (p := ⟨B, 1, none⟩) (Nat.le_refl _) _).setCell (p := ⟨B, 2, none⟩) (Nat.le_refl _) _
set_option maxRecDepth 100000 in
set_option maxHeartbeats 2000000 in
theorem rcod_a (b : ByteArray) (k : Nat) (w : World) (hs : b.size ≤ 1000000) (hk : k ≤ 1000000) (U : Nat × Nat) (hU : unitF 4 0 (b.data.toList.drop (k + 2)) = U) (h : U.1 = 0) (ha : U.2 < 55296) :
    Calls Tryz.prog 144 #[.string b, .int .i64 (k : Int)] w (fun e w' => e = .returned (.agg #[.string ⟨(put (U.2 : Int)).toArray⟩, .int .i64 6, .int .i64 0]) ∧ Below w.heap.size w w') := by
  obtain ⟨n, hn⟩ : ∃ n : Int, n = (U.2 : Int) := ⟨_, rfl⟩
  obtain ⟨k2, hk2⟩ : ∃ k2 : Nat, k2 = k + 2 := ⟨_, rfl⟩
  have hk2i : (k : Int) + 2 = (k2 : Int) := by omega
  rw [← hk2] at hU
  have CU := Lib.hid (fun w => runit_any b k2 w hs (by omega) U hU)
  rw [h, ← hn] at CU
  rw [← hn]
  obtain ⟨P, hP⟩ : ∃ P : ByteArray, P = ⟨(put n).toArray⟩ := ⟨_, rfl⟩
  have CP := Lib.hid (fun w => rput_any n w (by omega) (by omega))
  rw [← hP] at CP ⊢
  have a1 : ¬ (56320 : Int) ≤ n := by omega
  have a2 : n < 55296 := by omega
  clear hU hn hk2 h ha hP
  go_enter Tryz.func144, Tryz.ntmps144
  go_wp2_with fail
  have hB0 := Blk.new w 109 #[.string ⟨#[]⟩, .int .i64 0, .int .i64 0]
  have hl0 : Below w.heap.size w (w.alloc (.cells #[.string ⟨#[]⟩, .int .i64 0, .int .i64 0] 109)) := (Below.refl _ _).alloc (Nat.le_refl _) _
  obtain ⟨W, hW⟩ : ∃ W, w.alloc (.cells #[.string ⟨#[]⟩, .int .i64 0, .int .i64 0] 109) = W := ⟨_, rfl⟩
  obtain ⟨B, hB⟩ : ∃ B, w.heap.size = B := ⟨_, rfl⟩
  rw [hW] at hB0 hl0 ⊢
  rw [hB] at hB0 hl0 ⊢
  have HB0 := Lib.hid hB0
  have HL0 := Lib.hid hl0
  have HBB := Lib.hid hB
  have hBl := hB0.lt
  have hBn : ¬ B = W.heap.size := by omega
  clear hW hB0 hl0 hB
  refine (CU.out _).mono ?_
  rintro e w1 ⟨rfl, rfl⟩
  go_wp2_with fail
  refine (CP.out _).mono ?_
  rintro e w2 ⟨rfl, hb⟩
  have HB2 := Lib.hid (HB0.out.below hb HB0.out.lt)
  have HL2 := Lib.hid (HL0.out.trans (hb.mono (by have := HL0.out.size; have := HBB.out; omega)))
  clear hb

  have c0 : w2.cell? ⟨B, 0, none⟩ = some (.string ⟨#[]⟩) := HB2.out.cell 0
  have c1 : w2.cell? ⟨B, 1, none⟩ = some (.int .i64 0) := HB2.out.cell 1
  have c2 : w2.cell? ⟨B, 2, none⟩ = some (.int .i64 0) := HB2.out.cell 2
  have f0 : w2.frozen? ⟨B, 0, none⟩ = false := HB2.out.frozen 0
  have f1 : w2.frozen? ⟨B, 1, none⟩ = false := HB2.out.frozen 1
  have f2 : w2.frozen? ⟨B, 2, none⟩ = false := HB2.out.frozen 2
  go_wp2_with fail
  refine bodyPost_ret (cod_res B P 6 0 _ _ (((HB2.out.set_ 0 _).set_ 1 _).set_ 2 _) rfl) rfl ⟨rfl, ?_⟩
  rw [HBB.out]
  exact ((HL2.out.setCell (p := ⟨B, 0, none⟩) (Nat.le_refl _) _).setCell (p := ⟨B, 1, none⟩) (Nat.le_refl _) _).setCell (p := ⟨B, 2, none⟩) (Nat.le_refl _) _
set_option maxRecDepth 100000 in
set_option maxHeartbeats 2000000 in
theorem rcod_b (b : ByteArray) (k : Nat) (w : World) (hs : b.size ≤ 1000000) (hk : k ≤ 1000000) (U : Nat × Nat) (hU : unitF 4 0 (b.data.toList.drop (k + 2)) = U) (h : U.1 = 0) (ha : 57343 < U.2) (hb : U.2 < 65536) :
    Calls Tryz.prog 144 #[.string b, .int .i64 (k : Int)] w (fun e w' => e = .returned (.agg #[.string ⟨(put (U.2 : Int)).toArray⟩, .int .i64 6, .int .i64 0]) ∧ Below w.heap.size w w') := by
  obtain ⟨n, hn⟩ : ∃ n : Int, n = (U.2 : Int) := ⟨_, rfl⟩
  obtain ⟨k2, hk2⟩ : ∃ k2 : Nat, k2 = k + 2 := ⟨_, rfl⟩
  have hk2i : (k : Int) + 2 = (k2 : Int) := by omega
  rw [← hk2] at hU
  have CU := Lib.hid (fun w => runit_any b k2 w hs (by omega) U hU)
  rw [h, ← hn] at CU
  rw [← hn]
  obtain ⟨P, hP⟩ : ∃ P : ByteArray, P = ⟨(put n).toArray⟩ := ⟨_, rfl⟩
  have CP := Lib.hid (fun w => rput_any n w (by omega) (by omega))
  rw [← hP] at CP ⊢
  have a1 : (56320 : Int) ≤ n := by omega
  have a2 : ¬ n ≤ 57343 := by omega
  have a3 : ¬ n < 55296 := by omega
  have a4 : (57343 : Int) < n := by omega
  clear hU hn hk2 h ha hP hb
  go_enter Tryz.func144, Tryz.ntmps144
  go_wp2_with fail
  have hB0 := Blk.new w 109 #[.string ⟨#[]⟩, .int .i64 0, .int .i64 0]
  have hl0 : Below w.heap.size w (w.alloc (.cells #[.string ⟨#[]⟩, .int .i64 0, .int .i64 0] 109)) := (Below.refl _ _).alloc (Nat.le_refl _) _
  obtain ⟨W, hW⟩ : ∃ W, w.alloc (.cells #[.string ⟨#[]⟩, .int .i64 0, .int .i64 0] 109) = W := ⟨_, rfl⟩
  obtain ⟨B, hB⟩ : ∃ B, w.heap.size = B := ⟨_, rfl⟩
  rw [hW] at hB0 hl0 ⊢
  rw [hB] at hB0 hl0 ⊢
  have HB0 := Lib.hid hB0
  have HL0 := Lib.hid hl0
  have HBB := Lib.hid hB
  have hBl := hB0.lt
  have hBn : ¬ B = W.heap.size := by omega
  clear hW hB0 hl0 hB
  refine (CU.out _).mono ?_
  rintro e w1 ⟨rfl, rfl⟩
  go_wp2_with fail
  refine (CP.out _).mono ?_
  rintro e w2 ⟨rfl, hb⟩
  have HB2 := Lib.hid (HB0.out.below hb HB0.out.lt)
  have HL2 := Lib.hid (HL0.out.trans (hb.mono (by have := HL0.out.size; have := HBB.out; omega)))
  clear hb

  have c0 : w2.cell? ⟨B, 0, none⟩ = some (.string ⟨#[]⟩) := HB2.out.cell 0
  have c1 : w2.cell? ⟨B, 1, none⟩ = some (.int .i64 0) := HB2.out.cell 1
  have c2 : w2.cell? ⟨B, 2, none⟩ = some (.int .i64 0) := HB2.out.cell 2
  have f0 : w2.frozen? ⟨B, 0, none⟩ = false := HB2.out.frozen 0
  have f1 : w2.frozen? ⟨B, 1, none⟩ = false := HB2.out.frozen 1
  have f2 : w2.frozen? ⟨B, 2, none⟩ = false := HB2.out.frozen 2
  go_wp2_with fail
  refine bodyPost_ret (cod_res B P 6 0 _ _ (((HB2.out.set_ 0 _).set_ 1 _).set_ 2 _) rfl) rfl ⟨rfl, ?_⟩
  rw [HBB.out]
  exact ((HL2.out.setCell (p := ⟨B, 0, none⟩) (Nat.le_refl _) _).setCell (p := ⟨B, 1, none⟩) (Nat.le_refl _) _).setCell (p := ⟨B, 2, none⟩) (Nat.le_refl _) _
set_option maxRecDepth 100000 in
set_option maxHeartbeats 2000000 in
theorem rcod_h1 (b : ByteArray) (k : Nat) (w : World) (hs : b.size ≤ 1000000) (hk : k ≤ 1000000) (U : Nat × Nat) (hU : unitF 4 0 (b.data.toList.drop (k + 2)) = U) (h : U.1 = 0) (ha : 55296 ≤ U.2) (hb : U.2 < 56320) (hx : b.size ≤ k + 6) :
    Calls Tryz.prog 144 #[.string b, .int .i64 (k : Int)] w (fun e w' => e = .returned (.agg #[.string ⟨#[]⟩, .int .i64 0, .int .i64 2]) ∧ Below w.heap.size w w') := by
  obtain ⟨n, hn⟩ : ∃ n : Int, n = (U.2 : Int) := ⟨_, rfl⟩
  obtain ⟨k2, hk2⟩ : ∃ k2 : Nat, k2 = k + 2 := ⟨_, rfl⟩
  have hk2i : (k : Int) + 2 = (k2 : Int) := by omega
  rw [← hk2] at hU
  have CU := Lib.hid (fun w => runit_any b k2 w hs (by omega) U hU)
  rw [h, ← hn] at CU
  have a1 : ¬ (56320 : Int) ≤ n := by omega
  have a2 : ¬ n < 55296 := by omega
  have a3 : ¬ (57343 : Int) < n := by omega
  obtain ⟨m, hm⟩ : ∃ m : Nat, m = k + 6 := ⟨_, rfl⟩
  have hmi : (k : Int) + 6 = (m : Int) := by omega
  rw [← hm] at hx
  have hx1 : (b.size : Int) ≤ (m : Int) := by omega
  clear hU hn hk2 h ha hb hm
  go_enter Tryz.func144, Tryz.ntmps144
  go_wp2_with fail
  have hB0 := Blk.new w 109 #[.string ⟨#[]⟩, .int .i64 0, .int .i64 0]
  have hl0 : Below w.heap.size w (w.alloc (.cells #[.string ⟨#[]⟩, .int .i64 0, .int .i64 0] 109)) := (Below.refl _ _).alloc (Nat.le_refl _) _
  obtain ⟨W, hW⟩ : ∃ W, w.alloc (.cells #[.string ⟨#[]⟩, .int .i64 0, .int .i64 0] 109) = W := ⟨_, rfl⟩
  obtain ⟨B, hB⟩ : ∃ B, w.heap.size = B := ⟨_, rfl⟩
  rw [hW] at hB0 hl0 ⊢
  rw [hB] at hB0 hl0 ⊢
  have HB0 := Lib.hid hB0
  have HL0 := Lib.hid hl0
  have HBB := Lib.hid hB
  have hBl := hB0.lt
  have hBn : ¬ B = W.heap.size := by omega
  clear hW hB0 hl0 hB
  refine (CU.out _).mono ?_
  rintro e w1 ⟨rfl, rfl⟩
  have c0 : W.cell? ⟨B, 0, none⟩ = some (.string ⟨#[]⟩) := HB0.out.cell 0
  have c1 : W.cell? ⟨B, 1, none⟩ = some (.int .i64 0) := HB0.out.cell 1
  have c2 : W.cell? ⟨B, 2, none⟩ = some (.int .i64 0) := HB0.out.cell 2
  have f0 : W.frozen? ⟨B, 0, none⟩ = false := HB0.out.frozen 0
  have f1 : W.frozen? ⟨B, 1, none⟩ = false := HB0.out.frozen 1
  have f2 : W.frozen? ⟨B, 2, none⟩ = false := HB0.out.frozen 2
  go_wp2_with fail
  refine wp_loop_rounds 1 ?_
  rw [rounds_succ]
  go_wp2_with fail
  refine bodyPost_ret (cod_res B ⟨#[]⟩ 0 2 _ _ (((HB0.out.set_ 0 _).set_ 1 _).set_ 2 _) rfl) rfl ⟨rfl, ?_⟩
  rw [HBB.out]
  exact ((HL0.out.setCell (p := ⟨B, 0, none⟩) (Nat.le_refl _) _).setCell (p := ⟨B, 1, none⟩) (Nat.le_refl _) _).setCell (p := ⟨B, 2, none⟩) (Nat.le_refl _) _
set_option maxRecDepth 100000 in
set_option maxHeartbeats 2000000 in
theorem rcod_h2 (b : ByteArray) (k : Nat) (w : World) (hs : b.size ≤ 1000000) (hk : k ≤ 1000000) (U : Nat × Nat) (hU : unitF 4 0 (b.data.toList.drop (k + 2)) = U) (h : U.1 = 0) (ha : 55296 ≤ U.2) (hb : U.2 < 56320) (m : Nat) (hm : m = k + 6) (hx : m < b.size) (x : UInt8) (hbx : b[m] = x) (hne : x ≠ 92) :
    Calls Tryz.prog 144 #[.string b, .int .i64 (k : Int)] w (fun e w' => e = .returned (.agg #[.string ⟨#[]⟩, .int .i64 0, .int .i64 3]) ∧ Below w.heap.size w w') := by
  obtain ⟨n, hn⟩ : ∃ n : Int, n = (U.2 : Int) := ⟨_, rfl⟩
  obtain ⟨k2, hk2⟩ : ∃ k2 : Nat, k2 = k + 2 := ⟨_, rfl⟩
  have hk2i : (k : Int) + 2 = (k2 : Int) := by omega
  rw [← hk2] at hU
  have CU := Lib.hid (fun w => runit_any b k2 w hs (by omega) U hU)
  rw [h, ← hn] at CU
  have a1 : ¬ (56320 : Int) ≤ n := by omega
  have a2 : ¬ n < 55296 := by omega
  have a3 : ¬ (57343 : Int) < n := by omega
  have hmi : (k : Int) + 6 = (m : Int) := by omega
  have hx1 : ¬ (b.size : Int) ≤ (m : Int) := by omega
  have hx8 : x.toNat < 256 := x.toNat_lt
  have hne1 : ((x.toNat : Int) != 92) = true := by rw [bne_iff_ne]; intro e; exact hne (UInt8.toNat_inj.1 (by show x.toNat = 92; omega))
  have hne2 : ¬ x.toNat = 92 := fun e => hne (UInt8.toNat_inj.1 e)
  have hne3 : ¬ (x.toNat : Int) = 92 := by omega
  clear hU hn hk2 h ha hb hm hne
  go_enter Tryz.func144, Tryz.ntmps144
  go_wp2_with fail
  have hB0 := Blk.new w 109 #[.string ⟨#[]⟩, .int .i64 0, .int .i64 0]
  have hl0 : Below w.heap.size w (w.alloc (.cells #[.string ⟨#[]⟩, .int .i64 0, .int .i64 0] 109)) := (Below.refl _ _).alloc (Nat.le_refl _) _
  obtain ⟨W, hW⟩ : ∃ W, w.alloc (.cells #[.string ⟨#[]⟩, .int .i64 0, .int .i64 0] 109) = W := ⟨_, rfl⟩
  obtain ⟨B, hB⟩ : ∃ B, w.heap.size = B := ⟨_, rfl⟩
  rw [hW] at hB0 hl0 ⊢
  rw [hB] at hB0 hl0 ⊢
  have HB0 := Lib.hid hB0
  have HL0 := Lib.hid hl0
  have HBB := Lib.hid hB
  have hBl := hB0.lt
  have hBn : ¬ B = W.heap.size := by omega
  clear hW hB0 hl0 hB
  refine (CU.out _).mono ?_
  rintro e w1 ⟨rfl, rfl⟩
  have c0 : W.cell? ⟨B, 0, none⟩ = some (.string ⟨#[]⟩) := HB0.out.cell 0
  have c1 : W.cell? ⟨B, 1, none⟩ = some (.int .i64 0) := HB0.out.cell 1
  have c2 : W.cell? ⟨B, 2, none⟩ = some (.int .i64 0) := HB0.out.cell 2
  have f0 : W.frozen? ⟨B, 0, none⟩ = false := HB0.out.frozen 0
  have f1 : W.frozen? ⟨B, 1, none⟩ = false := HB0.out.frozen 1
  have f2 : W.frozen? ⟨B, 2, none⟩ = false := HB0.out.frozen 2
  go_wp2_with fail
  refine wp_loop_rounds 1 ?_
  rw [rounds_succ]
  go_wp2_with fail
  go_region
  all_goals go_wp2_with fail
  refine bodyPost_ret (cod_res B ⟨#[]⟩ 0 3 _ _ ((((HB0.out.set_ 0 _).set_ 1 _).set_ 2 _).alloc _) rfl) rfl ⟨rfl, ?_⟩
  rw [HBB.out]
  exact ((((HL0.out.setCell (p := ⟨B, 0, none⟩) (Nat.le_refl _) _).setCell (p := ⟨B, 1, none⟩) (Nat.le_refl _) _).setCell (p := ⟨B, 2, none⟩) (Nat.le_refl _) _).alloc (by simp; omega) _).drew
set_option maxRecDepth 100000 in
set_option maxHeartbeats 2000000 in
theorem rcod_h3 (b : ByteArray) (k : Nat) (w : World) (hs : b.size ≤ 1000000) (hk : k ≤ 1000000) (U : Nat × Nat) (hU : unitF 4 0 (b.data.toList.drop (k + 2)) = U) (h : U.1 = 0) (ha : 55296 ≤ U.2) (hb : U.2 < 56320) (m : Nat) (hm : m = k + 6) (hx : m < b.size) (hbx : b[m] = 92) (hy : b.size ≤ m + 1) :
    Calls Tryz.prog 144 #[.string b, .int .i64 (k : Int)] w (fun e w' => e = .returned (.agg #[.string ⟨#[]⟩, .int .i64 0, .int .i64 2]) ∧ Below w.heap.size w w') := by
  obtain ⟨n, hn⟩ : ∃ n : Int, n = (U.2 : Int) := ⟨_, rfl⟩
  obtain ⟨k2, hk2⟩ : ∃ k2 : Nat, k2 = k + 2 := ⟨_, rfl⟩
  have hk2i : (k : Int) + 2 = (k2 : Int) := by omega
  rw [← hk2] at hU
  have CU := Lib.hid (fun w => runit_any b k2 w hs (by omega) U hU)
  rw [h, ← hn] at CU
  have a1 : ¬ (56320 : Int) ≤ n := by omega
  have a2 : ¬ n < 55296 := by omega
  have a3 : ¬ (57343 : Int) < n := by omega
  have hmi : (k : Int) + 6 = (m : Int) := by omega
  have hx1 : ¬ (b.size : Int) ≤ (m : Int) := by omega
  obtain ⟨q, hq⟩ : ∃ q : Nat, q = m + 1 := ⟨_, rfl⟩
  have hqi : (m : Int) + 1 = (q : Int) := by omega
  have hy1 : (b.size : Int) ≤ (q : Int) := by omega
  clear hU hn hk2 h ha hb hm hq hy
  go_enter Tryz.func144, Tryz.ntmps144
  go_wp2_with fail
  have hB0 := Blk.new w 109 #[.string ⟨#[]⟩, .int .i64 0, .int .i64 0]
  have hl0 : Below w.heap.size w (w.alloc (.cells #[.string ⟨#[]⟩, .int .i64 0, .int .i64 0] 109)) := (Below.refl _ _).alloc (Nat.le_refl _) _
  obtain ⟨W, hW⟩ : ∃ W, w.alloc (.cells #[.string ⟨#[]⟩, .int .i64 0, .int .i64 0] 109) = W := ⟨_, rfl⟩
  obtain ⟨B, hB⟩ : ∃ B, w.heap.size = B := ⟨_, rfl⟩
  rw [hW] at hB0 hl0 ⊢
  rw [hB] at hB0 hl0 ⊢
  have HB0 := Lib.hid hB0
  have HL0 := Lib.hid hl0
  have HBB := Lib.hid hB
  have hBl := hB0.lt
  have hBn : ¬ B = W.heap.size := by omega
  clear hW hB0 hl0 hB
  refine (CU.out _).mono ?_
  rintro e w1 ⟨rfl, rfl⟩
  have c0 : W.cell? ⟨B, 0, none⟩ = some (.string ⟨#[]⟩) := HB0.out.cell 0
  have c1 : W.cell? ⟨B, 1, none⟩ = some (.int .i64 0) := HB0.out.cell 1
  have c2 : W.cell? ⟨B, 2, none⟩ = some (.int .i64 0) := HB0.out.cell 2
  have f0 : W.frozen? ⟨B, 0, none⟩ = false := HB0.out.frozen 0
  have f1 : W.frozen? ⟨B, 1, none⟩ = false := HB0.out.frozen 1
  have f2 : W.frozen? ⟨B, 2, none⟩ = false := HB0.out.frozen 2
  go_wp2_with fail
  refine wp_loop_rounds 3 ?_
  rw [rounds_succ]
  go_wp2_with fail
  go_region
  go_wp2_with fail
  have hB1 : Blk (W.alloc (.cells #[.int .u8 92, .int .u8 117] 5)).drew B 109 #[.string ⟨#[]⟩, .int .i64 0, .int .i64 0] := (HB0.out.alloc _).drew
  have hL1 : Below B w (W.alloc (.cells #[.int .u8 92, .int .u8 117] 5)).drew := (HL0.out.alloc (by omega) _).drew
  obtain ⟨W1, hW1⟩ : ∃ W1, (W.alloc (.cells #[.int .u8 92, .int .u8 117] 5)).drew = W1 := ⟨_, rfl⟩
  rw [hW1] at hB1 hL1 ⊢
  have HB1 := Lib.hid hB1
  have HL1 := Lib.hid hL1
  have hBl1 := hB1.lt
  have hBn1 : ¬ B = W1.heap.size := by omega
  clear hW1 hB1 hL1 c0 c1 c2 f0 f1 f2 hBl hBn
  have c0 : W1.cell? ⟨B, 0, none⟩ = some (.string ⟨#[]⟩) := HB1.out.cell 0
  have c1 : W1.cell? ⟨B, 1, none⟩ = some (.int .i64 0) := HB1.out.cell 1
  have c2 : W1.cell? ⟨B, 2, none⟩ = some (.int .i64 0) := HB1.out.cell 2
  have f0 : W1.frozen? ⟨B, 0, none⟩ = false := HB1.out.frozen 0
  have f1 : W1.frozen? ⟨B, 1, none⟩ = false := HB1.out.frozen 1
  have f2 : W1.frozen? ⟨B, 2, none⟩ = false := HB1.out.frozen 2
  rw [rounds_succ]
  go_wp2_with fail
  refine bodyPost_ret (cod_res B ⟨#[]⟩ 0 2 _ _ (((HB1.out.set_ 0 _).set_ 1 _).set_ 2 _) rfl) rfl ⟨rfl, ?_⟩
  rw [HBB.out]
  exact ((HL1.out.setCell (p := ⟨B, 0, none⟩) (Nat.le_refl _) _).setCell (p := ⟨B, 1, none⟩) (Nat.le_refl _) _).setCell (p := ⟨B, 2, none⟩) (Nat.le_refl _) _
set_option maxRecDepth 100000 in
set_option maxHeartbeats 2000000 in
theorem rcod_h4 (b : ByteArray) (k : Nat) (w : World) (hs : b.size ≤ 1000000) (hk : k ≤ 1000000) (U : Nat × Nat) (hU : unitF 4 0 (b.data.toList.drop (k + 2)) = U) (h : U.1 = 0) (ha : 55296 ≤ U.2) (hb : U.2 < 56320) (m : Nat) (hm : m = k + 6) (hx : m < b.size) (hbx : b[m] = 92) (q : Nat) (hq : q = m + 1) (hy : q < b.size) (x : UInt8) (hby : b[q] = x) (hne : x ≠ 117) :
    Calls Tryz.prog 144 #[.string b, .int .i64 (k : Int)] w (fun e w' => e = .returned (.agg #[.string ⟨#[]⟩, .int .i64 0, .int .i64 3]) ∧ Below w.heap.size w w') := by
  obtain ⟨n, hn⟩ : ∃ n : Int, n = (U.2 : Int) := ⟨_, rfl⟩
  obtain ⟨k2, hk2⟩ : ∃ k2 : Nat, k2 = k + 2 := ⟨_, rfl⟩
  have hk2i : (k : Int) + 2 = (k2 : Int) := by omega
  rw [← hk2] at hU
  have CU := Lib.hid (fun w => runit_any b k2 w hs (by omega) U hU)
  rw [h, ← hn] at CU
  have a1 : ¬ (56320 : Int) ≤ n := by omega
  have a2 : ¬ n < 55296 := by omega
  have a3 : ¬ (57343 : Int) < n := by omega
  have hmi : (k : Int) + 6 = (m : Int) := by omega
  have hx1 : ¬ (b.size : Int) ≤ (m : Int) := by omega
  have hqi : (m : Int) + 1 = (q : Int) := by omega
  have hy1 : ¬ (b.size : Int) ≤ (q : Int) := by omega
  have hx8 : x.toNat < 256 := x.toNat_lt
  have hne1 : ((x.toNat : Int) != 117) = true := by rw [bne_iff_ne]; intro e; exact hne (UInt8.toNat_inj.1 (by show x.toNat = 117; omega))
  have hne2 : ¬ x.toNat = 117 := fun e => hne (UInt8.toNat_inj.1 e)
  have hne3 : ¬ (x.toNat : Int) = 117 := by omega
  clear hU hn hk2 h ha hb hm hq hne
  go_enter Tryz.func144, Tryz.ntmps144
  go_wp2_with fail
  have hB0 := Blk.new w 109 #[.string ⟨#[]⟩, .int .i64 0, .int .i64 0]
  have hl0 : Below w.heap.size w (w.alloc (.cells #[.string ⟨#[]⟩, .int .i64 0, .int .i64 0] 109)) := (Below.refl _ _).alloc (Nat.le_refl _) _
  obtain ⟨W, hW⟩ : ∃ W, w.alloc (.cells #[.string ⟨#[]⟩, .int .i64 0, .int .i64 0] 109) = W := ⟨_, rfl⟩
  obtain ⟨B, hB⟩ : ∃ B, w.heap.size = B := ⟨_, rfl⟩
  rw [hW] at hB0 hl0 ⊢
  rw [hB] at hB0 hl0 ⊢
  have HB0 := Lib.hid hB0
  have HL0 := Lib.hid hl0
  have HBB := Lib.hid hB
  have hBl := hB0.lt
  have hBn : ¬ B = W.heap.size := by omega
  clear hW hB0 hl0 hB
  refine (CU.out _).mono ?_
  rintro e w1 ⟨rfl, rfl⟩
  have c0 : W.cell? ⟨B, 0, none⟩ = some (.string ⟨#[]⟩) := HB0.out.cell 0
  have c1 : W.cell? ⟨B, 1, none⟩ = some (.int .i64 0) := HB0.out.cell 1
  have c2 : W.cell? ⟨B, 2, none⟩ = some (.int .i64 0) := HB0.out.cell 2
  have f0 : W.frozen? ⟨B, 0, none⟩ = false := HB0.out.frozen 0
  have f1 : W.frozen? ⟨B, 1, none⟩ = false := HB0.out.frozen 1
  have f2 : W.frozen? ⟨B, 2, none⟩ = false := HB0.out.frozen 2
  go_wp2_with fail
  refine wp_loop_rounds 3 ?_
  rw [rounds_succ]
  go_wp2_with fail
  go_region
  go_wp2_with fail
  have hB1 : Blk (W.alloc (.cells #[.int .u8 92, .int .u8 117] 5)).drew B 109 #[.string ⟨#[]⟩, .int .i64 0, .int .i64 0] := (HB0.out.alloc _).drew
  have hL1 : Below B w (W.alloc (.cells #[.int .u8 92, .int .u8 117] 5)).drew := (HL0.out.alloc (by omega) _).drew
  obtain ⟨W1, hW1⟩ : ∃ W1, (W.alloc (.cells #[.int .u8 92, .int .u8 117] 5)).drew = W1 := ⟨_, rfl⟩
  rw [hW1] at hB1 hL1 ⊢
  have HB1 := Lib.hid hB1
  have HL1 := Lib.hid hL1
  have hBl1 := hB1.lt
  have hBn1 : ¬ B = W1.heap.size := by omega
  clear hW1 hB1 hL1 c0 c1 c2 f0 f1 f2 hBl hBn
  have c0 : W1.cell? ⟨B, 0, none⟩ = some (.string ⟨#[]⟩) := HB1.out.cell 0
  have c1 : W1.cell? ⟨B, 1, none⟩ = some (.int .i64 0) := HB1.out.cell 1
  have c2 : W1.cell? ⟨B, 2, none⟩ = some (.int .i64 0) := HB1.out.cell 2
  have f0 : W1.frozen? ⟨B, 0, none⟩ = false := HB1.out.frozen 0
  have f1 : W1.frozen? ⟨B, 1, none⟩ = false := HB1.out.frozen 1
  have f2 : W1.frozen? ⟨B, 2, none⟩ = false := HB1.out.frozen 2
  rw [rounds_succ]
  go_wp2_with fail
  go_region
  all_goals go_wp2_with fail
  refine bodyPost_ret (cod_res B ⟨#[]⟩ 0 3 _ _ ((((HB1.out.set_ 0 _).set_ 1 _).set_ 2 _).alloc _) rfl) rfl ⟨rfl, ?_⟩
  rw [HBB.out]
  exact ((((HL1.out.setCell (p := ⟨B, 0, none⟩) (Nat.le_refl _) _).setCell (p := ⟨B, 1, none⟩) (Nat.le_refl _) _).setCell (p := ⟨B, 2, none⟩) (Nat.le_refl _) _).alloc (by simp; omega) _).drew
set_option maxRecDepth 100000 in
set_option maxHeartbeats 2000000 in
theorem rcod_h5 (b : ByteArray) (k : Nat) (w : World) (hs : b.size ≤ 1000000) (hk : k ≤ 1000000) (U : Nat × Nat) (hU : unitF 4 0 (b.data.toList.drop (k + 2)) = U) (h : U.1 = 0) (ha : 55296 ≤ U.2) (hb : U.2 < 56320) (m : Nat) (hm : m = k + 6) (hx : m < b.size) (hbx : b[m] = 92) (q : Nat) (hq : q = m + 1) (hy : q < b.size) (hby : b[q] = 117) (X : Nat × Nat) (hX : unitF 4 0 (b.data.toList.drop (k + 8)) = X) (hz : X.1 ≠ 0) :
    Calls Tryz.prog 144 #[.string b, .int .i64 (k : Int)] w (fun e w' => e = .returned (.agg #[.string ⟨#[]⟩, .int .i64 0, .int .i64 X.1]) ∧ Below w.heap.size w w') := by
  obtain ⟨n, hn⟩ : ∃ n : Int, n = (U.2 : Int) := ⟨_, rfl⟩
  obtain ⟨k2, hk2⟩ : ∃ k2 : Nat, k2 = k + 2 := ⟨_, rfl⟩
  have hk2i : (k : Int) + 2 = (k2 : Int) := by omega
  rw [← hk2] at hU
  have CU := Lib.hid (fun w => runit_any b k2 w hs (by omega) U hU)
  rw [h, ← hn] at CU
  have a1 : ¬ (56320 : Int) ≤ n := by omega
  have a2 : ¬ n < 55296 := by omega
  have a3 : ¬ (57343 : Int) < n := by omega
  have hmi : (k : Int) + 6 = (m : Int) := by omega
  have hx1 : ¬ (b.size : Int) ≤ (m : Int) := by omega
  have hqi : (m : Int) + 1 = (q : Int) := by omega
  have hy1 : ¬ (b.size : Int) ≤ (q : Int) := by omega
  obtain ⟨k8, hk8⟩ : ∃ k8 : Nat, k8 = k + 8 := ⟨_, rfl⟩
  have hk8i : (k : Int) + 8 = (k8 : Int) := by omega
  rw [← hk8] at hX
  have CX := Lib.hid (fun w => runit_any b k8 w hs (by omega) X hX)
  have hz0 : X.2 = 0 := by
    have := unitF_err 4 0 (b.data.toList.drop k8) (by rw [hX]; exact hz)
    rw [hX] at this; exact this
  obtain ⟨e1, he1⟩ : ∃ e1, e1 = X.1 := ⟨_, rfl⟩
  rw [hz0, ← he1] at CX
  rw [← he1] at hz ⊢
  have h1 : ¬ (e1 : Int) = 0 := by omega
  have h2 : ((e1 : Int) != 0) = true := by rw [bne_iff_ne]; exact h1
  clear hU hn hk2 h ha hb hm hq hX hk8 hz hz0 he1
  go_enter Tryz.func144, Tryz.ntmps144
  go_wp2_with fail
  have hB0 := Blk.new w 109 #[.string ⟨#[]⟩, .int .i64 0, .int .i64 0]
  have hl0 : Below w.heap.size w (w.alloc (.cells #[.string ⟨#[]⟩, .int .i64 0, .int .i64 0] 109)) := (Below.refl _ _).alloc (Nat.le_refl _) _
  obtain ⟨W, hW⟩ : ∃ W, w.alloc (.cells #[.string ⟨#[]⟩, .int .i64 0, .int .i64 0] 109) = W := ⟨_, rfl⟩
  obtain ⟨B, hB⟩ : ∃ B, w.heap.size = B := ⟨_, rfl⟩
  rw [hW] at hB0 hl0 ⊢
  rw [hB] at hB0 hl0 ⊢
  have HB0 := Lib.hid hB0
  have HL0 := Lib.hid hl0
  have HBB := Lib.hid hB
  have hBl := hB0.lt
  have hBn : ¬ B = W.heap.size := by omega
  clear hW hB0 hl0 hB
  refine (CU.out _).mono ?_
  rintro e w1 ⟨rfl, rfl⟩
  have c0 : W.cell? ⟨B, 0, none⟩ = some (.string ⟨#[]⟩) := HB0.out.cell 0
  have c1 : W.cell? ⟨B, 1, none⟩ = some (.int .i64 0) := HB0.out.cell 1
  have c2 : W.cell? ⟨B, 2, none⟩ = some (.int .i64 0) := HB0.out.cell 2
  have f0 : W.frozen? ⟨B, 0, none⟩ = false := HB0.out.frozen 0
  have f1 : W.frozen? ⟨B, 1, none⟩ = false := HB0.out.frozen 1
  have f2 : W.frozen? ⟨B, 2, none⟩ = false := HB0.out.frozen 2
  go_wp2_with fail
  refine wp_loop_rounds 3 ?_
  rw [rounds_succ]
  go_wp2_with fail
  go_region
  go_wp2_with fail
  have hB1 : Blk (W.alloc (.cells #[.int .u8 92, .int .u8 117] 5)).drew B 109 #[.string ⟨#[]⟩, .int .i64 0, .int .i64 0] := (HB0.out.alloc _).drew
  have hL1 : Below B w (W.alloc (.cells #[.int .u8 92, .int .u8 117] 5)).drew := (HL0.out.alloc (by omega) _).drew
  obtain ⟨W1, hW1⟩ : ∃ W1, (W.alloc (.cells #[.int .u8 92, .int .u8 117] 5)).drew = W1 := ⟨_, rfl⟩
  rw [hW1] at hB1 hL1 ⊢
  have HB1 := Lib.hid hB1
  have HL1 := Lib.hid hL1
  have hBl1 := hB1.lt
  have hBn1 : ¬ B = W1.heap.size := by omega
  clear hW1 hB1 hL1 c0 c1 c2 f0 f1 f2 hBl hBn
  rw [rounds_succ]
  go_wp2_with fail
  go_region
  go_wp2_with fail
  have hB2 : Blk (W1.alloc (.cells #[.int .u8 92, .int .u8 117] 5)).drew B 109 #[.string ⟨#[]⟩, .int .i64 0, .int .i64 0] := (HB1.out.alloc _).drew
  have hL2 : Below B w (W1.alloc (.cells #[.int .u8 92, .int .u8 117] 5)).drew := (HL1.out.alloc (by omega) _).drew
  obtain ⟨W2, hW2⟩ : ∃ W2, (W1.alloc (.cells #[.int .u8 92, .int .u8 117] 5)).drew = W2 := ⟨_, rfl⟩
  rw [hW2] at hB2 hL2 ⊢
  have HB2 := Lib.hid hB2
  have HL2 := Lib.hid hL2
  clear hW2 hB2 hL2 hBl1 hBn1
  rw [rounds_succ]
  go_wp2_with fail
  refine (CX.out _).mono ?_
  rintro e w3 ⟨rfl, rfl⟩
  have c0 : W2.cell? ⟨B, 0, none⟩ = some (.string ⟨#[]⟩) := HB2.out.cell 0
  have c1 : W2.cell? ⟨B, 1, none⟩ = some (.int .i64 0) := HB2.out.cell 1
  have c2 : W2.cell? ⟨B, 2, none⟩ = some (.int .i64 0) := HB2.out.cell 2
  have f0 : W2.frozen? ⟨B, 0, none⟩ = false := HB2.out.frozen 0
  have f1 : W2.frozen? ⟨B, 1, none⟩ = false := HB2.out.frozen 1
  have f2 : W2.frozen? ⟨B, 2, none⟩ = false := HB2.out.frozen 2
  go_wp2_with fail
  refine bodyPost_ret (cod_res B ⟨#[]⟩ 0 e1 _ _ (((HB2.out.set_ 0 _).set_ 1 _).set_ 2 _) rfl) rfl ⟨rfl, ?_⟩
  rw [HBB.out]
  exact ((HL2.out.setCell (p := ⟨B, 0, none⟩) (Nat.le_refl _) _).setCell (p := ⟨B, 1, none⟩) (Nat.le_refl _) _).setCell (p := ⟨B, 2, none⟩) (Nat.le_refl _) _
set_option maxRecDepth 100000 in
set_option maxHeartbeats 2000000 in
theorem rcod_h6 (b : ByteArray) (k : Nat) (w : World) (hs : b.size ≤ 1000000) (hk : k ≤ 1000000) (U : Nat × Nat) (hU : unitF 4 0 (b.data.toList.drop (k + 2)) = U) (h : U.1 = 0) (ha : 55296 ≤ U.2) (hb : U.2 < 56320) (m : Nat) (hm : m = k + 6) (hx : m < b.size) (hbx : b[m] = 92) (q : Nat) (hq : q = m + 1) (hy : q < b.size) (hby : b[q] = 117) (X : Nat × Nat) (hX : unitF 4 0 (b.data.toList.drop (k + 8)) = X) (hz : X.1 = 0) (hd : X.2 < 56320) :
    Calls Tryz.prog 144 #[.string b, .int .i64 (k : Int)] w (fun e w' => e = .returned (.agg #[.string ⟨#[]⟩, .int .i64 0, .int .i64 3]) ∧ Below w.heap.size w w') := by
  obtain ⟨n, hn⟩ : ∃ n : Int, n = (U.2 : Int) := ⟨_, rfl⟩
  obtain ⟨v, hv⟩ : ∃ v : Int, v = (X.2 : Int) := ⟨_, rfl⟩
  obtain ⟨k2, hk2⟩ : ∃ k2 : Nat, k2 = k + 2 := ⟨_, rfl⟩
  have hk2i : (k : Int) + 2 = (k2 : Int) := by omega
  rw [← hk2] at hU
  have CU := Lib.hid (fun w => runit_any b k2 w hs (by omega) U hU)
  rw [h, ← hn] at CU
  have a1 : ¬ (56320 : Int) ≤ n := by omega
  have a2 : ¬ n < 55296 := by omega
  have a3 : ¬ (57343 : Int) < n := by omega
  have hmi : (k : Int) + 6 = (m : Int) := by omega
  have hx1 : ¬ (b.size : Int) ≤ (m : Int) := by omega
  have hqi : (m : Int) + 1 = (q : Int) := by omega
  have hy1 : ¬ (b.size : Int) ≤ (q : Int) := by omega
  obtain ⟨k8, hk8⟩ : ∃ k8 : Nat, k8 = k + 8 := ⟨_, rfl⟩
  have hk8i : (k : Int) + 8 = (k8 : Int) := by omega
  rw [← hk8] at hX
  have CX := Lib.hid (fun w => runit_any b k8 w hs (by omega) X hX)
  rw [hz, ← hv] at CX
  have d1 : v < 56320 := by omega
  clear hU hn hk2 h ha hb hm hq hX hk8 hz hv hd
  go_enter Tryz.func144, Tryz.ntmps144
  go_wp2_with fail
  have hB0 := Blk.new w 109 #[.string ⟨#[]⟩, .int .i64 0, .int .i64 0]
  have hl0 : Below w.heap.size w (w.alloc (.cells #[.string ⟨#[]⟩, .int .i64 0, .int .i64 0] 109)) := (Below.refl _ _).alloc (Nat.le_refl _) _
  obtain ⟨W, hW⟩ : ∃ W, w.alloc (.cells #[.string ⟨#[]⟩, .int .i64 0, .int .i64 0] 109) = W := ⟨_, rfl⟩
  obtain ⟨B, hB⟩ : ∃ B, w.heap.size = B := ⟨_, rfl⟩
  rw [hW] at hB0 hl0 ⊢
  rw [hB] at hB0 hl0 ⊢
  have HB0 := Lib.hid hB0
  have HL0 := Lib.hid hl0
  have HBB := Lib.hid hB
  have hBl := hB0.lt
  have hBn : ¬ B = W.heap.size := by omega
  clear hW hB0 hl0 hB
  refine (CU.out _).mono ?_
  rintro e w1 ⟨rfl, rfl⟩
  have c0 : W.cell? ⟨B, 0, none⟩ = some (.string ⟨#[]⟩) := HB0.out.cell 0
  have c1 : W.cell? ⟨B, 1, none⟩ = some (.int .i64 0) := HB0.out.cell 1
  have c2 : W.cell? ⟨B, 2, none⟩ = some (.int .i64 0) := HB0.out.cell 2
  have f0 : W.frozen? ⟨B, 0, none⟩ = false := HB0.out.frozen 0
  have f1 : W.frozen? ⟨B, 1, none⟩ = false := HB0.out.frozen 1
  have f2 : W.frozen? ⟨B, 2, none⟩ = false := HB0.out.frozen 2
  go_wp2_with fail
  refine wp_loop_rounds 3 ?_
  rw [rounds_succ]
  go_wp2_with fail
  go_region
  go_wp2_with fail
  have hB1 : Blk (W.alloc (.cells #[.int .u8 92, .int .u8 117] 5)).drew B 109 #[.string ⟨#[]⟩, .int .i64 0, .int .i64 0] := (HB0.out.alloc _).drew
  have hL1 : Below B w (W.alloc (.cells #[.int .u8 92, .int .u8 117] 5)).drew := (HL0.out.alloc (by omega) _).drew
  obtain ⟨W1, hW1⟩ : ∃ W1, (W.alloc (.cells #[.int .u8 92, .int .u8 117] 5)).drew = W1 := ⟨_, rfl⟩
  rw [hW1] at hB1 hL1 ⊢
  have HB1 := Lib.hid hB1
  have HL1 := Lib.hid hL1
  have hBl1 := hB1.lt
  have hBn1 : ¬ B = W1.heap.size := by omega
  clear hW1 hB1 hL1 c0 c1 c2 f0 f1 f2 hBl hBn
  rw [rounds_succ]
  go_wp2_with fail
  go_region
  go_wp2_with fail
  have hB2 : Blk (W1.alloc (.cells #[.int .u8 92, .int .u8 117] 5)).drew B 109 #[.string ⟨#[]⟩, .int .i64 0, .int .i64 0] := (HB1.out.alloc _).drew
  have hL2 : Below B w (W1.alloc (.cells #[.int .u8 92, .int .u8 117] 5)).drew := (HL1.out.alloc (by omega) _).drew
  obtain ⟨W2, hW2⟩ : ∃ W2, (W1.alloc (.cells #[.int .u8 92, .int .u8 117] 5)).drew = W2 := ⟨_, rfl⟩
  rw [hW2] at hB2 hL2 ⊢
  have HB2 := Lib.hid hB2
  have HL2 := Lib.hid hL2
  clear hW2 hB2 hL2 hBl1 hBn1
  rw [rounds_succ]
  go_wp2_with fail
  refine (CX.out _).mono ?_
  rintro e w3 ⟨rfl, rfl⟩
  have c0 : W2.cell? ⟨B, 0, none⟩ = some (.string ⟨#[]⟩) := HB2.out.cell 0
  have c1 : W2.cell? ⟨B, 1, none⟩ = some (.int .i64 0) := HB2.out.cell 1
  have c2 : W2.cell? ⟨B, 2, none⟩ = some (.int .i64 0) := HB2.out.cell 2
  have f0 : W2.frozen? ⟨B, 0, none⟩ = false := HB2.out.frozen 0
  have f1 : W2.frozen? ⟨B, 1, none⟩ = false := HB2.out.frozen 1
  have f2 : W2.frozen? ⟨B, 2, none⟩ = false := HB2.out.frozen 2
  go_wp2_with fail
  refine bodyPost_ret (cod_res B ⟨#[]⟩ 0 3 _ _ (((HB2.out.set_ 0 _).set_ 1 _).set_ 2 _) rfl) rfl ⟨rfl, ?_⟩
  rw [HBB.out]
  exact ((HL2.out.setCell (p := ⟨B, 0, none⟩) (Nat.le_refl _) _).setCell (p := ⟨B, 1, none⟩) (Nat.le_refl _) _).setCell (p := ⟨B, 2, none⟩) (Nat.le_refl _) _
set_option maxRecDepth 100000 in
set_option maxHeartbeats 2000000 in
theorem rcod_h7 (b : ByteArray) (k : Nat) (w : World) (hs : b.size ≤ 1000000) (hk : k ≤ 1000000) (U : Nat × Nat) (hU : unitF 4 0 (b.data.toList.drop (k + 2)) = U) (h : U.1 = 0) (ha : 55296 ≤ U.2) (hb : U.2 < 56320) (m : Nat) (hm : m = k + 6) (hx : m < b.size) (hbx : b[m] = 92) (q : Nat) (hq : q = m + 1) (hy : q < b.size) (hby : b[q] = 117) (X : Nat × Nat) (hX : unitF 4 0 (b.data.toList.drop (k + 8)) = X) (hz : X.1 = 0) (hd : 57343 < X.2) :
    Calls Tryz.prog 144 #[.string b, .int .i64 (k : Int)] w (fun e w' => e = .returned (.agg #[.string ⟨#[]⟩, .int .i64 0, .int .i64 3]) ∧ Below w.heap.size w w') := by
  obtain ⟨n, hn⟩ : ∃ n : Int, n = (U.2 : Int) := ⟨_, rfl⟩
  obtain ⟨v, hv⟩ : ∃ v : Int, v = (X.2 : Int) := ⟨_, rfl⟩
  obtain ⟨k2, hk2⟩ : ∃ k2 : Nat, k2 = k + 2 := ⟨_, rfl⟩
  have hk2i : (k : Int) + 2 = (k2 : Int) := by omega
  rw [← hk2] at hU
  have CU := Lib.hid (fun w => runit_any b k2 w hs (by omega) U hU)
  rw [h, ← hn] at CU
  have a1 : ¬ (56320 : Int) ≤ n := by omega
  have a2 : ¬ n < 55296 := by omega
  have a3 : ¬ (57343 : Int) < n := by omega
  have hmi : (k : Int) + 6 = (m : Int) := by omega
  have hx1 : ¬ (b.size : Int) ≤ (m : Int) := by omega
  have hqi : (m : Int) + 1 = (q : Int) := by omega
  have hy1 : ¬ (b.size : Int) ≤ (q : Int) := by omega
  obtain ⟨k8, hk8⟩ : ∃ k8 : Nat, k8 = k + 8 := ⟨_, rfl⟩
  have hk8i : (k : Int) + 8 = (k8 : Int) := by omega
  rw [← hk8] at hX
  have CX := Lib.hid (fun w => runit_any b k8 w hs (by omega) X hX)
  rw [hz, ← hv] at CX
  have d1 : ¬ v < 56320 := by omega
  have d2 : (57343 : Int) < v := by omega
  clear hU hn hk2 h ha hb hm hq hX hk8 hz hv hd
  go_enter Tryz.func144, Tryz.ntmps144
  go_wp2_with fail
  have hB0 := Blk.new w 109 #[.string ⟨#[]⟩, .int .i64 0, .int .i64 0]
  have hl0 : Below w.heap.size w (w.alloc (.cells #[.string ⟨#[]⟩, .int .i64 0, .int .i64 0] 109)) := (Below.refl _ _).alloc (Nat.le_refl _) _
  obtain ⟨W, hW⟩ : ∃ W, w.alloc (.cells #[.string ⟨#[]⟩, .int .i64 0, .int .i64 0] 109) = W := ⟨_, rfl⟩
  obtain ⟨B, hB⟩ : ∃ B, w.heap.size = B := ⟨_, rfl⟩
  rw [hW] at hB0 hl0 ⊢
  rw [hB] at hB0 hl0 ⊢
  have HB0 := Lib.hid hB0
  have HL0 := Lib.hid hl0
  have HBB := Lib.hid hB
  have hBl := hB0.lt
  have hBn : ¬ B = W.heap.size := by omega
  clear hW hB0 hl0 hB
  refine (CU.out _).mono ?_
  rintro e w1 ⟨rfl, rfl⟩
  have c0 : W.cell? ⟨B, 0, none⟩ = some (.string ⟨#[]⟩) := HB0.out.cell 0
  have c1 : W.cell? ⟨B, 1, none⟩ = some (.int .i64 0) := HB0.out.cell 1
  have c2 : W.cell? ⟨B, 2, none⟩ = some (.int .i64 0) := HB0.out.cell 2
  have f0 : W.frozen? ⟨B, 0, none⟩ = false := HB0.out.frozen 0
  have f1 : W.frozen? ⟨B, 1, none⟩ = false := HB0.out.frozen 1
  have f2 : W.frozen? ⟨B, 2, none⟩ = false := HB0.out.frozen 2
  go_wp2_with fail
  refine wp_loop_rounds 3 ?_
  rw [rounds_succ]
  go_wp2_with fail
  go_region
  go_wp2_with fail
  have hB1 : Blk (W.alloc (.cells #[.int .u8 92, .int .u8 117] 5)).drew B 109 #[.string ⟨#[]⟩, .int .i64 0, .int .i64 0] := (HB0.out.alloc _).drew
  have hL1 : Below B w (W.alloc (.cells #[.int .u8 92, .int .u8 117] 5)).drew := (HL0.out.alloc (by omega) _).drew
  obtain ⟨W1, hW1⟩ : ∃ W1, (W.alloc (.cells #[.int .u8 92, .int .u8 117] 5)).drew = W1 := ⟨_, rfl⟩
  rw [hW1] at hB1 hL1 ⊢
  have HB1 := Lib.hid hB1
  have HL1 := Lib.hid hL1
  have hBl1 := hB1.lt
  have hBn1 : ¬ B = W1.heap.size := by omega
  clear hW1 hB1 hL1 c0 c1 c2 f0 f1 f2 hBl hBn
  rw [rounds_succ]
  go_wp2_with fail
  go_region
  go_wp2_with fail
  have hB2 : Blk (W1.alloc (.cells #[.int .u8 92, .int .u8 117] 5)).drew B 109 #[.string ⟨#[]⟩, .int .i64 0, .int .i64 0] := (HB1.out.alloc _).drew
  have hL2 : Below B w (W1.alloc (.cells #[.int .u8 92, .int .u8 117] 5)).drew := (HL1.out.alloc (by omega) _).drew
  obtain ⟨W2, hW2⟩ : ∃ W2, (W1.alloc (.cells #[.int .u8 92, .int .u8 117] 5)).drew = W2 := ⟨_, rfl⟩
  rw [hW2] at hB2 hL2 ⊢
  have HB2 := Lib.hid hB2
  have HL2 := Lib.hid hL2
  clear hW2 hB2 hL2 hBl1 hBn1
  rw [rounds_succ]
  go_wp2_with fail
  refine (CX.out _).mono ?_
  rintro e w3 ⟨rfl, rfl⟩
  have c0 : W2.cell? ⟨B, 0, none⟩ = some (.string ⟨#[]⟩) := HB2.out.cell 0
  have c1 : W2.cell? ⟨B, 1, none⟩ = some (.int .i64 0) := HB2.out.cell 1
  have c2 : W2.cell? ⟨B, 2, none⟩ = some (.int .i64 0) := HB2.out.cell 2
  have f0 : W2.frozen? ⟨B, 0, none⟩ = false := HB2.out.frozen 0
  have f1 : W2.frozen? ⟨B, 1, none⟩ = false := HB2.out.frozen 1
  have f2 : W2.frozen? ⟨B, 2, none⟩ = false := HB2.out.frozen 2
  go_wp2_with fail
  refine bodyPost_ret (cod_res B ⟨#[]⟩ 0 3 _ _ (((HB2.out.set_ 0 _).set_ 1 _).set_ 2 _) rfl) rfl ⟨rfl, ?_⟩
  rw [HBB.out]
  exact ((HL2.out.setCell (p := ⟨B, 0, none⟩) (Nat.le_refl _) _).setCell (p := ⟨B, 1, none⟩) (Nat.le_refl _) _).setCell (p := ⟨B, 2, none⟩) (Nat.le_refl _) _
set_option maxRecDepth 100000 in
set_option maxHeartbeats 2000000 in
theorem rcod_h8 (b : ByteArray) (k : Nat) (w : World) (hs : b.size ≤ 1000000) (hk : k ≤ 1000000) (U : Nat × Nat) (hU : unitF 4 0 (b.data.toList.drop (k + 2)) = U) (h : U.1 = 0) (ha : 55296 ≤ U.2) (hb : U.2 < 56320) (m : Nat) (hm : m = k + 6) (hx : m < b.size) (hbx : b[m] = 92) (q : Nat) (hq : q = m + 1) (hy : q < b.size) (hby : b[q] = 117) (X : Nat × Nat) (hX : unitF 4 0 (b.data.toList.drop (k + 8)) = X) (hz : X.1 = 0) (hd : 56320 ≤ X.2) (hd2 : X.2 ≤ 57343) :
    Calls Tryz.prog 144 #[.string b, .int .i64 (k : Int)] w (fun e w' => e = .returned (.agg #[.string ⟨(put (65536 + ((U.2 : Int) - 55296) * 1024 + (X.2 : Int) - 56320)).toArray⟩, .int .i64 12, .int .i64 0]) ∧ Below w.heap.size w w') := by
  obtain ⟨n, hn⟩ : ∃ n : Int, n = (U.2 : Int) := ⟨_, rfl⟩
  obtain ⟨v, hv⟩ : ∃ v : Int, v = (X.2 : Int) := ⟨_, rfl⟩
  obtain ⟨k2, hk2⟩ : ∃ k2 : Nat, k2 = k + 2 := ⟨_, rfl⟩
  have hk2i : (k : Int) + 2 = (k2 : Int) := by omega
  rw [← hk2] at hU
  have CU := Lib.hid (fun w => runit_any b k2 w hs (by omega) U hU)
  rw [h, ← hn] at CU
  have a1 : ¬ (56320 : Int) ≤ n := by omega
  have a2 : ¬ n < 55296 := by omega
  have a3 : ¬ (57343 : Int) < n := by omega
  have hmi : (k : Int) + 6 = (m : Int) := by omega
  have hx1 : ¬ (b.size : Int) ≤ (m : Int) := by omega
  have hqi : (m : Int) + 1 = (q : Int) := by omega
  have hy1 : ¬ (b.size : Int) ≤ (q : Int) := by omega
  obtain ⟨k8, hk8⟩ : ∃ k8 : Nat, k8 = k + 8 := ⟨_, rfl⟩
  have hk8i : (k : Int) + 8 = (k8 : Int) := by omega
  rw [← hk8] at hX
  have CX := Lib.hid (fun w => runit_any b k8 w hs (by omega) X hX)
  rw [hz, ← hv] at CX
  rw [← hn, ← hv]
  obtain ⟨s, hs2⟩ : ∃ s : Int, 65536 + (n - 55296) * 1024 + v - 56320 = s := ⟨_, rfl⟩
  rw [hs2]
  have a4 : (55296 : Int) ≤ n := by omega
  have a5 : n < 56320 := by omega
  have d1 : ¬ v < 56320 := by omega
  have d2 : ¬ (57343 : Int) < v := by omega
  have d3 : (56320 : Int) ≤ v := by omega
  obtain ⟨P, hP⟩ : ∃ P : ByteArray, P = ⟨(put s).toArray⟩ := ⟨_, rfl⟩
  have CP := Lib.hid (fun w => rput_any s w (by omega) (by omega))
  rw [← hP] at CP ⊢
  clear hU hn hk2 h ha hb hm hq hX hk8 hz hv hd hd2 hP
  go_enter Tryz.func144, Tryz.ntmps144
  go_wp2_with fail
  have hB0 := Blk.new w 109 #[.string ⟨#[]⟩, .int .i64 0, .int .i64 0]
  have hl0 : Below w.heap.size w (w.alloc (.cells #[.string ⟨#[]⟩, .int .i64 0, .int .i64 0] 109)) := (Below.refl _ _).alloc (Nat.le_refl _) _
  obtain ⟨W, hW⟩ : ∃ W, w.alloc (.cells #[.string ⟨#[]⟩, .int .i64 0, .int .i64 0] 109) = W := ⟨_, rfl⟩
  obtain ⟨B, hB⟩ : ∃ B, w.heap.size = B := ⟨_, rfl⟩
  rw [hW] at hB0 hl0 ⊢
  rw [hB] at hB0 hl0 ⊢
  have HB0 := Lib.hid hB0
  have HL0 := Lib.hid hl0
  have HBB := Lib.hid hB
  have hBl := hB0.lt
  have hBn : ¬ B = W.heap.size := by omega
  clear hW hB0 hl0 hB
  refine (CU.out _).mono ?_
  rintro e w1 ⟨rfl, rfl⟩
  have c0 : W.cell? ⟨B, 0, none⟩ = some (.string ⟨#[]⟩) := HB0.out.cell 0
  have c1 : W.cell? ⟨B, 1, none⟩ = some (.int .i64 0) := HB0.out.cell 1
  have c2 : W.cell? ⟨B, 2, none⟩ = some (.int .i64 0) := HB0.out.cell 2
  have f0 : W.frozen? ⟨B, 0, none⟩ = false := HB0.out.frozen 0
  have f1 : W.frozen? ⟨B, 1, none⟩ = false := HB0.out.frozen 1
  have f2 : W.frozen? ⟨B, 2, none⟩ = false := HB0.out.frozen 2
  go_wp2_with fail
  refine wp_loop_rounds 3 ?_
  rw [rounds_succ]
  go_wp2_with fail
  go_region
  go_wp2_with fail
  have hB1 : Blk (W.alloc (.cells #[.int .u8 92, .int .u8 117] 5)).drew B 109 #[.string ⟨#[]⟩, .int .i64 0, .int .i64 0] := (HB0.out.alloc _).drew
  have hL1 : Below B w (W.alloc (.cells #[.int .u8 92, .int .u8 117] 5)).drew := (HL0.out.alloc (by omega) _).drew
  obtain ⟨W1, hW1⟩ : ∃ W1, (W.alloc (.cells #[.int .u8 92, .int .u8 117] 5)).drew = W1 := ⟨_, rfl⟩
  rw [hW1] at hB1 hL1 ⊢
  have HB1 := Lib.hid hB1
  have HL1 := Lib.hid hL1
  have hBl1 := hB1.lt
  have hBn1 : ¬ B = W1.heap.size := by omega
  clear hW1 hB1 hL1 c0 c1 c2 f0 f1 f2 hBl hBn
  rw [rounds_succ]
  go_wp2_with fail
  go_region
  go_wp2_with fail
  have hB2 : Blk (W1.alloc (.cells #[.int .u8 92, .int .u8 117] 5)).drew B 109 #[.string ⟨#[]⟩, .int .i64 0, .int .i64 0] := (HB1.out.alloc _).drew
  have hL2 : Below B w (W1.alloc (.cells #[.int .u8 92, .int .u8 117] 5)).drew := (HL1.out.alloc (by omega) _).drew
  obtain ⟨W2, hW2⟩ : ∃ W2, (W1.alloc (.cells #[.int .u8 92, .int .u8 117] 5)).drew = W2 := ⟨_, rfl⟩
  rw [hW2] at hB2 hL2 ⊢
  have HB2 := Lib.hid hB2
  have HL2 := Lib.hid hL2
  clear hW2 hB2 hL2 hBl1 hBn1
  rw [rounds_succ]
  go_wp2_with fail
  refine (CX.out _).mono ?_
  rintro e w3 ⟨rfl, rfl⟩
  go_wp2_with fail
  refine (CP.out _).mono ?_
  rintro e w4 ⟨rfl, hb⟩
  have HB4 := Lib.hid (HB2.out.below hb HB2.out.lt)
  have HL4 := Lib.hid (HL2.out.trans (hb.mono (by have := HL2.out.size; have := HBB.out; omega)))
  clear hb

  have c0 : w4.cell? ⟨B, 0, none⟩ = some (.string ⟨#[]⟩) := HB4.out.cell 0
  have c1 : w4.cell? ⟨B, 1, none⟩ = some (.int .i64 0) := HB4.out.cell 1
  have c2 : w4.cell? ⟨B, 2, none⟩ = some (.int .i64 0) := HB4.out.cell 2
  have f0 : w4.frozen? ⟨B, 0, none⟩ = false := HB4.out.frozen 0
  have f1 : w4.frozen? ⟨B, 1, none⟩ = false := HB4.out.frozen 1
  have f2 : w4.frozen? ⟨B, 2, none⟩ = false := HB4.out.frozen 2
  go_wp2_with fail
  refine bodyPost_ret (cod_res B P 12 0 _ _ (((HB4.out.set_ 0 _).set_ 1 _).set_ 2 _) rfl) rfl ⟨rfl, ?_⟩
  rw [HBB.out]
  exact ((HL4.out.setCell (p := ⟨B, 0, none⟩) (Nat.le_refl _) _).setCell (p := ⟨B, 1, none⟩) (Nat.le_refl _) _).setCell (p := ⟨B, 2, none⟩) (Nat.le_refl _) _
/-- What stands behind a backslash and u, at every text. -/
theorem rcoded_any (b : ByteArray) (k : Nat) (w : World) (hs : b.size ≤ 1000000) (hk : k ≤ 1000000) (E : Pt) (hE : codedF (b.data.toList.drop (k + 2)) = E) :
    Calls Tryz.prog 144 #[.string b, .int .i64 (k : Int)] w fun e w' => e = .returned (.agg #[.string ⟨E.2.1.toArray⟩, .int .i64 E.2.2, .int .i64 E.1]) ∧ Below w.heap.size w w' := by
  subst hE
  have hget : ∀ j (hj : j < b.size), b.data.toList.drop j = b[j] :: b.data.toList.drop (j + 1) := fun j hj => by
    rw [List.drop_eq_getElem_cons (by rw [← Lib.size_eq]; exact hj)]; rfl
  have hend : ∀ j, b.size ≤ j → b.data.toList.drop j = [] := fun j hj => List.drop_eq_nil_of_le (by rw [← Lib.size_eq]; omega)
  obtain ⟨U, hU⟩ : ∃ U, unitF 4 0 (b.data.toList.drop (k + 2)) = U := ⟨_, rfl⟩
  have hlt : U.2 < 65536 := by have := unitF_lt 4 0 (b.data.toList.drop (k + 2)); rw [hU] at this; exact this
  unfold codedF
  rw [hU]
  by_cases h : U.1 = 0
  case neg =>
    rw [if_pos h]
    exact rcod_err b k w hs hk U hU h
  rw [if_neg (by rw [h]; exact fun h => h rfl)]
  by_cases ha : 56320 ≤ U.2 ∧ U.2 ≤ 57343
  · rw [if_pos ha]
    exact rcod_low b k w hs hk U hU h ha.1 ha.2
  rw [if_neg ha]
  by_cases hb : U.2 < 55296
  · rw [if_pos (.inl hb)]
    exact rcod_a b k w hs hk U hU h hb
  by_cases hc : 57343 < U.2
  · rw [if_pos (.inr hc)]
    exact rcod_b b k w hs hk U hU h hc hlt
  rw [if_neg (by omega), List.drop_drop]
  have ha2 : 55296 ≤ U.2 := by omega
  have hb2 : U.2 < 56320 := by omega
  rw [show k + 2 + 4 = k + 6 from rfl]
  by_cases hx : k + 6 < b.size
  case neg =>
    rw [hend _ (by omega)]
    exact rcod_h1 b k w hs hk U hU h ha2 hb2 (by omega)
  rw [hget _ hx]
  obtain ⟨x, hbx⟩ : ∃ x, b[k + 6] = x := ⟨_, rfl⟩
  rw [hbx]
  unfold lowF
  dsimp only
  by_cases hx2 : x = 92
  case neg =>
    rw [if_pos hx2]
    exact rcod_h2 b k w hs hk U hU h ha2 hb2 (k + 6) rfl hx x hbx hx2
  subst hx2
  rw [if_neg (fun h => h rfl)]
  by_cases hy : k + 6 + 1 < b.size
  case neg =>
    rw [hend _ (by omega)]
    exact rcod_h3 b k w hs hk U hU h ha2 hb2 (k + 6) rfl hx hbx (by omega)
  rw [hget _ hy]
  obtain ⟨y, hby⟩ : ∃ y, b[k + 6 + 1] = y := ⟨_, rfl⟩
  rw [hby]
  dsimp only
  by_cases hy2 : y = 117
  case neg =>
    rw [if_pos hy2]
    exact rcod_h4 b k w hs hk U hU h ha2 hb2 (k + 6) rfl hx hbx (k + 6 + 1) rfl hy y hby hy2
  subst hy2
  rw [if_neg (fun h => h rfl)]
  obtain ⟨X, hX⟩ : ∃ X, unitF 4 0 (b.data.toList.drop (k + 6 + 1 + 1)) = X := ⟨_, rfl⟩
  rw [hX]
  have hX2 : unitF 4 0 (b.data.toList.drop (k + 8)) = X := hX
  by_cases hq : X.1 = 0
  case neg =>
    rw [if_pos hq]
    exact rcod_h5 b k w hs hk U hU h ha2 hb2 (k + 6) rfl hx hbx (k + 6 + 1) rfl hy hby X hX2 hq
  rw [if_neg (by rw [hq]; exact fun h => h rfl)]
  by_cases hz : X.2 < 56320
  · rw [if_neg (by omega)]
    exact rcod_h6 b k w hs hk U hU h ha2 hb2 (k + 6) rfl hx hbx (k + 6 + 1) rfl hy hby X hX2 hq hz
  by_cases hz2 : 57343 < X.2
  · rw [if_neg (by omega)]
    exact rcod_h7 b k w hs hk U hU h ha2 hb2 (k + 6) rfl hx hbx (k + 6 + 1) rfl hy hby X hX2 hq hz2
  rw [if_pos (by omega)]
  exact rcod_h8 b k w hs hk U hU h ha2 hb2 (k + 6) rfl hx hbx (k + 6 + 1) rfl hy hby X hX2 hq (by omega) (by omega)
end Go.Proofs.YtdfihhebgllpcaaGreatDoor
