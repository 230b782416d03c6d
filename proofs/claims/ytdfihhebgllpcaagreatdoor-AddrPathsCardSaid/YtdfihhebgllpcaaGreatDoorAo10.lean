import Derived.Test.YtdfihhebgllpcaaGreatDoorAo09
import Derived.Sort.QuietIn
import Derived.Recover
import Derived.Defers
import Derived.RegionCalls

/- quote's reader.plain. -/
namespace Go.Proofs.YtdfihhebgllpcaaGreatDoor
open Go.RowKit Go.Shelf Go.Proofs.QuotePlain Go.Proofs.UtfPlain
attribute [local go_sem] Oper.semAt_some

theorem wide_fn (f : FuncId) : Fence.wide.fn f = True := rfl
attribute [local simp] wide_fn
theorem put_one (l : List UInt8) (h : (one l).2 ≠ 0) : put ((one l).1 : Int) = l.take (one l).2 := by
  by_cases hex : ∃ n, 1 ≤ n ∧ n ≤ 4 ∧ n ≤ l.length ∧ put (guess (l.take n)) = l.take n
  · obtain ⟨n, h1, h2, h3, h4⟩ := hex
    obtain ⟨h5, h6⟩ := ref_yes l n h1 h2 h3 h4
    rw [h5, h6]; exact h4
  · exfalso
    have := ref_no l fun n h1 h2 h3 h4 => hex ⟨n, h1, h2, h3, h4⟩
    rw [this] at h
    exact h rfl
theorem ownFrom_blk {β : Type} {B g : Nat} {t : TypeId} {cs : Array Value} (h : g < B) : OwnFrom B (fun (_ : β) W => Blk W g t cs) := fun _ W W' row hs hg hr => by
  have hs' : Blk W g t cs := hs
  exact (hg.block g hs'.lt (fun e => by have := (hr g e.symm).1; omega)).trans hs'
theorem ownFrom_turn {β : Type} {B g : Nat} {w : World} (h : w.heap.size ≤ B) : OwnFrom B (fun (_ : β) W => Turn g w W) := fun _ W W' row hs hg hr =>
  ⟨hg.os.trans hs.os, hg.tape.trans hs.tape, hg.output.trans hs.output, Nat.le_trans hs.size hg.size, fun k hk hne => (hg.block k (Nat.lt_of_lt_of_le hk hs.size) (fun e => by have := (hr k e.symm).1; omega)).trans (hs.block k hk hne)⟩

theorem all_in (n : Nat) (s : ByteArray) (w : World) :
    CallsIn Fence.wide n Tryz.prog 201 #[.string s] w fun e w' => e = .returned (.func (.func 220) #[] #[.pointer (some ⟨w.heap.size, 0, none⟩)]) ∧ w' = w.alloc (.cells #[.string s] 9) := by
  refine callsIn_of_wp Tryz.func201 rfl trivial ?_ rfl
  simp only [Tryz.ntmps201, List.size_toArray, List.length_cons, List.length_nil, Nat.reduceAdd, Nat.reduceSub, Array.replicate_succ, Array.replicate_zero, List.push_toArray, List.append_toArray, List.nil_append, List.cons_append]
  gi_wp2_with fail
  go_ret
  exact ⟨rfl, rfl⟩

set_option maxRecDepth 100000 in
set_option maxHeartbeats 2000000 in
theorem plain_ctl (g : Nat) (b : ByteArray) (k : Nat) (w : World) (hR : Rdr w g b k) (hk : k < b.size) (d : UInt8) (hd : b[k] = d) (hc : d.toNat < 32) :
    Calls Tryz.prog 178 #[.pointer (some ⟨g, 0, none⟩)] w fun e w' => e = gaveUp 3 ∧ Turn g w w' := by
  have hkk : (k : Int) < (b.size : Int) := by omega
  have hd8 : d.toNat < 256 := d.toNat_lt
  have hc1 : ¬ (32 : Int) ≤ (d.toNat : Int) := by omega
  have hc2 : decide ((32 : Int) ≤ (d.toNat : Int)) = false := decide_eq_false hc1
  have hlt := hR.lt
  have hne : ¬ g = w.heap.size := by omega
  have HR := Lib.hid hR
  clear hR hc
  go_enter Tryz.func178, Tryz.ntmps178
  go_wp2_with fail
  have hBx : Blk (w.alloc (.cells #[.pointer (some ⟨g, 0, none⟩)] 190)) w.heap.size 190 #[.pointer (some ⟨g, 0, none⟩)] := Blk.new w _ _
  have hbl : Below w.heap.size w (w.alloc (.cells #[.pointer (some ⟨g, 0, none⟩)] 190)) := (Below.refl _ _).alloc (Nat.le_refl _) _
  have hsz : (w.alloc (.cells #[.pointer (some ⟨g, 0, none⟩)] 190)).heap.size = w.heap.size + 1 := World.size_alloc _ _
  obtain ⟨W0, hW0⟩ : ∃ W0, w.alloc (.cells #[.pointer (some ⟨g, 0, none⟩)] 190) = W0 := ⟨_, rfl⟩
  rw [hW0] at hBx hbl hsz ⊢
  obtain ⟨B, hB⟩ : ∃ B, B = w.heap.size := ⟨_, rfl⟩
  have cB : W0.cell? ⟨B, 0, none⟩ = some (.pointer (some ⟨g, 0, none⟩)) := by rw [hB]; exact hBx.cell 0
  have hR0 := HR.out.below hbl hlt
  have c0 : W0.cell? ⟨g, 0, none⟩ = some (.string b) := hR0.cell 0
  have c1 : W0.cell? ⟨g, 1, none⟩ = some (.int .i64 (k : Int)) := hR0.cell 1
  rw [← hB]
  clear hW0 hsz hR0 hne hlt hBx hB
  go_still_tail 10, (by kernel_rfl)
  go_wp2_with fail
  refine (must_no 3 _).mono ?_
  rintro e' w2 ⟨rfl, rfl⟩
  go_wp2_with fail
  exact ⟨rfl, rfl, (Turn.of_below hbl).drewN 1⟩

set_option maxRecDepth 100000 in
set_option maxHeartbeats 4000000 in
theorem plain_go (g : Nat) (b : ByteArray) (k : Nat) (w : World) (hs : b.size ≤ 1000000) (hF : FormsAt w) (hR : Rdr w g b k) (hk : k < b.size) (d : UInt8) (hd : b[k] = d) (hc : ¬ d.toNat < 32) (N : Nat) (hN : (one (b.data.toList.drop k)).2 = N) (v : Value) (hv : v = .string ⟨((b.data.toList.drop k).take N).toArray⟩) (code : Nat) (hcd : code = if N = 0 then 7 else 0) :
    Calls Tryz.prog 178 #[.pointer (some ⟨g, 0, none⟩)] w (UEnd v code g b (k + N) w) := by
  have hkk : (k : Int) < (b.size : Int) := by omega
  have hd8 : d.toNat < 256 := d.toNat_lt
  have hc1 : (32 : Int) ≤ (d.toNat : Int) := by omega
  have hlt := hR.lt
  have hne : ¬ g = w.heap.size := by omega
  have HR := Lib.hid hR
  have HF := Lib.hid hF
  have HN := Lib.hid hN
  have HV := Lib.hid hv
  have HC := Lib.hid hcd
  clear hR hc hF hN hv hcd
  refine (callsIn_wide (n := 5)).1 ?_
  refine callsIn_of_wp_marks Tryz.func178 rfl trivial ?_ rfl
  simp only [Tryz.ntmps178, List.size_toArray, List.length_cons, List.length_nil, Nat.reduceAdd, Nat.reduceSub, Array.replicate_succ, Array.replicate_zero, List.push_toArray, List.append_toArray, List.nil_append, List.cons_append]
  gi_wp2_with fail
  have hBx : Blk (w.alloc (.cells #[.pointer (some ⟨g, 0, none⟩)] 190)) w.heap.size 190 #[.pointer (some ⟨g, 0, none⟩)] := Blk.new w _ _
  have hbl : Below w.heap.size w (w.alloc (.cells #[.pointer (some ⟨g, 0, none⟩)] 190)) := (Below.refl _ _).alloc (Nat.le_refl _) _
  have hsz : (w.alloc (.cells #[.pointer (some ⟨g, 0, none⟩)] 190)).heap.size = w.heap.size + 1 := World.size_alloc _ _
  obtain ⟨W0, hW0⟩ : ∃ W0, w.alloc (.cells #[.pointer (some ⟨g, 0, none⟩)] 190) = W0 := ⟨_, rfl⟩
  rw [hW0] at hBx hbl hsz ⊢
  obtain ⟨B, hB⟩ : ∃ B, B = w.heap.size := ⟨_, rfl⟩
  have cB : W0.cell? ⟨B, 0, none⟩ = some (.pointer (some ⟨g, 0, none⟩)) := by rw [hB]; exact hBx.cell 0
  have hR0 := HR.out.below hbl hlt
  have c0 : W0.cell? ⟨g, 0, none⟩ = some (.string b) := hR0.cell 0
  have c1 : W0.cell? ⟨g, 1, none⟩ = some (.int .i64 (k : Int)) := hR0.cell 1
  rw [← hB]
  have HB := Lib.hid hB
  have HX := Lib.hid hBx
  have HL := Lib.hid hbl
  clear hW0 hR0 hne hBx hB hbl
  gi_quiet (first | (gi_at_call 176; exact CallsIn.quiet_of_same (callsIn_wide.2 ((must_yes 3 _).mono fun _ _ h => ⟨h.1, h.2.symm⟩))))
  gi_wp2_with fail
  refine (all_in _ _ _).mono ?_
  rintro e W1 ⟨rfl, hW1⟩
  obtain ⟨S, hS⟩ : ∃ S : ByteArray, S = b.extract k b.size := ⟨_, rfl⟩
  rw [← hS] at hW1
  have hSd : S.data.toList = b.data.toList.drop k := by
    rw [hS, data_extract, List.take_of_length_le (by rw [List.length_drop, ← Lib.size_eq]; exact Nat.le_refl _)]
  have hSs : S.size ≤ 1000000 := by rw [Lib.size_eq, hSd, List.length_drop, ← Lib.size_eq]; omega
  obtain ⟨Bs, hBs⟩ : ∃ Bs, Bs = (W0.drewN nq).heap.size := ⟨_, rfl⟩
  have hXs : Blk W1 Bs 9 #[.string S] := by rw [hW1, hBs]; exact Blk.new _ _ _
  have hbl1 : Below (W0.drewN nq).heap.size (W0.drewN nq) W1 := by rw [hW1]; exact (Below.refl _ _).alloc (Nat.le_refl _) _
  have hX1 : Blk W1 B 190 #[.pointer (some ⟨g, 0, none⟩)] := by rw [HB.out]; exact (HX.out.drewN nq).below hbl1 (HX.out.drewN nq).lt
  have hR1 : Rdr W1 g b k := ((HR.out.below HL.out hlt).drewN nq).below hbl1 ((HR.out.below HL.out hlt).drewN nq).lt
  have hF1 : FormsAt W1 := ((HF.out.below HL.out).drewN nq).below hbl1
  have hT1 : Turn g w W1 := (((Turn.of_below HL.out).drewN nq)).trans (Turn.of_below hbl1)
  have hgB : g < B := by rw [HB.out]; exact hlt
  rw [← hBs]
  have HS := Lib.hid hS
  have HSD := Lib.hid hSd
  have HX1 := Lib.hid hX1
  have HXS := Lib.hid hXs
  have HR1 := Lib.hid hR1
  have HF1 := Lib.hid hF1
  have HT1 := Lib.hid hT1
  have hBs1 : Bs < W1.heap.size := hXs.lt
  have hB1 : B < W1.heap.size := hX1.lt
  have hg1 : g < W1.heap.size := hR1.lt
  clear hW1 hbl1 hX1 hR1 hF1 hT1 hBs hS hSd hXs c0 c1 cB hsz
  gi_wp2_with fail
  refine wpIn_rangeFunc_ownF (α := Sc) rfl (by decide) (gf := 220) (lb := #[.pointer (some ⟨Bs, 0, none⟩)]) rfl trivial (enters_of Tryz.func220 (by kernel_rfl) rfl)
    (all_stops _ (by decide) S (by omega) Bs W1 HF1.out (HXS.out.cell 0) hBs1) kf_t (kf_b HF1.out.lt) (Below.refl _ _) (fun _ => rfl)
    (fun pre W => Hid (pre = [] ∧ Rdr W g b k ∧ FormsAt W ∧ Blk W B 190 #[.pointer (some ⟨g, 0, none⟩)] ∧ Turn g w W))
    (fun c pre W => Hid (∃ x, c = .exit 0 ∧ pre = [x] ∧ Rdr W g b (k + (put (x.1.2 : Int)).length) ∧ Blk W B 190 #[.pointer (some ⟨g, 0, none⟩)] ∧ Turn g w W))
    ?hI ?hIx ?h0
    (fun x => { tmps := #[.pointer (some ⟨g, 0, none⟩), .pointer (some ⟨B, 0, none⟩), .string ⟨#[]⟩, .int .i64 (k : Int), undef, .int .i64 (x.1.2 : Int), undef, undef, .pointer (some ⟨g, 0, none⟩), .pointer (some ⟨g, 0, none⟩), .pointer (some ⟨g, 0, none⟩), .string b, .pointer (some ⟨g, 0, none⟩), .pointer (some ⟨g, 0, none⟩), .pointer (some ⟨g, 1, none⟩), .int .i64 (k : Int), .int .u8 (d.toNat : Int), .bool true, .tuple #[], .pointer (some ⟨g, 0, none⟩), .pointer (some ⟨g, 0, none⟩), .pointer (some ⟨g, 1, none⟩), .int .i64 (k : Int), .pointer (some ⟨g, 0, none⟩), .pointer (some ⟨g, 0, none⟩), .pointer (some ⟨g, 0, none⟩), .string b, .int .i64 (k : Int), .string (b.extract k b.size), .func (.func 220) #[] #[.pointer (some ⟨Bs, 0, none⟩)], .int .i64 (x.1.1 : Int), .int .i64 (x.1.2 : Int), undef, undef, undef, undef, undef, undef, undef, undef, undef, undef, undef, undef, undef, undef, undef, undef, undef, undef, undef, undef, undef, undef, undef, undef, undef, undef, undef, undef, undef, undef, undef], defers := [] }) ?assign ?body ?done ?stop
  case hI =>
    rintro pre W W' row ⟨rfl, h1, h2, h3, h4⟩ hg hr
    exact ⟨rfl, ownFrom_blk (β := Unit) hg1 () W W' row h1 hg hr, ownFrom_blk (β := Unit) HF1.out.lt () W W' row h2 hg hr, ownFrom_blk (β := Unit) hB1 () W W' row h3 hg hr, ownFrom_turn (β := Unit) HT1.out.size () W W' row h4 hg hr⟩
  case hIx =>
    rintro c pre W W' row ⟨x, rfl, rfl, h1, h3, h4⟩ hg hr
    exact ⟨x, rfl, rfl, ownFrom_blk (β := Unit) hg1 () W W' row h1 hg hr, ownFrom_blk (β := Unit) hB1 () W W' row h3 hg hr, ownFrom_turn (β := Unit) HT1.out.size () W W' row h4 hg hr⟩
  case h0 => exact ⟨rfl, HR1.out, HF1.out, HX1.out, HT1.out⟩
  case assign =>
    intro l x W K hK
    unfold scEnc
    gi_wp2_with fail
    exact hK
  case body =>
    rintro l pre x W ⟨rfl, hR, hF, hX, hT⟩ _
    have cX : W.cell? ⟨B, 0, none⟩ = some (.pointer (some ⟨g, 0, none⟩)) := hX.cell 0
    have CP := Lib.hid (fun n => CallsIn.inRound l (callsIn_wide (n := n).2 (put_any x.1.2 x.2 W hF)))
    obtain ⟨P, hP⟩ : ∃ P : ByteArray, P = ⟨(put (x.1.2 : Int)).toArray⟩ := ⟨_, rfl⟩
    have hPs : P.size = (put (x.1.2 : Int)).length := by rw [hP, Lib.size_eq]
    have hP4 : P.size ≤ 4 := by rw [hPs]; exact put_len _
    rw [← hP] at CP
    have HPs := Lib.hid hPs
    have HR := Lib.hid hR
    have HX := Lib.hid hX
    have HT := Lib.hid hT
    clear hR hF hX hT hP hPs
    gi_wp2_with fail
    refine (CP.out _).mono ?_
    rintro e W2 ⟨rfl, hb⟩
    have HR2 := Lib.hid (HR.out.below hb HR.out.lt)
    have HX2 := Lib.hid (HX.out.below hb HX.out.lt)
    have HT2 := Lib.hid (HT.out.trans (Turn.of_below hb))
    have HO := Lib.hid (others_of_below hb)
    have cX2 : W2.cell? ⟨B, 0, none⟩ = some (.pointer (some ⟨g, 0, none⟩)) := HX2.out.cell 0
    have c2 : W2.cell? ⟨g, 1, none⟩ = some (.int .i64 (k : Int)) := HR2.out.cell 1
    have f2 : W2.frozen? ⟨g, 1, none⟩ = false := HR2.out.frozen 1
    clear hb cX
    gi_wp2_with fail
    refine ⟨HO.out.trans (KeepsOthers.setCell _ _ _), x, rfl, rfl, ?_, ?_, ?_⟩
    · rw [← HPs.out]
      exact HR2.out.set_ 1 _
    · exact HX2.out.far (p := ⟨g, 1, none⟩) (by show B ≠ g; omega) _
    · exact HT2.out.trans (Turn.set_ g 1 _ _)
  case done =>
    rintro D xs W hD rfl ⟨h0, h1, h2, h3, h4⟩ hK
    have hN0 : N = 0 := by
      rw [HSD.out] at h0
      by_cases h : (one (b.data.toList.drop k)).2 = 0
      · rw [← HN.out]; exact h
      · rw [scAll_step 0 _ h] at h0
        cases h0
    have hcode : code = 7 := by rw [HC.out, if_pos hN0]
    subst hcode
    have cX : W.cell? ⟨B, 0, none⟩ = some (.pointer (some ⟨g, 0, none⟩)) := h3.cell 0
    have c1 : W.cell? ⟨g, 1, none⟩ = some (.int .i64 (k : Int)) := h1.cell 1
    have HT := Lib.hid h4
    clear h0 h1 h2 h3 h4 hN0
    gi_wp2_with fail
    refine (callsIn_wide.2 (must_no 7 W)).mono ?_
    rintro e W2 ⟨rfl, rfl⟩
    gi_wp2_with fail
    refine ⟨by simp, .inl ⟨_, _, rfl, run_takeDeferred hK, ?_⟩⟩
    exact .inr ⟨by decide, rfl, ownFrom_turn (β := Unit) HT1.out.size () W _ (some D) HT.out (grownBy_putObj' W D _) (fun r e => by cases e; exact ⟨hD, _, hK, rfl⟩)⟩
  case stop =>
    rintro D c pre W hD hSp ⟨x, rfl, rfl, hR, hX, hT⟩ hK
    have hN0 : N ≠ 0 := by
      rintro hz
      rw [HSD.out, scAll_end 0 _ (by rw [HN.out]; exact hz)] at hSp
      have := hSp.length_le
      simp at this
    have hput : (put (x.1.2 : Int)).length = N := by
      have hz : (one (b.data.toList.drop k)).2 ≠ 0 := by rw [HN.out]; exact hN0
      rw [HSD.out, scAll_step 0 _ hz] at hSp
      have h1 := (List.cons_prefix_cons.1 hSp).1
      have h2 := put_one _ hz
      have h3 := one_size (b.data.toList.drop k)
      rw [h1]
      show (put ((one (b.data.toList.drop k)).1 : Int)).length = N
      rw [h2, List.length_take, HN.out]
      rw [HN.out] at h3
      omega
    have hcode : code = 0 := by rw [HC.out, if_neg hN0]
    subst hcode
    rw [hput] at hR
    have cX : W.cell? ⟨B, 0, none⟩ = some (.pointer (some ⟨g, 0, none⟩)) := hX.cell 0
    have c1 : W.cell? ⟨g, 1, none⟩ = some (.int .i64 ((k + N : Nat) : Int)) := hR.cell 1
    have c0 : W.cell? ⟨g, 0, none⟩ = some (.string b) := hR.cell 0
    have HR := Lib.hid hR
    have HT := Lib.hid hT
    have hkN : k + N ≤ b.size := by
      have h3 := one_size (b.data.toList.drop k)
      rw [HN.out, List.length_drop, ← Lib.size_eq] at h3
      omega
    obtain ⟨M, hM⟩ : ∃ M : Nat, M = k + N := ⟨_, rfl⟩
    have hM2 : (k : Int) + (N : Int) = (M : Int) := by omega
    have hkM : k ≤ M := by omega
    have hkN1 : decide (k < M) = true := decide_eq_true (by omega)
    rw [← hM] at HR hkN c1 ⊢
    have HE : Hid (b.extract k M = ⟨((b.data.toList.drop k).take N).toArray⟩) := by
      refine bytes_eta _ _ ?_
      rw [data_extract, hM, Nat.add_sub_cancel_left]
    have HM := Lib.hid hM
    clear hput hSp hR hX hT hM
    gi_wp2_with fail
    refine (callsIn_wide.2 (must_yes 7 W)).mono ?_
    rintro e W2 ⟨rfl, rfl⟩
    gi_wp2_with fail
    gi_quiet (fail)
    gi_wp2_with fail
    refine ⟨by simp, .inl ⟨_, _, rfl, run_takeDeferred (w := W.drewN _) hK, ?_⟩⟩
    refine ⟨_, results_tmp rfl _ _ _, .inl ⟨rfl, ?_, ?_, ?_⟩⟩
    · rw [HV.out]
      exact congrArg (fun z => Ending.returned (.string z)) HE.out
    · rw [← HM.out]
      exact ownFrom_blk (β := Unit) hg1 () (W.drewN _) _ (some D) (HR.out.drewN _) (grownBy_putObj' _ D _) (fun r e => by cases e; exact ⟨hD, _, hK, rfl⟩)
    · exact ownFrom_turn (β := Unit) HT1.out.size () (W.drewN _) _ (some D) (HT.out.drewN _) (grownBy_putObj' _ D _) (fun r e => by cases e; exact ⟨hD, _, hK, rfl⟩)
/-- What is written as it is, at every text. -/
theorem plain_any (g : Nat) (b : ByteArray) (k : Nat) (w : World) (hs : b.size ≤ 1000000) (hF : FormsAt w) (hR : Rdr w g b k) (hk : k < b.size) (hc : b[k] ≠ 92) (E : Pt) (hE : partF (b.data.toList.drop k) = E) :
    Calls Tryz.prog 178 #[.pointer (some ⟨g, 0, none⟩)] w (UEnd (.string ⟨E.2.1.toArray⟩) E.1 g b (k + E.2.2) w) := by
  subst hE
  have hget : b.data.toList.drop k = b[k] :: b.data.toList.drop (k + 1) := by
    rw [List.drop_eq_getElem_cons (by rw [← Lib.size_eq]; exact hk)]; rfl
  obtain ⟨d, hd⟩ : ∃ d, b[k] = d := ⟨_, rfl⟩
  rw [hd] at hget hc
  by_cases h1 : d.toNat < 32
  · have e1 : partF (b.data.toList.drop k) = ptBad 3 := by rw [hget]; exact if_pos h1
    rw [e1]
    exact (plain_ctl g b k w hR hk d hd h1).mono fun e w' h => .inr ⟨(show ¬ (3 : Nat) = 0 by decide), h.1, h.2⟩
  obtain ⟨N, hN⟩ : ∃ N, (one (b.data.toList.drop k)).2 = N := ⟨_, rfl⟩
  have C := plain_go g b k w hs hF hR hk d hd h1 N hN _ rfl _ rfl
  by_cases h2 : N = 0
  · have e1 : partF (b.data.toList.drop k) = ptBad 7 := by
      rw [hget] at hN ⊢
      unfold partF; dsimp only; rw [if_neg h1, if_neg hc, if_pos (by rw [hN]; exact h2)]
    rw [e1]
    rw [if_pos h2] at C
    refine C.mono fun e w' h => ?_
    rcases h with ⟨h0, _⟩ | h
    · exact absurd h0 (by decide)
    · exact .inr h
  · have e1 : partF (b.data.toList.drop k) = (0, (b.data.toList.drop k).take N, N) := by
      rw [hget] at hN ⊢
      unfold partF; dsimp only; rw [if_neg h1, if_neg hc, if_neg (by rw [hN]; exact h2), hN]
    rw [e1]
    rw [if_neg h2] at C
    exact C
end Go.Proofs.YtdfihhebgllpcaaGreatDoor

/- quote.Scan's deferred function. -/
namespace Go.Proofs.YtdfihhebgllpcaaGreatDoor
open Go.RowKit Go.Proofs.QuotePlain Go.Proofs.UtfPlain

set_option maxRecDepth 100000 in
set_option maxHeartbeats 2000000 in
theorem scan_idle (p q r : Addr) (w : World) :
    CallsD Tryz.prog 174 #[.pointer (some p), .pointer (some q), .pointer (some r)] .returning w fun e u' w' => e = .returned (.tuple #[]) ∧ u' = .returning ∧ w' = w := by
  refine callsD_of_wpS Tryz.func174 rfl fun c₀ cs hu => ?_
  simp only [Tryz.ntmps174, List.size_toArray, List.length_cons, List.length_nil, Nat.reduceAdd, Nat.reduceSub, Array.replicate_succ, Array.replicate_zero, List.push_toArray, List.append_toArray, List.nil_append, List.cons_append]
  apply wpS_seq
  apply wpS_region
  simp [wpOpsS, go_sem, recoverD, hu, Exit.thenS]
  apply wpS_seq
  apply wpS_region
  simp [wpOpsS, go_sem, Exit.thenS]
  refine wpS_cond (t := false) (by simp [Act.eval]) ?_
  simp only [Bool.false_eq_true, if_false]
  refine wpS_of_wp (wp_skip ?_)
  cases c₀
  simp_all [bodyPostS, results, Tryz.results174]

theorem errno_under : Tryz.prog.underlying 35 = some (.int .i64) := by kernel_rfl
theorem assert_errno (n : Int) (w : World) : (Instr.typeAssert (.iface 35 (.int .i64 n)) 20 35 false).run Tryz.prog w = .ok (.int .i64 n) w := by
  simp [Instr.typeAssert, run_underlying errno_under, go_sem, Result.andThen]
set_option maxRecDepth 100000 in
set_option maxHeartbeats 2000000 in
theorem scan_catch (B b2 b3 b4 : Nat) (n : Int) (v2 v3 v4 : Value) (older : List PanicEntry) (w : World) (h2 : B ≤ b2) (h3 : B ≤ b3) (h4 : B ≤ b4) (n23 : b2 ≠ b3) (n24 : b2 ≠ b4) (n34 : b3 ≠ b4)
    (k2 : Blk w b2 9 #[v2]) (k3 : Blk w b3 3 #[v3]) (k4 : Blk w b4 35 #[v4]) :
    CallsD Tryz.prog 174 #[.pointer (some ⟨b2, 0, none⟩), .pointer (some ⟨b3, 0, none⟩), .pointer (some ⟨b4, 0, none⟩)] (.panicking ({ v := .iface 35 (.int .i64 n), recovered := false } :: older)) w fun e u' w' =>
      e = .returned (.tuple #[]) ∧ u' = .panicking ({ v := .iface 35 (.int .i64 n), recovered := true } :: older) ∧ Blk w' b2 9 #[.string ⟨#[]⟩] ∧ Blk w' b3 3 #[.int .i64 0] ∧ Blk w' b4 35 #[.int .i64 n] ∧ Below B w w' := by
  have c2 := k2.cell 0
  have c3 := k3.cell 0
  have c4 := k4.cell 0
  have f2 := k2.frozen 0
  have f3 := k3.frozen 0
  have f4 := k4.frozen 0
  refine callsD_of_wpS Tryz.func174 rfl fun c₀ cs hu => ?_
  simp only [Tryz.ntmps174, List.size_toArray, List.length_cons, List.length_nil, Nat.reduceAdd, Nat.reduceSub, Array.replicate_succ, Array.replicate_zero, List.push_toArray, List.append_toArray, List.nil_append, List.cons_append]
  apply wpS_seq
  apply wpS_region
  simp [wpOpsS, go_sem, recoverD, hu, Exit.thenS]
  apply wpS_seq
  apply wpS_region
  simp [wpOpsS, go_sem, Exit.thenS]
  refine wpS_cond (t := true) (by simp [Act.eval]) ?_
  simp only [if_true]
  refine wpS_of_wp ?_
  have c2' : w.cell? ⟨b2, 0, none⟩ = some v2 := c2
  have c3' : w.cell? ⟨b3, 0, none⟩ = some v3 := c3
  have c4' : w.cell? ⟨b4, 0, none⟩ = some v4 := c4
  have n32 : b3 ≠ b2 := fun e => n23 e.symm
  have n42 : b4 ≠ b2 := fun e => n24 e.symm
  have n43 : b4 ≠ b3 := fun e => n34 e.symm
  clear c2 c3 c4
  have hta := assert_errno n
  go_region
  all_goals go_wp2_with fail
  have r2 : Blk (((w.setCell ⟨b2, 0, none⟩ (.string ⟨#[]⟩)).setCell ⟨b3, 0, none⟩ (.int .i64 0)).setCell ⟨b4, 0, none⟩ (.int .i64 n)).drew b2 9 #[.string ⟨#[]⟩] := ((((k2.set_ 0 _).far (p := ⟨b3, 0, none⟩) n23 _).far (p := ⟨b4, 0, none⟩) n24 _)).drew
  have r3 : Blk (((w.setCell ⟨b2, 0, none⟩ (.string ⟨#[]⟩)).setCell ⟨b3, 0, none⟩ (.int .i64 0)).setCell ⟨b4, 0, none⟩ (.int .i64 n)).drew b3 3 #[.int .i64 0] := ((((k3.far (p := ⟨b2, 0, none⟩) n32 _).set_ 0 _).far (p := ⟨b4, 0, none⟩) n34 _)).drew
  have r4 : Blk (((w.setCell ⟨b2, 0, none⟩ (.string ⟨#[]⟩)).setCell ⟨b3, 0, none⟩ (.int .i64 0)).setCell ⟨b4, 0, none⟩ (.int .i64 n)).drew b4 35 #[.int .i64 n] := ((((k4.far (p := ⟨b2, 0, none⟩) n42 _).far (p := ⟨b3, 0, none⟩) n43 _).set_ 0 _)).drew
  have rB : Below B w (((w.setCell ⟨b2, 0, none⟩ (.string ⟨#[]⟩)).setCell ⟨b3, 0, none⟩ (.int .i64 0)).setCell ⟨b4, 0, none⟩ (.int .i64 n)).drew := ((((Below.refl B w).setCell (p := ⟨b2, 0, none⟩) h2 _).setCell (p := ⟨b3, 0, none⟩) h3 _).setCell (p := ⟨b4, 0, none⟩) h4 _).drew
  exact ⟨rfl, _, rfl, _, results_none rfl _ _ _, rfl, rfl, r2, r3, r4, rB⟩
end Go.Proofs.YtdfihhebgllpcaaGreatDoor

/- quote.Scan. -/
namespace Go.Proofs.YtdfihhebgllpcaaGreatDoor
open Go.RowKit Go.Proofs.QuotePlain Go.Proofs.UtfPlain

theorem IsB.turn {B b g : Nat} {l : List UInt8} {w w' : World} (h : IsB B b l w) (ht : Turn g w w') (hg : g < B) : IsB B b l w' := by
  have hgr : w.grownBy w' (some g) := ⟨ht.os, ht.tape, ht.output, ht.size, fun k hk hne => ht.block k hk (fun e => hne (by rw [e]))⟩
  have key : ∀ x, Lib.BuilderAt 114 5 B b x (Lib.byteCells l) w → Lib.BuilderAt 114 5 B b x (Lib.byteCells l) w' := by
    rintro x ⟨hB, v, hbk, hown, hne⟩
    refine ⟨hB, v, ?_, ?_, hne⟩
    · have hlt : b < w.heap.size := by
        rcases Nat.lt_or_ge b w.heap.size with h' | h'
        · exact h'
        · simp [Array.getElem?_eq_none h'] at hbk
      rw [ht.block b hlt (by omega)]; exact hbk
    · refine hown.kept hgr ?_
      cases hv : v.ownBlock with
      | none => exact .inl rfl
      | some j => exact .inr (by intro e; have := (hown.lt j hv).1; have := Option.some.inj e; omega)
  exact h.imp (key _) (key _)

/-- Where quote.Scan's variables lie. -/
structure Plc (w0 : World) (B2 B3 B4 g : Nat) : Prop where
  e2 : B2 = w0.heap.size
  e3 : B3 = B2 + 1
  e4 : B4 = B2 + 2
  eg : g = B2 + 3
  fl : 2 < B2
/-- The named results lie as zero. -/
structure Scp (w0 w : World) (B2 B3 B4 g : Nat) : Prop where
  pl : Plc w0 B2 B3 B4 g
  s2 : Blk w B2 9 #[.string ⟨#[]⟩]
  s3 : Blk w B3 3 #[.int .i64 0]
  s4 : Blk w B4 35 #[.int .i64 0]
  fm : FormsAt w
  be : Below B2 w0 w
theorem Scp.turn {w0 w w' : World} {B2 B3 B4 g : Nat} (h : Scp w0 w B2 B3 B4 g) (ht : Turn g w w') : Scp w0 w' B2 B3 B4 g := by
  obtain ⟨⟨e2, e3, e4, eg, fl⟩, s2, s3, s4, fm, be⟩ := h
  exact ⟨⟨e2, e3, e4, eg, fl⟩, (ht.block _ s2.lt (by omega)).trans s2, (ht.block _ s3.lt (by omega)).trans s3, (ht.block _ s4.lt (by omega)).trans s4, fm.turn ht (by omega), be.trans (ht.below (by omega) (by have := be.size; omega))⟩
theorem Scp.wrote {w0 w w' : World} {B2 B3 B4 g bb : Nat} (h : Scp w0 w B2 B3 B4 g) (hb : Below bb w w') (hg : g < bb) : Scp w0 w' B2 B3 B4 g := by
  obtain ⟨⟨e2, e3, e4, eg, fl⟩, s2, s3, s4, fm, be⟩ := h
  exact ⟨⟨e2, e3, e4, eg, fl⟩, s2.below hb (by omega), s3.below hb (by omega), s4.below hb (by omega), Blk.below fm hb (by omega), be.trans (hb.mono (by omega))⟩

/-- It gave up: what is told. -/
theorem scan_gave {w0 w : World} {B2 B3 B4 g : Nat} (h : Scp w0 w B2 B3 B4 g) (n : Nat) (tmps : Array Value) (h2 : tmps[2]? = some (.pointer (some ⟨B2, 0, none⟩))) (h3 : tmps[3]? = some (.pointer (some ⟨B3, 0, none⟩))) (h4 : tmps[4]? = some (.pointer (some ⟨B4, 0, none⟩))) :
    bodyPostD Tryz.prog Tryz.f143 (fun e w' => e = .returned (.tuple #[.string ⟨#[]⟩, .int .i64 0, .int .i64 n]) ∧ Below w0.heap.size w0 w') (.panic [{ v := .iface 35 (.int .i64 n), recovered := false }])
      { tmps := tmps, defers := [{ target := .fn (.func 174) #[.pointer (some ⟨B2, 0, none⟩), .pointer (some ⟨B3, 0, none⟩), .pointer (some ⟨B4, 0, none⟩)], args := #[] }] } w := by
  obtain ⟨⟨e2, e3, e4, eg, fl⟩, s2, s3, s4, fm, be⟩ := h
  refine leaves_cons (f := 174) (args := #[.pointer (some ⟨B2, 0, none⟩), .pointer (some ⟨B3, 0, none⟩), .pointer (some ⟨B4, 0, none⟩)]) (by simp) (by simp [go_sem]) ?_
  refine (scan_catch B2 B2 B3 B4 n _ _ _ [] _ (by omega) (by omega) (by omega) (by omega) (by omega) (by omega) s2 s3 s4).mono ?_
  rintro e u' w2 ⟨rfl, rfl, r2, r3, r4, rB⟩
  have c2 : w2.cell? ⟨B2, 0, none⟩ = some (.string ⟨#[]⟩) := r2.cell 0
  have c3 : w2.cell? ⟨B3, 0, none⟩ = some (.int .i64 0) := r3.cell 0
  have c4 : w2.cell? ⟨B4, 0, none⟩ = some (.int .i64 n) := r4.cell 0
  have hB := be.trans rB
  rw [e2] at hB
  simp [Leaves, settle, results, Tryz.results143, go_sem, h2, h3, h4, c2, c3, c4]
  exact hB
theorem scan_back {w0 w : World} {B2 B3 B4 : Nat} (s : ByteArray) (m : Nat) (e2 : B2 = w0.heap.size) (be : Below B2 w0 w) (tmps : Array Value) (h2 : tmps[2]? = some (.pointer (some ⟨B2, 0, none⟩))) (h3 : tmps[3]? = some (.pointer (some ⟨B3, 0, none⟩))) (h4 : tmps[4]? = some (.pointer (some ⟨B4, 0, none⟩)))
    (s2 : Blk w B2 9 #[.string s]) (s3 : Blk w B3 3 #[.int .i64 m]) (s4 : Blk w B4 35 #[.int .i64 0]) :
    bodyPostD Tryz.prog Tryz.f143 (fun e w' => e = .returned (.tuple #[.string s, .int .i64 m, .int .i64 0]) ∧ Below w0.heap.size w0 w') .ret
      { tmps := tmps, defers := [{ target := .fn (.func 174) #[.pointer (some ⟨B2, 0, none⟩), .pointer (some ⟨B3, 0, none⟩), .pointer (some ⟨B4, 0, none⟩)], args := #[] }] } w := by
  refine leaves_cons (f := 174) (args := #[.pointer (some ⟨B2, 0, none⟩), .pointer (some ⟨B3, 0, none⟩), .pointer (some ⟨B4, 0, none⟩)]) (by simp) (by simp [go_sem]) ?_
  refine (scan_idle _ _ _ _).mono ?_
  rintro e u' w2 ⟨rfl, rfl, rfl⟩
  have c2 : w2.cell? ⟨B2, 0, none⟩ = some (.string s) := s2.cell 0
  have c3 : w2.cell? ⟨B3, 0, none⟩ = some (.int .i64 m) := s3.cell 0
  have c4 : w2.cell? ⟨B4, 0, none⟩ = some (.int .i64 0) := s4.cell 0
  rw [e2] at be
  simp [Leaves, settle, results, Tryz.results143, go_sem, h2, h3, h4, c2, c3, c4]
  exact be

/-- A piece of code that goes through: nothing is asked of the other ways out. -/
theorem wp_normal {P : Program} {c : Code} {Q : Exit → Act → World → Prop} {a : Act} {w : World} (h : c.wp P (fun e a' w' => match e with | .normal => Q .normal a' w' | _ => False) a w) : c.wp P Q a w :=
  wp_mono h fun e a' w' h => by cases e <;> first | exact h | exact h.elim

set_option maxRecDepth 100000 in
set_option maxHeartbeats 8000000 in
theorem scan_any_q (b : ByteArray) (w : World) (hs : b.size ≤ 1000000) (hF : FormsAt w) (E : Nat × List UInt8 × Nat) (hE : scanQ b.data.toList = E) :
    Calls Tryz.prog 143 #[.string b] w fun e w' => e = .returned (.tuple #[.string ⟨E.2.1.toArray⟩, .int .i64 E.2.2, .int .i64 E.1]) ∧ Below w.heap.size w w' := by
  have hmf : ∀ (fn : Fn) (first cap : Array Value) (w : World), (Instr.makeFunc fn first cap).run Tryz.prog w = .ok (.func fn first cap) w := fun _ _ _ _ => rfl
  have HE := Lib.hid hE
  have HF := Lib.hid hF
  clear hE hF
  go_enter_defers Tryz.func143, Tryz.ntmps143
  go_wp2_with fail
  obtain ⟨W1, hW1⟩ : ∃ W1, w.alloc (.cells #[.string ⟨#[]⟩] 9) = W1 := ⟨_, rfl⟩
  have z1 := World.size_alloc w (.cells #[.string ⟨#[]⟩] 9)
  have b1 := Blk.new w 9 #[.string ⟨#[]⟩]
  have l1 : Below w.heap.size w (w.alloc (.cells #[.string ⟨#[]⟩] 9)) := (Below.refl _ _).alloc (Nat.le_refl _) _
  rw [hW1] at z1 b1 l1 ⊢
  obtain ⟨W2, hW2⟩ : ∃ W2, W1.alloc (.cells #[.int .i64 0] 3) = W2 := ⟨_, rfl⟩
  have z2 := World.size_alloc W1 (.cells #[.int .i64 0] 3)
  have b2 := Blk.new W1 3 #[.int .i64 0]
  have b1' := b1.alloc (.cells #[.int .i64 0] 3)
  have l2 := l1.alloc (by omega) (.cells #[.int .i64 0] 3)
  rw [hW2] at z2 b2 b1' l2 ⊢
  obtain ⟨W3, hW3⟩ : ∃ W3, W2.alloc (.cells #[.int .i64 0] 35) = W3 := ⟨_, rfl⟩
  have z3 := World.size_alloc W2 (.cells #[.int .i64 0] 35)
  have b3 := Blk.new W2 35 #[.int .i64 0]
  have b1'' := b1'.alloc (.cells #[.int .i64 0] 35)
  have b2' := b2.alloc (.cells #[.int .i64 0] 35)
  have l3 := l2.alloc (by omega) (.cells #[.int .i64 0] 35)
  rw [hW3] at z3 b3 b1'' b2' l3 ⊢
  obtain ⟨W4, hW4⟩ : ∃ W4, W3.alloc (.cells #[.string b, .int .i64 0] 192) = W4 := ⟨_, rfl⟩
  have b4 := Blk.new W3 192 #[.string b, .int .i64 0]
  have b1t := b1''.alloc (.cells #[.string b, .int .i64 0] 192)
  have b2'' := b2'.alloc (.cells #[.string b, .int .i64 0] 192)
  have b3' := b3.alloc (.cells #[.string b, .int .i64 0] 192)
  have l4 := l3.alloc (by omega) (.cells #[.string b, .int .i64 0] 192)
  rw [hW4] at b4 b1t b2'' b3' l4 ⊢
  obtain ⟨B2, hB2⟩ : ∃ B2, w.heap.size = B2 := ⟨_, rfl⟩
  obtain ⟨B3, hB3⟩ : ∃ B3, B2 + 1 = B3 := ⟨_, rfl⟩
  obtain ⟨B4, hB4⟩ : ∃ B4, B3 + 1 = B4 := ⟨_, rfl⟩
  obtain ⟨g, hg⟩ : ∃ g, B4 + 1 = g := ⟨_, rfl⟩
  rw [z3, z2, z1] at b4
  rw [z2, z1] at b3'
  rw [z1] at b2''
  rw [hB2] at b4 b3' b2'' b1t l4 ⊢
  rw [hB3] at b4 b3' b2'' ⊢
  rw [hB4] at b4 b3' ⊢
  rw [hg] at b4 ⊢
  have hP : Scp w W4 B2 B3 B4 g := ⟨⟨hB2.symm, by omega, by omega, by omega, by have := HF.out.lt; omega⟩, b1t, b2'', b3', by have h := HF.out.below (hB2.symm ▸ l4); exact h, l4⟩
  have HP := Lib.hid hP
  have HR : Hid (Rdr W4 g b 0) := b4
  have n2 : B2 ≠ g := by omega
  have n3 : B3 ≠ g := by omega
  have n4 : B4 ≠ g := by omega
  have n23 : B2 ≠ B3 := by omega
  have n24 : B2 ≠ B4 := by omega
  have n34 : B3 ≠ B4 := by omega
  clear z1 b1 l1 hW1 z2 b2 b1' l2 hW2 z3 b3 b1'' b2' l3 hW3 b4 b1t b2'' b3' l4 hW4 hP
  have HB2 := Lib.hid hB2
  clear hB2 hB3 hB4 hg
  by_cases h0 : 0 < b.size
  case neg =>
    have hz : E = (2, [], 0) := by
      rw [← HE.out, show b.data.toList = [] from List.length_eq_zero_iff.1 (by rw [← Lib.size_eq]; omega)]; rfl
    subst hz
    refine (rexact_end g b 0 34 W4 HR.out (by omega)).mono ?_
    rintro e w1 ⟨rfl, ht⟩
    have HP1 := Lib.hid (HP.out.turn ht)
    clear ht
    go_wp2_with fail
    exact scan_gave HP1.out 2 _ rfl rfl rfl
  obtain ⟨c, hc⟩ : ∃ c, b[0] = c := ⟨_, rfl⟩
  have hl0 : b.data.toList = c :: b.data.toList.drop 1 := by
    have := List.drop_eq_getElem_cons (l := b.data.toList) (i := 0) (by rw [← Lib.size_eq]; exact h0)
    rw [List.drop_zero] at this
    rw [this, ← hc]; rfl
  by_cases hq : c = 34
  case neg =>
    have hz : E = (3, [], 0) := by rw [← HE.out, hl0, scanQ_no _ _ hq]
    subst hz
    refine (rexact_no g b 0 34 c W4 hs HR.out h0 hc hq).mono ?_
    rintro e w1 ⟨rfl, ht⟩
    have HP1 := Lib.hid (HP.out.turn ht)
    clear ht
    go_wp2_with fail
    exact scan_gave HP1.out 3 _ rfl rfl rfl
  subst hq
  have HE1 : Hid (scanAt 1 [] (b.data.toList.drop 1) = E) := by
    unfold Hid
    rw [← HE.out, hl0, scanQ_yes]
    rfl
  clear HE hl0
  refine (rexact_yes g b 0 34 W4 hs HR.out h0 hc).mono ?_
  rintro e w1 ⟨rfl, hr, ht⟩
  have HP1 := Lib.hid (HP.out.turn ht)
  have HR1 : Hid (Rdr w1 g b 1) := hr
  clear hr ht HP HR hc
  have hI := isB_new w1
  have hP2 := HP1.out.wrote ((Below.refl w1.heap.size w1).alloc (Nat.le_refl _) (.cells #[.pointer none, .slice none 0 0] 114)) HR1.out.lt
  have hR2 : Rdr (w1.alloc (.cells #[.pointer none, .slice none 0 0] 114)) g b 1 := HR1.out.alloc _
  have hgb := HR1.out.lt
  have hz := World.size_alloc w1 (.cells #[.pointer none, .slice none 0 0] 114)
  go_wp2_with fail
  obtain ⟨bb, hbb⟩ : ∃ bb, w1.heap.size = bb := ⟨_, rfl⟩
  obtain ⟨W5, hW5⟩ : ∃ W5, w1.alloc (.cells #[.pointer none, .slice none 0 0] 114) = W5 := ⟨_, rfl⟩
  rw [hW5] at hI hP2 hR2 hz ⊢
  rw [hbb] at hI hgb hz ⊢
  have HI := Lib.hid hI
  have HP2 := Lib.hid hP2
  have HR2 := Lib.hid hR2
  have HL : Hid (bb ≤ W5.heap.size) := by unfold Hid; omega
  clear hI hP2 hR2 hz hW5 hbb HP1 HR1
  have HN := Lib.hid (And.intro n2 (And.intro n3 n4))
  have hgb' : g ≠ bb := by omega
  go_loopw [26] (fun _ wr => ∃ (k : Nat) (acc : List UInt8), k ≤ b.size ∧ acc.length ≤ k ∧ Hid (scanAt k acc (b.data.toList.drop k) = E) ∧ Hid (Scp w wr B2 B3 B4 g) ∧ Hid (Rdr wr g b k) ∧ Hid (IsB bb bb acc wr) ∧ Hid (bb ≤ wr.heap.size)) (fun _ wr => b.size - (intOf ((wr.cell? ⟨g, 1, none⟩).getD undef)).toNat)
  case atStart => exact ⟨1, [], by omega, by simp, HE1, HP2, HR2, HI, HL⟩
  case round =>
    clear HE1 HP2 HR2 HI HL
    obtain ⟨k, acc, hk, ha, HE, HP, HR, HI, HL⟩ := hrel
    have c1 : wr.cell? ⟨g, 1, none⟩ = some (.int .i64 (k : Int)) := HR.out.cell 1
    have f1 : wr.frozen? ⟨g, 1, none⟩ = false := HR.out.frozen 1
    have hms : b.size - (intOf ((wr.cell? ⟨g, 1, none⟩).getD undef)).toNat = b.size - k := by rw [c1]; simp [intOf]
    have HM := Lib.hid hms
    clear hms
    by_cases hlt : k < b.size
    case neg =>
      have hz : E = (2, [], 0) := by
        rw [← HE.out, List.drop_eq_nil_of_le (by rw [← Lib.size_eq]; omega), scanAt_nil]
      subst hz
      have hd : decide (k < b.size) = false := decide_eq_false hlt
      go_wp2_with fail
      refine (must_no 2 _).mono ?_
      rintro e w2 ⟨rfl, rfl⟩
      go_wp2_with fail
      exact scan_gave HP.out 2 _ rfl rfl rfl
    have hd : decide (k < b.size) = true := decide_eq_true hlt
    have hlt' : (k : Int) < (b.size : Int) := by omega
    obtain ⟨c, hc⟩ : ∃ c, b[k] = c := ⟨_, rfl⟩
    have hc8 : c.toNat < 256 := c.toNat_lt
    have hdr : b.data.toList.drop k = c :: b.data.toList.drop (k + 1) := by
      rw [List.drop_eq_getElem_cons (by rw [← Lib.size_eq]; exact hlt), ← hc]; rfl
    by_cases hq : c = 34
    · subst hq
      have hz : E = (0, acc, k + 1) := by rw [← HE.out, hdr, scanAt_quote]
      subst hz
      clear hdr HE
      go_wp2_with fail
      refine (must_yes 2 _).mono ?_
      rintro e w2 ⟨rfl, rfl⟩
      go_wp2_with fail
      have hk1 : (k : Int) + 1 ≤ 1000000 := by omega
      have hw1 : IntKind.i64.wrap ((k : Int) + 1) = (k : Int) + 1 := IntWalk.i64_in _ (by omega)
      refine wp_normal ?_
      go_region_with ((go_at_call 90; refine (sb_text bb bb acc _ (by exact HI.out) (by exact HL.out)).mono ?_; rintro e' wa ⟨rfl, hba⟩; have hPa := HP.out.wrote (show Below bb wr wa from ⟨hba.os, hba.tape, hba.output, hba.size, hba.block⟩) hgb; have hRa : Rdr wa g b k := HR.out.below (show Below bb wr wa from ⟨hba.os, hba.tape, hba.output, hba.size, hba.block⟩) hgb; have a1 : wa.cell? ⟨g, 1, none⟩ = some (.int .i64 (k : Int)) := hRa.cell 1; have a2 : wa.cell? ⟨B2, 0, none⟩ = some (.string ⟨#[]⟩) := hPa.s2.cell 0; have a3 : wa.cell? ⟨B3, 0, none⟩ = some (.int .i64 0) := hPa.s3.cell 0; have a4 : wa.cell? ⟨B4, 0, none⟩ = some (.int .i64 0) := hPa.s4.cell 0; have d2 : wa.frozen? ⟨B2, 0, none⟩ = false := hPa.s2.frozen 0; have d3 : wa.frozen? ⟨B3, 0, none⟩ = false := hPa.s3.frozen 0; have d4 : wa.frozen? ⟨B4, 0, none⟩ = false := hPa.s4.frozen 0; have HPa := Lib.hid hPa; clear hba hPa hRa))
      all_goals (
        go_wp2_with fail
        have hl3 : B2 ≤ B3 := by have := HPa.out.pl.e3; omega
        have hl4 : B2 ≤ B4 := by have := HPa.out.pl.e4; omega
        refine scan_back ⟨acc.toArray⟩ (k + 1) HPa.out.pl.e2 ?_ _ rfl rfl rfl ?_ ?_ ?_
        · exact ((HPa.out.be.setCell (p := ⟨B2, 0, none⟩) (Nat.le_refl _) _).setCell (p := ⟨B3, 0, none⟩) hl3 _).setCell (p := ⟨B4, 0, none⟩) hl4 _
        · exact ((HPa.out.s2.set_ 0 _).far (p := ⟨B3, 0, none⟩) n23 _).far (p := ⟨B4, 0, none⟩) n24 _
        · exact ((HPa.out.s3.far (p := ⟨B2, 0, none⟩) (fun e => n23 e.symm) _).set_ 0 _).far (p := ⟨B4, 0, none⟩) n34 _
        · exact ((HPa.out.s4.far (p := ⟨B2, 0, none⟩) (fun e => n24 e.symm) _).far (p := ⟨B3, 0, none⟩) (fun e => n34 e.symm) _).set_ 0 _)
    have hq1 : (((c.toNat : Nat) : Int) == 34) = false := by
      rw [beq_eq_false_iff_ne]; intro e; exact hq (UInt8.toNat_inj.1 (by show c.toNat = 34; omega))
    have hq2 : ¬ c.toNat = 34 := fun e => hq (UInt8.toNat_inj.1 e)
    obtain ⟨F, hF⟩ : ∃ F, partF (c :: b.data.toList.drop (k + 1)) = F := ⟨_, rfl⟩
    have hbad : Hid (F.1 ≠ 0 → E = (F.1, [], 0)) := fun h => by
      rw [← HE.out, hdr, scanAt_bad _ _ _ _ hq (by rw [hF]; exact h), hF]
    have hgood : Hid (F.1 = 0 → 1 ≤ F.2.2 ∧ k + F.2.2 ≤ b.size ∧ F.2.1.length ≤ F.2.2 ∧ scanAt (k + F.2.2) (acc ++ F.2.1) (b.data.toList.drop (k + F.2.2)) = E) := fun h => by
      have h1 := part_ok _ (by rw [hF]; exact h)
      rw [hF, ← hdr, List.length_drop, ← Lib.size_eq] at h1
      refine ⟨h1.1, by omega, h1.2.2, ?_⟩
      rw [← HE.out, hdr, scanAt_step _ _ _ _ hq (by rw [hF]; exact h), hF, ← hdr, List.drop_drop]
    have hkk : (k : Int) + 1 ≤ 1000000 := by omega
    by_cases h92 : c = 92
    · subst h92
      have hF2 : Hid (escF (b.data.toList.drop (k + 1)) = F) := by
        unfold Hid
        rw [← hF]; rfl
      have HR2 : Hid (Rdr (wr.setCell ⟨g, 1, none⟩ (.int .i64 ((k : Int) + 1))) g b (k + 1)) := HR.out.set_ 1 _
      have HT2 : Hid (Turn g wr (wr.setCell ⟨g, 1, none⟩ (.int .i64 ((k : Int) + 1)))) := Turn.set_ g 1 _ _
      have e2 : Hid (F.1 = 0 → 2 ≤ F.2.2) := fun h => (by have := esc_ok (b.data.toList.drop (k + 1)) (by rw [hF2.out]; exact h); rw [hF2.out] at this; exact this.1)
      clear hdr HE hF hq hq1 hq2
      go_wp2_with fail
      refine (must_yes 2 _).mono ?_
      rintro e w2 ⟨rfl, rfl⟩
      go_wp2_with fail
      refine (esc_any g b (k + 1) _ hs (HP.out.fm.turn HT2.out (by have := HP.out.pl.fl; have := HP.out.pl.eg; omega)) (by have := HP.out.pl.fl; have := HP.out.pl.eg; omega) HR2.out F hF2.out).mono ?_
      rintro e w3 (⟨h0, rfl, hr, ht⟩ | ⟨h0, rfl, ht⟩)
      case inr =>
        have hz := hbad.out h0
        have HP3 := Lib.hid (HP.out.turn (HT2.out.trans ht))
        clear ht hgood
        subst hz
        go_wp2_with fail
        refine scan_gave HP3.out F.1 _ ?_ ?_ ?_ <;> rfl
      have hT := HT2.out.trans ht
      have HP3 := Lib.hid (HP.out.turn hT)
      have HR3 := Lib.hid hr
      have HI3 := Lib.hid (HI.out.turn hT hgb)
      have HL3 : Hid (bb ≤ w3.heap.size) := Nat.le_trans HL.out hT.size
      obtain ⟨g1, g2, g3, g4⟩ := hgood.out h0
      have g5 := e2.out h0
      obtain ⟨T, hT2⟩ : ∃ T : ByteArray, T = ⟨F.2.1.toArray⟩ := ⟨_, rfl⟩
      have hTd : T.data.toList = F.2.1 := by rw [hT2]
      have hTs : T.size = F.2.1.length := by rw [Lib.size_eq, hTd]
      obtain ⟨m, hm⟩ : ∃ m, m = k + F.2.2 := ⟨_, rfl⟩
      have hm2 : k + 1 + (F.2.2 - 1) = m := by omega
      rw [← hm] at g2 g4
      rw [hm2] at HR3
      have HG4 := Lib.hid g4
      have HTd := Lib.hid hTd
      have g6 : (acc ++ F.2.1).length ≤ m := by rw [List.length_append]; omega
      have g7 : k < m := by omega
      have g8 : acc.length + T.size ≤ 140737488355328 := by omega
      rw [← hT2]
      have HG6 := Lib.hid g6
      clear hr ht hT hT2 hTd hTs hm hm2 g1 g3 g4 g5 hbad hgood e2 hF2 h0 g6
      go_wp2_with fail
      refine (sb_string bb bb acc T w3 HI3.out g8 HL3.out).mono ?_
      rintro e w4 ⟨rfl, hi, hb⟩
      have HP4 := Lib.hid (HP3.out.wrote hb hgb)
      have HR4 : Hid (Rdr w4 g b m) := HR3.out.below hb hgb
      have HI4 := Lib.hid hi
      have HL4 : Hid (bb ≤ w4.heap.size) := Nat.le_trans HL3.out hb.size
      have HM4 : Hid (b.size - (intOf ((w4.cell? ⟨g, 1, none⟩).getD undef)).toNat = b.size - m) := by
        have c4 : w4.cell? ⟨g, 1, none⟩ = some (.int .i64 (m : Int)) := HR4.out.cell 1
        unfold Hid
        rw [c4]; simp [intOf]
      clear hi hb
      go_wp2_with fail
      go_roundw
      case rel => exact ⟨m, acc ++ F.2.1, g2, HG6.out, HG4, HP4, HR4, by rw [← HTd.out]; exact HI4, HL4⟩
      case measure => rw [HM4.out, HM.out]; omega
    · have hF2 : Hid (partF (b.data.toList.drop k) = F) := by
        unfold Hid
        rw [hdr]; exact hF
      have h921 : (((c.toNat : Nat) : Int) == 92) = false := by
        rw [beq_eq_false_iff_ne]; intro e; exact h92 (UInt8.toNat_inj.1 (by show c.toNat = 92; omega))
      have h922 : ¬ c.toNat = 92 := fun e => h92 (UInt8.toNat_inj.1 e)
      clear hdr HE hF
      go_wp2_with fail
      refine (must_yes 2 _).mono ?_
      rintro e w2 ⟨rfl, rfl⟩
      go_wp2_with fail
      refine (plain_any g b k _ hs HP.out.fm HR.out hlt (by rw [hc]; exact h92) F hF2.out).mono ?_
      rintro e w3 (⟨h0, rfl, hr, ht⟩ | ⟨h0, rfl, ht⟩)
      case inr =>
        have hz := hbad.out h0
        have HP3 := Lib.hid (HP.out.turn ht)
        clear ht hgood
        subst hz
        go_wp2_with fail
        refine scan_gave HP3.out F.1 _ ?_ ?_ ?_ <;> rfl
      have hT := ht
      have HP3 := Lib.hid (HP.out.turn hT)
      have HR3 := Lib.hid hr
      have HI3 := Lib.hid (HI.out.turn hT hgb)
      have HL3 : Hid (bb ≤ w3.heap.size) := Nat.le_trans HL.out hT.size
      obtain ⟨g1, g2, g3, g4⟩ := hgood.out h0
      obtain ⟨T, hT2⟩ : ∃ T : ByteArray, T = ⟨F.2.1.toArray⟩ := ⟨_, rfl⟩
      have hTd : T.data.toList = F.2.1 := by rw [hT2]
      have hTs : T.size = F.2.1.length := by rw [Lib.size_eq, hTd]
      obtain ⟨m, hm⟩ : ∃ m, m = k + F.2.2 := ⟨_, rfl⟩
      have hm2 : k + F.2.2 = m := hm.symm
      rw [← hm] at g2 g4
      rw [hm2] at HR3
      have HG4 := Lib.hid g4
      have HTd := Lib.hid hTd
      have g6 : (acc ++ F.2.1).length ≤ m := by rw [List.length_append]; omega
      have g7 : k < m := by omega
      have g8 : acc.length + T.size ≤ 140737488355328 := by omega
      rw [← hT2]
      have HG6 := Lib.hid g6
      clear hr ht hT hT2 hTd hTs hm hm2 g1 g3 g4 hbad hgood hF2 h0 g6
      go_wp2_with fail
      refine (sb_string bb bb acc T w3 HI3.out g8 HL3.out).mono ?_
      rintro e w4 ⟨rfl, hi, hb⟩
      have HP4 := Lib.hid (HP3.out.wrote hb hgb)
      have HR4 : Hid (Rdr w4 g b m) := HR3.out.below hb hgb
      have HI4 := Lib.hid hi
      have HL4 : Hid (bb ≤ w4.heap.size) := Nat.le_trans HL3.out hb.size
      have HM4 : Hid (b.size - (intOf ((w4.cell? ⟨g, 1, none⟩).getD undef)).toNat = b.size - m) := by
        have c4 : w4.cell? ⟨g, 1, none⟩ = some (.int .i64 (m : Int)) := HR4.out.cell 1
        unfold Hid
        rw [c4]; simp [intOf]
      clear hi hb
      go_wp2_with fail
      go_roundw
      case rel => exact ⟨m, acc ++ F.2.1, g2, HG6.out, HG4, HP4, HR4, by rw [← HTd.out]; exact HI4, HL4⟩
      case measure => rw [HM4.out, HM.out]; omega
end Go.Proofs.YtdfihhebgllpcaaGreatDoor
