/- The reference's Compare. -/
import Derived.Test.YtffcmfhicefahaaDoorRef7
namespace Go.Proofs.YtffcmfhicefahaaDoor
open Go.RowKit Go.Proofs.NumPlain

theorem right_bd2 (neg : Bool) (d : ByteArray) (x : Int) (hr : right ⟨neg, d.data.toList, x⟩ = true) : d.size ≤ 1000 ∧ x ≤ 10000 ∧ -10000 ≤ x := by
  by_cases h : d.data.toList = []
  · rw [h] at hr
    obtain ⟨_, rfl⟩ := right_nil neg x hr
    rw [Lib.size_eq, h]
    simp
  · rw [Lib.size_eq]
    exact right_bd neg _ x h hr

theorem two_boxes (w : World) (ca cb : Array Value) (t : TypeId) : Blk ((w.alloc (.cells ca t)).alloc (.cells cb t)) w.heap.size t ca ∧ Blk ((w.alloc (.cells ca t)).alloc (.cells cb t)) (w.heap.size + 1) t cb ∧ Below w.heap.size w ((w.alloc (.cells ca t)).alloc (.cells cb t)) := by
  refine ⟨(Blk.new w t ca).alloc _, ?_, ((Below.refl _ _).alloc (Nat.le_refl _) _).alloc (by simp) _⟩
  have := Blk.new (w.alloc (.cells ca t)) t cb
  simpa only [World.size_alloc] using this

set_option maxHeartbeats 2000000 in
theorem rcompare_any (na nb : Bool) (da db : ByteArray) (xa xb : Int) (w : World) (ha : da.size ≤ 1200) (hb : db.size ≤ 1200) :
    Calls Tryd.prog 20 #[.agg #[.bool na, .string da, .int .i64 xa], .agg #[.bool nb, .string db, .int .i64 xb]] w fun e w' => e = .returned (.int .i64 (NumPlain.cmpR ⟨na, da.data.toList, xa⟩ ⟨nb, db.data.toList, xb⟩)) ∧ Below w.heap.size w w' := by
  have hbx := two_boxes w #[.bool na, .string da, .int .i64 xa] #[.bool nb, .string db, .int .i64 xb] 24
  obtain ⟨hA, hB, hW⟩ := hbx
  have a0 := hA.cell 0
  have a1 := hA.cell 1
  have a2 := hA.cell 2
  have HA := Lib.hid hA
  have HB := Lib.hid hB
  have HW := Lib.hid hW
  clear hA hB hW
  obtain ⟨RA, hRA⟩ : ∃ RA : Nm, RA = ⟨na, da.data.toList, xa⟩ := ⟨_, rfl⟩
  obtain ⟨RB, hRB⟩ : ∃ RB : Nm, RB = ⟨nb, db.data.toList, xb⟩ := ⟨_, rfl⟩
  have CA := rright_any na da xa ((w.alloc (.cells #[.bool na, .string da, .int .i64 xa] 24)).alloc (.cells #[.bool nb, .string db, .int .i64 xb] 24)) (by omega)
  have CB : ∀ w, _ := fun w => rright_any nb db xb w (by omega)
  rw [← hRA] at CA ⊢
  simp only [← hRB] at CB ⊢
  have CA := Lib.hid CA
  have CB := Lib.hid CB
  obtain ⟨Z, hZ⟩ : ∃ Z, Z = NumPlain.cmpR RA RB := ⟨_, rfl⟩
  rw [← hZ]
  by_cases h1 : right RA = true
  · by_cases h2 : right RB = true
    · obtain ⟨p1, p2, p3⟩ := right_bd2 na da xa (by rw [← hRA]; exact h1)
      obtain ⟨q1, q2, q3⟩ := right_bd2 nb db xb (by rw [← hRB]; exact h2)
      have SAB : ∀ w, _ := fun w => size_any na nb da db xa xb w p1 q1 ⟨p2, p3⟩ ⟨q2, q3⟩
      have SBA : ∀ w, _ := fun w => size_any nb na db da xb xa w q1 p1 ⟨q2, q3⟩ ⟨p2, p3⟩
      simp only [← hRA, ← hRB] at SAB SBA
      have SAB := Lib.hid SAB
      have SBA := Lib.hid SBA
      have hna : RA.neg = na := by rw [hRA]
      have hnb : RB.neg = nb := by rw [hRB]
      have HNA := Lib.hid hna
      have HNB := Lib.hid hnb
      have H1 := Lib.hid h1
      have H2 := Lib.hid h2
      have HZ : Hid (Z = if na = true ∧ nb = true then NumPlain.sizeR RB RA else if na = true then -1 else if nb = true then 1 else NumPlain.sizeR RA RB) := by
        unfold Hid
        rw [hZ]
        unfold cmpR
        rw [if_neg (show ¬ (right RA = false ∨ right RB = false) by simp [h1, h2]), hna, hnb]
      clear hRA hRB p1 p2 p3 q1 q2 q3 hna hnb h1 h2 hZ ha hb
      go_enter Tryd.func20, Tryd.ntmps20
      go_wp2_with fail
      refine CA.out.mono ?_
      rw [H1.out]
      rintro e w1 ⟨rfl, hb1⟩
      have HA1 := Lib.hid (HA.out.below hb1 HA.out.lt)
      have HB1 := Lib.hid (HB.out.below hb1 HB.out.lt)
      have HW1 := Lib.hid (HW.out.trans (hb1.mono HW.out.size))
      clear hb1 HA HB HW a0 a1 a2
      have b0 := HB1.out.cell 0
      have b1 := HB1.out.cell 1
      have b2 := HB1.out.cell 2
      go_wp2_with fail
      refine (CB.out _).mono ?_
      rw [H2.out]
      rintro e w2 ⟨rfl, hb1⟩
      have HA2 := Lib.hid (HA1.out.below hb1 HA1.out.lt)
      have HB2 := Lib.hid (HB1.out.below hb1 HB1.out.lt)
      have HW2 := Lib.hid (HW1.out.trans (hb1.mono HW1.out.size))
      clear hb1 HA1 HB1 HW1 b0 b1 b2
      have a0 := HA2.out.cell 0
      have a1 := HA2.out.cell 1
      have a2 := HA2.out.cell 2
      have b0 := HB2.out.cell 0
      have b1 := HB2.out.cell 1
      have b2 := HB2.out.cell 2
      cases na with
      | true =>
        cases nb with
        | true =>
          have hz : Hid (NumPlain.sizeR RB RA = Z) := by unfold Hid; rw [HZ.out, if_pos ⟨rfl, rfl⟩]
          go_wp2_with fail
          refine (SBA.out _).mono ?_
          rw [hz.out]
          rintro e w3 ⟨rfl, hb1⟩
          go_wp2_with fail
          go_ret
          exact ⟨rfl, HW2.out.trans (hb1.mono HW2.out.size)⟩
        | false =>
          have hz : Hid (-1 = Z) := HZ.out.symm
          go_wp2_with fail
          go_ret
          exact ⟨congrArg (fun z => Ending.returned (.int .i64 z)) hz.out, HW2.out⟩
      | false =>
        cases nb with
        | true =>
          have hz : Hid (1 = Z) := HZ.out.symm
          go_wp2_with fail
          go_ret
          exact ⟨congrArg (fun z => Ending.returned (.int .i64 z)) hz.out, HW2.out⟩
        | false =>
          have hz : Hid (NumPlain.sizeR RA RB = Z) := by unfold Hid; rw [HZ.out, if_neg (by decide), if_neg (by decide), if_neg (by decide)]
          go_wp2_with fail
          refine (SAB.out _).mono ?_
          rw [hz.out]
          rintro e w3 ⟨rfl, hb1⟩
          go_wp2_with fail
          go_ret
          exact ⟨rfl, HW2.out.trans (hb1.mono HW2.out.size)⟩
    · have h2 := Bool.eq_false_iff.2 h2
      have hz : Hid (Z = 0) := by unfold Hid; rw [hZ]; unfold cmpR; rw [if_pos (.inr h2)]
      have H1 := Lib.hid h1
      have H2 := Lib.hid h2
      clear hRA hRB h1 h2 hZ ha hb
      go_enter Tryd.func20, Tryd.ntmps20
      go_wp2_with fail
      refine CA.out.mono ?_
      rw [H1.out]
      rintro e w1 ⟨rfl, hb1⟩
      have HB1 := Lib.hid (HB.out.below hb1 HB.out.lt)
      have HW1 := Lib.hid (HW.out.trans (hb1.mono HW.out.size))
      clear hb1 HA HB HW a0 a1 a2
      have b0 := HB1.out.cell 0
      have b1 := HB1.out.cell 1
      have b2 := HB1.out.cell 2
      go_wp2_with fail
      refine (CB.out _).mono ?_
      rw [H2.out]
      rintro e w2 ⟨rfl, hb1⟩
      go_wp2_with fail
      go_ret
      exact ⟨congrArg (fun z => Ending.returned (.int .i64 z)) hz.out.symm, HW1.out.trans (hb1.mono HW1.out.size)⟩
  · have h1 := Bool.eq_false_iff.2 h1
    have hz : Hid (Z = 0) := by unfold Hid; rw [hZ]; unfold cmpR; rw [if_pos (.inl h1)]
    have H1 := Lib.hid h1
    clear hRA hRB h1 hZ ha hb
    go_enter Tryd.func20, Tryd.ntmps20
    go_wp2_with fail
    refine CA.out.mono ?_
    rw [H1.out]
    rintro e w1 ⟨rfl, hb1⟩
    go_wp2_with fail
    go_ret
    exact ⟨congrArg (fun z => Ending.returned (.int .i64 z)) hz.out.symm, HW.out.trans (hb1.mono HW.out.size)⟩
end Go.Proofs.YtffcmfhicefahaaDoor
