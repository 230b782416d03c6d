/- The walk of num.Compare. -/
import Derived.Test.YtffcmfhicefahaaDoorRef8
namespace Go.Proofs.YtffcmfhicefahaaDoor
open Go.RowKit Go.Proofs.NumPlain

set_option maxHeartbeats 1000000 in
theorem below_any (neg : Bool) (d : ByteArray) (x : Int) (w : World) :
    Calls Tryd.prog 38 #[.agg #[.bool neg, .string d, .int .i64 x]] w fun e w' => e = .returned (.int .i64 (NumPlain.sgn ⟨neg, d.data.toList, x⟩)) ∧ Below w.heap.size w w' := by
  unfold NumPlain.sgn
  cases neg with
  | true =>
    go_enter Tryd.func38, Tryd.ntmps38
    go_wp2_with fail
    go_ret
    exact ⟨rfl, (Below.refl _ _).alloc (Nat.le_refl _) _⟩
  | false =>
    by_cases h : d.data.toList = []
    · have he : d.toList.isEmpty = true := by rw [isEmpty_of d _ h]; rfl
      rw [if_neg Bool.false_ne_true, if_pos h]
      clear h
      go_enter Tryd.func38, Tryd.ntmps38
      go_wp2_with fail
      go_ret
      exact ⟨rfl, (Below.refl _ _).alloc (Nat.le_refl _) _⟩
    · have he : d.toList.isEmpty = false := by
        rw [isEmpty_iff]
        cases e : d.data.toList with
        | nil => exact absurd e h
        | cons _ _ => rfl
      rw [if_neg Bool.false_ne_true, if_neg h]
      clear h
      go_enter Tryd.func38, Tryd.ntmps38
      go_wp2_with fail
      go_ret
      exact ⟨rfl, (Below.refl _ _).alloc (Nat.le_refl _) _⟩

theorem compare_bd (l m : List UInt8) : -1 ≤ Lib.compareBytes l m ∧ Lib.compareBytes l m ≤ 1 := by
  induction l generalizing m with
  | nil => cases m <;> simp [Lib.compareBytes]
  | cons a l ih =>
    cases m with
    | nil => simp [Lib.compareBytes]
    | cons b m =>
      unfold Lib.compareBytes
      have := ih m
      split
      · omega
      · split <;> omega

theorem str_ne (da db : ByteArray) (h : ¬ da = db) : (da.toList == db.toList) = false ∧ (da == db) = false ∧ ¬ da.toList = db.toList := by
  have h3 : ¬ da.toList = db.toList := fun e => h (by
    rw [Lib.toList_data, Lib.toList_data] at e
    rw [bytes_eta da _ rfl, bytes_eta db _ rfl, e])
  refine ⟨by simpa using h3, ?_, h3⟩
  rw [beq_toListBytes]
  simpa using h3

set_option maxHeartbeats 4000000 in
theorem compare_right (na nb : Bool) (da db : ByteArray) (xa xb : Int) (w : World) (h1 : right ⟨na, da.data.toList, xa⟩ = true) (h2 : right ⟨nb, db.data.toList, xb⟩ = true) (hne : ¬ (na = nb ∧ da = db ∧ xa = xb)) :
    Calls Tryd.prog 19 #[.agg #[.bool na, .string da, .int .i64 xa], .agg #[.bool nb, .string db, .int .i64 xb]] w fun e w' => e = .returned (.int .i64 (NumPlain.cmpP ⟨na, da.data.toList, xa⟩ ⟨nb, db.data.toList, xb⟩)) ∧ Below w.heap.size w w' := by
  obtain ⟨hA, hB, hW⟩ := two_boxes w #[.bool na, .string da, .int .i64 xa] #[.bool nb, .string db, .int .i64 xb] 24
  have a0 := hA.cell 0
  have a1 := hA.cell 1
  have a2 := hA.cell 2
  have HA := Lib.hid hA
  have HB := Lib.hid hB
  have HW := Lib.hid hW
  clear hA hB hW
  obtain ⟨p1, p2, p3⟩ := right_bd2 na da xa h1
  obtain ⟨q1, q2, q3⟩ := right_bd2 nb db xb h2
  have CA : Hid (Calls Tryd.prog 15 #[.agg #[.bool na, .string da, .int .i64 xa]] ((w.alloc (.cells #[.bool na, .string da, .int .i64 xa] 24)).alloc (.cells #[.bool nb, .string db, .int .i64 xb] 24)) fun e w' => e = .returned (.bool true) ∧ Below ((w.alloc (.cells #[.bool na, .string da, .int .i64 xa] 24)).alloc (.cells #[.bool nb, .string db, .int .i64 xb] 24)).heap.size ((w.alloc (.cells #[.bool na, .string da, .int .i64 xa] 24)).alloc (.cells #[.bool nb, .string db, .int .i64 xb] 24)) w') := by
    rw [← h1]; exact right_any na da xa _ (by omega)
  have CB : Hid (∀ w, Calls Tryd.prog 15 #[.agg #[.bool nb, .string db, .int .i64 xb]] w fun e w' => e = .returned (.bool true) ∧ Below w.heap.size w w') := fun w => by rw [← h2]; exact right_any nb db xb w (by omega)
  obtain ⟨X, hX⟩ : ∃ X, X = NumPlain.sgn ⟨na, da.data.toList, xa⟩ := ⟨_, rfl⟩
  obtain ⟨Y, hY⟩ : ∃ Y, Y = NumPlain.sgn ⟨nb, db.data.toList, xb⟩ := ⟨_, rfl⟩
  have DA : Hid (∀ w, Calls Tryd.prog 38 #[.agg #[.bool na, .string da, .int .i64 xa]] w fun e w' => e = .returned (.int .i64 X) ∧ Below w.heap.size w w') := fun w => by rw [hX]; exact below_any na da xa w
  have DB : Hid (∀ w, Calls Tryd.prog 38 #[.agg #[.bool nb, .string db, .int .i64 xb]] w fun e w' => e = .returned (.int .i64 Y) ∧ Below w.heap.size w w') := fun w => by rw [hY]; exact below_any nb db xb w
  obtain ⟨M, hM⟩ : ∃ M, M = NumPlain.more ⟨na, da.data.toList, xa⟩ := ⟨_, rfl⟩
  have hMb : -1 ≤ M ∧ M ≤ 1 := by rw [hM]; unfold NumPlain.more; split <;> simp
  have hMna : Hid (M = if na = true then -1 else 1) := hM
  obtain ⟨C, hC⟩ : ∃ C, C = Lib.compareBytes da.data.toList db.data.toList := ⟨_, rfl⟩
  have hCb : -1 ≤ C ∧ C ≤ 1 := by rw [hC]; exact compare_bd _ _
  obtain ⟨Z, hZ⟩ : ∃ Z, Z = NumPlain.cmpP ⟨na, da.data.toList, xa⟩ ⟨nb, db.data.toList, xb⟩ := ⟨_, rfl⟩
  rw [← hZ]
  have HZ : Hid (Z = if X ≠ Y then (if X < Y then -1 else 1) else if (da.size : Int) + xa ≠ (db.size : Int) + xb then (if (da.size : Int) + xa < (db.size : Int) + xb then -M else M) else M * C) := by
    unfold Hid
    rw [hZ, hX, hY, hM, hC, Lib.size_eq da, Lib.size_eq db]
    unfold NumPlain.cmpP
    rw [if_neg (show ¬ (right ⟨na, da.data.toList, xa⟩ = false ∨ right ⟨nb, db.data.toList, xb⟩ = false ∨ (⟨na, da.data.toList, xa⟩ : Nm) = ⟨nb, db.data.toList, xb⟩) from by
      rintro (h | h | h)
      · rw [h1] at h; cases h
      · rw [h2] at h; cases h
      · injection h with e1 e2 e3
        exact hne ⟨e1, by rw [bytes_eta da _ rfl, bytes_eta db _ rfl, e2], e3⟩)]
  have SC : Hid (∀ w, Calls Tryd.prog 39 #[.string da, .string db] w fun e w' => e = .returned (.int .i64 C) ∧ w' = w) := fun w => by rw [hC]; exact Tryd.strings_Compare da db w
  have hka : IntKind.i64.wrap ((da.size : Int) + xa) = (da.size : Int) + xa := IntWalk.i64_in _ (by omega)
  have hkb : IntKind.i64.wrap ((db.size : Int) + xb) = (db.size : Int) + xb := IntWalk.i64_in _ (by omega)
  have hmn : IntKind.i64.wrap (-M) = -M := IntWalk.i64_in _ (by omega)
  have hmc : IntKind.i64.wrap (M * C) = M * C := by
    have h : M * C = 0 ∨ M * C = 1 ∨ M * C = -1 := by
      have hM3 : M = -1 ∨ M = 0 ∨ M = 1 := by omega
      have hC3 : C = -1 ∨ C = 0 ∨ C = 1 := by omega
      rcases hM3 with h | h | h <;> rcases hC3 with h' | h' | h' <;> rw [h, h'] <;> decide
    exact IntWalk.i64_in _ (by omega)
  have HMN := Lib.hid hmn
  have HMC := Lib.hid hmc
  have HKA := Lib.hid hka
  have HKB := Lib.hid hkb
  clear hX hY hM hC hZ h1 h2 p1 p2 p3 q1 q2 q3 hMb hCb hmn hmc hka hkb
  go_enter Tryd.func19, Tryd.ntmps19
  go_upto_region 1 with fail
  go_cut [23] (fun b wx => b = .bool false ∧ Hid (Blk wx w.heap.size 24 #[.bool na, .string da, .int .i64 xa]) ∧ Hid (Blk wx (w.heap.size + 1) 24 #[.bool nb, .string db, .int .i64 xb]) ∧ Hid (Below w.heap.size w wx))
  case first =>
    clear DA DB SC HZ hMna HMN HMC HKA HKB
    by_cases hn : na = nb
    · by_cases hd : da = db
      · have hx : ¬ xa = xb := fun e => hne ⟨hn, hd, e⟩
        have kx : (xa == xb) = false := by simpa using hx
        subst hn
        subst hd
        clear hne
        go_wp2_with fail
        refine CA.out.mono ?_
        rintro e w1 ⟨rfl, hb1⟩
        have HA1 := Lib.hid (HA.out.below hb1 HA.out.lt)
        have HB1 := Lib.hid (HB.out.below hb1 HB.out.lt)
        have HW1 := Lib.hid (HW.out.trans (hb1.mono HW.out.size))
        clear hb1 HA HB HW a0 a1 a2
        have b0 := HB1.out.cell 0
        have b1 := HB1.out.cell 1
        have b2 := HB1.out.cell 2
        go_wp2_with fail
        refine (CB.out _).mono ?_
        rintro e w2 ⟨rfl, hb1⟩
        have HA2 := Lib.hid (HA1.out.below hb1 HA1.out.lt)
        have HB2 := Lib.hid (HB1.out.below hb1 HB1.out.lt)
        have HW2 := Lib.hid (HW1.out.trans (hb1.mono HW1.out.size))
        clear hb1 HA1 HB1 HW1 b0 b1 b2
        have a0 := HA2.out.cell 0
        have a1 := HA2.out.cell 1
        have a2 := HA2.out.cell 2
        have b0 := HB2.out.cell 0
        have b1 := HB2.out.cell 1
        have b2 := HB2.out.cell 2
        go_wp2_with fail
        go_meet
        exact ⟨rfl, HA2, HB2, HW2⟩
      · obtain ⟨k1, k2, k3⟩ := str_ne da db hd
        subst hn
        clear hne
        go_wp2_with fail
        refine CA.out.mono ?_
        rintro e w1 ⟨rfl, hb1⟩
        have HA1 := Lib.hid (HA.out.below hb1 HA.out.lt)
        have HB1 := Lib.hid (HB.out.below hb1 HB.out.lt)
        have HW1 := Lib.hid (HW.out.trans (hb1.mono HW.out.size))
        clear hb1 HA HB HW a0 a1 a2
        have b0 := HB1.out.cell 0
        have b1 := HB1.out.cell 1
        have b2 := HB1.out.cell 2
        go_wp2_with fail
        refine (CB.out _).mono ?_
        rintro e w2 ⟨rfl, hb1⟩
        have HA2 := Lib.hid (HA1.out.below hb1 HA1.out.lt)
        have HB2 := Lib.hid (HB1.out.below hb1 HB1.out.lt)
        have HW2 := Lib.hid (HW1.out.trans (hb1.mono HW1.out.size))
        clear hb1 HA1 HB1 HW1 b0 b1 b2
        have a0 := HA2.out.cell 0
        have a1 := HA2.out.cell 1
        have a2 := HA2.out.cell 2
        have b0 := HB2.out.cell 0
        have b1 := HB2.out.cell 1
        have b2 := HB2.out.cell 2
        go_wp2_with fail
        go_meet
        exact ⟨rfl, HA2, HB2, HW2⟩
    · have kn : (na == nb) = false := by simpa using hn
      clear hne
      go_wp2_with fail
      refine CA.out.mono ?_
      rintro e w1 ⟨rfl, hb1⟩
      have HA1 := Lib.hid (HA.out.below hb1 HA.out.lt)
      have HB1 := Lib.hid (HB.out.below hb1 HB.out.lt)
      have HW1 := Lib.hid (HW.out.trans (hb1.mono HW.out.size))
      clear hb1 HA HB HW a0 a1 a2
      have b0 := HB1.out.cell 0
      have b1 := HB1.out.cell 1
      have b2 := HB1.out.cell 2
      go_wp2_with fail
      refine (CB.out _).mono ?_
      rintro e w2 ⟨rfl, hb1⟩
      have HA2 := Lib.hid (HA1.out.below hb1 HA1.out.lt)
      have HB2 := Lib.hid (HB1.out.below hb1 HB1.out.lt)
      have HW2 := Lib.hid (HW1.out.trans (hb1.mono HW1.out.size))
      clear hb1 HA1 HB1 HW1 b0 b1 b2
      have a0 := HA2.out.cell 0
      have a1 := HA2.out.cell 1
      have a2 := HA2.out.cell 2
      have b0 := HB2.out.cell 0
      have b1 := HB2.out.cell 1
      have b2 := HB2.out.cell 2
      go_wp2_with fail
      go_meet
      exact ⟨rfl, HA2, HB2, HW2⟩
  case rest =>
    clear a0 a1 a2 HA HB HW CA CB hne
    obtain ⟨rfl, HA, HB, HW⟩ := hcut
    have a0 := HA.out.cell 0
    have a1 := HA.out.cell 1
    have a2 := HA.out.cell 2
    have b0 := HB.out.cell 0
    have b1 := HB.out.cell 1
    have b2 := HB.out.cell 2
    go_upto_region 4 with fail
    go_cut [6, 7] (fun x y wx => x = .int .i64 X ∧ y = .int .i64 Y ∧ Hid (Blk wx w.heap.size 24 #[.bool na, .string da, .int .i64 xa]) ∧ Hid (Blk wx (w.heap.size + 1) 24 #[.bool nb, .string db, .int .i64 xb]) ∧ Hid (Below w.heap.size w wx))
    case first =>
      clear SC HZ hMna HMN HMC HKA HKB
      go_region_with (first
        | (go_at_call_of 38 (Value.string da); refine (DA.out _).mono ?_; rintro e' w2 ⟨rfl, hb2⟩; have hA2 : Blk w2 w.heap.size 24 #[.bool na, .string da, .int .i64 xa] := Blk.below (by first | exact HA.out.drew | assumption) hb2 (by first | exact HA.out.lt | exact Blk.lt (by assumption)); have hB2 : Blk w2 (w.heap.size + 1) 24 #[.bool nb, .string db, .int .i64 xb] := Blk.below (by first | exact HB.out.drew | assumption) hb2 (by first | exact HB.out.lt | exact Blk.lt (by assumption)); have hW2 : Below w.heap.size w w2 := Below.trans (by first | exact HW.out.drew | assumption) (hb2.mono (by first | exact HW.out.size | exact Below.size (by assumption))); have a0' := hA2.cell 0; have a1' := hA2.cell 1; have a2' := hA2.cell 2; have b0' := hB2.cell 0; have b1' := hB2.cell 1; have b2' := hB2.cell 2; clear hb2)
        | (go_at_call_of 38 (Value.string db); refine (DB.out _).mono ?_; rintro e' w2 ⟨rfl, hb2⟩; have hA2 : Blk w2 w.heap.size 24 #[.bool na, .string da, .int .i64 xa] := Blk.below (by first | exact HA.out.drew | assumption) hb2 (by first | exact HA.out.lt | exact Blk.lt (by assumption)); have hB2 : Blk w2 (w.heap.size + 1) 24 #[.bool nb, .string db, .int .i64 xb] := Blk.below (by first | exact HB.out.drew | assumption) hb2 (by first | exact HB.out.lt | exact Blk.lt (by assumption)); have hW2 : Below w.heap.size w w2 := Below.trans (by first | exact HW.out.drew | assumption) (hb2.mono (by first | exact HW.out.size | exact Below.size (by assumption))); have a0' := hA2.cell 0; have a1' := hA2.cell 1; have a2' := hA2.cell 2; have b0' := hB2.cell 0; have b1' := hB2.cell 1; have b2' := hB2.cell 2; clear hb2))
      all_goals (go_wp2_with fail; go_meet; exact ⟨rfl, rfl, hA2, hB2, hW2⟩)
    case rest =>
      clear a0 a1 a2 b0 b1 b2 HA HB HW DA DB
      obtain ⟨rfl, rfl, HA, HB, HW⟩ := hcut
      have a0 := HA.out.cell 0
      have a1 := HA.out.cell 1
      have a2 := HA.out.cell 2
      have b0 := HB.out.cell 0
      have b1 := HB.out.cell 1
      have b2 := HB.out.cell 2
      by_cases hXY : X = Y
      · have kxy : (X != Y) = false := by simpa using hXY
        have HXY := Lib.hid hXY
        clear hXY
        go_upto_if 37 with fail
        go_cut [8] (fun m wy => m = .int .i64 M ∧ Hid (Blk wy w.heap.size 24 #[.bool na, .string da, .int .i64 xa]) ∧ Hid (Blk wy (w.heap.size + 1) 24 #[.bool nb, .string db, .int .i64 xb]) ∧ Hid (Below w.heap.size w wy))
        case first =>
          cases na with
          | true =>
            have hm : Hid (M = -1) := hMna.out
            go_wp2_with fail
            go_meet
            exact ⟨by rw [hm.out], HA, HB, HW⟩
          | false =>
            have hm : Hid (M = 1) := hMna.out
            go_wp2_with fail
            go_meet
            exact ⟨by rw [hm.out], HA, HB, HW⟩
        case rest =>
          clear a0 a1 a2 b0 b1 b2 HA HB HW
          obtain ⟨rfl, HA, HB, HW⟩ := hcut
          have a0 := HA.out.cell 0
          have a1 := HA.out.cell 1
          have a2 := HA.out.cell 2
          have b0 := HB.out.cell 0
          have b1 := HB.out.cell 1
          have b2 := HB.out.cell 2
          have hmn := HMN.out
          have hmc := HMC.out
          obtain ⟨KA, hKA⟩ : ∃ KA : Int, KA = (da.size : Int) + xa := ⟨_, rfl⟩
          obtain ⟨KB, hKB⟩ : ∃ KB : Int, KB = (db.size : Int) + xb := ⟨_, rfl⟩
          have hka : IntKind.i64.wrap ((da.size : Int) + xa) = KA := by rw [HKA.out, hKA]
          have hkb : IntKind.i64.wrap ((db.size : Int) + xb) = KB := by rw [HKB.out, hKB]
          have HZ2 : Hid (Z = if KA ≠ KB then (if KA < KB then -M else M) else M * C) := by
            unfold Hid
            rw [HZ.out, if_neg (by have := HXY.out; omega), hKA, hKB]
          clear hKA hKB HKA HKB HMN HMC HZ
          by_cases hK : KA = KB
          · have kk : (KA != KB) = false := by simpa using hK
            have hz : Hid (M * C = Z) := by unfold Hid; rw [HZ2.out, if_neg (by omega)]
            clear hK
            go_wp2_with fail
            go_quiet (fail)
            go_wp2_with fail
            refine (SC.out _).mono ?_
            rintro e w5 ⟨rfl, rfl⟩
            go_wp2_with fail
            go_ret
            exact ⟨congrArg (fun z => Ending.returned (.int .i64 z)) hz.out, below_drewN HW.out _⟩
          · have kk : (KA != KB) = true := by simpa using hK
            by_cases hlt : KA < KB
            · have hz : Hid (-M = Z) := by unfold Hid; rw [HZ2.out, if_pos hK, if_pos hlt]
              go_wp2_with fail
              go_quiet (fail)
              go_wp2_with fail
              go_ret
              exact ⟨congrArg (fun z => Ending.returned (.int .i64 z)) hz.out, below_drewN HW.out _⟩
            · have hz : Hid (M = Z) := by unfold Hid; rw [HZ2.out, if_pos hK, if_neg hlt]
              go_wp2_with fail
              go_quiet (fail)
              go_wp2_with fail
              go_ret
              exact ⟨congrArg (fun z => Ending.returned (.int .i64 z)) hz.out, below_drewN HW.out _⟩
      · have kxy : (X != Y) = true := by simpa using hXY
        by_cases hlt : X < Y
        · have hz : Hid (-1 = Z) := by unfold Hid; rw [HZ.out, if_pos hXY, if_pos hlt]
          go_wp2_with fail
          go_ret
          exact ⟨congrArg (fun z => Ending.returned (.int .i64 z)) hz.out, HW.out⟩
        · have hz : Hid (1 = Z) := by unfold Hid; rw [HZ.out, if_pos hXY, if_neg hlt]
          go_wp2_with fail
          go_ret
          exact ⟨congrArg (fun z => Ending.returned (.int .i64 z)) hz.out, HW.out⟩

set_option maxHeartbeats 2000000 in
/-- Where one of the two is no right one, or both are one. -/
theorem compare_none (na nb : Bool) (da db : ByteArray) (xa xb : Int) (w : World) (ha : da.size ≤ 1200) (hb : db.size ≤ 1200) (h : right ⟨na, da.data.toList, xa⟩ = false ∨ right ⟨nb, db.data.toList, xb⟩ = false ∨ (na = nb ∧ da = db ∧ xa = xb)) :
    Calls Tryd.prog 19 #[.agg #[.bool na, .string da, .int .i64 xa], .agg #[.bool nb, .string db, .int .i64 xb]] w fun e w' => e = .returned (.int .i64 0) ∧ Below w.heap.size w w' := by
  obtain ⟨hA, hB, hW⟩ := two_boxes w #[.bool na, .string da, .int .i64 xa] #[.bool nb, .string db, .int .i64 xb] 24
  have a0 := hA.cell 0
  have a1 := hA.cell 1
  have a2 := hA.cell 2
  have HA := Lib.hid hA
  have HB := Lib.hid hB
  have HW := Lib.hid hW
  clear hA hB hW
  have CA := Lib.hid (right_any na da xa ((w.alloc (.cells #[.bool na, .string da, .int .i64 xa] 24)).alloc (.cells #[.bool nb, .string db, .int .i64 xb] 24)) (by omega))
  have CB : Hid (∀ w, Calls Tryd.prog 15 #[.agg #[.bool nb, .string db, .int .i64 xb]] w fun e w' => e = .returned (.bool (right ⟨nb, db.data.toList, xb⟩)) ∧ Below w.heap.size w w') := fun w => right_any nb db xb w (by omega)
  cases h1 : right ⟨na, da.data.toList, xa⟩ with
  | false =>
    rw [h1] at CA
    clear h ha hb
    go_enter Tryd.func19, Tryd.ntmps19
    go_wp2_with fail
    refine CA.out.mono ?_
    rintro e w1 ⟨rfl, hb1⟩
    go_wp2_with fail
    go_ret
    exact ⟨rfl, HW.out.trans (hb1.mono HW.out.size)⟩
  | true =>
    rw [h1] at CA
    cases h2 : right ⟨nb, db.data.toList, xb⟩ with
    | false =>
      simp only [h2] at CB
      clear h ha hb
      go_enter Tryd.func19, Tryd.ntmps19
      go_wp2_with fail
      refine CA.out.mono ?_
      rintro e w1 ⟨rfl, hb1⟩
      have HB1 := Lib.hid (HB.out.below hb1 HB.out.lt)
      have HW1 := Lib.hid (HW.out.trans (hb1.mono HW.out.size))
      clear hb1 HA HB HW a0 a1 a2
      have b0 := HB1.out.cell 0
      have b1 := HB1.out.cell 1
      have b2 := HB1.out.cell 2
      go_wp2_with fail
      refine (CB.out _).mono ?_
      rintro e w2 ⟨rfl, hb1⟩
      go_wp2_with fail
      go_ret
      exact ⟨rfl, HW1.out.trans (hb1.mono HW1.out.size)⟩
    | true =>
      simp only [h2] at CB
      rw [h1, h2] at h
      obtain ⟨rfl, rfl, rfl⟩ : na = nb ∧ da = db ∧ xa = xb := by
        rcases h with h | h | h
        · cases h
        · cases h
        · exact h
      clear h ha hb
      go_enter Tryd.func19, Tryd.ntmps19
      go_wp2_with fail
      refine CA.out.mono ?_
      rintro e w1 ⟨rfl, hb1⟩
      have HA1 := Lib.hid (HA.out.below hb1 HA.out.lt)
      have HB1 := Lib.hid (HB.out.below hb1 HB.out.lt)
      have HW1 := Lib.hid (HW.out.trans (hb1.mono HW.out.size))
      clear hb1 HA HB HW a0 a1 a2
      have b0 := HB1.out.cell 0
      have b1 := HB1.out.cell 1
      have b2 := HB1.out.cell 2
      go_wp2_with fail
      refine (CB.out _).mono ?_
      rintro e w2 ⟨rfl, hb1⟩
      have HA2 := Lib.hid (HA1.out.below hb1 HA1.out.lt)
      have HB2 := Lib.hid (HB1.out.below hb1 HB1.out.lt)
      have HW2 := Lib.hid (HW1.out.trans (hb1.mono HW1.out.size))
      clear hb1 HA1 HB1 HW1 b0 b1 b2
      have a0 := HA2.out.cell 0
      have a1 := HA2.out.cell 1
      have a2 := HA2.out.cell 2
      have b0 := HB2.out.cell 0
      have b1 := HB2.out.cell 1
      have b2 := HB2.out.cell 2
      go_wp2_with fail
      go_ret
      exact ⟨rfl, HW2.out⟩

/-- num.Compare, whatever the two are. -/
theorem compare_any (na nb : Bool) (da db : ByteArray) (xa xb : Int) (w : World) (ha : da.size ≤ 1200) (hb : db.size ≤ 1200) :
    Calls Tryd.prog 19 #[.agg #[.bool na, .string da, .int .i64 xa], .agg #[.bool nb, .string db, .int .i64 xb]] w fun e w' => e = .returned (.int .i64 (NumPlain.cmpP ⟨na, da.data.toList, xa⟩ ⟨nb, db.data.toList, xb⟩)) ∧ Below w.heap.size w w' := by
  by_cases h : right ⟨na, da.data.toList, xa⟩ = false ∨ right ⟨nb, db.data.toList, xb⟩ = false ∨ (na = nb ∧ da = db ∧ xa = xb)
  · have hz : NumPlain.cmpP ⟨na, da.data.toList, xa⟩ ⟨nb, db.data.toList, xb⟩ = 0 := by
      unfold NumPlain.cmpP
      rw [if_pos]
      rcases h with h | h | ⟨rfl, rfl, rfl⟩
      · exact .inl h
      · exact .inr (.inl h)
      · exact .inr (.inr rfl)
    rw [hz]
    exact compare_none na nb da db xa xb w ha hb h
  · have h1 : right ⟨na, da.data.toList, xa⟩ = true := by cases e : right ⟨na, da.data.toList, xa⟩ with | true => rfl | false => exact absurd (.inl e) h
    have h2 : right ⟨nb, db.data.toList, xb⟩ = true := by cases e : right ⟨nb, db.data.toList, xb⟩ with | true => rfl | false => exact absurd (.inr (.inl e)) h
    exact compare_right na nb da db xa xb w h1 h2 (fun e => h (.inr (.inr e)))
end Go.Proofs.YtffcmfhicefahaaDoor
