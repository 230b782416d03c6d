/- The walk of the statement NumPrints. -/
import Derived.Test.YtffcmfhicefahaaDoorLaw1
import Derived.Test.YtffcmfhicefahaaDoorRef8
import Derived.Test.YtffcmfhicefahaaDoorNumMove
namespace Go.Proofs.YtffcmfhicefahaaDoor
open Go.RowKit Go.Proofs.NumPlain

theorem print_len (n : Nm) : (NumPlain.print n).length ≤ 1100 := by
  by_cases h : right n = true
  · by_cases h0 : n.dig = []
    · rw [print_zero n h h0]; simp
    · have r := right_rt n h h0
      have h1 := r.len
      have h2 := r.hi
      have h3 := r.lo
      rw [print_some n h h0, List.length_append]
      have hsg : (sgText n.neg).length ≤ 1 := by cases n.neg <;> simp [sgText]
      have hm : (NumPlain.mid n).length ≤ 1050 := by
        unfold NumPlain.mid
        have hi := Lib.itoa_length_le n.exp (by omega) (by omega)
        split
        · rw [List.length_append, List.length_replicate]; omega
        · split
          · rw [List.length_append, List.length_cons]; omega
          · split
            · rw [List.length_append, List.length_cons, List.length_take, List.length_drop]; omega
            · rw [List.length_cons, List.length_cons, List.length_append, List.length_replicate]; omega
      omega
  · rw [print_wrong n (Bool.eq_false_iff.2 h)]; simp
theorem print_some_ne (n : Nm) (h : right n = true) : (NumPlain.print n).isEmpty = false := by
  by_cases h0 : n.dig = []
  · rw [print_zero n h h0]; rfl
  · rw [print_some n h h0]
    have hm : NumPlain.mid n ≠ [] := by
      unfold NumPlain.mid
      split
      · simp [h0]
      · split
        · simp
        · split <;> simp
    cases e : sgText n.neg ++ NumPlain.mid n with
    | nil => exact absurd (List.append_eq_nil_iff.1 e).2 hm
    | cons _ _ => rfl

set_option maxHeartbeats 4000000 in
theorem numPrints_true (neg : Bool) (d : ByteArray) (x : Int) (w : World) (hd : d.size ≤ 1200) (hG : Glob w) (hr : right ⟨neg, d.data.toList, x⟩ = true) : Calls Tryd.prog 4 #[.agg #[.bool neg, .string d, .int .i64 x]] w fun e w' => e = .returned (.bool true) ∧ Below w.heap.size w w' := by
  have hW := (Below.refl w.heap.size w).alloc (Nat.le_refl _) (.cells #[.bool neg, .string d, .int .i64 x] 24)
  have hA := Blk.new w 24 #[.bool neg, .string d, .int .i64 x]
  have HG := Lib.hid (hG.below hW)
  have HGw := Lib.hid hG
  have HW0 := Lib.hid hW
  have HA0 := Lib.hid hA
  have hlen : ¬ (1200 : Int) < (d.size : Int) := by omega
  obtain ⟨P, hP⟩ : ∃ P : ByteArray, P = ⟨(NumPlain.print ⟨neg, d.data.toList, x⟩).toArray⟩ := ⟨_, rfl⟩
  have hPl : P.data.toList = NumPlain.print ⟨neg, d.data.toList, x⟩ := by rw [hP]
  have CP : Hid (∀ w, Calls Tryd.prog 17 #[.agg #[.bool neg, .string d, .int .i64 x]] w fun e w' => e = .returned (.string P) ∧ Below w.heap.size w w') := fun w => by rw [hP]; exact rprint_any neg d x w (by omega)
  have CQ : Hid (∀ w, Glob w → Calls Tryd.prog 14 #[.agg #[.bool neg, .string d, .int .i64 x]] w fun e w' => e = .returned (.string P) ∧ Below w.heap.size w w') := fun w hG => by rw [hP]; exact print_any neg d x w (by omega) hG
  have CR : Hid (∀ w, Calls Tryd.prog 15 #[.agg #[.bool neg, .string d, .int .i64 x]] w fun e w' => e = .returned (.bool true) ∧ Below w.heap.size w w') := fun w => by rw [← hr]; exact right_any neg d x w (by omega)
  have CS : Hid (∀ w, Calls Tryd.prog 16 #[.agg #[.bool neg, .string d, .int .i64 x]] w fun e w' => e = .returned (.bool true) ∧ Below w.heap.size w w') := fun w => by rw [← hr]; exact rright_any neg d x w (by omega)
  have hPs : P.size ≤ 1100 := by rw [Lib.size_eq, hPl]; exact print_len _
  obtain ⟨I, pt, F, ex, hg, hrn, h48, hfin⟩ := print_text _ hr
  have hscan : NumPlain.scan P.data.toList = P.size := by
    rw [Lib.size_eq, hPl, hrn]; exact scan_render _ _ _ _ _ hg h48
  have hpar : Parsed P.data.toList (⟨neg, d.data.toList, x⟩, 0) := .inr ⟨neg, I, pt, F, ex, hg, by rw [hPl, hrn], by rw [hscan, Lib.size_eq], hfin.symm⟩
  have hd2 : d = ⟨d.data.toList.toArray⟩ := bytes_eta d _ rfl
  have CT : Hid (∀ w, Glob w → Calls Tryd.prog 10 #[.string P] w fun e w' => e = .returned (.tuple #[.agg #[.bool neg, .string d, .int .i64 x], .int .i64 0]) ∧ Below w.heap.size w w') := fun w hG => by
    have := parse_all P w _ hpar (by omega) hG
    unfold nv at this
    rw [← hd2] at this
    exact this
  have CU : Hid (∀ w, Glob w → Calls Tryd.prog 12 #[.string P] w fun e w' => e = .returned (.int .i64 (P.size : Nat)) ∧ w = w') := fun w hG => by
    rw [← hscan]; exact scan_any P w (by omega) hG
  have hemp : P.toList.isEmpty = false := by
    rw [isEmpty_iff, hPl, print_some_ne _ hr]
  clear hP hPl hr hg hrn h48 hfin hscan hpar hd2 hG hW hA hd
  go_enter Tryd.func4, Tryd.ntmps4
  go_wp2_with fail
  refine (wakes_any _ HG.out).mono ?_
  rintro e w1 ⟨rfl, hb⟩
  have HA1 := Lib.hid (HA0.out.below hb HA0.out.lt)
  have HW1 := Lib.hid (HW0.out.trans (hb.mono HW0.out.size))
  have HG1 := Lib.hid (HG.out.below hb)
  clear hb HA0 HW0 HG
  have a0 := HA1.out.cell 0
  have a1 := HA1.out.cell 1
  have a2 := HA1.out.cell 2
  go_wp2_with fail
  refine (CQ.out _ HG1.out).mono ?_
  rintro e w1b ⟨rfl, hb⟩
  have HA := Lib.hid (HA1.out.below hb HA1.out.lt)
  have HW := Lib.hid (HW1.out.trans (hb.mono HW1.out.size))
  have HG := Lib.hid (HG1.out.below hb)
  clear hb HA1 HW1 a0 a1 a2 CQ
  have a0 := HA.out.cell 0
  have a1 := HA.out.cell 1
  have a2 := HA.out.cell 2
  go_upto_region 6 with fail
  go_cut [24] (fun b wx => b = .bool false ∧ Hid (Blk wx w.heap.size 24 #[.bool neg, .string d, .int .i64 x]) ∧ Hid (Below w.heap.size w wx) ∧ Hid (Glob wx))
  case first =>
    have HG0 := HG
    go_region_with (first
        | (go_at_call 15; refine (CR.out _).mono ?_; rintro e' w2 ⟨rfl, hb2⟩; have hA2 : Blk w2 w.heap.size 24 #[.bool neg, .string d, .int .i64 x] := Blk.below (by first | exact HA.out.drew | assumption) hb2 (by first | exact HA.out.lt | exact Blk.lt (by assumption)); have hW2 : Below w.heap.size w w2 := Below.trans (by first | exact HW.out.drew | assumption) (hb2.mono (by first | exact HW.out.size | exact Below.size (by assumption))); have a0' := hA2.cell 0; have a1' := hA2.cell 1; have a2' := hA2.cell 2; clear hb2)
        | (go_at_call 16; refine (CS.out _).mono ?_; rintro e' w2 ⟨rfl, hb2⟩; have hA2 : Blk w2 w.heap.size 24 #[.bool neg, .string d, .int .i64 x] := Blk.below (by first | exact HA.out.drew | assumption) hb2 (by first | exact HA.out.lt | exact Blk.lt (by assumption)); have hW2 : Below w.heap.size w w2 := Below.trans (by first | exact HW.out.drew | assumption) (hb2.mono (by first | exact HW.out.size | exact Below.size (by assumption))); have a0' := hA2.cell 0; have a1' := hA2.cell 1; have a2' := hA2.cell 2; clear hb2)
        | (go_at_call 17; refine (CP.out _).mono ?_; rintro e' w2 ⟨rfl, hb2⟩; have hA2 : Blk w2 w.heap.size 24 #[.bool neg, .string d, .int .i64 x] := Blk.below (by first | exact HA.out.drew | assumption) hb2 (by first | exact HA.out.lt | exact Blk.lt (by assumption)); have hW2 : Below w.heap.size w w2 := Below.trans (by first | exact HW.out.drew | assumption) (hb2.mono (by first | exact HW.out.size | exact Below.size (by assumption))); have a0' := hA2.cell 0; have a1' := hA2.cell 1; have a2' := hA2.cell 2; clear hb2))
    all_goals (go_wp2_with fail; go_meet; exact ⟨rfl, hA2, hW2, HGw.out.below hW2⟩)
  case rest =>
    obtain ⟨rfl, HA', HW', HG'⟩ := hcut
    clear HA HW HG HG1 a0 a1 a2 CP CR CS
    go_wp2_with fail
    refine (CT.out _ HG'.out).mono ?_
    rintro e w3 ⟨rfl, hb⟩
    have hA3 := (HA'.out.below hb HA'.out.lt).alloc (.cells #[.bool neg, .string d, .int .i64 x] 24)
    have hB3 := Blk.new w3 24 #[.bool neg, .string d, .int .i64 x]
    have HW3 := Lib.hid ((HW'.out.trans (hb.mono HW'.out.size)).alloc (Nat.le_trans HW'.out.size hb.size) (.cells #[.bool neg, .string d, .int .i64 x] 24))
    have HG3 := Lib.hid (HG'.out.below (hb.alloc hb.size (.cells #[.bool neg, .string d, .int .i64 x] 24)))
    clear hb HA' HW' HG'
    have a0 := hA3.cell 0
    have a1 := hA3.cell 1
    have a2 := hA3.cell 2
    have b0 := hB3.cell 0
    have b1 := hB3.cell 1
    have b2 := hB3.cell 2
    clear hA3 hB3
    go_wp2_with fail
    refine (CU.out _ HG3.out).mono ?_
    rintro e w4 ⟨rfl, rfl⟩
    go_wp2_with fail
    go_ret
    exact ⟨rfl, HW3.out⟩

set_option maxHeartbeats 4000000 in
theorem numPrints_false (neg : Bool) (d : ByteArray) (x : Int) (w : World) (hd : d.size ≤ 1200) (hG : Glob w) (hr : right ⟨neg, d.data.toList, x⟩ = false) : Calls Tryd.prog 4 #[.agg #[.bool neg, .string d, .int .i64 x]] w fun e w' => e = .returned (.bool true) ∧ Below w.heap.size w w' := by
  have hW := (Below.refl w.heap.size w).alloc (Nat.le_refl _) (.cells #[.bool neg, .string d, .int .i64 x] 24)
  have hA := Blk.new w 24 #[.bool neg, .string d, .int .i64 x]
  have HG := Lib.hid (hG.below hW)
  have HGw := Lib.hid hG
  have HW0 := Lib.hid hW
  have HA0 := Lib.hid hA
  have hlen : ¬ (1200 : Int) < (d.size : Int) := by omega
  obtain ⟨P, hP⟩ : ∃ P : ByteArray, P = ⟨(NumPlain.print ⟨neg, d.data.toList, x⟩).toArray⟩ := ⟨_, rfl⟩
  have hPl : P.data.toList = NumPlain.print ⟨neg, d.data.toList, x⟩ := by rw [hP]
  have CP : Hid (∀ w, Calls Tryd.prog 17 #[.agg #[.bool neg, .string d, .int .i64 x]] w fun e w' => e = .returned (.string P) ∧ Below w.heap.size w w') := fun w => by rw [hP]; exact rprint_any neg d x w (by omega)
  have CQ : Hid (∀ w, Glob w → Calls Tryd.prog 14 #[.agg #[.bool neg, .string d, .int .i64 x]] w fun e w' => e = .returned (.string P) ∧ Below w.heap.size w w') := fun w hG => by rw [hP]; exact print_any neg d x w (by omega) hG
  have CR : Hid (∀ w, Calls Tryd.prog 15 #[.agg #[.bool neg, .string d, .int .i64 x]] w fun e w' => e = .returned (.bool false) ∧ Below w.heap.size w w') := fun w => by rw [← hr]; exact right_any neg d x w (by omega)
  have CS : Hid (∀ w, Calls Tryd.prog 16 #[.agg #[.bool neg, .string d, .int .i64 x]] w fun e w' => e = .returned (.bool false) ∧ Below w.heap.size w w') := fun w => by rw [← hr]; exact rright_any neg d x w (by omega)
  have hPs : P.size ≤ 1100 := by rw [Lib.size_eq, hPl]; exact print_len _
  have hP0 : P = ⟨#[]⟩ := by rw [hP, print_wrong _ hr]
  have CT : Hid (∀ w, Glob w → Calls Tryd.prog 10 #[.string ⟨#[]⟩] w fun e w' => e = .returned (.tuple #[.agg #[.bool false, .string ⟨#[]⟩, .int .i64 0], .int .i64 3]) ∧ Below w.heap.size w w') := fun w hG => parse_all ⟨#[]⟩ w (zero, 3) (.inl ⟨.inl rfl, rfl⟩) (by decide) hG
  subst hP0
  clear hP hPl hr hG hW hA hd hPs
  go_enter Tryd.func4, Tryd.ntmps4
  go_wp2_with fail
  refine (wakes_any _ HG.out).mono ?_
  rintro e w1 ⟨rfl, hb⟩
  have HA1 := Lib.hid (HA0.out.below hb HA0.out.lt)
  have HW1 := Lib.hid (HW0.out.trans (hb.mono HW0.out.size))
  have HG1 := Lib.hid (HG.out.below hb)
  clear hb HA0 HW0 HG
  have a0 := HA1.out.cell 0
  have a1 := HA1.out.cell 1
  have a2 := HA1.out.cell 2
  go_wp2_with fail
  refine (CQ.out _ HG1.out).mono ?_
  rintro e w1b ⟨rfl, hb⟩
  have HA := Lib.hid (HA1.out.below hb HA1.out.lt)
  have HW := Lib.hid (HW1.out.trans (hb.mono HW1.out.size))
  have HG := Lib.hid (HG1.out.below hb)
  clear hb HA1 HW1 a0 a1 a2 CQ
  have a0 := HA.out.cell 0
  have a1 := HA.out.cell 1
  have a2 := HA.out.cell 2
  go_upto_region 6 with fail
  go_cut [24] (fun b wx => b = .bool false ∧ Hid (Blk wx w.heap.size 24 #[.bool neg, .string d, .int .i64 x]) ∧ Hid (Below w.heap.size w wx) ∧ Hid (Glob wx))
  case first =>
    have HG0 := HG
    go_region_with (first
        | (go_at_call 15; refine (CR.out _).mono ?_; rintro e' w2 ⟨rfl, hb2⟩; have hA2 : Blk w2 w.heap.size 24 #[.bool neg, .string d, .int .i64 x] := Blk.below (by first | exact HA.out.drew | assumption) hb2 (by first | exact HA.out.lt | exact Blk.lt (by assumption)); have hW2 : Below w.heap.size w w2 := Below.trans (by first | exact HW.out.drew | assumption) (hb2.mono (by first | exact HW.out.size | exact Below.size (by assumption))); have a0' := hA2.cell 0; have a1' := hA2.cell 1; have a2' := hA2.cell 2; clear hb2)
        | (go_at_call 16; refine (CS.out _).mono ?_; rintro e' w2 ⟨rfl, hb2⟩; have hA2 : Blk w2 w.heap.size 24 #[.bool neg, .string d, .int .i64 x] := Blk.below (by first | exact HA.out.drew | assumption) hb2 (by first | exact HA.out.lt | exact Blk.lt (by assumption)); have hW2 : Below w.heap.size w w2 := Below.trans (by first | exact HW.out.drew | assumption) (hb2.mono (by first | exact HW.out.size | exact Below.size (by assumption))); have a0' := hA2.cell 0; have a1' := hA2.cell 1; have a2' := hA2.cell 2; clear hb2)
        | (go_at_call 17; refine (CP.out _).mono ?_; rintro e' w2 ⟨rfl, hb2⟩; have hA2 : Blk w2 w.heap.size 24 #[.bool neg, .string d, .int .i64 x] := Blk.below (by first | exact HA.out.drew | assumption) hb2 (by first | exact HA.out.lt | exact Blk.lt (by assumption)); have hW2 : Below w.heap.size w w2 := Below.trans (by first | exact HW.out.drew | assumption) (hb2.mono (by first | exact HW.out.size | exact Below.size (by assumption))); have a0' := hA2.cell 0; have a1' := hA2.cell 1; have a2' := hA2.cell 2; clear hb2))
    all_goals (go_wp2_with fail; go_meet; exact ⟨rfl, hA2, hW2, HGw.out.below hW2⟩)
  case rest =>
    obtain ⟨rfl, HA', HW', HG'⟩ := hcut
    clear HA HW HG HG1 a0 a1 a2 CP CR CS
    go_wp2_with fail
    refine (CT.out _ HG'.out).mono ?_
    rintro e w3 ⟨rfl, hb⟩
    have HW3 := Lib.hid ((HW'.out.trans (hb.mono HW'.out.size)).alloc (Nat.le_trans HW'.out.size hb.size) (.cells #[.bool false, .string ⟨#[]⟩, .int .i64 0] 24))
    clear hb HA' HW' HG'
    go_wp2_with fail
    go_ret
    exact ⟨rfl, HW3.out⟩

theorem numPrints_any (neg : Bool) (d : ByteArray) (x : Int) (w : World) (hs : d.size ≤ 9223372036854775807) (hG : Glob w) : Calls Tryd.prog 4 #[.agg #[.bool neg, .string d, .int .i64 x]] w fun e w' => e = .returned (.bool true) ∧ Below w.heap.size w w' := by
  by_cases hlen : 1200 < d.size
  · have hlen2 : (1200 : Int) < (d.size : Int) := by omega
    have hW := (Below.refl w.heap.size w).alloc (Nat.le_refl _) (.cells #[.bool neg, .string d, .int .i64 x] 24)
    have hA := Blk.new w 24 #[.bool neg, .string d, .int .i64 x]
    have HG := Lib.hid (hG.below hW)
    have HW := Lib.hid hW
    have HA := Lib.hid hA
    clear hW hA hG
    go_enter Tryd.func4, Tryd.ntmps4
    go_wp2_with fail
    refine (wakes_any _ HG.out).mono ?_
    rintro e w1 ⟨rfl, hb⟩
    have a1 := (HA.out.below hb HA.out.lt).cell 1
    have HW1 := Lib.hid (HW.out.trans (hb.mono HW.out.size))
    clear hb HW HA HG
    go_wp2_with fail
    go_ret
    exact ⟨rfl, HW1.out⟩
  · cases hr : right ⟨neg, d.data.toList, x⟩ with
    | true => exact numPrints_true neg d x w (by omega) hG hr
    | false => exact numPrints_false neg d x w (by omega) hG hr
end Go.Proofs.YtffcmfhicefahaaDoor
