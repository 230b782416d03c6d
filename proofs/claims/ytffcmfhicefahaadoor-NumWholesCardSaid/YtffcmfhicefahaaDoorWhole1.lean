/- The walks of num.Whole and num.Of. -/
import Derived.Test.YtffcmfhicefahaaDoorFmt1
import Derived.Test.YtffcmfhicefahaaDoorNumWhole
import Derived.Test.YtffcmfhicefahaaDoorLaw1
import Derived.Test.YtffcmfhicefahaaDoorWay1
import Derived.Lib.AtoiErrMem
namespace Go.Proofs.YtffcmfhicefahaaDoor
open Go.RowKit Go.Proofs.NumPlain

/-- The library's error variable holds an interface value. -/
def ErrW (w : World) : Prop := 3 < w.heap.size ∧ ∃ te pe, w.cell? ⟨3, 0, none⟩ = some (.iface te pe)
theorem ErrW.below {w w' : World} (h : ErrW w) (hb : Below w.heap.size w w') : ErrW w' := by
  obtain ⟨h1, te, pe, h2⟩ := h
  exact ⟨Nat.lt_of_lt_of_le h1 hb.size, te, pe, by rw [hb.cell (p := ⟨3, 0, none⟩) h1]; exact h2⟩

theorem pu_ok (s : ByteArray) (u : Nat) (hs : s.size ≤ 100000) (h : Lib.parseUintB 64 s.data.toList = .ok u) (w : World) :
    Calls Tryd.prog 41 #[.string s, .int .i64 10, .int .i64 64] w fun e w' => e = .returned (.tuple #[.int .u64 u, .nilIface]) ∧ Below w.heap.size w w' := by
  refine (Tryd.strconv_ParseUint_10_at64_ok s (by omega) u h w).mono ?_
  rintro e w' ⟨rfl, rfl | rfl⟩
  · exact ⟨rfl, Below.refl _ _⟩
  · exact ⟨rfl, Lib.bytesWorld_below _ _ _⟩
def RangeEnd (e : Ending) : Prop := ∃ (m : Int) (T : TypeId) (v : Value), e = .returned (.tuple #[.int .u64 m, .iface T v])
theorem pu_range (s : ByteArray) (hs : s.size ≤ 100000) (h : Lib.parseUintB 64 s.data.toList = .range) (w : World) (hE : ErrW w) :
    Calls Tryd.prog 41 #[.string s, .int .i64 10, .int .i64 64] w fun e w' => RangeEnd e ∧ Below w.heap.size w w' := by
  obtain ⟨_, te, pe, hc⟩ := hE
  refine (Tryd.strconv_ParseUint_10_at64_range s (by omega) h _ w hc (.inr ⟨te, pe, rfl⟩)).mono ?_
  rintro e w' ⟨N, rfl, _, _, hb⟩
  exact ⟨⟨_, _, _, rfl⟩, hb⟩

theorem fits_parts (neg : Bool) (l : List UInt8) (x : Int) : fits ⟨neg, l, x⟩ = (right ⟨neg, l, x⟩ && !neg && decide (0 ≤ x) && decide (x ≤ 20)) := rfl

set_option maxHeartbeats 4000000 in
theorem whole_no (neg : Bool) (d : ByteArray) (x : Int) (w : World) (hs : d.size ≤ 9223372036854775807) (hf : fits ⟨neg, d.data.toList, x⟩ = false) :
    Calls Tryd.prog 21 #[.agg #[.bool neg, .string d, .int .i64 x]] w fun e w' => e = .returned (.tuple #[.int .u64 0, .bool false]) ∧ Below w.heap.size w w' := by
  rw [fits_parts] at hf
  by_cases hr : right ⟨neg, d.data.toList, x⟩ = true
  · rw [hr] at hf
    have HR := Lib.hid hr
    clear hr
    cases neg with
    | true =>
      clear hf
      go_enter Tryd.func21, Tryd.ntmps21
      go_wp2_with fail
      refine (right_any true d x _ hs).mono ?_
      rw [HR.out]
      rintro e w1 ⟨rfl, hb⟩
      have HB1 := Lib.hid ((Blk.new w 24 #[.bool true, .string d, .int .i64 x]).below hb (by simp))
      have c0 := HB1.out.cell 0
      have HW := Lib.hid (((Below.refl w.heap.size w).alloc (Nat.le_refl _) (.cells #[.bool true, .string d, .int .i64 x] 24)).trans (hb.mono (by simp)))
      clear hb
      go_wp2_with fail
      go_ret2
      exact ⟨rfl, HW.out⟩
    | false =>
      by_cases hx : x < 0
      · clear hf
        go_enter Tryd.func21, Tryd.ntmps21
        go_wp2_with fail
        refine (right_any false d x _ hs).mono ?_
        rw [HR.out]
        rintro e w1 ⟨rfl, hb⟩
        have HB1 := Lib.hid ((Blk.new w 24 #[.bool false, .string d, .int .i64 x]).below hb (by simp))
        have c0 := HB1.out.cell 0
        have c2 := HB1.out.cell 2
        have HW := Lib.hid (((Below.refl w.heap.size w).alloc (Nat.le_refl _) (.cells #[.bool false, .string d, .int .i64 x] 24)).trans (hb.mono (by simp)))
        clear hb
        go_wp2_with fail
        go_ret2
        exact ⟨rfl, HW.out⟩
      · have hx2 : 20 < x := by
          simp only [Bool.not_false, Bool.true_and, Bool.and_eq_false_iff, decide_eq_false_iff_not] at hf
          omega
        clear hf
        go_enter Tryd.func21, Tryd.ntmps21
        go_wp2_with fail
        refine (right_any false d x _ hs).mono ?_
        rw [HR.out]
        rintro e w1 ⟨rfl, hb⟩
        have HB1 := Lib.hid ((Blk.new w 24 #[.bool false, .string d, .int .i64 x]).below hb (by simp))
        have c0 := HB1.out.cell 0
        have c2 := HB1.out.cell 2
        have HW := Lib.hid (((Below.refl w.heap.size w).alloc (Nat.le_refl _) (.cells #[.bool false, .string d, .int .i64 x] 24)).trans (hb.mono (by simp)))
        clear hb
        go_wp2_with fail
        go_ret2
        exact ⟨rfl, HW.out⟩
  · have hr2 := Bool.eq_false_iff.2 hr
    have HR := Lib.hid hr2
    clear hr hr2 hf
    go_enter Tryd.func21, Tryd.ntmps21
    go_wp2_with fail
    refine (right_any neg d x _ hs).mono ?_
    rw [HR.out]
    rintro e w1 ⟨rfl, hb⟩
    have HW := Lib.hid (((Below.refl w.heap.size w).alloc (Nat.le_refl _) (.cells #[.bool neg, .string d, .int .i64 x] 24)).trans (hb.mono (by simp)))
    clear hb
    go_wp2_with fail
    go_ret2
    exact ⟨rfl, HW.out⟩

theorem print_len (l : List UInt8) (x : Int) (hf : fits ⟨false, l, x⟩ = true) : (NumPlain.print ⟨false, l, x⟩).length ≤ 100000 := by
  rw [fits_parts] at hf
  simp only [Bool.not_false, Bool.and_true, Bool.and_eq_true, decide_eq_true_eq] at hf
  obtain ⟨⟨h1, h3⟩, h4⟩ := hf
  by_cases h0 : l = []
  · subst h0
    rw [print_zero _ h1 rfl]
    decide
  · obtain ⟨b1, _, _⟩ := right_bd _ _ _ h0 h1
    obtain ⟨e, rfl⟩ : ∃ e : Nat, x = e := ⟨x.toNat, by omega⟩
    rw [print_some _ h1 h0, mid_small _ _ _ (by omega)]
    simp [sgText]
    omega

set_option maxHeartbeats 4000000 in
theorem whole_yes (d : ByteArray) (x : Int) (w : World) (hs : d.size ≤ 9223372036854775807) (hf : fits ⟨false, d.data.toList, x⟩ = true) (hG : Glob w) (hE : ErrW w) (V : Int) (B : Bool)
    (hV : match run64 0 (digs ⟨false, d.data.toList, x⟩) with | some v => V = v ∧ B = true | none => V = 0 ∧ B = false) :
    Calls Tryd.prog 21 #[.agg #[.bool false, .string d, .int .i64 x]] w fun e w' => e = .returned (.tuple #[.int .u64 V, .bool B]) ∧ Below w.heap.size w w' := by
  have hp := whole_print _ hf
  have hl := print_len _ _ hf
  rw [fits_parts] at hf
  simp only [Bool.not_false, Bool.and_true, Bool.and_eq_true, decide_eq_true_eq] at hf
  obtain ⟨⟨h1, h3⟩, h4⟩ := hf
  obtain ⟨P, hP⟩ : ∃ P : ByteArray, P = ⟨(NumPlain.print ⟨false, d.data.toList, x⟩).toArray⟩ := ⟨_, rfl⟩
  have hPs : P.size ≤ 100000 := by rw [hP, Lib.size_eq]; exact hl
  have hPd : P.data.toList = NumPlain.print ⟨false, d.data.toList, x⟩ := by rw [hP]
  rw [← hPd] at hp
  have HR := Lib.hid h1
  have HP := Lib.hid hP
  have HPP := Lib.hid hp
  have HV := Lib.hid hV
  have HS := Lib.hid hs
  have HPs := Lib.hid hPs
  have HG := Lib.hid hG
  have HE := Lib.hid hE
  clear h1 hP hPd hp hV hl hPs hs hG hE
  go_enter Tryd.func21, Tryd.ntmps21
  go_wp2_with fail
  refine (right_any false d x _ HS.out).mono ?_
  rw [HR.out]
  rintro e w1 ⟨rfl, hb⟩
  have HB1 := Lib.hid ((Blk.new w 24 #[.bool false, .string d, .int .i64 x]).below hb (by simp))
  have c0 := HB1.out.cell 0
  have c1 := HB1.out.cell 1
  have c2 := HB1.out.cell 2
  have hW1 : Below w.heap.size w w1 := (((Below.refl w.heap.size w).alloc (Nat.le_refl _) (.cells #[.bool false, .string d, .int .i64 x] 24)).trans (hb.mono (by simp)))
  have HW := Lib.hid hW1
  have HG1 := Lib.hid (HG.out.below hW1)
  have HE1 := Lib.hid (HE.out.below hW1)
  clear hb HG HE hW1
  go_wp2_with fail
  refine (print_any false d x _ HS.out HG1.out).mono ?_
  rw [← HP.out]
  rintro e w2 ⟨rfl, hb⟩
  have HW2 := Lib.hid (HW.out.trans (hb.mono HW.out.size))
  have HE2 := Lib.hid (HE1.out.below hb)
  clear hb HE1
  go_wp2_with fail
  obtain ⟨q, hq⟩ : ∃ q, run64 0 (digs ⟨false, d.data.toList, x⟩) = q := ⟨_, rfl⟩
  have HV2 := HV.out
  have HPP2 := HPP.out
  rw [hq] at HV2 HPP2
  clear HV HPP hq
  cases q with
  | some v =>
    obtain ⟨rfl, rfl⟩ := HV2
    have HH := Lib.hid HPP2
    clear HPP2
    refine (pu_ok P v HPs.out HH.out _).mono ?_
    rintro e w3 ⟨rfl, hb⟩
    have HW3 := Lib.hid (HW2.out.trans (hb.mono HW2.out.size))
    clear hb
    go_wp2_with fail
    go_ret2
    exact ⟨rfl, HW3.out⟩
  | none =>
    obtain ⟨rfl, rfl⟩ := HV2
    have HH := Lib.hid HPP2
    clear HPP2
    refine (pu_range P HPs.out HH.out _ HE2.out).mono ?_
    rintro e w3 ⟨⟨m, T, v, rfl⟩, hb⟩
    have HW3 := Lib.hid (HW2.out.trans (hb.mono HW2.out.size))
    clear hb
    go_wp2_with fail
    go_ret2
    exact ⟨rfl, HW3.out⟩

/-- What both tell. -/
def wv (n : Nm) : Int := match whole n with | some v => v | none => 0
def wb (n : Nm) : Bool := (whole n).isSome
theorem whole_any (neg : Bool) (d : ByteArray) (x : Int) (w : World) (hs : d.size ≤ 9223372036854775807) (hG : Glob w) (hE : ErrW w) :
    Calls Tryd.prog 21 #[.agg #[.bool neg, .string d, .int .i64 x]] w fun e w' => e = .returned (.tuple #[.int .u64 (wv ⟨neg, d.data.toList, x⟩), .bool (wb ⟨neg, d.data.toList, x⟩)]) ∧ Below w.heap.size w w' := by
  by_cases hf : fits ⟨neg, d.data.toList, x⟩ = true
  · have hneg : neg = false := by
      rw [fits_parts] at hf
      cases neg with
      | true => simp at hf
      | false => rfl
    subst hneg
    refine whole_yes d x w hs hf hG hE _ _ ?_
    unfold wv wb whole
    rw [if_pos hf]
    cases run64 0 (digs ⟨false, d.data.toList, x⟩) <;> exact ⟨rfl, rfl⟩
  · have hn : whole ⟨neg, d.data.toList, x⟩ = none := by unfold whole; rw [if_neg hf]
    have e1 : wv ⟨neg, d.data.toList, x⟩ = 0 := by unfold wv; rw [hn]
    have e2 : wb ⟨neg, d.data.toList, x⟩ = false := by unfold wb; rw [hn]; rfl
    rw [e1, e2]
    exact whole_no neg d x w hs (Bool.eq_false_iff.2 hf)

set_option maxHeartbeats 4000000 in
theorem of_any (v : Nat) (hv : v < 18446744073709551616) (w : World) (hG : Glob w) :
    Calls Tryd.prog 23 #[.int .u64 v] w fun e w' => e = .returned (nv (ofN v)) ∧ Below w.heap.size w w' := by
  have hlen : (Lib.decDigits v).length ≤ 20 := by rw [Lib.decDigits_length]; exact Lib.nDigits_le20 v hv
  obtain ⟨S, hS⟩ : ∃ S : ByteArray, S = ⟨(Lib.decDigits v).toArray⟩ := ⟨_, rfl⟩
  have hSs : S.size ≤ 100000 := by rw [hS, Lib.size_eq]; exact Nat.le_trans hlen (by omega)
  have CF : ∀ w, Glob w → Calls Tryd.prog 43 #[.int .u64 v, .int .i64 10] w fun e w' => e = .returned (.string S) ∧ Below w.heap.size w w' := fun w hG => by rw [hS]; exact format_any v w hv hG
  obtain ⟨⟨neg, D, x⟩, hn⟩ : ∃ n, n = ofN v := ⟨_, rfl⟩
  have CP : ∀ w, Glob w → Calls Tryd.prog 10 #[.string S] w fun e w' => e = .returned (.tuple #[nv (ofN v), .int .i64 0]) ∧ Below w.heap.size w w' := fun w hG =>
    parse_all S w (ofN v, 0) (by rw [hS, ← of_err v hv]; exact way_a v) hSs hG
  rw [← hn] at CP ⊢
  unfold nv at CP ⊢
  obtain ⟨d, hd⟩ : ∃ d : ByteArray, d = ⟨D.toArray⟩ := ⟨_, rfl⟩
  simp only [← hd] at CP ⊢
  have HCF := Lib.hid CF
  have HCP := Lib.hid CP
  have HG := Lib.hid hG
  clear CF CP hG hn hd hSs hlen hS hv
  go_enter Tryd.func23, Tryd.ntmps23
  go_wp2_with fail
  have hW1 : Below w.heap.size w (w.alloc (.cells #[.bool false, .string ⟨#[]⟩, .int .i64 0] 24)) := (Below.refl _ _).alloc (Nat.le_refl _) _
  have HB := Lib.hid (Blk.new w 24 #[.bool false, .string ⟨#[]⟩, .int .i64 0])
  have HW1 := Lib.hid hW1
  have HG1 := Lib.hid (HG.out.below hW1)
  clear hW1 HG
  refine (HCF.out _ HG1.out).mono ?_
  rintro e w1 ⟨rfl, hb⟩
  have HB1 := Lib.hid (HB.out.below hb HB.out.lt)
  have HW2 := Lib.hid (HW1.out.trans (hb.mono HW1.out.size))
  have HG2 := Lib.hid (HG1.out.below hb)
  clear hb HB HW1 HG1
  go_wp2_with fail
  refine (HCP.out _ HG2.out).mono ?_
  rintro e w2 ⟨rfl, hb⟩
  have hBa := HB1.out.below hb HB1.out.lt
  have HBa := Lib.hid hBa
  have hlt := hBa.lt
  have HW3 := Lib.hid (HW2.out.trans (hb.mono HW2.out.size))
  have c0 := hBa.cell 0
  have c1 := hBa.cell 1
  have c2 := hBa.cell 2
  have f0 := hBa.frozen 0
  have f1 := hBa.frozen 1
  have f2 := hBa.frozen 2
  clear hb hBa HB1 HW2 HG2
  have hne : ¬ w.heap.size = w2.heap.size := by omega
  go_wp2_with fail
  have HB3 := Lib.hid ((((HBa.out.set_ 0 (.bool neg)).set_ 1 (.string d)).set_ 2 (.int .i64 x)).alloc (.cells #[.bool neg, .string d, .int .i64 x] 24))
  refine bodyPost_ret (v := .agg #[.bool neg, .string d, .int .i64 x]) (by obtain ⟨a, b, c⟩ := res_cells HB3.out; simp [results, Tryd.results23, go_sem, a, b, c]) rfl ⟨rfl, ?_⟩
  exact (((HW3.out.setCell (p := ⟨w.heap.size, 0, none⟩) (Nat.le_refl _) _).setCell (p := ⟨w.heap.size, 1, none⟩) (Nat.le_refl _) _).setCell (p := ⟨w.heap.size, 2, none⟩) (Nat.le_refl _) _).alloc (by simp; omega) _
end Go.Proofs.YtffcmfhicefahaaDoor
