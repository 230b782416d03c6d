/- The walk of num.Print. -/
import Derived.Test.YtffcmfhicefahaaDoorWalk5
import Derived.Test.YtffcmfhicefahaaDoorNumPrint
import Derived.Deep.RegionWith
import Derived.Lib.ItoaLen
namespace Go.Proofs.YtffcmfhicefahaaDoor
open Go.RowKit Go.Proofs.NumPlain

theorem emp_of (d : ByteArray) (h : d.data.toList = []) : d = ByteArray.empty := by
  obtain ⟨⟨l⟩⟩ := d
  simp only at h
  rw [h]; rfl
theorem bytes_ret (S : ByteArray) (l : List UInt8) (h : S.data.toList = l) : (Value.string S) = .string ⟨l.toArray⟩ := by rw [bytes_eta S l h]
theorem below_grow {B : Nat} {a w : World} (h : Below B a w) (hB : B ≤ w.heap.size) (k : Nat) (os : Array Obj) : Below B a (Sort.grow (w.drewN k) os) := by
  refine ⟨h.os, h.tape, h.output, by rw [Sort.size_grow]; exact Nat.le_trans h.size (Nat.le_add_right _ _), fun b hb => ?_⟩
  exact (Sort.heap_grow_old (w.drewN k) os (k := b) (show b < w.heap.size by omega)).trans (h.block b hb)
theorem Glob.drew {w : World} (h : Glob w) : Glob w.drew := h.below (Below.refl _ _).drew
theorem itoa_any (R : ByteArray) (x : Int) (h0 : -9223372036854775808 ≤ x) (h1 : x ≤ 9223372036854775807) (h : R.data.toList = Lib.itoa x) (w : World) (hG : Glob w) :
    Calls Tryd.prog 36 #[.int .i64 x] w fun e w' => e = .returned (.string R) ∧ Below w.heap.size w w' := by
  refine (Tryd.strconv_Itoa x h0 h1 w hG.pow).mono ?_
  rintro e' w' ⟨rfl, k, os, rfl⟩
  exact ⟨by rw [bytes_ret R _ h], below_grow (Below.refl _ _) (Nat.le_refl _) k os⟩
theorem repeat_any (R : ByteArray) (e : Nat) (he : e ≤ 1000) (h : R.data.toList = List.replicate e 48) (w : World) :
    Calls Tryd.prog 35 #[.string ⟨#[48]⟩, .int .i64 e] w fun e w' => e = .returned (.string R) ∧ Below w.heap.size w w' := by
  refine (Tryd.strings_Repeat ⟨#[48]⟩ e w (by omega) (by show 1 * e ≤ _; omega)).mono ?_
  rintro e' w' ⟨rfl, hb⟩
  refine ⟨?_, hb⟩
  rw [bytes_ret R _ h, show Lib.repeatL (⟨#[48]⟩ : ByteArray).data.toList e = List.replicate e 48 from repeat_nought e]
theorem right_bd (neg : Bool) (l : List UInt8) (x : Int) (h : l ≠ []) (hr : right ⟨neg, l, x⟩ = true) : l.length ≤ 1000 ∧ x ≤ 10000 ∧ -10000 ≤ x := by
  rw [right_some _ _ _ h] at hr
  simp only [Bool.and_eq_true, decide_eq_true_eq] at hr
  omega
theorem right_nil (neg : Bool) (x : Int) (hr : right ⟨neg, [], x⟩ = true) : neg = false ∧ x = 0 := by
  unfold right at hr
  simpa using hr

set_option maxHeartbeats 2000000 in
theorem print_wrong_any (neg : Bool) (d : ByteArray) (x : Int) (w : World) (hs : d.size ≤ 9223372036854775807) (hr : right ⟨neg, d.data.toList, x⟩ = false) :
    Calls Tryd.prog 14 #[.agg #[.bool neg, .string d, .int .i64 x]] w fun e w' => e = .returned (.string ⟨#[]⟩) ∧ Below w.heap.size w w' := by
  have HR := Lib.hid hr
  clear hr
  go_enter Tryd.func14, Tryd.ntmps14
  go_wp2_with fail
  refine (right_any neg d x _ hs).mono ?_
  rw [HR.out]
  rintro e w1 ⟨rfl, hb⟩
  have HB := Lib.hid hb
  clear hb
  go_wp2_with fail
  go_ret
  exact ⟨rfl, (((Below.refl _ _).alloc (Nat.le_refl _) _).trans (HB.out.mono (by simp)))⟩

set_option maxHeartbeats 2000000 in
theorem print_zero_any (w : World) :
    Calls Tryd.prog 14 #[.agg #[.bool false, .string ⟨#[]⟩, .int .i64 0]] w fun e w' => e = .returned (.string ⟨#[48]⟩) ∧ Below w.heap.size w w' := by
  go_enter Tryd.func14, Tryd.ntmps14
  go_wp2_with fail
  refine (right_any false ⟨#[]⟩ 0 _ (by decide)).mono ?_
  rw [show right ⟨false, (⟨#[]⟩ : ByteArray).data.toList, 0⟩ = true from rfl]
  rintro e w1 ⟨rfl, hb⟩
  have hB1 := (Blk.new w 24 #[.bool false, .string ⟨#[]⟩, .int .i64 0]).below hb (by simp)
  have c1 := hB1.cell 1
  have HB := Lib.hid hb
  clear hb hB1
  go_wp2_with fail
  go_ret
  exact ⟨rfl, (((Below.refl _ _).alloc (Nat.le_refl _) _).trans (HB.out.mono (by simp)))⟩


set_option maxHeartbeats 4000000 in
theorem print_good_any (neg : Bool) (d : ByteArray) (x : Int) (w : World) (h0 : ¬ d = ByteArray.empty) (hG : Glob w) (hr : right ⟨neg, d.data.toList, x⟩ = true) :
    Calls Tryd.prog 14 #[.agg #[.bool neg, .string d, .int .i64 x]] w fun e w' => e = .returned (.string ⟨(sgText neg ++ mid ⟨neg, d.data.toList, x⟩).toArray⟩) ∧ Below w.heap.size w w' := by
  have hn : d.data.toList ≠ [] := fun h => h0 (emp_of d h)
  have hd0 : 0 < d.size := by
    rw [Lib.size_eq]; exact List.length_pos_iff.2 hn
  obtain ⟨b1, b2, b3⟩ := right_bd _ _ _ hn hr
  rw [← Lib.size_eq] at b1
  have HR := Lib.hid hr
  have HN := Lib.hid hn
  have HG := Lib.hid hG
  clear hr hn hG
  have hz : (((d.size : Nat) : Int) == 0) = false := by rw [beq_eq_false_iff_ne]; omega
  obtain ⟨S, hS⟩ : ∃ S : ByteArray, S = ⟨(sgText neg).toArray⟩ := ⟨_, rfl⟩
  have hSl : S.data.toList = sgText neg := by rw [hS]
  have hS1 : S.size ≤ 1 := by rw [Lib.size_eq, hSl]; cases neg <;> simp [sgText]
  have HS := Lib.hid hS
  have HSl := Lib.hid hSl
  clear hS hSl
  go_enter Tryd.func14, Tryd.ntmps14
  go_wp2_with fail
  refine (right_any neg d x _ (by omega)).mono ?_
  rw [HR.out]
  rintro e w1 ⟨rfl, hb⟩
  have hB1 := (Blk.new w 24 #[.bool neg, .string d, .int .i64 x]).below hb (by simp)
  have hW1 : Below w.heap.size w w1 := (((Below.refl _ _).alloc (Nat.le_refl _) _).trans (hb.mono (by simp)))
  have HB1 := Lib.hid hB1
  have HW1 := Lib.hid hW1
  have HG1 := Lib.hid (HG.out.below hW1)
  clear HG hb hB1 hW1
  have c0 := HB1.out.cell 0
  have c1 := HB1.out.cell 1
  have c2 := HB1.out.cell 2
  go_upto_if 17 with fail
  go_cut [4] (fun s wx => s = .string S ∧ wx = w1)
  case first =>
    cases neg with
    | true =>
      go_wp2_with fail
      go_meet
      exact ⟨by rw [HS.out]; rfl, rfl⟩
    | false =>
      go_wp2_with fail
      go_meet
      exact ⟨by rw [HS.out]; rfl, rfl⟩
  case rest =>
    obtain ⟨rfl, rfl⟩ := hcut
    have hx0 : IntKind.i64.wrap (-x) = -x := IntWalk.i64_in _ (by omega)
    by_cases hA : 0 ≤ x ∧ x ≤ 20
    · obtain ⟨hA1, hA2⟩ := hA
      obtain ⟨e, rfl⟩ : ∃ e : Nat, x = e := ⟨x.toNat, by omega⟩
      have he20 : e ≤ 20 := by omega
      have hcat : ¬ 9223372036854775807 < S.size + d.size := by omega
      obtain ⟨R, hR⟩ : ∃ R : ByteArray, R.data.toList = List.replicate e 48 := ⟨⟨(List.replicate e 48).toArray⟩, rfl⟩
      have hRs : R.size = e := by rw [Lib.size_eq, hR, List.length_replicate]
      have hcat2 : ¬ 9223372036854775807 < S.size + d.size + R.size := by omega
      have HRep := Lib.hid hR
      clear hR
      go_wp2_with fail
      go_region_with (first
        | (go_at_call 35; refine (repeat_any R e ?_ HRep.out _).mono ?_; (omega); rintro e' w2 ⟨rfl, hb2⟩; have hB2 := HB1.out.drew.below hb2 HB1.out.lt; have c1' := hB2.cell 1; have c2' := hB2.cell 2))
      all_goals (go_wp2_with fail; go_ret; exact ⟨congrArg Ending.returned (bytes_ret (S ++ d ++ R) _ (by rw [data_append, data_append, HSl.out, HRep.out, mid_small _ _ _ he20, List.append_assoc])), HW1.out.drew.trans (hb2.mono HW1.out.size)⟩)
    · by_cases hB : 20 < -x ∨ -x < 0
      · obtain ⟨R, hR⟩ : ∃ R : ByteArray, R = ⟨(Lib.itoa x).toArray⟩ := ⟨_, rfl⟩
        have hRl : R.data.toList = Lib.itoa x := by rw [hR]
        have hRs : R.size ≤ 21 := by rw [Lib.size_eq, hRl]; exact Lib.itoa_length_le x (by omega) (by omega)
        have hcat : ¬ 9223372036854775807 < S.size + d.size := by omega
        have hcat1 : ¬ 9223372036854775807 < S.size + d.size + 1 := by omega
        have hcat2 : ¬ 9223372036854775807 < S.size + d.size + 1 + R.size := by omega
        have HRep := Lib.hid hRl
        have hw2 : Hid (mid ⟨neg, d.data.toList, x⟩ = d.data.toList ++ 101 :: Lib.itoa x) := mid_power _ _ _ (by omega)
        clear hR hRl
        by_cases hx1 : 0 ≤ x
        · have hx2 : ¬ x ≤ 20 := by omega
          have hx3 : -x < 0 := by omega
          have hx4 : ¬ 20 < -x := by omega
          clear hA hB
          go_wp2_with fail
          go_region_with (first
            | (go_at_call 36; refine (itoa_any R x ?_ ?_ HRep.out _ ?_).mono ?_; (omega); (omega); exact HG1.out.drew; rintro e' w2 ⟨rfl, hb2⟩; have hB2 := HB1.out.drew.below hb2 HB1.out.lt; have c1' := hB2.cell 1; have c2' := hB2.cell 2))
          all_goals (go_wp2_with fail; go_ret; exact ⟨congrArg Ending.returned (bytes_ret (S ++ d ++ ⟨#[101]⟩ ++ R) (sgText neg ++ mid ⟨neg, d.data.toList, _⟩) (by rw [data_append, data_append, data_append, HSl.out, HRep.out, hw2.out]; simp)), HW1.out.drew.trans (hb2.mono HW1.out.size)⟩)
        · have hx3 : ¬ -x < 0 := by omega
          have hx4 : 20 < -x := by omega
          clear hA hB
          go_wp2_with fail
          go_region_with (first
            | (go_at_call 36; refine (itoa_any R x ?_ ?_ HRep.out _ ?_).mono ?_; (omega); (omega); exact HG1.out.drew; rintro e' w2 ⟨rfl, hb2⟩; have hB2 := HB1.out.drew.below hb2 HB1.out.lt; have c1' := hB2.cell 1; have c2' := hB2.cell 2))
          all_goals (go_wp2_with fail; go_ret; exact ⟨congrArg Ending.returned (bytes_ret (S ++ d ++ ⟨#[101]⟩ ++ R) (sgText neg ++ mid ⟨neg, d.data.toList, _⟩) (by rw [data_append, data_append, data_append, HSl.out, HRep.out, hw2.out]; simp)), HW1.out.drew.trans (hb2.mono HW1.out.size)⟩)
      · obtain ⟨m, rfl⟩ : ∃ m : Nat, x = -(m : Int) := ⟨(-x).toNat, by omega⟩
        have hm1 : 1 ≤ m := by omega
        have hm2 : m ≤ 20 := by omega
        have hx1 : ¬ (0 : Int) ≤ -(m : Int) := by omega
        have hx3 : ¬ (m : Int) < 0 := by omega
        have hx4 : ¬ (20 : Int) < (m : Int) := by omega
        have hx5 : (decide ((20 : Int) < (m : Int))) = false := by simp; omega
        have hcat : ¬ 9223372036854775807 < S.size + d.size := by omega
        clear hA hB b2 b3
        rw [Int.neg_neg] at hx0
        by_cases hk : m < d.size
        · obtain ⟨q, hq⟩ : ∃ q : Nat, d.size = q + m := ⟨d.size - m, by omega⟩
          have hk2 : (m : Int) < (d.size : Int) := by omega
          have hsub : IntKind.i64.wrap ((d.size : Int) - (m : Int)) = (q : Int) := by rw [IntWalk.i64_in _ (by omega)]; omega
          have hsub2 : (d.size : Int) - (m : Int) = (q : Int) := by omega
          have hq1 : (q : Int) ≤ (d.size : Int) := by omega
          have hw2 : Hid (mid ⟨neg, d.data.toList, -(m : Int)⟩ = d.data.toList.take q ++ 46 :: d.data.toList.drop q) := mid_point _ _ _ _ hm1 hm2 (by rw [← Lib.size_eq]; omega) (by omega)
          have hs1 : (d.extract 0 q).size = q := by rw [ByteArray.size_extract]; omega
          have hs2 : (d.extract q d.size).size = m := by rw [ByteArray.size_extract]; omega
          have hcat1 : ¬ 9223372036854775807 < S.size + (d.extract 0 q).size := by omega
          have hcat2 : ¬ 9223372036854775807 < S.size + (d.extract 0 q).size + 1 := by omega
          have hcat3 : ¬ 9223372036854775807 < S.size + (d.extract 0 q).size + 1 + (d.extract q d.size).size := by omega
          have he2 : Hid ((d.data.toList.drop q).take (d.size - q) = d.data.toList.drop q) := List.take_of_length_le (by rw [List.length_drop, ← Lib.size_eq]; exact Nat.le_refl _)
          have HQ := Lib.hid hq
          clear hq
          go_wp2_with fail
          go_quiet (fail)
          go_wp2_with fail; go_ret; exact ⟨congrArg Ending.returned (bytes_ret (S ++ d.extract 0 q ++ ⟨#[46]⟩ ++ d.extract q d.size) (sgText neg ++ mid ⟨neg, d.data.toList, _⟩) (by rw [data_append, data_append, data_append, HSl.out, hw2.out, data_extract, data_extract, List.drop_zero, Nat.sub_zero, he2.out]; simp)), below_drewN HW1.out _⟩
        · obtain ⟨q, hq⟩ : ∃ q : Nat, m = q + d.size := ⟨m - d.size, by omega⟩
          have hk2 : ¬ (m : Int) < (d.size : Int) := by omega
          have hsub : IntKind.i64.wrap ((m : Int) - (d.size : Int)) = (q : Int) := by rw [IntWalk.i64_in _ (by omega)]; omega
          have hw2 : Hid (mid ⟨neg, d.data.toList, -(m : Int)⟩ = 48 :: 46 :: (List.replicate q 48 ++ d.data.toList)) := mid_behind _ _ _ _ hm1 hm2 (by rw [← Lib.size_eq]; omega)
          obtain ⟨R, hR⟩ : ∃ R : ByteArray, R.data.toList = List.replicate q 48 := ⟨⟨(List.replicate q 48).toArray⟩, rfl⟩
          have hRs : R.size = q := by rw [Lib.size_eq, hR, List.length_replicate]
          have hcat1 : ¬ 9223372036854775807 < S.size + 2 := by omega
          have hcat2 : ¬ 9223372036854775807 < S.size + 2 + R.size := by omega
          have hcat3 : ¬ 9223372036854775807 < S.size + 2 + R.size + d.size := by omega
          have HRep := Lib.hid hR
          have hq20 : q ≤ 20 := by omega
          have hk0 : ¬ d.size > m := by omega
          clear hR hq hRs
          go_wp2_with fail
          go_region_with (first
            | (go_at_call 35; refine (repeat_any R q ?_ HRep.out _).mono ?_; (omega); rintro e' w2 ⟨rfl, hb2⟩; have hB2 := HB1.out.drew.below hb2 HB1.out.lt; have c1' := hB2.cell 1; have c2' := hB2.cell 2))
          all_goals (go_wp2_with fail; go_ret; exact ⟨congrArg Ending.returned (bytes_ret (S ++ ⟨#[48, 46]⟩ ++ R ++ d) (sgText neg ++ mid ⟨neg, d.data.toList, _⟩) (by rw [data_append, data_append, data_append, HSl.out, HRep.out, hw2.out]; simp)), HW1.out.drew.trans (hb2.mono HW1.out.size)⟩)

/-- num.Print, whatever the number is. -/
theorem print_any (neg : Bool) (d : ByteArray) (x : Int) (w : World) (hs : d.size ≤ 9223372036854775807) (hG : Glob w) :
    Calls Tryd.prog 14 #[.agg #[.bool neg, .string d, .int .i64 x]] w fun e w' => e = .returned (.string ⟨(NumPlain.print ⟨neg, d.data.toList, x⟩).toArray⟩) ∧ Below w.heap.size w w' := by
  by_cases hr : right ⟨neg, d.data.toList, x⟩ = true
  · by_cases h0 : d = ByteArray.empty
    · subst h0
      obtain ⟨rfl, rfl⟩ := right_nil neg x hr
      rw [print_zero _ hr rfl]
      exact print_zero_any w
    · rw [print_some _ hr (fun h => h0 (emp_of d h))]
      exact print_good_any neg d x w h0 hG hr
  · have hr := Bool.eq_false_iff.2 hr
    rw [print_wrong _ hr]
    exact print_wrong_any neg d x w hs hr
end Go.Proofs.YtffcmfhicefahaaDoor
