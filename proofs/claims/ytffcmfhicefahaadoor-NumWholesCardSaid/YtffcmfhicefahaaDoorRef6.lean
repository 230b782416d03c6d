/- The walk of the reference's Print. -/
import Derived.Test.YtffcmfhicefahaaDoorRef5
import Derived.Test.YtffcmfhicefahaaDoorRef3
namespace Go.Proofs.YtffcmfhicefahaaDoor
open Go.RowKit Go.Proofs.NumPlain

theorem noughts_same (k : Nat) (R : ByteArray) (w : World) (hk : k ≤ 100) (hR : R.data.toList = List.replicate k 48) :
    Calls Tryd.prog 37 #[.int .i64 k] w fun e w' => e = .returned (.string R) ∧ w' = w :=
  (noughts_any k R w hk hR).mono fun _ _ h => ⟨h.1, h.2.symm⟩

set_option maxHeartbeats 2000000 in
theorem rprint_wrong_any (neg : Bool) (d : ByteArray) (x : Int) (w : World) (hs : d.size ≤ 9223372036854775806) (hr : right ⟨neg, d.data.toList, x⟩ = false) :
    Calls Tryd.prog 17 #[.agg #[.bool neg, .string d, .int .i64 x]] w fun e w' => e = .returned (.string ⟨#[]⟩) ∧ Below w.heap.size w w' := by
  have HR := Lib.hid hr
  clear hr
  go_enter Tryd.func17, Tryd.ntmps17
  go_wp2_with fail
  refine (rright_any neg d x _ hs).mono ?_
  rw [HR.out]
  rintro e w1 ⟨rfl, hb⟩
  have HB := Lib.hid hb
  clear hb
  go_wp2_with fail
  go_ret
  exact ⟨rfl, (((Below.refl _ _).alloc (Nat.le_refl _) _).trans (HB.out.mono (by simp)))⟩

set_option maxHeartbeats 2000000 in
theorem rprint_zero_any (w : World) :
    Calls Tryd.prog 17 #[.agg #[.bool false, .string ⟨#[]⟩, .int .i64 0]] w fun e w' => e = .returned (.string ⟨#[48]⟩) ∧ Below w.heap.size w w' := by
  go_enter Tryd.func17, Tryd.ntmps17
  go_wp2_with fail
  refine (rright_any false ⟨#[]⟩ 0 _ (by decide)).mono ?_
  rw [show right ⟨false, (⟨#[]⟩ : ByteArray).data.toList, 0⟩ = true from rfl]
  rintro e w1 ⟨rfl, hb⟩
  have hB1 := (Blk.new w 24 #[.bool false, .string ⟨#[]⟩, .int .i64 0]).below hb (by simp)
  have c1 := hB1.cell 1
  have HB := Lib.hid hb
  clear hb hB1
  go_wp2_with fail
  go_ret
  exact ⟨rfl, (((Below.refl _ _).alloc (Nat.le_refl _) _).trans (HB.out.mono (by simp)))⟩

set_option maxRecDepth 100000 in
set_option maxHeartbeats 4000000 in
theorem rprint_good_any (neg : Bool) (d : ByteArray) (x : Int) (w : World) (h0 : ¬ d = ByteArray.empty) (hr : right ⟨neg, d.data.toList, x⟩ = true) :
    Calls Tryd.prog 17 #[.agg #[.bool neg, .string d, .int .i64 x]] w fun e w' => e = .returned (.string ⟨(sgText neg ++ mid ⟨neg, d.data.toList, x⟩).toArray⟩) ∧ Below w.heap.size w w' := by
  have hn : d.data.toList ≠ [] := fun h => h0 (emp_of d h)
  have hd0 : 0 < d.size := by
    rw [Lib.size_eq]; exact List.length_pos_iff.2 hn
  obtain ⟨b1, b2, b3⟩ := right_bd _ _ _ hn hr
  rw [← Lib.size_eq] at b1
  have HR := Lib.hid hr
  have HN := Lib.hid hn
  clear hr hn
  have hz : (((d.size : Nat) : Int) == 0) = false := by rw [beq_eq_false_iff_ne]; omega
  obtain ⟨S, hS⟩ : ∃ S : ByteArray, S = ⟨(sgText neg).toArray⟩ := ⟨_, rfl⟩
  have hSl : S.data.toList = sgText neg := by rw [hS]
  have hS1 : S.size ≤ 1 := by rw [Lib.size_eq, hSl]; cases neg <;> simp [sgText]
  have HS := Lib.hid hS
  have HSl := Lib.hid hSl
  clear hS hSl
  go_enter Tryd.func17, Tryd.ntmps17
  go_wp2_with fail
  refine (rright_any neg d x _ (by omega)).mono ?_
  rw [HR.out]
  rintro e w1 ⟨rfl, hb⟩
  have hB1 := (Blk.new w 24 #[.bool neg, .string d, .int .i64 x]).below hb (by simp)
  have hW1 : Below w.heap.size w w1 := (((Below.refl _ _).alloc (Nat.le_refl _) _).trans (hb.mono (by simp)))
  have HB1 := Lib.hid hB1
  have HW1 := Lib.hid hW1
  clear hb hB1 hW1
  have c0 := HB1.out.cell 0
  have c1 := HB1.out.cell 1
  have c2 := HB1.out.cell 2
  go_upto_if 13 with fail
  go_cut [3] (fun s wx => s = .string S ∧ wx = w1)
  case first =>
    cases neg with
    | true =>
      go_wp2_with fail
      go_meet
      exact ⟨by rw [HS.out]; rfl, rfl⟩
    | false =>
      go_wp2_with fail
      go_meet
      exact ⟨by rw [HS.out]; rfl, rfl⟩
  case rest =>
    obtain ⟨rfl, rfl⟩ := hcut
    have hcat : ¬ 9223372036854775807 < S.size + d.size := by omega
    by_cases hA : 0 ≤ x
    · obtain ⟨e, rfl⟩ : ∃ e : Nat, x = e := ⟨x.toNat, by omega⟩
      by_cases he20 : e ≤ 20
      · obtain ⟨R, hR⟩ : ∃ R : ByteArray, R.data.toList = List.replicate e 48 := ⟨⟨(List.replicate e 48).toArray⟩, rfl⟩
        have hRs : R.size = e := by rw [Lib.size_eq, hR, List.length_replicate]
        have hcat2 : ¬ 9223372036854775807 < S.size + d.size + R.size := by omega
        have HRep := Lib.hid hR
        have ht1 : ¬ (20 : Int) < (e : Int) := by omega
        have ht2 : ¬ (e : Int) < -20 := by omega
        clear hR b2 b3
        go_wp2_with fail
        go_quiet ((go_at_call 37; exact Calls.quiet_of_same (noughts_same e R _ (by omega) HRep.out)))
        go_wp2_with fail
        go_ret
        exact ⟨congrArg Ending.returned (bytes_ret (S ++ d ++ R) (sgText neg ++ mid ⟨neg, d.data.toList, _⟩) (by rw [data_append, data_append, HSl.out, HRep.out, mid_small _ _ _ he20, List.append_assoc])), below_drewN HW1.out _⟩
      · have ht1 : (20 : Int) < (e : Int) := by omega
        obtain ⟨R, hR⟩ : ∃ R : ByteArray, R = ⟨(Lib.decDigits e).toArray⟩ := ⟨_, rfl⟩
        have hRl : R.data.toList = Lib.decDigits e := by rw [hR]
        have hRs : R.size ≤ 20 := by rw [Lib.size_eq, hRl, Lib.decDigits_length]; exact Lib.nDigits_le20 e (by omega)
        have hcat1 : ¬ 9223372036854775807 < S.size + d.size + 1 := by omega
        have hcat2 : ¬ 9223372036854775807 < S.size + d.size + 1 + R.size := by omega
        have hw2 : Hid (mid ⟨neg, d.data.toList, (e : Int)⟩ = d.data.toList ++ 101 :: Lib.decDigits e) := by
          unfold Hid; rw [mid_power _ _ _ (by omega), Lib.itoa_nonneg]
        have he : e ≤ 1000000000000 := by omega
        have HRep := Lib.hid hRl
        have HR2 := Lib.hid hR
        have HE := Lib.hid he
        clear hRl hR he b2 b3
        go_wp2_with fail
        go_region_with (first
          | (go_at_call 18; refine (digits_any e _ HE.out).mono ?_; rw [← HR2.out]; rintro e' w2 ⟨rfl, hb2⟩; have hB2 := HB1.out.drew.below hb2 HB1.out.lt; have c1' := hB2.cell 1; have c2' := hB2.cell 2))
        all_goals (go_wp2_with fail; go_ret; exact ⟨congrArg Ending.returned (bytes_ret (S ++ d ++ ⟨#[101]⟩ ++ R) (sgText neg ++ mid ⟨neg, d.data.toList, _⟩) (by rw [data_append, data_append, data_append, HSl.out, HRep.out, hw2.out]; simp)), HW1.out.drew.trans (hb2.mono HW1.out.size)⟩)
    · obtain ⟨m, rfl⟩ : ∃ m : Nat, x = -(m : Int) := ⟨(-x).toNat, by omega⟩
      have hm1 : 1 ≤ m := by omega
      have ht1 : ¬ (20 : Int) < -(m : Int) := by omega
      have hx0 : IntKind.i64.wrap (m : Int) = (m : Int) := IntWalk.i64_in _ (by omega)
      by_cases hB : 20 < m
      · have ht2 : -(m : Int) < -20 := by omega
        obtain ⟨R, hR⟩ : ∃ R : ByteArray, R = ⟨(Lib.decDigits m).toArray⟩ := ⟨_, rfl⟩
        have hRl : R.data.toList = Lib.decDigits m := by rw [hR]
        have hRs : R.size ≤ 20 := by rw [Lib.size_eq, hRl, Lib.decDigits_length]; exact Lib.nDigits_le20 m (by omega)
        have hcat1 : ¬ 9223372036854775807 < S.size + d.size + 2 := by omega
        have hcat2 : ¬ 9223372036854775807 < S.size + d.size + 2 + R.size := by omega
        have hw2 : Hid (mid ⟨neg, d.data.toList, -(m : Int)⟩ = d.data.toList ++ 101 :: 45 :: Lib.decDigits m) := by
          unfold Hid; rw [mid_power _ _ _ (by omega), Lib.itoa_neg m (by omega)]
        have he : m ≤ 1000000000000 := by omega
        have HRep := Lib.hid hRl
        have HR2 := Lib.hid hR
        have HE := Lib.hid he
        clear hRl hR he b2 b3 hA
        go_wp2_with fail
        go_region_with (first
          | (go_at_call 18; refine (digits_any m _ HE.out).mono ?_; rw [← HR2.out]; rintro e' w2 ⟨rfl, hb2⟩; have hB2 := HB1.out.drew.below hb2 HB1.out.lt; have c1' := hB2.cell 1; have c2' := hB2.cell 2))
        all_goals (go_wp2_with fail; go_ret; exact ⟨congrArg Ending.returned (bytes_ret (S ++ d ++ ⟨#[101, 45]⟩ ++ R) (sgText neg ++ mid ⟨neg, d.data.toList, _⟩) (by rw [data_append, data_append, data_append, HSl.out, HRep.out, hw2.out]; simp)), HW1.out.drew.trans (hb2.mono HW1.out.size)⟩)
      · have ht2 : ¬ -(m : Int) < -20 := by omega
        have hx1 : ¬ (0 : Int) ≤ -(m : Int) := by omega
        have hm2 : m ≤ 20 := by omega
        clear b2 b3 hA
        by_cases hk : m < d.size
        · obtain ⟨q, hq⟩ : ∃ q : Nat, d.size = q + m := ⟨d.size - m, by omega⟩
          have hk2 : (m : Int) < (d.size : Int) := by omega
          have hsub : IntKind.i64.wrap ((d.size : Int) + -(m : Int)) = (q : Int) := by rw [IntWalk.i64_in _ (by omega)]; omega
          have hsub2 : (d.size : Int) + -(m : Int) = (q : Int) := by omega
          have hq1 : (q : Int) ≤ (d.size : Int) := by omega
          have hw2 : Hid (mid ⟨neg, d.data.toList, -(m : Int)⟩ = d.data.toList.take q ++ 46 :: d.data.toList.drop q) := mid_point _ _ _ _ hm1 hm2 (by rw [← Lib.size_eq]; omega) (by omega)
          have hs1 : (d.extract 0 q).size = q := by rw [ByteArray.size_extract]; omega
          have hs2 : (d.extract q d.size).size = m := by rw [ByteArray.size_extract]; omega
          have hcat1 : ¬ 9223372036854775807 < S.size + (d.extract 0 q).size := by omega
          have hcat2 : ¬ 9223372036854775807 < S.size + (d.extract 0 q).size + 1 := by omega
          have hcat3 : ¬ 9223372036854775807 < S.size + (d.extract 0 q).size + 1 + (d.extract q d.size).size := by omega
          have he2 : Hid ((d.data.toList.drop q).take (d.size - q) = d.data.toList.drop q) := List.take_of_length_le (by rw [List.length_drop, ← Lib.size_eq]; exact Nat.le_refl _)
          have HQ := Lib.hid hq
          clear hq
          go_wp2_with fail
          go_quiet (fail)
          go_wp2_with fail; go_ret; exact ⟨congrArg Ending.returned (bytes_ret (S ++ d.extract 0 q ++ ⟨#[46]⟩ ++ d.extract q d.size) (sgText neg ++ mid ⟨neg, d.data.toList, _⟩) (by rw [data_append, data_append, data_append, HSl.out, hw2.out, data_extract, data_extract, List.drop_zero, Nat.sub_zero, he2.out]; simp)), below_drewN HW1.out _⟩
        · obtain ⟨q, hq⟩ : ∃ q : Nat, m = q + d.size := ⟨m - d.size, by omega⟩
          have hk2 : ¬ (m : Int) < (d.size : Int) := by omega
          have hsub : IntKind.i64.wrap ((m : Int) - (d.size : Int)) = (q : Int) := by rw [IntWalk.i64_in _ (by omega)]; omega
          have hw2 : Hid (mid ⟨neg, d.data.toList, -(m : Int)⟩ = 48 :: 46 :: (List.replicate q 48 ++ d.data.toList)) := mid_behind _ _ _ _ hm1 hm2 (by rw [← Lib.size_eq]; omega)
          obtain ⟨R, hR⟩ : ∃ R : ByteArray, R.data.toList = List.replicate q 48 := ⟨⟨(List.replicate q 48).toArray⟩, rfl⟩
          have hRs : R.size = q := by rw [Lib.size_eq, hR, List.length_replicate]
          have hcat1 : ¬ 9223372036854775807 < S.size + 2 := by omega
          have hcat2 : ¬ 9223372036854775807 < S.size + 2 + R.size := by omega
          have hcat3 : ¬ 9223372036854775807 < S.size + 2 + R.size + d.size := by omega
          have HRep := Lib.hid hR
          have hq20 : q ≤ 20 := by omega
          have hk0 : ¬ d.size > m := by omega
          clear hR hq hRs
          go_wp2_with fail
          go_quiet ((go_at_call 37; exact Calls.quiet_of_same (noughts_same q R _ (by omega) HRep.out)))
          go_wp2_with fail; go_ret; exact ⟨congrArg Ending.returned (bytes_ret (S ++ ⟨#[48, 46]⟩ ++ R ++ d) (sgText neg ++ mid ⟨neg, d.data.toList, _⟩) (by rw [data_append, data_append, data_append, HSl.out, HRep.out, hw2.out]; simp)), below_drewN HW1.out _⟩

/-- The reference's Print, whatever the number is. -/
theorem rprint_any (neg : Bool) (d : ByteArray) (x : Int) (w : World) (hs : d.size ≤ 9223372036854775806) :
    Calls Tryd.prog 17 #[.agg #[.bool neg, .string d, .int .i64 x]] w fun e w' => e = .returned (.string ⟨(NumPlain.print ⟨neg, d.data.toList, x⟩).toArray⟩) ∧ Below w.heap.size w w' := by
  by_cases hr : right ⟨neg, d.data.toList, x⟩ = true
  · by_cases h0 : d = ByteArray.empty
    · subst h0
      obtain ⟨rfl, rfl⟩ := right_nil neg x hr
      rw [print_zero _ hr rfl]
      exact rprint_zero_any w
    · rw [print_some _ hr (fun h => h0 (emp_of d h))]
      exact rprint_good_any neg d x w h0 hr
  · have hr := Bool.eq_false_iff.2 hr
    rw [print_wrong _ hr]
    exact rprint_wrong_any neg d x w hs hr
end Go.Proofs.YtffcmfhicefahaaDoor
