/- The reference's Right. -/
import Derived.Test.YtffcmfhicefahaaDoorRef2
namespace Go.Proofs.YtffcmfhicefahaaDoor
open Go.RowKit Go.Proofs.NumPlain

theorem all_take (s : ByteArray) (k : Nat) (h : k < s.size) (h1 : (s.data.toList.take k).all isD = true) (h2 : isD s[k] = true) : (s.data.toList.take (k + 1)).all isD = true := by
  rw [take_snoc s k h, List.all_append, h1]; simp [h2]
theorem all_take_no (s : ByteArray) (k : Nat) (h : k < s.size) (h2 : isD s[k] = false) : s.data.toList.all isD = false := by
  have hm : s[k] ∈ s.data.toList := by
    have : s.data.toList[k]? = some s[k] := by rw [List.getElem?_eq_getElem (by simpa using h)]; rfl
    exact List.mem_of_getElem? this
  cases ha : s.data.toList.all isD with
  | false => rfl
  | true => rw [List.all_eq_true.1 ha _ hm] at h2; cases h2

set_option maxHeartbeats 2000000 in
theorem rright_none (neg : Bool) (x : Int) (w : World) :
    Calls Tryd.prog 16 #[.agg #[.bool neg, .string ⟨#[]⟩, .int .i64 x]] w fun e w' => e = .returned (.bool (!neg && x == 0)) ∧ Below w.heap.size w w' := by
  cases neg
  all_goals
    go_enter Tryd.func16, Tryd.ntmps16
    go_wp2_with fail
    go_ret
    exact ⟨by simp, (Below.refl _ _).alloc (Nat.le_refl _) _⟩

set_option maxHeartbeats 4000000 in
set_option maxRecDepth 100000 in
theorem rright_walk (neg : Bool) (d : ByteArray) (x : Int) (w : World) (hs : d.size ≤ 9223372036854775806) (h0 : 0 < d.size) :
    Calls Tryd.prog 16 #[.agg #[.bool neg, .string d, .int .i64 x]] w fun e w' => e = .returned (.bool (right ⟨neg, d.data.toList, x⟩)) ∧ Below w.heap.size w w' := by
  have hne : d.data.toList ≠ [] := fun h => by
    have : d.size = 0 := by rw [Lib.size_eq, h]; rfl
    omega
  have hR := right_some neg d.data.toList x hne
  rw [get_first d h0, get_last d h0, ne_48, ne_48, ← Lib.size_eq] at hR
  have HR := Lib.hid hR
  have hz : (((d.size : Nat) : Int) == 0) = false := by rw [beq_eq_false_iff_ne]; omega
  clear hR hne
  by_cases h1 : 1000 < d.size ∨ x < -10000 ∨ 10000 < x
  · have hv : Hid (right ⟨neg, d.data.toList, x⟩ = false) := by
      unfold Hid; rw [HR.out]
      rcases h1 with h | h | h
      · rw [decide_eq_false (by omega : ¬ d.size ≤ 1000)]; simp
      · rw [decide_eq_false (by omega : ¬ -10000 ≤ x)]; simp
      · rw [decide_eq_false (by omega : ¬ x ≤ 10000)]; simp
    clear HR
    by_cases g1 : 1000 < d.size
    all_goals by_cases g2 : x < -10000
    all_goals by_cases g3 : 10000 < x
    all_goals first | (exfalso; omega) | skip
    all_goals clear h1
    all_goals
      go_enter Tryd.func16, Tryd.ntmps16
      go_wp2_with fail
      go_ret
      exact ⟨by rw [hv.out]; rfl, (Below.refl _ _).alloc (Nat.le_refl _) _⟩
  · have g1 : d.size ≤ 1000 := by omega
    have g2 : -10000 ≤ x := by omega
    have g3 : x ≤ 10000 := by omega
    clear h1
    have hv : Hid (right ⟨neg, d.data.toList, x⟩ = (d.data.toList.all isD && (((d[0].toNat : Nat) : Int) != 48) && (((d[d.size - 1].toNat : Nat) : Int) != 48))) := by
      unfold Hid; rw [HR.out, decide_eq_true g1, decide_eq_true g2, decide_eq_true g3]; simp
    clear HR
    go_enter Tryd.func16, Tryd.ntmps16
    go_wp2_with fail
    go_loop [3] (fun i => ∃ k : Nat, k ≤ d.size ∧ i = .int .i64 k ∧ Hid ((d.data.toList.take k).all isD = true)) (fun i => d.size - (intOf i).toNat)
    case atStart => exact ⟨0, Nat.zero_le _, rfl, rfl⟩
    case round =>
      obtain ⟨k, hk, rfl, ha⟩ := hrel
      by_cases hlt : k < d.size
      · go_wp2_with fail
        refine (digit_any d k _).mono ?_
        rw [hd_drop d k hlt]
        cases hh : isD d[k] with
        | true =>
          have ha2 := Lib.hid (all_take d k hlt ha.out hh)
          clear ha hh
          rintro e w' ⟨rfl, rfl⟩
          go_wp2_with fail
          go_round
          case rel => exact ⟨k + 1, by omega, by go_num, ha2⟩
          case measure => simp [intOf]; omega
        | false =>
          have hv2 : Hid (right ⟨neg, d.data.toList, x⟩ = false) := by unfold Hid; rw [hv.out, all_take_no d k hlt hh]; rfl
          clear ha hh hv
          rintro e w' ⟨rfl, rfl⟩
          go_wp2_with fail
          go_ret
          exact ⟨by rw [hv2.out]; rfl, (Below.refl _ _).alloc (Nat.le_refl _) _⟩
      · have ha2 : d.data.toList.all isD = true := by
          have := ha.out
          rw [List.take_of_length_le (by rw [← Lib.size_eq]; omega)] at this
          exact this
        have hv2 : Hid (right ⟨neg, d.data.toList, x⟩ = ((((d[0].toNat : Nat) : Int) != 48) && (((d[d.size - 1].toNat : Nat) : Int) != 48))) := by unfold Hid; rw [hv.out, ha2]; simp
        clear ha hv ha2
        cases q1 : (((d[0].toNat : Nat) : Int) != 48)
        · have hv3 : Hid (right ⟨neg, d.data.toList, x⟩ = false) := by unfold Hid; rw [hv2.out, q1]; rfl
          go_wp2_with fail
          go_ret
          exact ⟨by rw [hv3.out]; rfl, (Below.refl _ _).alloc (Nat.le_refl _) _⟩
        · cases q2 : (((d[d.size - 1].toNat : Nat) : Int) != 48)
          · have hv3 : Hid (right ⟨neg, d.data.toList, x⟩ = false) := by unfold Hid; rw [hv2.out, q1, q2]; rfl
            go_wp2_with fail
            go_ret
            exact ⟨by rw [hv3.out]; rfl, (Below.refl _ _).alloc (Nat.le_refl _) _⟩
          · have hv3 : Hid (right ⟨neg, d.data.toList, x⟩ = true) := by unfold Hid; rw [hv2.out, q1, q2]; rfl
            go_wp2_with fail
            go_ret
            exact ⟨by rw [hv3.out]; rfl, (Below.refl _ _).alloc (Nat.le_refl _) _⟩

/-- The reference's Right at every number. -/
theorem rright_any (neg : Bool) (d : ByteArray) (x : Int) (w : World) (hs : d.size ≤ 9223372036854775806) :
    Calls Tryd.prog 16 #[.agg #[.bool neg, .string d, .int .i64 x]] w fun e w' => e = .returned (.bool (right ⟨neg, d.data.toList, x⟩)) ∧ Below w.heap.size w w' := by
  by_cases h0 : 0 < d.size
  · exact rright_walk neg d x w hs h0
  · obtain ⟨⟨l⟩⟩ := d
    cases l with
    | nil => exact rright_none neg x w
    | cons c r => exact absurd (show 0 < (ByteArray.mk ⟨c :: r⟩).size by show 0 < (c :: r).length; simp) h0
end Go.Proofs.YtffcmfhicefahaaDoor
