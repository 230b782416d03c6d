/- The reference's digit, run, Scan. -/
import Derived.Test.YtffcmfhicefahaaDoorWalk5
import Derived.Deep.DeepCutAuto
namespace Go.Proofs.YtffcmfhicefahaaDoor
open Go.RowKit Go.Proofs.NumPlain

theorem hd_drop (s : ByteArray) (k : Nat) (h : k < s.size) : hd (s.data.toList.drop k) = isD s[k] := by rw [drop_data s k h]; rfl
theorem hd_end (s : ByteArray) (k : Nat) (h : ¬ k < s.size) : hd (s.data.toList.drop k) = false := by
  rw [List.drop_eq_nil_of_le (by rw [← Lib.size_eq]; omega)]; rfl
theorem isD_nat (c : UInt8) : isD c = (decide (48 ≤ c.toNat) && decide (c.toNat ≤ 57)) := by
  have := all_u8 (fun c => isD c == (decide (48 ≤ c.toNat) && decide (c.toNat ≤ 57))) (by decide +kernel) c
  simpa using this

set_option maxHeartbeats 400000 in
theorem digit_any (s : ByteArray) (k : Nat) (w : World) :
    Calls Tryd.prog 32 #[.string s, .int .i64 k] w fun e w' => e = .returned (.bool (hd (s.data.toList.drop k))) ∧ w = w' := by
  by_cases h : k < s.size
  · rw [hd_drop s k h, isD_nat]
    by_cases h1 : 48 ≤ s[k].toNat
    · by_cases h2 : s[k].toNat ≤ 57
      · rw [decide_eq_true h1, decide_eq_true h2]
        go_enter Tryd.func32, Tryd.ntmps32
        go_wp2_with fail
        go_ret
        exact ⟨by first | rfl | (simp; omega), rfl⟩
      · rw [decide_eq_true h1, decide_eq_false h2]
        go_enter Tryd.func32, Tryd.ntmps32
        go_wp2_with fail
        go_ret
        exact ⟨by first | rfl | (simp; omega), rfl⟩
    · rw [decide_eq_false h1]
      go_enter Tryd.func32, Tryd.ntmps32
      go_wp2_with fail
      go_ret
      exact ⟨by first | rfl | (simp; omega), rfl⟩
  · rw [hd_end s k h]
    go_enter Tryd.func32, Tryd.ntmps32
    go_wp2_with fail
    go_ret
    exact ⟨by first | rfl | (simp; omega), rfl⟩

set_option maxHeartbeats 400000 in
theorem run_any (s : ByteArray) (k : Nat) (w : World) (hk : k ≤ s.size) (hs : s.size ≤ 9223372036854775806) :
    Calls Tryd.prog 34 #[.string s, .int .i64 k] w fun e w' => e = .returned (.int .i64 ((k + run (s.data.toList.drop k) : Nat) : Int)) ∧ w = w' := by
  go_enter Tryd.func34, Tryd.ntmps34
  go_wp2_with fail
  go_loop [1] (fun i => ∃ j : Nat, j ≤ s.size ∧ i = .int .i64 j ∧ Hid (k + run (s.data.toList.drop k) = j + run (s.data.toList.drop j))) (fun i => s.size - (intOf i).toNat)
  case atStart => exact ⟨k, hk, rfl, rfl⟩
  case round =>
    obtain ⟨j, hj, rfl, hr⟩ := hrel
    go_wp2_with fail
    refine (digit_any s j _).mono ?_
    cases hh : hd (s.data.toList.drop j) with
    | true =>
      have hlt : j < s.size := by
        rcases Nat.lt_or_ge j s.size with h | h
        · exact h
        · rw [hd_end s j (by omega)] at hh; cases hh
      have hr2 : Hid (k + run (s.data.toList.drop k) = j + 1 + run (s.data.toList.drop (j + 1))) := by
        have h1 := hr.out
        rw [drop_data s j hlt, run_cons, ← hd_drop s j hlt, hh, if_pos rfl] at h1
        unfold Hid; omega
      clear hr hh
      rintro e w' ⟨rfl, rfl⟩
      go_wp2_with fail
      go_round
      case rel => exact ⟨j + 1, by omega, by go_num, hr2⟩
      case measure => simp [intOf]; omega
    | false =>
      have hr2 : Hid (k + run (s.data.toList.drop k) = j) := by
        have h1 := hr.out
        rw [run_zero _ hh] at h1
        exact h1
      clear hr hh
      rintro e w' ⟨rfl, rfl⟩
      go_wp2_with fail
      go_ret
      exact ⟨by rw [hr2.out]; rfl, rfl⟩
end Go.Proofs.YtffcmfhicefahaaDoor
