/- The walk of num.Scan. -/
import Derived.Test.YtffcmfhicefahaaDoorWalk1
namespace Go.Proofs.YtffcmfhicefahaaDoor
open Go.RowKit Go.Proofs.NumPlain

theorem drop_data (s : ByteArray) (k : Nat) (h : k < s.size) : s.data.toList.drop k = s[k] :: s.data.toList.drop (k + 1) := by
  rw [List.drop_eq_getElem_cons (by simpa using h)]
  rfl
theorem nxt_lt (q k : Nat) (hq : q < 9) (hk : k < 6) : nxt q k < 9 := by
  have : ∀ q, q < 9 → ∀ k, k < 6 → nxt q k < 9 := by decide
  exact this q hq k hk
theorem kind_le (c : UInt8) : kind c ≤ 5 := by
  rcases kinds c with ⟨k, _⟩ | ⟨k, _⟩ | ⟨k, _⟩ | ⟨k, _⟩ | ⟨k, _⟩ | ⟨k, _⟩ | ⟨k, _⟩ <;> omega
theorem acc_no {q : Nat} (h : acc q = false) : ((q : Int) == 2) = false ∧ ((q : Int) == 3) = false ∧ ((q : Int) == 5) = false ∧ ((q : Int) == 8) = false := by
  simp [acc] at h
  refine ⟨?_, ?_, ?_, ?_⟩ <;> simp <;> omega
theorem acc_yes {q : Nat} (h : acc q = true) : q = 2 ∨ q = 3 ∨ q = 5 ∨ q = 8 := by
  simp [acc] at h; omega

set_option maxHeartbeats 2000000 in
theorem scan_any (s : ByteArray) (w : World) (hs : s.size ≤ 9223372036854775807) (hG : Glob w) :
    Calls Tryd.prog 12 #[.string s] w fun e w' => e = .returned (.int .i64 (NumPlain.scan s.data.toList)) ∧ w = w' := by
  have hN := Lib.hid hG.next
  clear hG
  have hS := Lib.hid (dfa_scan s.data.toList)
  rw [← hS.out]
  clear hS
  go_enter Tryd.func12, Tryd.ntmps12
  go_wp2_with fail
  go_loop [9, 3, 4] (fun i q e => ∃ k Q E : Nat, k ≤ s.size ∧ Q < 9 ∧ i = .int .i64 k ∧ q = .int .i64 Q ∧ e = .int .i64 E ∧ Hid (dfa 0 0 0 s.data.toList = dfa Q k E (s.data.toList.drop k))) (fun i _ _ => s.size - (intOf i).toNat)
  case atStart => exact ⟨0, 0, 0, Nat.zero_le _, by omega, rfl, rfl, rfl, rfl⟩
  case round =>
    obtain ⟨k, Q, E, hk, hQ, rfl, rfl, rfl, hd⟩ := hrel
    by_cases hlt : k < s.size
    · have hdr := Lib.hid (drop_data s k hlt)
      have hK5 := kind_le s[k]
      have hstep : Hid (dfa 0 0 0 s.data.toList = if kind s[k] < 0 then E else if nxt Q (kind s[k]).toNat = 0 then E else dfa (nxt Q (kind s[k]).toNat) (k + 1) (if acc (nxt Q (kind s[k]).toNat) then k + 1 else E) (s.data.toList.drop (k + 1))) := by
        have := hd.out; rw [hdr.out] at this; exact this
      clear hd hdr
      go_wp2_with fail
      refine (kind_any s[k] _).mono ?_
      generalize kind s[k] = K at hstep hK5 ⊢
      rintro e w' ⟨rfl, rfl⟩
      by_cases hneg : K < 0
      · have hst : Hid (dfa 0 0 0 s.data.toList = E) := by have := hstep.out; rw [if_pos hneg] at this; exact this
        clear hstep
        go_wp2_with fail
        go_ret
        exact ⟨by rw [hst.out]; rfl, rfl⟩
      · obtain ⟨kk, rfl⟩ : ∃ kk : Nat, K = kk := ⟨K.toNat, by omega⟩
        have hkk : kk < 6 := by omega
        have hcell := hN.out Q kk hQ hkk
        have hnx := nxt_lt Q kk hQ hkk
        have hst0 : Hid (dfa 0 0 0 s.data.toList = if nxt Q kk = 0 then E else dfa (nxt Q kk) (k + 1) (if acc (nxt Q kk) then k + 1 else E) (s.data.toList.drop (k + 1))) := by have := hstep.out; rw [if_neg hneg] at this; exact this
        clear hstep
        generalize nxt Q kk = Q' at hcell hnx hst0
        by_cases hz : Q' = 0
        · have hst : Hid (dfa 0 0 0 s.data.toList = E) := by have := hst0.out; rw [if_pos hz] at this; exact this
          clear hst0
          subst hz
          go_wp2_with fail
          go_ret
          exact ⟨by rw [hst.out]; rfl, rfl⟩
        · have hst : Hid (dfa 0 0 0 s.data.toList = dfa Q' (k + 1) (if acc Q' then k + 1 else E) (s.data.toList.drop (k + 1))) := by have := hst0.out; rw [if_neg hz] at this; exact this
          clear hst0
          have hzb : ((Q' : Int) == 0) = false := by simp; omega
          clear hz
          cases ha : acc Q' with
          | false =>
            have hst2 : Hid (dfa 0 0 0 s.data.toList = dfa Q' (k + 1) E (s.data.toList.drop (k + 1))) := by have := hst.out; rw [ha] at this; exact this
            obtain ⟨a1, a2, a3, a4⟩ := acc_no ha
            clear ha hst
            go_wp2_with fail
            go_round
            case rel => exact ⟨k + 1, Q', E, by omega, hnx, by go_num, rfl, rfl, hst2⟩
            case measure => simp [intOf]; omega
          | true =>
            have hst2 : Hid (dfa 0 0 0 s.data.toList = dfa Q' (k + 1) (k + 1) (s.data.toList.drop (k + 1))) := by have := hst.out; rw [ha] at this; exact this
            have ha' := acc_yes ha
            clear ha hst
            rcases ha' with rfl | rfl | rfl | rfl
            all_goals
              go_wp2_with fail
              go_round
              case rel => exact ⟨k + 1, _, k + 1, by omega, by omega, by go_num, rfl, by go_num, hst2⟩
              case measure => simp [intOf]; omega
    · have hst : Hid (dfa 0 0 0 s.data.toList = E) := by
        have := hd.out
        rw [List.drop_eq_nil_of_le (by simp; omega)] at this
        exact this
      clear hd
      go_wp2_with fail
      go_ret
      exact ⟨by rw [hst.out]; rfl, rfl⟩
end Go.Proofs.YtffcmfhicefahaaDoor
