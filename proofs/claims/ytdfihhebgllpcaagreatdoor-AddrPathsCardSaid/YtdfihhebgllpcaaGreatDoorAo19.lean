import Derived.Test.YtdfihhebgllpcaaGreatDoorAo18
import Derived.Deep.RegionWith
import Derived.Test.YtdfihhebgllpcaaGreatDoorAo03

/- The walk of the reference's Print (of texts between quotes). -/
namespace Go.Proofs.YtdfihhebgllpcaaGreatDoor
open Go.RowKit Go.Proofs.QuotePlain Go.Proofs.UtfPlain

theorem short_size (c : UInt8) : (short c).length ≤ 1 := by
  have := all_u8 (fun c => decide ((short c).length ≤ 1)) (by decide +kernel) c
  simpa using this
theorem esc_short (c : UInt8) (h : ¬ short c = []) : esc c = 92 :: short c := by unfold esc; rw [if_neg h]
theorem esc_low (c : UInt8) (h : short c = []) (h2 : c.toNat < 32) : esc c = [92, 117, 48, 48, hexd (c.toNat / 16), hexd (c.toNat % 16)] := by unfold esc; rw [if_pos h, if_pos h2]
theorem esc_plain (c : UInt8) (h : short c = []) (h2 : ¬ c.toNat < 32) : esc c = [c] := by unfold esc; rw [if_pos h, if_neg h2]

set_option maxRecDepth 100000 in
set_option maxHeartbeats 8000000 in
theorem rqprint_any (s : ByteArray) (w : World) (hs : s.size ≤ 1000000) :
    Calls Tryz.prog 66 #[.string s] w fun e w' => e = .returned (.string ⟨(qprint s.data.toList).toArray⟩) ∧ Below w.heap.size w w' := by
  obtain ⟨P, hP⟩ : ∃ P : ByteArray, P = ⟨(qprint s.data.toList).toArray⟩ := ⟨_, rfl⟩
  rw [← hP]
  have HP := Lib.hid hP
  clear hP
  go_enter Tryz.func66, Tryz.ntmps66
  go_wp2_with fail
  go_loopw [3, 4] (fun o i wr => ∃ (j : Nat) (S : ByteArray), j ≤ s.size ∧ o = .string S ∧ i = .int .i64 j ∧ S.size ≤ 6000001 ∧ Hid (S.data.toList = 34 :: (s.data.toList.take j).flatMap esc) ∧ Hid (Below w.heap.size w wr)) (fun _ i _ => s.size - (intOf i).toNat)
  case atStart => exact ⟨0, ⟨#[34]⟩, by omega, rfl, rfl, by decide, rfl, Lib.hid (Below.refl _ _)⟩
  case round =>
    obtain ⟨j, S, hj, rfl, rfl, hS, HS, HW⟩ := hrel
    by_cases hlt : j < s.size
    · have hlt' : (j : Int) < (s.size : Int) := by omega
      obtain ⟨c, hc⟩ : ∃ c, s[j] = c := ⟨_, rfl⟩
      have hc8 : c.toNat < 256 := c.toNat_lt
      have htk : s.data.toList.take (j + 1) = s.data.toList.take j ++ [c] := by
        rw [List.take_add_one, List.getElem?_eq_getElem (by rw [← Lib.size_eq]; exact hlt), ← hc]; rfl
      have hnx : Hid (34 :: (s.data.toList.take (j + 1)).flatMap esc = S.data.toList ++ esc c) := by
        unfold Hid; rw [htk, flat_snoc, HS.out]; rfl
      have hbd : Hid ((34 :: (s.data.toList.take (j + 1)).flatMap esc).length ≤ 6000001) := by
        unfold Hid
        rw [List.length_cons]
        have := flat_len (s.data.toList.take (j + 1))
        have h2 : (s.data.toList.take (j + 1)).length ≤ s.size := by rw [List.length_take, Lib.size_eq]; omega
        omega
      clear htk
      obtain ⟨X, hX⟩ : ∃ X : ByteArray, X = ⟨(short c).toArray⟩ := ⟨_, rfl⟩
      have CS : Hid (∀ w, Calls Tryz.prog 107 #[.int .u8 (c.toNat : Int)] w fun e w' => e = .returned (.string X) ∧ w = w') := fun w => by rw [hX]; exact rshort_any c w
      have hXd : X.data.toList = short c := by rw [hX]
      have HX := Lib.hid hXd
      have hXs : X.size ≤ 1 := by rw [Lib.size_eq, hXd]; exact short_size c
      by_cases hsh : short c = []
      · have hemp : X.toList.isEmpty = true := by rw [isEmpty_iff, hXd, hsh]; rfl
        have hemp2 : X.toList = [] := by rw [Lib.toList_data, hXd, hsh]
        by_cases h32 : c.toNat < 32
        · have h32' : (c.toNat : Int) < 32 := by omega
          obtain ⟨Q, hQ⟩ : ∃ Q : Nat, Q = c.toNat / 16 := ⟨_, rfl⟩
          obtain ⟨R, hR⟩ : ∃ R : Nat, R = c.toNat % 16 := ⟨_, rfl⟩
          have q1 : (c.toNat : Int).tdiv 16 = (Q : Int) := by rw [Int.tdiv_eq_ediv_of_nonneg (by omega)]; omega
          have q2 : (c.toNat : Int).tmod 16 = (R : Int) := by rw [Int.tmod_eq_emod_of_nonneg (by omega)]; omega
          have q3 : (c.toNat : Int) / 16 = (Q : Int) := by omega
          have q4 : (c.toNat : Int) % 16 = (R : Int) := by omega
          have q5 : IntKind.u8.wrap (Q : Int) = (Q : Int) := by simp [IntKind.wrap, IntKind.bits, IntKind.signed]; omega
          have q6 : IntKind.u8.wrap (R : Int) = (R : Int) := by simp [IntKind.wrap, IntKind.bits, IntKind.signed]; omega
          have q7 : IntKind.i64.wrap (Q : Int) = (Q : Int) := IntWalk.i64_in _ (by omega)
          have q8 : IntKind.i64.wrap (R : Int) = (R : Int) := IntWalk.i64_in _ (by omega)
          have q9 : Q < 16 := by omega
          have q10 : R < 16 := by omega
          have hx := esc_low c hsh h32
          rw [← hQ, ← hR] at hx
          have hnew : Hid ((S ++ ⟨#[92, 117, 48, 48]⟩ ++ ⟨#[hexd Q]⟩ ++ ⟨#[hexd R]⟩ : ByteArray).data.toList = 34 :: (s.data.toList.take (j + 1)).flatMap esc) := by
            unfold Hid; rw [hnx.out, hx, data_append, data_append, data_append, List.append_assoc, List.append_assoc]; rfl
          have hnb : Hid ((S ++ ⟨#[92, 117, 48, 48]⟩ ++ ⟨#[hexd Q]⟩ ++ ⟨#[hexd R]⟩ : ByteArray).size ≤ 6000001) := by unfold Hid; rw [Lib.size_eq, hnew.out]; exact hbd.out
          clear hX hXd hsh h32 hx hQ hR
          go_wp2_with fail
          refine (CS.out _).mono ?_
          rintro e w1 ⟨rfl, rfl⟩
          go_wp2_with fail
          have t1 : ¬ 9223372036854775807 < S.size + 4 := by omega
          have t2 : ¬ 9223372036854775807 < S.size + 4 + 1 := by omega
          have t3 : ¬ 9223372036854775807 < S.size + 4 + 1 + 1 := by omega
          have t4 : ¬ 9223372036854775807 < S.size + 5 := by omega
          have t5 : ¬ 9223372036854775807 < S.size + 5 + 1 := by omega
          have t6 : ¬ 9223372036854775807 < S.size + 6 := by omega
          clear HX HP hc8
          go_region_with ((go_at_call 108; refine (rdigit_any _ _ (by assumption)).mono ?_; rintro e' wa ⟨rfl, hba⟩; have hWn : Below w.heap.size w wa := Below.trans (by first | exact HW.out.drew | assumption) (hba.mono (by first | exact HW.out.size | exact Below.size (by assumption))); clear hba))
          all_goals (
            go_wp2_with fail
            go_roundw
            case rel => exact ⟨j + 1, _, by omega, rfl, by go_num, hnb.out, hnew, hWn⟩
            case measure => simp [intOf]; omega)
        · have h32' : ¬ (c.toNat : Int) < 32 := by omega
          have hx := esc_plain c hsh h32
          obtain ⟨m, hm⟩ : ∃ m : Nat, m = j + 1 := ⟨_, rfl⟩
          have m1 : (j : Int) + 1 = (m : Int) := by omega
          have m2 : (m : Int) ≤ (s.size : Int) := by omega
          have m3 : (j : Int) ≤ (m : Int) := by omega
          obtain ⟨E, hE⟩ : ∃ E : ByteArray, s.extract j m = E := ⟨_, rfl⟩
          have hEd : E.data.toList = [c] := by
            rw [← hE, hm, data_extract, Nat.add_sub_cancel_left, List.drop_eq_getElem_cons (by rw [← Lib.size_eq]; exact hlt), ← hc]; rfl
          have hEs : E.size = 1 := by rw [Lib.size_eq, hEd]; rfl
          have hnew : Hid ((S ++ E : ByteArray).data.toList = 34 :: (s.data.toList.take (j + 1)).flatMap esc) := by
            unfold Hid; rw [hnx.out, hx, data_append, hEd]
          have hnb : Hid ((S ++ E : ByteArray).size ≤ 6000001) := by unfold Hid; rw [Lib.size_eq, hnew.out]; exact hbd.out
          have HM := Lib.hid hm
          clear hX hXd hsh h32 hx hm hEd
          go_wp2_with fail
          refine (CS.out _).mono ?_
          rintro e w1 ⟨rfl, rfl⟩
          go_wp2_with fail
          go_roundw
          case rel => exact ⟨j + 1, S ++ E, by omega, rfl, by have := HM.out; go_num, hnb.out, hnew, HW⟩
          case measure => simp [intOf]; omega
      · have hemp : X.toList.isEmpty = false := by
          rw [isEmpty_iff, hXd]
          cases h : short c with
          | nil => exact absurd h hsh
          | cons _ _ => rfl
        have hemp2 : ¬ X.toList = [] := by rw [Lib.toList_data, hXd]; exact hsh
        have hx := esc_short c hsh
        have hnew : Hid ((S ++ ⟨#[92]⟩ ++ X : ByteArray).data.toList = 34 :: (s.data.toList.take (j + 1)).flatMap esc) := by
          unfold Hid; rw [hnx.out, hx, data_append, data_append, hXd, List.append_assoc]; rfl
        have hnb : Hid ((S ++ ⟨#[92]⟩ ++ X : ByteArray).size ≤ 6000001) := by unfold Hid; rw [Lib.size_eq, hnew.out]; exact hbd.out
        clear hX hXd hsh hx
        go_wp2_with fail
        refine (CS.out _).mono ?_
        rintro e w1 ⟨rfl, rfl⟩
        go_wp2_with fail
        refine (CS.out _).mono ?_
        rintro e w1 ⟨rfl, rfl⟩
        go_wp2_with fail
        go_roundw
        case rel => exact ⟨j + 1, _, by omega, rfl, by go_num, hnb.out, hnew, HW⟩
        case measure => simp [intOf]; omega
    · have hge : ¬ (j : Int) < (s.size : Int) := by omega
      have hPP : Hid ((S ++ ⟨#[34]⟩ : ByteArray) = P) := by
        have hjj : s.data.toList.take j = s.data.toList := List.take_of_length_le (by rw [← Lib.size_eq]; omega)
        have h1 := HS.out
        rw [hjj] at h1
        unfold Hid
        rw [HP.out]
        refine bytes_eta _ _ ?_
        rw [data_append, h1]; rfl
      go_wp2_with fail
      go_ret
      exact ⟨congrArg (fun p => Ending.returned (.string p)) hPP.out, HW.out⟩
end Go.Proofs.YtdfihhebgllpcaaGreatDoor

/- The walks of the reference's hex, unit. -/
namespace Go.Proofs.YtdfihhebgllpcaaGreatDoor
open Go.RowKit Go.Proofs.QuotePlain Go.Proofs.UtfPlain

set_option maxHeartbeats 1000000 in
theorem rhex_any (c : UInt8) (w : World) : Calls Tryz.prog 202 #[.int .u8 (c.toNat : Int)] w fun e w' => e = .returned (.int .i64 (if hexv c < 16 then (hexv c : Int) else -1)) ∧ w = w' := by
  have hc8 : c.toNat < 256 := c.toNat_lt
  obtain ⟨K, hK⟩ : ∃ K : Int, K = (if hexv c < 16 then (hexv c : Int) else -1) := ⟨_, rfl⟩
  rw [← hK]
  unfold hexv at hK
  by_cases a : 48 ≤ c.toNat ∧ c.toNat ≤ 57
  · rw [if_pos a, if_pos (by omega)] at hK
    obtain ⟨a1, a2⟩ := a
    have b1 : (48 : Int) ≤ (c.toNat : Int) := by omega
    have b2 : (c.toNat : Int) ≤ 57 := by omega
    have HK : Hid ((c.toNat : Int) - 48 = K) := by unfold Hid; omega
    clear hK a1 a2
    go_enter Tryz.func202, Tryz.ntmps202
    go_wp2_with fail
    go_ret
    exact ⟨congrArg (fun z => Ending.returned (.int .i64 z)) HK.out, rfl⟩
  rw [if_neg a] at hK
  by_cases a' : 97 ≤ c.toNat ∧ c.toNat ≤ 102
  · rw [if_pos a', if_pos (by omega)] at hK
    have b1 : (97 : Int) ≤ (c.toNat : Int) := by omega
    have b2 : (c.toNat : Int) ≤ 102 := by omega
    have HK : Hid ((c.toNat : Int) - 97 + 10 = K) := by unfold Hid; omega
    clear hK a a'
    go_enter Tryz.func202, Tryz.ntmps202
    go_wp2_with fail
    go_ret
    exact ⟨congrArg (fun z => Ending.returned (.int .i64 z)) HK.out, rfl⟩
  rw [if_neg a'] at hK
  by_cases a2 : 65 ≤ c.toNat ∧ c.toNat ≤ 70
  · rw [if_pos a2, if_pos (by omega)] at hK
    have b1 : (65 : Int) ≤ (c.toNat : Int) := by omega
    have b2 : (c.toNat : Int) ≤ 70 := by omega
    have HK : Hid ((c.toNat : Int) - 65 + 10 = K) := by unfold Hid; omega
    clear hK a a' a2
    go_enter Tryz.func202, Tryz.ntmps202
    go_wp2_with fail
    go_ret
    exact ⟨congrArg (fun z => Ending.returned (.int .i64 z)) HK.out, rfl⟩
  rw [if_neg a2, if_neg (by omega)] at hK
  subst hK
  have hcase : (c.toNat : Int) < 48 ∨ ((57 : Int) < (c.toNat : Int) ∧ (c.toNat : Int) < 65) ∨ ((70 : Int) < (c.toNat : Int) ∧ (c.toNat : Int) < 97) ∨ (102 : Int) < (c.toNat : Int) := by omega
  clear a a' a2
  rcases hcase with b | ⟨b, b'⟩ | ⟨b, b'⟩ | b
  all_goals
    go_enter Tryz.func202, Tryz.ntmps202
    go_wp2_with fail
    go_ret
    exact ⟨rfl, rfl⟩

theorem unitF_err (m : Nat) : ∀ n l, (unitF m n l).1 ≠ 0 → (unitF m n l).2 = 0 := by
  induction m with
  | zero => intro n l h; exact absurd rfl h
  | succ m ih =>
    intro n l h
    cases l with
    | nil => rfl
    | cons c r =>
      unfold unitF at h ⊢
      split
      · rename_i hc; rw [if_pos hc] at h; exact ih _ _ h
      · rfl

set_option maxRecDepth 100000 in
set_option maxHeartbeats 4000000 in
theorem runit_any (b : ByteArray) (k : Nat) (w : World) (hs : b.size ≤ 1000000) (hk : k ≤ 2000000) (U : Nat × Nat) (hU : unitF 4 0 (b.data.toList.drop k) = U) :
    Calls Tryz.prog 179 #[.string b, .int .i64 k] w fun e w' => e = .returned (.tuple #[.int .i64 U.2, .int .i64 U.1]) ∧ w = w' := by
  have HU := Lib.hid hU
  clear hU
  go_enter Tryz.func179, Tryz.ntmps179
  go_wp2_with fail
  go_loop [6, 7] (fun a i => ∃ (j n : Nat), j ≤ 4 ∧ a = .int .i64 n ∧ i = .int .i64 j ∧ n < 65536 ∧ Hid (n < 16 ^ j) ∧ Hid (U = unitF (4 - j) n ((b.data.toList.drop k).drop j))) (fun _ i => 4 - (intOf i).toNat)
  case atStart => exact ⟨0, 0, by omega, rfl, rfl, by omega, Lib.hid (by decide), Lib.hid HU.out.symm⟩
  case round =>
    obtain ⟨j, n, hj, rfl, rfl, hn, HN, HJ⟩ := hrel
    by_cases hj4 : j < 4
    · have hj4' : (j : Int) < 4 := by omega
      obtain ⟨q, hq⟩ : ∃ q, 4 - j = q + 1 := ⟨3 - j, by omega⟩
      obtain ⟨m, hm⟩ : ∃ m : Nat, m = k + j := ⟨_, rfl⟩
      have hm1 : (k : Int) + (j : Int) = (m : Int) := by omega
      by_cases hkb : m < b.size
      · have hkb' : ¬ (b.size : Int) ≤ (m : Int) := by omega
        obtain ⟨c, hc⟩ : ∃ c, b[m] = c := ⟨_, rfl⟩
        have hdr : (b.data.toList.drop k).drop j = c :: (b.data.toList.drop k).drop (j + 1) := by
          rw [List.drop_drop, List.drop_drop, ← hm, show k + (j + 1) = m + 1 by omega, List.drop_eq_getElem_cons (by rw [← Lib.size_eq]; exact hkb), ← hc]; rfl
        have hst : U = if hexv c < 16 then unitF q (n * 16 + hexv c) ((b.data.toList.drop k).drop (j + 1)) else (3, 0) := by
          rw [HJ.out, hdr, hq]; rfl
        have C := Lib.hid (fun w => rhex_any c w)
        by_cases hx : hexv c < 16
        · rw [if_pos hx] at hst C
          obtain ⟨D, hD⟩ : ∃ D, D = hexv c := ⟨_, rfl⟩
          rw [← hD] at hst C hx
          have hn1 : n < 4096 := Nat.lt_of_lt_of_le HN.out (Nat.le_trans (Nat.pow_le_pow_right (by omega) (show j ≤ 3 by omega)) (by decide))
          obtain ⟨N, hN⟩ : ∃ N, N = n * 16 + D := ⟨_, rfl⟩
          have hN2 : (n : Int) * 16 + (D : Int) = (N : Int) := by omega
          have hNb : N < 65536 := by omega
          have HNN : Hid (N < 16 ^ (j + 1)) := by
            unfold Hid
            have := HN.out
            rw [Nat.pow_succ]; omega
          have hq2 : q = 4 - (j + 1) := by omega
          rw [← hN, hq2] at hst
          have HST := Lib.hid hst
          have hD0 : (0 : Int) ≤ (D : Int) := by omega
          clear HJ hst hdr hq hq2 hN hD HN hm
          go_wp2_with fail
          refine (C.out _).mono ?_
          rintro e w1 ⟨rfl, rfl⟩
          go_wp2_with fail
          go_round
          case rel => exact ⟨j + 1, N, by omega, by go_num, by go_num, hNb, HNN, HST⟩
          case measure => simp [intOf]; omega
        · rw [if_neg hx] at hst C
          subst hst
          clear HJ hdr hq HN hm hx
          go_wp2_with fail
          refine (C.out _).mono ?_
          rintro e w1 ⟨rfl, rfl⟩
          go_wp2_with fail
          go_ret2
          exact ⟨rfl, rfl⟩
      · have hkb' : (b.size : Int) ≤ (m : Int) := by omega
        have hz : U = (2, 0) := by
          rw [HJ.out, List.drop_drop, List.drop_eq_nil_of_le (by rw [← Lib.size_eq]; omega), hq]; rfl
        subst hz
        clear HJ HN hq hm
        go_wp2_with fail
        go_ret2
        exact ⟨rfl, rfl⟩
    · have hj4' : ¬ (j : Int) < 4 := by omega
      obtain rfl : j = 4 := by omega
      have hz : U = (0, n) := HJ.out
      subst hz
      clear HJ HN hj4
      go_wp2_with fail
      go_ret2
      exact ⟨rfl, rfl⟩
end Go.Proofs.YtdfihhebgllpcaaGreatDoor
