import Derived.Test.YtdfihhebgllpcaaGreatDoorAo12
import Derived.Deep.DeepCutAuto

/- The reference's digit, run, Scan. -/
namespace Go.Proofs.YtdfihhebgllpcaaGreatDoor
open Go.RowKit Go.Proofs.NumPlain

theorem hd_drop (s : ByteArray) (k : Nat) (h : k < s.size) : hd (s.data.toList.drop k) = isD s[k] := by rw [drop_data s k h]; rfl
theorem hd_end (s : ByteArray) (k : Nat) (h : ¬ k < s.size) : hd (s.data.toList.drop k) = false := by
  rw [List.drop_eq_nil_of_le (by rw [← Lib.size_eq]; omega)]; rfl
theorem isD_nat (c : UInt8) : isD c = (decide (48 ≤ c.toNat) && decide (c.toNat ≤ 57)) := by
  have := all_u8 (fun c => isD c == (decide (48 ≤ c.toNat) && decide (c.toNat ≤ 57))) (by decide +kernel) c
  simpa using this

set_option maxHeartbeats 400000 in
theorem digit_any (s : ByteArray) (k : Nat) (w : World) :
    Calls Tryz.prog 232 #[.string s, .int .i64 k] w fun e w' => e = .returned (.bool (hd (s.data.toList.drop k))) ∧ w = w' := by
  by_cases h : k < s.size
  · rw [hd_drop s k h, isD_nat]
    by_cases h1 : 48 ≤ s[k].toNat
    · by_cases h2 : s[k].toNat ≤ 57
      · rw [decide_eq_true h1, decide_eq_true h2]
        go_enter Tryz.func232, Tryz.ntmps232
        go_wp2_with fail
        go_ret
        exact ⟨by first | rfl | (simp; omega), rfl⟩
      · rw [decide_eq_true h1, decide_eq_false h2]
        go_enter Tryz.func232, Tryz.ntmps232
        go_wp2_with fail
        go_ret
        exact ⟨by first | rfl | (simp; omega), rfl⟩
    · rw [decide_eq_false h1]
      go_enter Tryz.func232, Tryz.ntmps232
      go_wp2_with fail
      go_ret
      exact ⟨by first | rfl | (simp; omega), rfl⟩
  · rw [hd_end s k h]
    go_enter Tryz.func232, Tryz.ntmps232
    go_wp2_with fail
    go_ret
    exact ⟨by first | rfl | (simp; omega), rfl⟩

set_option maxHeartbeats 400000 in
theorem run_any (s : ByteArray) (k : Nat) (w : World) (hk : k ≤ s.size) (hs : s.size ≤ 9223372036854775806) :
    Calls Tryz.prog 233 #[.string s, .int .i64 k] w fun e w' => e = .returned (.int .i64 ((k + run (s.data.toList.drop k) : Nat) : Int)) ∧ w = w' := by
  go_enter Tryz.func233, Tryz.ntmps233
  go_wp2_with fail
  go_loop [1] (fun i => ∃ j : Nat, j ≤ s.size ∧ i = .int .i64 j ∧ Hid (k + run (s.data.toList.drop k) = j + run (s.data.toList.drop j))) (fun i => s.size - (intOf i).toNat)
  case atStart => exact ⟨k, hk, rfl, rfl⟩
  case round =>
    obtain ⟨j, hj, rfl, hr⟩ := hrel
    go_wp2_with fail
    refine (digit_any s j _).mono ?_
    cases hh : hd (s.data.toList.drop j) with
    | true =>
      have hlt : j < s.size := by
        rcases Nat.lt_or_ge j s.size with h | h
        · exact h
        · rw [hd_end s j (by omega)] at hh; cases hh
      have hr2 : Hid (k + run (s.data.toList.drop k) = j + 1 + run (s.data.toList.drop (j + 1))) := by
        have h1 := hr.out
        rw [drop_data s j hlt, run_cons, ← hd_drop s j hlt, hh, if_pos rfl] at h1
        unfold Hid; omega
      clear hr hh
      rintro e w' ⟨rfl, rfl⟩
      go_wp2_with fail
      go_round
      case rel => exact ⟨j + 1, by omega, by go_num, hr2⟩
      case measure => simp [intOf]; omega
    | false =>
      have hr2 : Hid (k + run (s.data.toList.drop k) = j) := by
        have h1 := hr.out
        rw [run_zero _ hh] at h1
        exact h1
      clear hr hh
      rintro e w' ⟨rfl, rfl⟩
      go_wp2_with fail
      go_ret
      exact ⟨by rw [hr2.out]; rfl, rfl⟩
end Go.Proofs.YtdfihhebgllpcaaGreatDoor

/- The reference's Scan. -/
namespace Go.Proofs.YtdfihhebgllpcaaGreatDoor
open Go.RowKit Go.Proofs.NumPlain

theorem byte_eq (c : UInt8) (k : Nat) (hk : k < 256) : (((c.toNat : Nat) : Int) == (k : Int)) = (c == UInt8.ofNat k) := by
  rw [Bool.eq_iff_iff]
  simp only [beq_iff_eq]
  constructor
  · intro h
    have h' : c.toNat = k := by omega
    rw [← h']; simp
  · intro h
    subst h
    rw [UInt8.toNat_ofNat']
    omega
theorem scan_body (l : List UInt8) (i0 : Nat) (h : i0 = if l.head? = some 45 then 1 else 0) : NumPlain.scan l = if bodyLen (l.drop i0) = 0 then 0 else i0 + bodyLen (l.drop i0) := by
  cases l with
  | nil => simp [NumPlain.scan, bodyLen]
  | cons c r =>
    by_cases hc : c = 45
    · subst hc
      simp only [List.head?_cons, if_true] at h
      subst h
      simp [NumPlain.scan]
    · simp only [List.head?_cons, Option.some.injEq, hc, if_false] at h
      subst h
      have hb : (c == 45) = false := by simpa using hc
      simp only [NumPlain.scan, hb, Bool.false_eq_true, if_false, List.drop_zero]
      split <;> omega
theorem body_no (l : List UInt8) (h : hd l = false) : bodyLen l = 0 := by
  cases l with
  | nil => rfl
  | cons c r =>
    have h1 : isD c = false := h
    have h2 : (c == 48) = false := by
      cases hc : c == 48 with
      | false => rfl
      | true => rw [show c = 48 by simpa using hc] at h1; exact absurd h1 (by decide)
    simp [bodyLen, h1, h2]
theorem body_nought (r : List UInt8) : bodyLen (48 :: r) = 1 + tailLen r := by simp [bodyLen]
theorem body_digits (c : UInt8) (r : List UInt8) (h : isD c = true) (h2 : c ≠ 48) : bodyLen (c :: r) = run (c :: r) + tailLen ((c :: r).drop (run (c :: r))) := by
  have hb : (c == 48) = false := by simpa using h2
  simp [bodyLen, hb, h]
theorem tail_point (c : UInt8) (r : List UInt8) (h : c = 46) (h2 : hd r = true) : tailLen (c :: r) = 1 + run r + expLen (r.drop (run r)) := by
  subst h; simp [tailLen, h2]
theorem tail_other (l : List UInt8) (h : l.head? ≠ some 46 ∨ hd (l.drop 1) = false) : tailLen l = expLen l := by
  cases l with
  | nil => rfl
  | cons c r =>
    by_cases hc : c = 46
    · subst hc
      have h2 : hd r = false := by rcases h with h | h; exact absurd rfl h; exact h
      simp [tailLen, h2, expLen, isE]
    · have hb : (c == 46) = false := by simpa using hc
      simp [tailLen, hb]

theorem dec_lt {a b : Nat} (h : a < b) : decide ((a : Int) < (b : Int)) = true := by simp; omega
theorem head_byte (s : ByteArray) (k : Nat) (h : k < s.size) (c : Nat) (hc : c < 256) : (((s[k].toNat : Nat) : Int) == (c : Int)) = ((s.data.toList.drop k).head? == some (UInt8.ofNat c)) := by
  rw [byte_eq _ c hc, drop_data s k h]; rfl
theorem head_end (s : ByteArray) (k : Nat) (h : ¬ k < s.size) : (s.data.toList.drop k) = [] := List.drop_eq_nil_of_le (by rw [← Lib.size_eq]; omega)
theorem exp_cases (l : List UInt8) : expLen l = if l.head? = some 101 ∨ l.head? = some 69 then
    (if (l.drop 1).head? = some 43 ∨ (l.drop 1).head? = some 45 then (if hd (l.drop 2) then 2 + run (l.drop 2) else 0) else if hd (l.drop 1) then 1 + run (l.drop 1) else 0) else 0 := by
  cases l with
  | nil => rfl
  | cons c r =>
    simp only [expLen, List.head?_cons, Option.some.injEq, List.drop_succ_cons, List.drop_zero]
    have he : isE c = true ↔ c = 101 ∨ c = 69 := by simp [isE]
    by_cases h : isE c
    · rw [if_pos h, if_pos (he.1 h)]
      cases r with
      | nil => rfl
      | cons d q =>
        simp only [List.head?_cons, Option.some.injEq, List.drop_succ_cons, List.drop_zero]
        by_cases hs : isS d
        · rw [if_pos hs, if_pos ((isS_iff d).1 hs)]
        · rw [if_neg hs, if_neg (fun x => hs ((isS_iff d).2 x))]
    · rw [if_neg h, if_neg (fun x => h (he.2 x))]

set_option maxHeartbeats 4000000 in
set_option maxRecDepth 100000 in
theorem rscan_any (s : ByteArray) (w : World) (hs : s.size ≤ 9223372036854775800) :
    Calls Tryz.prog 214 #[.string s] w fun e w' => e = .returned (.int .i64 (NumPlain.scan s.data.toList)) ∧ w = w' := by
  go_enter Tryz.func214, Tryz.ntmps214
  go_upto_region 2 with fail
  go_cut [12] (fun b wx => b = .bool (s.data.toList.head? == some 45) ∧ w = wx)
  case first =>
    by_cases h0 : 0 < s.size
    · have hx := Lib.hid (head_byte s 0 h0 45 (by omega))
      go_wp2_with fail
      go_meet
      exact ⟨congrArg Value.bool (by have := hx.out; simp only [List.drop_zero] at this; exact this), rfl⟩
    · have hx := Lib.hid (head_end s 0 h0)
      go_wp2_with fail
      go_meet
      exact ⟨by have := hx.out; simp only [List.drop_zero] at this; rw [this]; rfl, rfl⟩
  case rest =>
  obtain ⟨rfl, rfl⟩ := hcut
  obtain ⟨B, hB⟩ : ∃ B, B = (s.data.toList.head? == some 45) := ⟨_, rfl⟩
  rw [← hB]
  have HB := Lib.hid hB
  clear hB
  go_upto_if 12 with fail
  go_cut [3] (fun i wx => ∃ i0 : Nat, i0 ≤ s.size ∧ i = .int .i64 i0 ∧ w = wx ∧ Hid (NumPlain.scan s.data.toList = if bodyLen (s.data.toList.drop i0) = 0 then 0 else i0 + bodyLen (s.data.toList.drop i0)))
  case first =>
    cases B with
    | true =>
      have hb := HB.out
      have hsz : 1 ≤ s.size := by
        rcases Nat.eq_zero_or_pos s.size with h | h
        · have : s.data.toList = [] := List.length_eq_zero_iff.1 (by rw [← Lib.size_eq]; exact h)
          rw [this] at hb; cases hb
        · exact h
      have hx := Lib.hid (scan_body s.data.toList 1 (by rw [if_pos (by simpa using hb.symm)]))
      clear HB hb
      go_wp2_with fail
      go_meet
      exact ⟨1, hsz, rfl, rfl, hx⟩
    | false =>
      have hb := HB.out
      have hx := Lib.hid (scan_body s.data.toList 0 (by rw [if_neg (by simpa using hb.symm)]))
      clear HB hb
      go_wp2_with fail
      go_meet
      exact ⟨0, by omega, rfl, rfl, hx⟩
  case rest =>
  clear HB
  obtain ⟨i0, hi0, rfl, rfl, hx⟩ := hcut
  go_wp2_with fail
  refine (digit_any s i0 _).mono ?_
  cases hh : hd (s.data.toList.drop i0) with
  | false =>
    have hv : Hid (NumPlain.scan s.data.toList = 0) := by unfold Hid; rw [hx.out, body_no _ hh]; rfl
    clear hx hh
    rintro e w' ⟨rfl, rfl⟩
    go_wp2_with fail
    go_ret
    exact ⟨by rw [hv.out]; rfl, rfl⟩
  | true =>
  have hlt : i0 < s.size := by
    rcases Nat.lt_or_ge i0 s.size with h | h
    · exact h
    · rw [hd_end s i0 (by omega)] at hh; cases hh
  have hD : isD s[i0] = true := by rw [← hd_drop s i0 hlt]; exact hh
  have hdr := drop_data s i0 hlt
  have hRL := run_le (s.data.toList.drop i0)
  rw [List.length_drop, ← Lib.size_eq] at hRL
  have HRL : Hid (run (s.data.toList.drop i0) ≤ s.size - i0) := hRL
  have HD := Lib.hid hD
  have HDR := Lib.hid hdr
  clear hRL hh hD hdr
  rintro e w' ⟨rfl, rfl⟩
  go_upto_if 20 with fail
  go_cut [3] (fun i wx => ∃ i1 : Nat, i1 ≤ s.size ∧ i = .int .i64 i1 ∧ w = wx ∧ Hid (NumPlain.scan s.data.toList = i1 + tailLen (s.data.toList.drop i1)))
  case first =>
    cases h1 : (((s[i0].toNat : Nat) : Int) == 48) with
    | true =>
      have hc : s[i0] = 48 := by have := byte_eq s[i0] 48 (by omega); rw [show ((48 : Nat) : Int) = 48 from rfl, h1] at this; simpa using this.symm
      have hv : Hid (NumPlain.scan s.data.toList = i0 + 1 + tailLen (s.data.toList.drop (i0 + 1))) := by
        unfold Hid
        rw [hx.out, HDR.out, hc, body_nought, if_neg (by omega)]; omega
      clear hx hc
      go_wp2_with fail
      go_meet
      exact ⟨i0 + 1, by omega, by go_num, rfl, hv⟩
    | false =>
      have hc : s[i0] ≠ 48 := by have := byte_eq s[i0] 48 (by omega); rw [show ((48 : Nat) : Int) = 48 from rfl, h1] at this; simpa using this.symm
      have hv : Hid (NumPlain.scan s.data.toList = (i0 + run (s.data.toList.drop i0)) + tailLen (s.data.toList.drop (i0 + run (s.data.toList.drop i0)))) := by
        unfold Hid
        have hp : 0 < run (s.data.toList.drop i0) := run_pos _ (by rw [HDR.out]; exact HD.out)
        have hb := body_digits s[i0] (s.data.toList.drop (i0 + 1)) HD.out hc
        rw [← HDR.out, List.drop_drop] at hb
        rw [hx.out, hb, if_neg (by omega)]
        omega
      clear hx hc
      go_wp2_with fail
      refine (run_any s i0 _ (by omega) (by omega)).mono ?_
      rintro e w' ⟨rfl, rfl⟩
      have hR := HRL.out
      go_wp2_with fail
      go_meet
      exact ⟨_, by omega, rfl, rfl, hv⟩
  case rest =>
  clear hx HD HDR HRL hlt hi0
  obtain ⟨i1, hi1, rfl, rfl, hx⟩ := hcut
  go_upto_region 9 with fail
  go_cut [41] (fun b wx => b = .bool (decide ((s.data.toList.drop i1).head? = some 46 ∧ hd (s.data.toList.drop (i1 + 1)) = true)) ∧ w = wx)
  case first =>
    clear hx
    by_cases h0 : i1 < s.size
    · have hy := Lib.hid (head_byte s i1 h0 46 (by omega))
      cases h1 : (((s[i1].toNat : Nat) : Int) == 46) with
      | true =>
        have hz : Hid ((s.data.toList.drop i1).head? = some 46) := by have := hy.out; rw [show ((46 : Nat) : Int) = 46 from rfl, h1] at this; unfold Hid; simpa using this.symm
        clear hy
        go_wp2_with fail
        refine (digit_any s (i1 + 1) _).mono ?_
        generalize hh : hd (s.data.toList.drop (i1 + 1)) = H
        have HH := Lib.hid hh
        clear hh
        rintro e w' ⟨rfl, rfl⟩
        go_wp2_with fail
        go_meet
        exact ⟨by rw [HH.out, hz.out]; simp, rfl⟩
      | false =>
        have hz : Hid (¬ (s.data.toList.drop i1).head? = some 46) := by have := hy.out; rw [show ((46 : Nat) : Int) = 46 from rfl, h1] at this; unfold Hid; simpa using this.symm
        clear hy
        go_wp2_with fail
        go_meet
        exact ⟨by rw [decide_eq_false (fun x => hz.out x.1)], rfl⟩
    · have hy := Lib.hid (head_end s i1 h0)
      go_wp2_with fail
      go_meet
      exact ⟨by rw [hy.out]; rfl, rfl⟩
  case rest =>
  obtain ⟨rfl, rfl⟩ := hcut
  obtain ⟨B, hB⟩ : ∃ B, B = (decide ((s.data.toList.drop i1).head? = some 46 ∧ hd (s.data.toList.drop (i1 + 1)) = true)) := ⟨_, rfl⟩
  rw [← hB]
  have HB := Lib.hid hB
  clear hB
  go_upto_if 41 with fail
  go_cut [3] (fun i wx => ∃ i2 : Nat, i2 ≤ s.size ∧ i = .int .i64 i2 ∧ w = wx ∧ Hid (NumPlain.scan s.data.toList = i2 + expLen (s.data.toList.drop i2)))
  case first =>
    cases B with
    | true =>
      obtain ⟨hc, hh⟩ := of_decide_eq_true HB.out.symm
      have hlt : i1 < s.size := by
        rcases Nat.lt_or_ge i1 s.size with h | h
        · exact h
        · rw [head_end s i1 (by omega)] at hc; cases hc
      have hRL := run_le (s.data.toList.drop (i1 + 1))
      rw [List.length_drop, ← Lib.size_eq] at hRL
      have HRL : Hid (i1 + 1 + run (s.data.toList.drop (i1 + 1)) ≤ s.size) := by unfold Hid; omega
      have hv : Hid (NumPlain.scan s.data.toList = (i1 + 1 + run (s.data.toList.drop (i1 + 1))) + expLen (s.data.toList.drop (i1 + 1 + run (s.data.toList.drop (i1 + 1))))) := by
        have hdr := drop_data s i1 hlt
        rw [hdr] at hc
        unfold Hid
        rw [hx.out, hdr, tail_point _ _ (by simpa using hc) hh, List.drop_drop]; omega
      clear hx hc hh hRL HB
      go_wp2_with fail
      refine (run_any s (i1 + 1) _ (by omega) (by omega)).mono ?_
      rintro e w' ⟨rfl, rfl⟩
      have hR := HRL.out
      go_wp2_with fail
      go_meet
      exact ⟨_, hR, rfl, rfl, hv⟩
    | false =>
      have hv : Hid (NumPlain.scan s.data.toList = i1 + expLen (s.data.toList.drop i1)) := by
        have hb := of_decide_eq_false HB.out.symm
        unfold Hid
        rw [hx.out, tail_other]
        by_cases h : (s.data.toList.drop i1).head? = some 46
        · right; rw [List.drop_drop]
          cases h2 : hd (s.data.toList.drop (i1 + 1)) with
          | false => rfl
          | true => exact absurd ⟨h, h2⟩ hb
        · exact .inl h
      clear hx HB
      go_wp2_with fail
      go_meet
      exact ⟨i1, by omega, rfl, rfl, hv⟩
  case rest =>
  clear hx hi1 HB
  obtain ⟨i2, hi2, rfl, rfl, hx⟩ := hcut
  go_upto_region 11 with fail
  go_cut [61] (fun b wx => b = .bool (decide ((s.data.toList.drop i2).head? = some 101 ∨ (s.data.toList.drop i2).head? = some 69)) ∧ w = wx)
  case first =>
    clear hx
    by_cases h0 : i2 < s.size
    · have hy := Lib.hid (head_byte s i2 h0 101 (by omega))
      have hy2 := Lib.hid (head_byte s i2 h0 69 (by omega))
      cases h1 : (((s[i2].toNat : Nat) : Int) == 101) with
      | true =>
        have hz : Hid ((s.data.toList.drop i2).head? = some 101) := by have := hy.out; rw [show ((101 : Nat) : Int) = 101 from rfl, h1] at this; unfold Hid; simpa using this.symm
        clear hy hy2
        go_wp2_with fail
        go_meet
        exact ⟨by rw [decide_eq_true (.inl hz.out)], rfl⟩
      | false =>
        have hz : Hid (¬ (s.data.toList.drop i2).head? = some 101) := by have := hy.out; rw [show ((101 : Nat) : Int) = 101 from rfl, h1] at this; unfold Hid; simpa using this.symm
        cases h2 : (((s[i2].toNat : Nat) : Int) == 69) with
        | true =>
          have hz2 : Hid ((s.data.toList.drop i2).head? = some 69) := by have := hy2.out; rw [show ((69 : Nat) : Int) = 69 from rfl, h2] at this; unfold Hid; simpa using this.symm
          clear hy hy2
          go_wp2_with fail
          go_meet
          exact ⟨by rw [decide_eq_true (.inr hz2.out)], rfl⟩
        | false =>
          have hz2 : Hid (¬ (s.data.toList.drop i2).head? = some 69) := by have := hy2.out; rw [show ((69 : Nat) : Int) = 69 from rfl, h2] at this; unfold Hid; simpa using this.symm
          clear hy hy2
          go_wp2_with fail
          go_meet
          exact ⟨by rw [decide_eq_false (fun x => x.elim hz.out hz2.out)], rfl⟩
    · have hy := Lib.hid (head_end s i2 h0)
      go_wp2_with fail
      go_meet
      exact ⟨by rw [hy.out]; rfl, rfl⟩
  case rest =>
  obtain ⟨rfl, rfl⟩ := hcut
  have HE := Lib.hid (exp_cases (s.data.toList.drop i2))
  by_cases hE : (s.data.toList.drop i2).head? = some 101 ∨ (s.data.toList.drop i2).head? = some 69
  · rw [decide_eq_true hE]
    have hlt : i2 < s.size := by
      rcases Nat.lt_or_ge i2 s.size with h | h
      · exact h
      · rw [head_end s i2 (by omega)] at hE; simp at hE
    have HE2 : Hid (expLen (s.data.toList.drop i2) = if (s.data.toList.drop (i2 + 1)).head? = some 43 ∨ (s.data.toList.drop (i2 + 1)).head? = some 45 then (if hd (s.data.toList.drop (i2 + 2)) then 2 + run (s.data.toList.drop (i2 + 2)) else 0) else if hd (s.data.toList.drop (i2 + 1)) then 1 + run (s.data.toList.drop (i2 + 1)) else 0) := by
      have := HE.out; rw [if_pos hE, List.drop_drop, List.drop_drop] at this; exact this
    clear HE hE
    go_upto_region 13 with fail
    go_cut [79] (fun b wx => b = .bool (decide ((s.data.toList.drop (i2 + 1)).head? = some 43 ∨ (s.data.toList.drop (i2 + 1)).head? = some 45)) ∧ w = wx)
    case first =>
      clear hx HE2
      by_cases h0 : i2 + 1 < s.size
      · have hy := Lib.hid (head_byte s (i2 + 1) h0 43 (by omega))
        have hy2 := Lib.hid (head_byte s (i2 + 1) h0 45 (by omega))
        cases h1 : (((s[i2 + 1].toNat : Nat) : Int) == 43) with
        | true =>
          have hz : Hid ((s.data.toList.drop (i2 + 1)).head? = some 43) := by have := hy.out; rw [show ((43 : Nat) : Int) = 43 from rfl, h1] at this; unfold Hid; simpa using this.symm
          clear hy hy2
          go_wp2_with fail
          go_meet
          exact ⟨by rw [decide_eq_true (.inl hz.out)], rfl⟩
        | false =>
          have hz : Hid (¬ (s.data.toList.drop (i2 + 1)).head? = some 43) := by have := hy.out; rw [show ((43 : Nat) : Int) = 43 from rfl, h1] at this; unfold Hid; simpa using this.symm
          cases h2 : (((s[i2 + 1].toNat : Nat) : Int) == 45) with
          | true =>
            have hz2 : Hid ((s.data.toList.drop (i2 + 1)).head? = some 45) := by have := hy2.out; rw [show ((45 : Nat) : Int) = 45 from rfl, h2] at this; unfold Hid; simpa using this.symm
            clear hy hy2
            go_wp2_with fail
            go_meet
            exact ⟨by rw [decide_eq_true (.inr hz2.out)], rfl⟩
          | false =>
            have hz2 : Hid (¬ (s.data.toList.drop (i2 + 1)).head? = some 45) := by have := hy2.out; rw [show ((45 : Nat) : Int) = 45 from rfl, h2] at this; unfold Hid; simpa using this.symm
            clear hy hy2
            go_wp2_with fail
            go_meet
            exact ⟨by rw [decide_eq_false (fun x => x.elim hz.out hz2.out)], rfl⟩
      · have hy := Lib.hid (head_end s (i2 + 1) h0)
        go_wp2_with fail
        go_meet
        exact ⟨by rw [hy.out]; rfl, rfl⟩
    case rest =>
    obtain ⟨rfl, rfl⟩ := hcut
    by_cases hS : (s.data.toList.drop (i2 + 1)).head? = some 43 ∨ (s.data.toList.drop (i2 + 1)).head? = some 45
    · rw [decide_eq_true hS]
      have hlt2 : i2 + 1 < s.size := by
        rcases Nat.lt_or_ge (i2 + 1) s.size with h | h
        · exact h
        · rw [head_end s (i2 + 1) (by omega)] at hS; simp at hS
      have HE3 : Hid (expLen (s.data.toList.drop i2) = if hd (s.data.toList.drop (i2 + 2)) then 2 + run (s.data.toList.drop (i2 + 2)) else 0) := by have := HE2.out; rw [if_pos hS] at this; exact this
      clear HE2 hS
      go_wp2_with fail
      refine (digit_any s (i2 + 2) _).mono ?_
      cases hh : hd (s.data.toList.drop (i2 + 2)) with
      | true =>
        have hv : Hid (NumPlain.scan s.data.toList = i2 + 2 + run (s.data.toList.drop (i2 + 2))) := by
          unfold Hid; rw [hx.out, HE3.out, hh, if_pos rfl]; omega
        clear HE3 hx hh
        rintro e w' ⟨rfl, rfl⟩
        go_wp2_with fail
        refine (run_any s (i2 + 2) _ (by omega) (by omega)).mono ?_
        rintro e w' ⟨rfl, rfl⟩
        go_wp2_with fail
        go_ret
        exact ⟨by rw [hv.out]; rfl, rfl⟩
      | false =>
        have hv : Hid (NumPlain.scan s.data.toList = i2) := by
          unfold Hid; rw [hx.out, HE3.out, hh]; rfl
        clear HE3 hx hh
        rintro e w' ⟨rfl, rfl⟩
        go_wp2_with fail
        go_ret
        exact ⟨by rw [hv.out]; rfl, rfl⟩
    · rw [decide_eq_false hS]
      have HE3 : Hid (expLen (s.data.toList.drop i2) = if hd (s.data.toList.drop (i2 + 1)) then 1 + run (s.data.toList.drop (i2 + 1)) else 0) := by have := HE2.out; rw [if_neg hS] at this; exact this
      clear HE2 hS
      go_wp2_with fail
      refine (digit_any s (i2 + 1) _).mono ?_
      cases hh : hd (s.data.toList.drop (i2 + 1)) with
      | true =>
        have hv : Hid (NumPlain.scan s.data.toList = i2 + 1 + run (s.data.toList.drop (i2 + 1))) := by
          unfold Hid; rw [hx.out, HE3.out, hh, if_pos rfl]; omega
        clear HE3 hx hh
        rintro e w' ⟨rfl, rfl⟩
        go_wp2_with fail
        refine (run_any s (i2 + 1) _ (by omega) (by omega)).mono ?_
        rintro e w' ⟨rfl, rfl⟩
        go_wp2_with fail
        go_ret
        exact ⟨by rw [hv.out]; rfl, rfl⟩
      | false =>
        have hv : Hid (NumPlain.scan s.data.toList = i2) := by
          unfold Hid; rw [hx.out, HE3.out, hh]; rfl
        clear HE3 hx hh
        rintro e w' ⟨rfl, rfl⟩
        go_wp2_with fail
        go_ret
        exact ⟨by rw [hv.out]; rfl, rfl⟩
  · rw [decide_eq_false hE]
    have hv : Hid (NumPlain.scan s.data.toList = i2) := by
      unfold Hid; rw [hx.out, HE.out, if_neg hE]; rfl
    clear HE hx hE
    go_wp2_with fail
    go_ret
    exact ⟨by rw [hv.out]; rfl, rfl⟩
end Go.Proofs.YtdfihhebgllpcaaGreatDoor

/- The reference's Right. -/
namespace Go.Proofs.YtdfihhebgllpcaaGreatDoor
open Go.RowKit Go.Proofs.NumPlain

theorem all_take (s : ByteArray) (k : Nat) (h : k < s.size) (h1 : (s.data.toList.take k).all isD = true) (h2 : isD s[k] = true) : (s.data.toList.take (k + 1)).all isD = true := by
  rw [take_snoc s k h, List.all_append, h1]; simp [h2]
theorem all_take_no (s : ByteArray) (k : Nat) (h : k < s.size) (h2 : isD s[k] = false) : s.data.toList.all isD = false := by
  have hm : s[k] ∈ s.data.toList := by
    have : s.data.toList[k]? = some s[k] := by rw [List.getElem?_eq_getElem (by simpa using h)]; rfl
    exact List.mem_of_getElem? this
  cases ha : s.data.toList.all isD with
  | false => rfl
  | true => rw [List.all_eq_true.1 ha _ hm] at h2; cases h2

set_option maxHeartbeats 2000000 in
theorem rright_none (neg : Bool) (x : Int) (w : World) :
    Calls Tryz.prog 234 #[.agg #[.bool neg, .string ⟨#[]⟩, .int .i64 x]] w fun e w' => e = .returned (.bool (!neg && x == 0)) ∧ Below w.heap.size w w' := by
  cases neg
  all_goals
    go_enter Tryz.func234, Tryz.ntmps234
    go_wp2_with fail
    go_ret
    exact ⟨by simp, (Below.refl _ _).alloc (Nat.le_refl _) _⟩

set_option maxHeartbeats 4000000 in
set_option maxRecDepth 100000 in
theorem rright_walk (neg : Bool) (d : ByteArray) (x : Int) (w : World) (hs : d.size ≤ 9223372036854775806) (h0 : 0 < d.size) :
    Calls Tryz.prog 234 #[.agg #[.bool neg, .string d, .int .i64 x]] w fun e w' => e = .returned (.bool (right ⟨neg, d.data.toList, x⟩)) ∧ Below w.heap.size w w' := by
  have hne : d.data.toList ≠ [] := fun h => by
    have : d.size = 0 := by rw [Lib.size_eq, h]; rfl
    omega
  have hR := right_some neg d.data.toList x hne
  rw [get_first d h0, get_last d h0, ne_48, ne_48, ← Lib.size_eq] at hR
  have HR := Lib.hid hR
  have hz : (((d.size : Nat) : Int) == 0) = false := by rw [beq_eq_false_iff_ne]; omega
  clear hR hne
  by_cases h1 : 1000 < d.size ∨ x < -10000 ∨ 10000 < x
  · have hv : Hid (right ⟨neg, d.data.toList, x⟩ = false) := by
      unfold Hid; rw [HR.out]
      rcases h1 with h | h | h
      · rw [decide_eq_false (by omega : ¬ d.size ≤ 1000)]; simp
      · rw [decide_eq_false (by omega : ¬ -10000 ≤ x)]; simp
      · rw [decide_eq_false (by omega : ¬ x ≤ 10000)]; simp
    clear HR
    by_cases g1 : 1000 < d.size
    all_goals by_cases g2 : x < -10000
    all_goals by_cases g3 : 10000 < x
    all_goals first | (exfalso; omega) | skip
    all_goals clear h1
    all_goals
      go_enter Tryz.func234, Tryz.ntmps234
      go_wp2_with fail
      go_ret
      exact ⟨by rw [hv.out]; rfl, (Below.refl _ _).alloc (Nat.le_refl _) _⟩
  · have g1 : d.size ≤ 1000 := by omega
    have g2 : -10000 ≤ x := by omega
    have g3 : x ≤ 10000 := by omega
    clear h1
    have hv : Hid (right ⟨neg, d.data.toList, x⟩ = (d.data.toList.all isD && (((d[0].toNat : Nat) : Int) != 48) && (((d[d.size - 1].toNat : Nat) : Int) != 48))) := by
      unfold Hid; rw [HR.out, decide_eq_true g1, decide_eq_true g2, decide_eq_true g3]; simp
    clear HR
    go_enter Tryz.func234, Tryz.ntmps234
    go_wp2_with fail
    go_loop [3] (fun i => ∃ k : Nat, k ≤ d.size ∧ i = .int .i64 k ∧ Hid ((d.data.toList.take k).all isD = true)) (fun i => d.size - (intOf i).toNat)
    case atStart => exact ⟨0, Nat.zero_le _, rfl, rfl⟩
    case round =>
      obtain ⟨k, hk, rfl, ha⟩ := hrel
      by_cases hlt : k < d.size
      · go_wp2_with fail
        refine (digit_any d k _).mono ?_
        rw [hd_drop d k hlt]
        cases hh : isD d[k] with
        | true =>
          have ha2 := Lib.hid (all_take d k hlt ha.out hh)
          clear ha hh
          rintro e w' ⟨rfl, rfl⟩
          go_wp2_with fail
          go_round
          case rel => exact ⟨k + 1, by omega, by go_num, ha2⟩
          case measure => simp [intOf]; omega
        | false =>
          have hv2 : Hid (right ⟨neg, d.data.toList, x⟩ = false) := by unfold Hid; rw [hv.out, all_take_no d k hlt hh]; rfl
          clear ha hh hv
          rintro e w' ⟨rfl, rfl⟩
          go_wp2_with fail
          go_ret
          exact ⟨by rw [hv2.out]; rfl, (Below.refl _ _).alloc (Nat.le_refl _) _⟩
      · have ha2 : d.data.toList.all isD = true := by
          have := ha.out
          rw [List.take_of_length_le (by rw [← Lib.size_eq]; omega)] at this
          exact this
        have hv2 : Hid (right ⟨neg, d.data.toList, x⟩ = ((((d[0].toNat : Nat) : Int) != 48) && (((d[d.size - 1].toNat : Nat) : Int) != 48))) := by unfold Hid; rw [hv.out, ha2]; simp
        clear ha hv ha2
        cases q1 : (((d[0].toNat : Nat) : Int) != 48)
        · have hv3 : Hid (right ⟨neg, d.data.toList, x⟩ = false) := by unfold Hid; rw [hv2.out, q1]; rfl
          go_wp2_with fail
          go_ret
          exact ⟨by rw [hv3.out]; rfl, (Below.refl _ _).alloc (Nat.le_refl _) _⟩
        · cases q2 : (((d[d.size - 1].toNat : Nat) : Int) != 48)
          · have hv3 : Hid (right ⟨neg, d.data.toList, x⟩ = false) := by unfold Hid; rw [hv2.out, q1, q2]; rfl
            go_wp2_with fail
            go_ret
            exact ⟨by rw [hv3.out]; rfl, (Below.refl _ _).alloc (Nat.le_refl _) _⟩
          · have hv3 : Hid (right ⟨neg, d.data.toList, x⟩ = true) := by unfold Hid; rw [hv2.out, q1, q2]; rfl
            go_wp2_with fail
            go_ret
            exact ⟨by rw [hv3.out]; rfl, (Below.refl _ _).alloc (Nat.le_refl _) _⟩

/-- The reference's Right at every number. -/
theorem rright_any (neg : Bool) (d : ByteArray) (x : Int) (w : World) (hs : d.size ≤ 9223372036854775806) :
    Calls Tryz.prog 234 #[.agg #[.bool neg, .string d, .int .i64 x]] w fun e w' => e = .returned (.bool (right ⟨neg, d.data.toList, x⟩)) ∧ Below w.heap.size w w' := by
  by_cases h0 : 0 < d.size
  · exact rright_walk neg d x w hs h0
  · obtain ⟨⟨l⟩⟩ := d
    cases l with
    | nil => exact rright_none neg x w
    | cons c r => exact absurd (show 0 < (ByteArray.mk ⟨c :: r⟩).size by show 0 < (c :: r).length; simp) h0
end Go.Proofs.YtdfihhebgllpcaaGreatDoor
