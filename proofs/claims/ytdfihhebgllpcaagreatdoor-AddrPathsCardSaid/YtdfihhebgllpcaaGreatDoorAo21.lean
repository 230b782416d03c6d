import Derived.Test.YtdfihhebgllpcaaGreatDoorAo07
import Derived.Deep.RegionWith

/- The walks of the reference's guess, One, Bad, Valid. -/
namespace Go.Proofs.YtdfihhebgllpcaaGreatDoor
open Go.RowKit Go.Proofs.UtfPlain

theorem ug_at (s : ByteArray) (i : Nat) (a : UInt8) (h : i < s.size) (hl : s.data.toList[i]? = some a) : s[i] = a := by
  rw [List.getElem?_eq_getElem (by rw [← Lib.size_eq]; exact h)] at hl
  exact Option.some.inj hl

set_option maxRecDepth 100000 in
set_option maxHeartbeats 4000000 in
theorem rguess_1 (p : ByteArray) (w : World) (a : UInt8) (hl : p.data.toList = [a]) :
    Calls Tryz.prog 157 #[.string p] w fun e w' => e = .returned (.int .i64 (guess [a])) ∧ Below w.heap.size w w' := by
  have hn : p.size = 1 := by rw [Lib.size_eq, hl]; rfl
  have g0 : p[0]'(by omega) = a := ug_at p 0 a (by omega) (by rw [hl]; rfl)
  have b0 : a.toNat < 256 := a.toNat_lt
  rw [show guess [a] = (a.toNat : Int) by simp [guess, lead]]
  clear hl
  go_enter Tryz.func157, Tryz.ntmps157
  go_wp2_with fail
  go_quiet (fail)
  go_wp2_with fail
  refine wp_loop_rounds 1 ?_
  rw [rounds_succ]
  go_wp2_with fail
  go_ret
  exact ⟨rfl, below_drewN ((Below.refl _ _).alloc (Nat.le_refl _) _) _⟩

set_option maxRecDepth 100000 in
set_option maxHeartbeats 4000000 in
theorem rguess_2 (p : ByteArray) (w : World) (a b : UInt8) (hl : p.data.toList = [a, b]) :
    Calls Tryz.prog 157 #[.string p] w fun e w' => e = .returned (.int .i64 (guess [a, b])) ∧ Below w.heap.size w w' := by
  have hn : p.size = 2 := by rw [Lib.size_eq, hl]; rfl
  have g0 : p[0]'(by omega) = a := ug_at p 0 a (by omega) (by rw [hl]; rfl)
  have b0 : a.toNat < 256 := a.toNat_lt
  have g1 : p[1]'(by omega) = b := ug_at p 1 b (by omega) (by rw [hl]; rfl)
  have b1 : b.toNat < 256 := b.toNat_lt
  rw [show guess [a, b] = (((a.toNat : Int) - 192) * 64 + (b.toNat : Int) - 128) by simp [guess, lead]]
  clear hl
  go_enter Tryz.func157, Tryz.ntmps157
  go_wp2_with fail
  go_quiet (fail)
  go_wp2_with fail
  refine wp_loop_rounds 2 ?_
  rw [rounds_succ]
  go_wp2_with fail
  rw [rounds_succ]
  go_wp2_with fail
  go_ret
  exact ⟨rfl, below_drewN ((Below.refl _ _).alloc (Nat.le_refl _) _) _⟩

set_option maxRecDepth 100000 in
set_option maxHeartbeats 4000000 in
theorem rguess_3 (p : ByteArray) (w : World) (a b d : UInt8) (hl : p.data.toList = [a, b, d]) :
    Calls Tryz.prog 157 #[.string p] w fun e w' => e = .returned (.int .i64 (guess [a, b, d])) ∧ Below w.heap.size w w' := by
  have hn : p.size = 3 := by rw [Lib.size_eq, hl]; rfl
  have g0 : p[0]'(by omega) = a := ug_at p 0 a (by omega) (by rw [hl]; rfl)
  have b0 : a.toNat < 256 := a.toNat_lt
  have g1 : p[1]'(by omega) = b := ug_at p 1 b (by omega) (by rw [hl]; rfl)
  have b1 : b.toNat < 256 := b.toNat_lt
  have g2 : p[2]'(by omega) = d := ug_at p 2 d (by omega) (by rw [hl]; rfl)
  have b2 : d.toNat < 256 := d.toNat_lt
  rw [show guess [a, b, d] = ((((a.toNat : Int) - 224) * 64 + (b.toNat : Int) - 128) * 64 + (d.toNat : Int) - 128) by simp [guess, lead]]
  clear hl
  go_enter Tryz.func157, Tryz.ntmps157
  go_wp2_with fail
  go_quiet (fail)
  go_wp2_with fail
  refine wp_loop_rounds 3 ?_
  rw [rounds_succ]
  go_wp2_with fail
  rw [rounds_succ]
  go_wp2_with fail
  rw [rounds_succ]
  go_wp2_with fail
  go_ret
  exact ⟨rfl, below_drewN ((Below.refl _ _).alloc (Nat.le_refl _) _) _⟩

set_option maxRecDepth 100000 in
set_option maxHeartbeats 4000000 in
theorem rguess_4 (p : ByteArray) (w : World) (a b d f : UInt8) (hl : p.data.toList = [a, b, d, f]) :
    Calls Tryz.prog 157 #[.string p] w fun e w' => e = .returned (.int .i64 (guess [a, b, d, f])) ∧ Below w.heap.size w w' := by
  have hn : p.size = 4 := by rw [Lib.size_eq, hl]; rfl
  have g0 : p[0]'(by omega) = a := ug_at p 0 a (by omega) (by rw [hl]; rfl)
  have b0 : a.toNat < 256 := a.toNat_lt
  have g1 : p[1]'(by omega) = b := ug_at p 1 b (by omega) (by rw [hl]; rfl)
  have b1 : b.toNat < 256 := b.toNat_lt
  have g2 : p[2]'(by omega) = d := ug_at p 2 d (by omega) (by rw [hl]; rfl)
  have b2 : d.toNat < 256 := d.toNat_lt
  have g3 : p[3]'(by omega) = f := ug_at p 3 f (by omega) (by rw [hl]; rfl)
  have b3 : f.toNat < 256 := f.toNat_lt
  rw [show guess [a, b, d, f] = (((((a.toNat : Int) - 240) * 64 + (b.toNat : Int) - 128) * 64 + (d.toNat : Int) - 128) * 64 + (f.toNat : Int) - 128) by simp [guess, lead]]
  clear hl
  go_enter Tryz.func157, Tryz.ntmps157
  go_wp2_with fail
  go_quiet (fail)
  go_wp2_with fail
  refine wp_loop_rounds 4 ?_
  rw [rounds_succ]
  go_wp2_with fail
  rw [rounds_succ]
  go_wp2_with fail
  rw [rounds_succ]
  go_wp2_with fail
  rw [rounds_succ]
  go_wp2_with fail
  go_ret
  exact ⟨rfl, below_drewN ((Below.refl _ _).alloc (Nat.le_refl _) _) _⟩

theorem rguess_any (p : ByteArray) (w : World) (h1 : 1 ≤ p.size) (h4 : p.size ≤ 4) :
    Calls Tryz.prog 157 #[.string p] w fun e w' => e = .returned (.int .i64 (guess p.data.toList)) ∧ Below w.heap.size w w' := by
  have hs : p.size = p.data.toList.length := Lib.size_eq p
  match hl : p.data.toList with
  | [] => rw [hl] at hs; simp only [List.length_nil] at hs; omega
  | [a] => exact rguess_1 p w a hl
  | [a, b] => exact rguess_2 p w a b hl
  | [a, b, d] => exact rguess_3 p w a b d hl
  | [a, b, d, f] => exact rguess_4 p w a b d f hl
  | _ :: _ :: _ :: _ :: _ :: q =>
    have := congrArg List.length hl
    simp only [List.length_cons] at this
    omega
theorem guess_bd (l : List UInt8) (h : l.length ≤ 4) : -1000000000 ≤ guess l ∧ guess l ≤ 1000000000 := by
  match l with
  | [] => simp [guess]
  | [a] =>
    have := a.toNat_lt
    simp [guess, lead]; omega
  | [a, b] =>
    have := a.toNat_lt
    have := b.toNat_lt
    simp [guess, lead]; omega
  | [a, b, d] =>
    have := a.toNat_lt
    have := b.toNat_lt
    have := d.toNat_lt
    simp [guess, lead]; omega
  | [a, b, d, f] =>
    have := a.toNat_lt
    have := b.toNat_lt
    have := d.toNat_lt
    have := f.toNat_lt
    simp [guess, lead]; omega
  | _ :: _ :: _ :: _ :: _ :: _ => simp at h

set_option maxRecDepth 100000 in
set_option maxHeartbeats 4000000 in
theorem rone_any (s : ByteArray) (k : Nat) (w : World) (hs : s.size ≤ 9223372036854775000) (hk : k ≤ s.size) :
    Calls Tryz.prog 129 #[.string s, .int .i64 k] w fun e w' => e = .returned (.tuple #[.int .i64 (one (s.data.toList.drop k)).1, .int .i64 (one (s.data.toList.drop k)).2]) ∧ Below w.heap.size w w' := by
  obtain ⟨⟨R1, R2⟩, hR⟩ : ∃ R, one (s.data.toList.drop k) = R := ⟨_, rfl⟩
  rw [hR]
  have HR := Lib.hid hR
  clear hR
  go_enter Tryz.func129, Tryz.ntmps129
  go_wp2_with fail
  go_loopw [6] (fun i wr => ∃ n : Nat, 1 ≤ n ∧ n ≤ 5 ∧ i = .int .i64 n ∧ Hid (∀ j, 1 ≤ j → j < n → j ≤ (s.data.toList.drop k).length → put (guess ((s.data.toList.drop k).take j)) ≠ (s.data.toList.drop k).take j) ∧ Hid (Below w.heap.size w wr)) (fun i _ => 5 - (intOf i).toNat)
  case atStart => exact ⟨1, by omega, by omega, rfl, Lib.hid (fun j h1 h2 => by omega), Lib.hid (Below.refl _ _)⟩
  case round =>
    obtain ⟨n, hn1, hn5, rfl, HJ, HW⟩ := hrel
    by_cases hn4 : n ≤ 4
    · have hn4' : (n : Int) ≤ 4 := by omega
      by_cases hkn : k + n ≤ s.size
      · obtain ⟨m, hm⟩ : ∃ m : Nat, m = k + n := ⟨_, rfl⟩
        have hm1 : (k : Int) + (n : Int) = (m : Int) := by omega
        have hm2 : (m : Int) ≤ (s.size : Int) := by omega
        have hm3 : (k : Int) ≤ (m : Int) := by omega
        have hwm : IntKind.i64.wrap (m : Int) = (m : Int) := IntWalk.i64_in _ (by omega)
        obtain ⟨P, hP⟩ : ∃ P : ByteArray, s.extract k m = P := ⟨_, rfl⟩
        have hPd : P.data.toList = (s.data.toList.drop k).take n := by rw [← hP, hm, data_extract, Nat.add_sub_cancel_left]
        have hPs : P.size = n := by rw [Lib.size_eq, hPd, List.length_take, List.length_drop, ← Lib.size_eq]; omega
        obtain ⟨g1, g2⟩ := guess_bd P.data.toList (by rw [← Lib.size_eq]; omega)
        have CG : Hid (∀ w, Calls Tryz.prog 157 #[.string P] w fun e w' => e = .returned (.int .i64 (guess P.data.toList)) ∧ Below w.heap.size w w') := fun w => rguess_any P w (by omega) (by omega)
        obtain ⟨G, hG⟩ : ∃ G, guess P.data.toList = G := ⟨_, rfl⟩
        rw [hG] at CG g1 g2
        have CP : Hid (∀ w, Calls Tryz.prog 158 #[.int .i64 G] w fun e w' => e = .returned (.string ⟨(put G).toArray⟩) ∧ Below w.heap.size w w') := fun w => rput_any G w g1 g2
        obtain ⟨Q, hQ⟩ : ∃ Q : ByteArray, Q = ⟨(put G).toArray⟩ := ⟨_, rfl⟩
        rw [← hQ] at CP
        by_cases hpq : Q = P
        · have hy := ref_yes (s.data.toList.drop k) n hn1 hn4 (by rw [List.length_drop, ← Lib.size_eq]; omega) (by
            rw [← hPd, hG, ← hpq, hQ])
          rw [← hPd, hG, HR.out] at hy
          obtain ⟨hy1, hy2⟩ := hy
          have HY : Hid (((R1 : Nat) : Int) = G ∧ R2 = n) := ⟨hy1, hy2⟩
          have hbeq2 : (Q.toList == P.toList) = true := by rw [hpq]; exact beq_self_eq_true _
          have hbeq3 : Q.toList = P.toList := by rw [hpq]
          clear hy1 hy2 hPd hPs hG hQ g1 g2 hpq hn4 hkn hm
          go_wp2_with fail
          refine (CG.out _).mono ?_
          rintro e w1 ⟨rfl, hb⟩
          have HW1 := Lib.hid (HW.out.trans (hb.mono HW.out.size))
          clear hb
          go_wp2_with fail
          go_region_with (first | (go_at_call 158; refine (CP.out _).mono ?_; rintro e' w2 ⟨rfl, hb2⟩))
          all_goals (
            go_wp2_with fail
            go_ret2
            exact ⟨(show Ending.returned (.tuple #[.int .i64 G, .int .i64 (n : Int)]) = .returned (.tuple #[.int .i64 (R1 : Int), .int .i64 (R2 : Int)]) by rw [HY.out.1, HY.out.2]), HW1.out.drew.trans (hb2.mono HW1.out.size)⟩)
        · have hne : ¬ Q.toList = P.toList := fun h => hpq (by
            have h2 : Q.data.toList = P.data.toList := by rw [← Lib.toList_data, ← Lib.toList_data]; exact h
            rw [bytes_eta Q _ h2, bytes_eta P _ rfl])
          have hbeq2 : (Q.toList == P.toList) = false := by rw [beq_eq_false_iff_ne]; exact hne
          have HJ2 : Hid (∀ j, 1 ≤ j → j < n + 1 → j ≤ (s.data.toList.drop k).length → put (guess ((s.data.toList.drop k).take j)) ≠ (s.data.toList.drop k).take j) := fun j h1 h2 h3 => by
            rcases Nat.lt_or_ge j n with h | h
            · exact HJ.out j h1 h h3
            · obtain rfl : j = n := by omega
              rw [← hPd, hG]
              intro h4
              exact hpq (by rw [hQ, bytes_eta P _ rfl, ← h4])
          clear HJ hPd hPs hG hQ g1 g2 hkn hm
          go_wp2_with fail
          refine (CG.out _).mono ?_
          rintro e w1 ⟨rfl, hb⟩
          have HW1 := Lib.hid (HW.out.trans (hb.mono HW.out.size))
          clear hb
          go_wp2_with fail
          go_region_with (first | (go_at_call 158; refine (CP.out _).mono ?_; rintro e' w2 ⟨rfl, hb2⟩))
          all_goals (
            go_wp2_with fail
            go_roundw
            case rel => exact ⟨n + 1, by omega, by omega, by go_num, HJ2, Lib.hid (HW1.out.drew.trans (hb2.mono HW1.out.size))⟩
            case measure => simp [intOf]; omega)
      · have hkn' : ¬ (k : Int) + (n : Int) ≤ (s.size : Int) := by omega
        have hz := ref_no (s.data.toList.drop k) (fun j h1 h2 h3 => HJ.out j h1 (by rw [List.length_drop, ← Lib.size_eq] at h3; omega) h3)
        rw [HR.out] at hz
        cases hz
        clear HJ hkn
        go_wp2_with fail
        go_ret2
        exact ⟨rfl, HW.out⟩
    · have hn4' : ¬ (n : Int) ≤ 4 := by omega
      have hz := ref_no (s.data.toList.drop k) (fun j h1 h2 h3 => HJ.out j h1 (by omega) h3)
      rw [HR.out] at hz
      cases hz
      clear HJ hn4
      go_wp2_with fail
      go_ret2
      exact ⟨rfl, HW.out⟩

set_option maxRecDepth 100000 in
set_option maxHeartbeats 4000000 in
theorem rbad_any (s : ByteArray) (w : World) (hs : s.size ≤ 9223372036854775000) :
    Calls Tryz.prog 104 #[.string s] w fun e w' => e = .returned (.int .i64 (badAt 0 s.data.toList)) ∧ Below w.heap.size w w' := by
  obtain ⟨E, hE⟩ : ∃ E, badAt 0 s.data.toList = E := ⟨_, rfl⟩
  rw [hE]
  have HE := Lib.hid hE
  have HS := Lib.hid hs
  clear hE
  go_enter Tryz.func104, Tryz.ntmps104
  go_wp2_with fail
  go_loopw [3] (fun p wr => ∃ at_ : Nat, at_ ≤ s.size ∧ p = .int .i64 at_ ∧ Hid (E = badAt at_ (s.data.toList.drop at_)) ∧ Hid (Below w.heap.size w wr)) (fun p _ => s.size - (intOf p).toNat)
  case atStart => exact ⟨0, by omega, rfl, Lib.hid HE.out.symm, Lib.hid (Below.refl _ _)⟩
  case round =>
    obtain ⟨at_, hat, rfl, HA, HW⟩ := hrel
    by_cases hlt : at_ < s.size
    · have hlt' : (at_ : Int) < (s.size : Int) := by omega
      obtain ⟨⟨c, n⟩, hcn⟩ : ∃ q, q = one (s.data.toList.drop at_) := ⟨_, rfl⟩
      have hn := one_size (s.data.toList.drop at_)
      rw [← hcn, List.length_drop, ← Lib.size_eq] at hn
      have hn' : n ≤ s.size - at_ := hn
      have CN : Hid (∀ w, Calls Tryz.prog 129 #[.string s, .int .i64 at_] w fun e w' => e = .returned (.tuple #[.int .i64 c, .int .i64 n]) ∧ Below w.heap.size w w') := fun w => by
        have h := rone_any s at_ w HS.out hat
        rw [← hcn] at h
        exact h
      have HCN := Lib.hid hcn
      clear hcn hn
      by_cases hn0 : n = 0
      · have hEE : E = (at_ : Int) := by
          rw [HA.out]
          exact badAt_bad at_ _ (by intro h; have := congrArg List.length h; rw [List.length_drop, ← Lib.size_eq, List.length_nil] at this; omega) (by rw [← HCN.out]; exact hn0)
        subst hEE
        subst hn0
        go_wp2_with fail
        refine (CN.out _).mono ?_
        rintro e w1 ⟨rfl, hb⟩
        have HW1 := Lib.hid (HW.out.trans (hb.mono HW.out.size))
        clear hb
        go_wp2_with fail
        go_ret
        exact ⟨rfl, HW1.out⟩
      · have hn1 : ¬ (n : Int) = 0 := by omega
        have hn2 : ((n : Int) == 0) = false := by rw [beq_eq_false_iff_ne]; exact hn1
        have HA2 : Hid (E = badAt (at_ + n) (s.data.toList.drop (at_ + n))) := by
          unfold Hid
          rw [HA.out, badAt_step at_ _ (by rw [← HCN.out]; exact hn0), ← HCN.out, List.drop_drop]
        go_wp2_with fail
        refine (CN.out _).mono ?_
        rintro e w1 ⟨rfl, hb⟩
        have HW1 := Lib.hid (HW.out.trans (hb.mono HW.out.size))
        clear hb
        go_wp2_with fail
        go_roundw
        case rel => exact ⟨at_ + n, by omega, by go_num, HA2, HW1⟩
        case measure => simp [intOf]; omega
    · have hge : ¬ (at_ : Int) < (s.size : Int) := by omega
      have hEE : E = -1 := by
        rw [HA.out, List.drop_eq_nil_of_le (by rw [← Lib.size_eq]; omega), badAt_nil]
      subst hEE
      go_wp2_with fail
      go_ret
      exact ⟨rfl, HW.out⟩

theorem rvalid_any (s : ByteArray) (w : World) (hs : s.size ≤ 9223372036854775000) :
    Calls Tryz.prog 55 #[.string s] w fun e w' => e = .returned (.bool (valid s.data.toList)) ∧ Below w.heap.size w w' := by
  rw [valid_eq]
  have C := Lib.hid (rbad_any s w hs)
  obtain ⟨b, hb⟩ : ∃ b, badAt 0 s.data.toList = b := ⟨_, rfl⟩
  rw [hb] at C ⊢
  clear hb
  by_cases h : b < 0
  · rw [decide_eq_true h]
    go_enter Tryz.func55, Tryz.ntmps55
    go_wp2_with fail
    refine C.out.mono ?_
    rintro e w1 ⟨rfl, hb⟩
    have HB := Lib.hid hb
    clear hb
    go_wp2_with fail
    go_ret
    exact ⟨rfl, HB.out⟩
  · rw [decide_eq_false h]
    have hd : decide (b < 0) = false := decide_eq_false h
    go_enter Tryz.func55, Tryz.ntmps55
    go_wp2_with fail
    refine C.out.mono ?_
    rintro e w1 ⟨rfl, hb⟩
    have HB := Lib.hid hb
    clear hb
    go_wp2_with fail
    go_ret
    exact ⟨rfl, HB.out⟩
end Go.Proofs.YtdfihhebgllpcaaGreatDoor
