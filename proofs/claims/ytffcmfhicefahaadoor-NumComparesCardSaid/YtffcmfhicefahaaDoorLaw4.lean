/- The walk of the statement NumCompares. -/
import Derived.Test.YtffcmfhicefahaaDoorLaw1
import Derived.Test.YtffcmfhicefahaaDoorCmp1
namespace Go.Proofs.YtffcmfhicefahaaDoor
open Go.RowKit Go.Proofs.NumPlain


set_option maxHeartbeats 2000000 in
theorem numCompares_long0 (n0 n1 : Bool) (s0 s1 : ByteArray) (x0 x1 : Int) (w : World) (hl : 1200 < s0.size) (hG : Glob w) : Calls Tryd.prog 6 #[.agg #[.bool n0, .string s0, .int .i64 x0], .agg #[.bool n1, .string s1, .int .i64 x1]] w fun e w' => e = .returned (.bool true) ∧ Below w.heap.size w w' := by
  have g0 : (1200 : Int) < (s0.size : Int) := by omega
  obtain ⟨h0, h1, hW⟩ := two_boxes w #[.bool n0, .string s0, .int .i64 x0] #[.bool n1, .string s1, .int .i64 x1] 24
  have H0 := Lib.hid h0
  have H1 := Lib.hid h1
  have HW := Lib.hid hW
  have HGw := Lib.hid hG
  have HG := Lib.hid (hG.below hW)
  clear hG hW h0 h1
  have a00 := H0.out.cell 0
  have a01 := H0.out.cell 1
  have a02 := H0.out.cell 2
  have a10 := H1.out.cell 0
  have a11 := H1.out.cell 1
  have a12 := H1.out.cell 2
  go_enter Tryd.func6, Tryd.ntmps6
  go_wp2_with fail
  refine (wakes_any _ HG.out).mono ?_
  rintro e w1 ⟨rfl, hb⟩
  have K0 := Lib.hid (H0.out.below hb H0.out.lt)
  have K1 := Lib.hid (H1.out.below hb H1.out.lt)
  have KW := Lib.hid (HW.out.trans (hb.mono HW.out.size))
  clear hb HW H0 H1 a00 a01 a02 a10 a11 a12
  have H0 := K0
  have H1 := K1
  have HW := KW
  clear KW K0 K1
  have a00 := H0.out.cell 0
  have a01 := H0.out.cell 1
  have a02 := H0.out.cell 2
  have a10 := H1.out.cell 0
  have a11 := H1.out.cell 1
  have a12 := H1.out.cell 2
  go_wp2_with fail
  go_ret
  exact ⟨rfl, HW.out⟩


set_option maxHeartbeats 2000000 in
theorem numCompares_long1 (n0 n1 : Bool) (s0 s1 : ByteArray) (x0 x1 : Int) (w : World) (hs0 : s0.size ≤ 1200) (hl : 1200 < s1.size) (hG : Glob w) : Calls Tryd.prog 6 #[.agg #[.bool n0, .string s0, .int .i64 x0], .agg #[.bool n1, .string s1, .int .i64 x1]] w fun e w' => e = .returned (.bool true) ∧ Below w.heap.size w w' := by
  have g0 : ¬ (1200 : Int) < (s0.size : Int) := by omega
  have g1 : (1200 : Int) < (s1.size : Int) := by omega
  obtain ⟨h0, h1, hW⟩ := two_boxes w #[.bool n0, .string s0, .int .i64 x0] #[.bool n1, .string s1, .int .i64 x1] 24
  have H0 := Lib.hid h0
  have H1 := Lib.hid h1
  have HW := Lib.hid hW
  have HGw := Lib.hid hG
  have HG := Lib.hid (hG.below hW)
  clear hG hW h0 h1
  have a00 := H0.out.cell 0
  have a01 := H0.out.cell 1
  have a02 := H0.out.cell 2
  have a10 := H1.out.cell 0
  have a11 := H1.out.cell 1
  have a12 := H1.out.cell 2
  go_enter Tryd.func6, Tryd.ntmps6
  go_wp2_with fail
  refine (wakes_any _ HG.out).mono ?_
  rintro e w1 ⟨rfl, hb⟩
  have K0 := Lib.hid (H0.out.below hb H0.out.lt)
  have K1 := Lib.hid (H1.out.below hb H1.out.lt)
  have KW := Lib.hid (HW.out.trans (hb.mono HW.out.size))
  clear hb HW H0 H1 a00 a01 a02 a10 a11 a12
  have H0 := K0
  have H1 := K1
  have HW := KW
  clear KW K0 K1
  have a00 := H0.out.cell 0
  have a01 := H0.out.cell 1
  have a02 := H0.out.cell 2
  have a10 := H1.out.cell 0
  have a11 := H1.out.cell 1
  have a12 := H1.out.cell 2
  go_wp2_with fail
  go_ret
  exact ⟨rfl, HW.out⟩


set_option maxHeartbeats 2000000 in
theorem numCompares_small (n0 n1 : Bool) (s0 s1 : ByteArray) (x0 x1 : Int) (w : World) (hs0 : s0.size ≤ 1200) (hs1 : s1.size ≤ 1200) (hG : Glob w) : Calls Tryd.prog 6 #[.agg #[.bool n0, .string s0, .int .i64 x0], .agg #[.bool n1, .string s1, .int .i64 x1]] w fun e w' => e = .returned (.bool true) ∧ Below w.heap.size w w' := by
  have g0 : ¬ (1200 : Int) < (s0.size : Int) := by omega
  have g1 : ¬ (1200 : Int) < (s1.size : Int) := by omega
  obtain ⟨C, hC⟩ : ∃ C, C = NumPlain.cmpP ⟨n0, s0.data.toList, x0⟩ ⟨n1, s1.data.toList, x1⟩ := ⟨_, rfl⟩
  have CAB : Hid (∀ w, Calls Tryd.prog 19 #[.agg #[.bool n0, .string s0, .int .i64 x0], .agg #[.bool n1, .string s1, .int .i64 x1]] w fun e w' => e = .returned (.int .i64 C) ∧ Below w.heap.size w w') := fun w => by rw [hC]; exact compare_any n0 n1 s0 s1 x0 x1 w hs0 hs1
  have RAB : Hid (∀ w, Calls Tryd.prog 20 #[.agg #[.bool n0, .string s0, .int .i64 x0], .agg #[.bool n1, .string s1, .int .i64 x1]] w fun e w' => e = .returned (.int .i64 C) ∧ Below w.heap.size w w') := fun w => by rw [hC, cmp_same]; exact rcompare_any n0 n1 s0 s1 x0 x1 w hs0 hs1
  have CBA : Hid (∀ w, Calls Tryd.prog 19 #[.agg #[.bool n1, .string s1, .int .i64 x1], .agg #[.bool n0, .string s0, .int .i64 x0]] w fun e w' => e = .returned (.int .i64 (-C)) ∧ Below w.heap.size w w') := fun w => by
    rw [hC, cmp_same, ← cmpR_neg, ← cmp_same]; exact compare_any n1 n0 s1 s0 x1 x0 w hs1 hs0
  have RA : Hid (∀ w, Calls Tryd.prog 16 #[.agg #[.bool n0, .string s0, .int .i64 x0]] w fun e w' => e = .returned (.bool (right ⟨n0, s0.data.toList, x0⟩)) ∧ Below w.heap.size w w') := fun w => rright_any n0 s0 x0 w (by omega)
  have RB : Hid (∀ w, Calls Tryd.prog 16 #[.agg #[.bool n1, .string s1, .int .i64 x1]] w fun e w' => e = .returned (.bool (right ⟨n1, s1.data.toList, x1⟩)) ∧ Below w.heap.size w w') := fun w => rright_any n1 s1 x1 w (by omega)
  have hCb : -1 ≤ C ∧ C ≤ 1 := by
    have h := compare_bd s0.data.toList s1.data.toList
    rw [hC]
    unfold NumPlain.cmpP NumPlain.more
    dsimp only
    split
    · omega
    · split
      · split <;> omega
      · split
        · split <;> split <;> omega
        · split <;> omega
  have hwn : IntKind.i64.wrap (-C) = -C := IntWalk.i64_in _ (by omega)
  have hz : C = 0 → right ⟨n0, s0.data.toList, x0⟩ = false ∨ right ⟨n1, s1.data.toList, x1⟩ = false ∨ (n0 = n1 ∧ s0 = s1 ∧ x0 = x1) := fun h => by
    rw [h] at hC
    rcases cmp_zero _ _ hC.symm with h | h | h
    · injection h with e1 e2 e3
      exact .inr (.inr ⟨e1, by rw [bytes_eta s0 _ rfl, bytes_eta s1 _ rfl, e2], e3⟩)
    · exact .inl h
    · exact .inr (.inl h)
  have HC := Lib.hid hwn
  obtain ⟨B1, hB1⟩ : ∃ b, b = right ⟨n0, s0.data.toList, x0⟩ := ⟨_, rfl⟩
  obtain ⟨B2, hB2⟩ : ∃ b, b = right ⟨n1, s1.data.toList, x1⟩ := ⟨_, rfl⟩
  rw [← hB1] at RA hz
  rw [← hB2] at RB hz
  have HZ : Hid (C = 0 → B1 = false ∨ B2 = false ∨ (n0 = n1 ∧ s0 = s1 ∧ x0 = x1)) := hz
  clear hC hCb hwn hs0 hs1 hz hB1 hB2
  obtain ⟨h0, h1, hW⟩ := two_boxes w #[.bool n0, .string s0, .int .i64 x0] #[.bool n1, .string s1, .int .i64 x1] 24
  have H0 := Lib.hid h0
  have H1 := Lib.hid h1
  have HW := Lib.hid hW
  have HGw := Lib.hid hG
  have HG := Lib.hid (hG.below hW)
  clear hG hW h0 h1
  have a00 := H0.out.cell 0
  have a01 := H0.out.cell 1
  have a02 := H0.out.cell 2
  have a10 := H1.out.cell 0
  have a11 := H1.out.cell 1
  have a12 := H1.out.cell 2
  go_enter Tryd.func6, Tryd.ntmps6
  go_wp2_with fail
  refine (wakes_any _ HG.out).mono ?_
  rintro e w1 ⟨rfl, hb⟩
  have K0 := Lib.hid (H0.out.below hb H0.out.lt)
  have K1 := Lib.hid (H1.out.below hb H1.out.lt)
  have KW := Lib.hid (HW.out.trans (hb.mono HW.out.size))
  clear hb HW H0 H1 a00 a01 a02 a10 a11 a12
  have H0 := K0
  have H1 := K1
  have HW := KW
  clear KW K0 K1
  have a00 := H0.out.cell 0
  have a01 := H0.out.cell 1
  have a02 := H0.out.cell 2
  have a10 := H1.out.cell 0
  have a11 := H1.out.cell 1
  have a12 := H1.out.cell 2
  go_wp2_with fail
  refine (CAB.out _).mono ?_
  rintro e w2 ⟨rfl, hb⟩
  have K0 := Lib.hid (H0.out.below hb H0.out.lt)
  have K1 := Lib.hid (H1.out.below hb H1.out.lt)
  have KW := Lib.hid (HW.out.trans (hb.mono HW.out.size))
  clear hb HW H0 H1 a00 a01 a02 a10 a11 a12
  have H0 := K0
  have H1 := K1
  have HW := KW
  clear KW K0 K1
  have a00 := H0.out.cell 0
  have a01 := H0.out.cell 1
  have a02 := H0.out.cell 2
  have a10 := H1.out.cell 0
  have a11 := H1.out.cell 1
  have a12 := H1.out.cell 2
  go_wp2_with fail
  refine (RAB.out _).mono ?_
  rintro e w3 ⟨rfl, hb⟩
  have K0 := Lib.hid (H0.out.below hb H0.out.lt)
  have K1 := Lib.hid (H1.out.below hb H1.out.lt)
  have KW := Lib.hid (HW.out.trans (hb.mono HW.out.size))
  clear hb HW H0 H1 a00 a01 a02 a10 a11 a12
  have H0 := K0
  have H1 := K1
  have HW := KW
  clear KW K0 K1
  have a00 := H0.out.cell 0
  have a01 := H0.out.cell 1
  have a02 := H0.out.cell 2
  have a10 := H1.out.cell 0
  have a11 := H1.out.cell 1
  have a12 := H1.out.cell 2
  go_wp2_with fail
  refine (CBA.out _).mono ?_
  rintro e w4 ⟨rfl, hb⟩
  have K0 := Lib.hid (H0.out.below hb H0.out.lt)
  have K1 := Lib.hid (H1.out.below hb H1.out.lt)
  have KW := Lib.hid (HW.out.trans (hb.mono HW.out.size))
  clear hb HW H0 H1 a00 a01 a02 a10 a11 a12
  have H0 := K0
  have H1 := K1
  have HW := KW
  clear KW K0 K1
  have a00 := H0.out.cell 0
  have a01 := H0.out.cell 1
  have a02 := H0.out.cell 2
  have a10 := H1.out.cell 0
  have a11 := H1.out.cell 1
  have a12 := H1.out.cell 2
  have hwn := HC.out
  clear HC CAB CBA RAB
  by_cases hc : C = 0
  · have hz := HZ.out hc
    have hcz : (C != 0) = false := by simpa using hc
    clear HZ hc
    have HZ := Lib.hid hz
    clear hz
    by_cases he : n0 = n1 ∧ s0 = s1 ∧ x0 = x1
    · obtain ⟨rfl, rfl, rfl⟩ := he
      clear HZ
      go_wp2_with fail
      go_ret
      exact ⟨rfl, HW.out⟩
    · have hne : ¬ (n0 = n1 ∧ s0 = s1 ∧ x0 = x1) := he
      clear he
      by_cases hn : n0 = n1
      · by_cases hd : s0 = s1
        · have hx : ¬ x0 = x1 := fun e => hne ⟨hn, hd, e⟩
          have kx : (x0 == x1) = false := by simpa using hx
          subst hn
          subst hd
          cases B1 with
          | false =>
            clear HZ RB
            go_wp2_with fail
            refine (RA.out _).mono ?_
            rintro e w5 ⟨rfl, hb⟩
            have K0 := Lib.hid (H0.out.below hb H0.out.lt)
            have K1 := Lib.hid (H1.out.below hb H1.out.lt)
            have KW := Lib.hid (HW.out.trans (hb.mono HW.out.size))
            clear hb HW H0 H1 a00 a01 a02 a10 a11 a12
            have H0 := K0
            have H1 := K1
            have HW := KW
            clear KW K0 K1
            have a00 := H0.out.cell 0
            have a01 := H0.out.cell 1
            have a02 := H0.out.cell 2
            have a10 := H1.out.cell 0
            have a11 := H1.out.cell 1
            have a12 := H1.out.cell 2
            go_wp2_with fail
            go_ret
            exact ⟨rfl, HW.out⟩
          | true =>
            have h2 : B2 = false := by
              rcases HZ.out with h' | h' | h'
              · cases h'
              · exact h'
              · exact absurd h' hne
            subst h2
            clear HZ hne
            go_wp2_with fail
            refine (RA.out _).mono ?_
            rintro e w5 ⟨rfl, hb⟩
            have K0 := Lib.hid (H0.out.below hb H0.out.lt)
            have K1 := Lib.hid (H1.out.below hb H1.out.lt)
            have KW := Lib.hid (HW.out.trans (hb.mono HW.out.size))
            clear hb HW H0 H1 a00 a01 a02 a10 a11 a12
            have H0 := K0
            have H1 := K1
            have HW := KW
            clear KW K0 K1
            have a00 := H0.out.cell 0
            have a01 := H0.out.cell 1
            have a02 := H0.out.cell 2
            have a10 := H1.out.cell 0
            have a11 := H1.out.cell 1
            have a12 := H1.out.cell 2
            go_wp2_with fail
            refine (RB.out _).mono ?_
            rintro e w6 ⟨rfl, hb⟩
            have K0 := Lib.hid (H0.out.below hb H0.out.lt)
            have K1 := Lib.hid (H1.out.below hb H1.out.lt)
            have KW := Lib.hid (HW.out.trans (hb.mono HW.out.size))
            clear hb HW H0 H1 a00 a01 a02 a10 a11 a12
            have H0 := K0
            have H1 := K1
            have HW := KW
            clear KW K0 K1
            have a00 := H0.out.cell 0
            have a01 := H0.out.cell 1
            have a02 := H0.out.cell 2
            have a10 := H1.out.cell 0
            have a11 := H1.out.cell 1
            have a12 := H1.out.cell 2
            go_wp2_with fail
            go_ret
            exact ⟨rfl, HW.out⟩
        · obtain ⟨k1, k2, k3⟩ := str_ne s0 s1 hd
          subst hn
          cases B1 with
          | false =>
            clear HZ RB
            go_wp2_with fail
            refine (RA.out _).mono ?_
            rintro e w5 ⟨rfl, hb⟩
            have K0 := Lib.hid (H0.out.below hb H0.out.lt)
            have K1 := Lib.hid (H1.out.below hb H1.out.lt)
            have KW := Lib.hid (HW.out.trans (hb.mono HW.out.size))
            clear hb HW H0 H1 a00 a01 a02 a10 a11 a12
            have H0 := K0
            have H1 := K1
            have HW := KW
            clear KW K0 K1
            have a00 := H0.out.cell 0
            have a01 := H0.out.cell 1
            have a02 := H0.out.cell 2
            have a10 := H1.out.cell 0
            have a11 := H1.out.cell 1
            have a12 := H1.out.cell 2
            go_wp2_with fail
            go_ret
            exact ⟨rfl, HW.out⟩
          | true =>
            have h2 : B2 = false := by
              rcases HZ.out with h' | h' | h'
              · cases h'
              · exact h'
              · exact absurd h' hne
            subst h2
            clear HZ hne
            go_wp2_with fail
            refine (RA.out _).mono ?_
            rintro e w5 ⟨rfl, hb⟩
            have K0 := Lib.hid (H0.out.below hb H0.out.lt)
            have K1 := Lib.hid (H1.out.below hb H1.out.lt)
            have KW := Lib.hid (HW.out.trans (hb.mono HW.out.size))
            clear hb HW H0 H1 a00 a01 a02 a10 a11 a12
            have H0 := K0
            have H1 := K1
            have HW := KW
            clear KW K0 K1
            have a00 := H0.out.cell 0
            have a01 := H0.out.cell 1
            have a02 := H0.out.cell 2
            have a10 := H1.out.cell 0
            have a11 := H1.out.cell 1
            have a12 := H1.out.cell 2
            go_wp2_with fail
            refine (RB.out _).mono ?_
            rintro e w6 ⟨rfl, hb⟩
            have K0 := Lib.hid (H0.out.below hb H0.out.lt)
            have K1 := Lib.hid (H1.out.below hb H1.out.lt)
            have KW := Lib.hid (HW.out.trans (hb.mono HW.out.size))
            clear hb HW H0 H1 a00 a01 a02 a10 a11 a12
            have H0 := K0
            have H1 := K1
            have HW := KW
            clear KW K0 K1
            have a00 := H0.out.cell 0
            have a01 := H0.out.cell 1
            have a02 := H0.out.cell 2
            have a10 := H1.out.cell 0
            have a11 := H1.out.cell 1
            have a12 := H1.out.cell 2
            go_wp2_with fail
            go_ret
            exact ⟨rfl, HW.out⟩
      · have kn : (n0 == n1) = false := by simpa using hn
        cases B1 with
        | false =>
          clear HZ RB
          go_wp2_with fail
          refine (RA.out _).mono ?_
          rintro e w5 ⟨rfl, hb⟩
          have K0 := Lib.hid (H0.out.below hb H0.out.lt)
          have K1 := Lib.hid (H1.out.below hb H1.out.lt)
          have KW := Lib.hid (HW.out.trans (hb.mono HW.out.size))
          clear hb HW H0 H1 a00 a01 a02 a10 a11 a12
          have H0 := K0
          have H1 := K1
          have HW := KW
          clear KW K0 K1
          have a00 := H0.out.cell 0
          have a01 := H0.out.cell 1
          have a02 := H0.out.cell 2
          have a10 := H1.out.cell 0
          have a11 := H1.out.cell 1
          have a12 := H1.out.cell 2
          go_wp2_with fail
          go_ret
          exact ⟨rfl, HW.out⟩
        | true =>
          have h2 : B2 = false := by
            rcases HZ.out with h' | h' | h'
            · cases h'
            · exact h'
            · exact absurd h' hne
          subst h2
          clear HZ hne
          go_wp2_with fail
          refine (RA.out _).mono ?_
          rintro e w5 ⟨rfl, hb⟩
          have K0 := Lib.hid (H0.out.below hb H0.out.lt)
          have K1 := Lib.hid (H1.out.below hb H1.out.lt)
          have KW := Lib.hid (HW.out.trans (hb.mono HW.out.size))
          clear hb HW H0 H1 a00 a01 a02 a10 a11 a12
          have H0 := K0
          have H1 := K1
          have HW := KW
          clear KW K0 K1
          have a00 := H0.out.cell 0
          have a01 := H0.out.cell 1
          have a02 := H0.out.cell 2
          have a10 := H1.out.cell 0
          have a11 := H1.out.cell 1
          have a12 := H1.out.cell 2
          go_wp2_with fail
          refine (RB.out _).mono ?_
          rintro e w6 ⟨rfl, hb⟩
          have K0 := Lib.hid (H0.out.below hb H0.out.lt)
          have K1 := Lib.hid (H1.out.below hb H1.out.lt)
          have KW := Lib.hid (HW.out.trans (hb.mono HW.out.size))
          clear hb HW H0 H1 a00 a01 a02 a10 a11 a12
          have H0 := K0
          have H1 := K1
          have HW := KW
          clear KW K0 K1
          have a00 := H0.out.cell 0
          have a01 := H0.out.cell 1
          have a02 := H0.out.cell 2
          have a10 := H1.out.cell 0
          have a11 := H1.out.cell 1
          have a12 := H1.out.cell 2
          go_wp2_with fail
          go_ret
          exact ⟨rfl, HW.out⟩
  · have hcz : (C != 0) = true := by simpa using hc
    clear HZ hc
    go_wp2_with fail
    go_ret
    exact ⟨rfl, HW.out⟩


theorem numCompares_any (n0 n1 : Bool) (s0 s1 : ByteArray) (x0 x1 : Int) (w : World) (hs0 : s0.size ≤ 9223372036854775807) (hs1 : s1.size ≤ 9223372036854775807) (hG : Glob w) : Calls Tryd.prog 6 #[.agg #[.bool n0, .string s0, .int .i64 x0], .agg #[.bool n1, .string s1, .int .i64 x1]] w fun e w' => e = .returned (.bool true) ∧ Below w.heap.size w w' := by
  by_cases h0 : 1200 < s0.size
  · exact numCompares_long0 n0 n1 s0 s1 x0 x1 w h0 hG
  · by_cases h1 : 1200 < s1.size
    · exact numCompares_long1 n0 n1 s0 s1 x0 x1 w (by omega) h1 hG
    · exact numCompares_small n0 n1 s0 s1 x0 x1 w (by omega) (by omega) hG

end Go.Proofs.YtffcmfhicefahaaDoor
