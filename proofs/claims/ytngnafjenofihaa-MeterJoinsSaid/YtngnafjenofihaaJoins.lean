/- The walk of MeterJoins: every call by its contract, on every way. -/
import Derived.Test.YtngnafjenofihaaUse
namespace Go.Proofs.Ytngnafjenofihaa
open Go.RowKit

set_option maxHeartbeats 4000000 in
theorem joins_any (l a b : Int) (w : World) (hl : l ≤ 9223372036854775807) :
    Calls Try.prog 3 #[.int .i64 l, .int .i64 a, .int .i64 b] w fun e w' => e = .returned (.bool true) ∧ Below w.heap.size w w' := by
  by_cases hg : a < 0 ∨ b < 0 ∨ 1152921504606846976 < a ∨ 1152921504606846976 < b
  · obtain ⟨L, hL⟩ : ∃ L, L = max l 0 := ⟨_, rfl⟩
    have HL := Lib.hid hL
    clear hL
    by_cases g1 : a < 0
    all_goals by_cases g2 : b < 0
    all_goals by_cases g3 : 1152921504606846976 < a
    all_goals by_cases g4 : 1152921504606846976 < b
    all_goals first | (exfalso; omega) | skip
    all_goals clear hg
    all_goals
      go_enter Try.func3, Try.ntmps3
      go_wp2_with fail
      refine (wakes_any _).mono ?_
      rintro e w1 ⟨rfl, b1⟩
      go_wp2_with fail
      refine (new_u l _).mono ?_
      rintro e w2 ⟨rfl, h⟩
      have b2 := b1.trans (h.below.mono b1.size)
      have x2 : MAt w2 w1.heap.size L 0 0 0 := HL.out ▸ h.at_
      have s2 := h.size
      have z2 := b1.size
      clear h b1
      go_wp2_with fail
      refine (new_u l _).mono ?_
      rintro e w3 ⟨rfl, h⟩
      have b3 := b2.trans (h.below.mono b2.size)
      have x3 := h.keep x2
      clear x2
      have y3 : MAt w3 w2.heap.size L 0 0 0 := HL.out ▸ h.at_
      have s3 := h.size
      have z3 := b2.size
      clear h b2
      go_wp2_with fail
      go_ret
      exact ⟨rfl, b3⟩
  · have g1 : 0 ≤ a := by omega
    have g2 : 0 ≤ b := by omega
    have g3 : a ≤ 1152921504606846976 := by omega
    have g4 : b ≤ 1152921504606846976 := by omega
    clear hg
    obtain ⟨L, hL⟩ : ∃ L, L = max l 0 := ⟨_, rfl⟩
    have l0 : 0 ≤ L := by omega
    have l1 : L ≤ 9223372036854775807 := by omega
    have HL := Lib.hid hL
    clear hL
    by_cases hp : a ≤ L
    · by_cases hq : b ≤ L - a
      · go_enter Try.func3, Try.ntmps3
        go_wp2_with fail
        refine (wakes_any _).mono ?_
        rintro e w1 ⟨rfl, b1⟩
        go_wp2_with fail
        refine (new_u l _).mono ?_
        rintro e w2 ⟨rfl, h⟩
        have b2 := b1.trans (h.below.mono b1.size)
        have x2 : MAt w2 w1.heap.size L 0 0 0 := HL.out ▸ h.at_
        have s2 := h.size
        have z2 := b1.size
        clear h b1
        go_wp2_with fail
        refine (new_u l _).mono ?_
        rintro e w3 ⟨rfl, h⟩
        have b3 := b2.trans (h.below.mono b2.size)
        have x3 := h.keep x2
        clear x2
        have y3 : MAt w3 w2.heap.size L 0 0 0 := HL.out ▸ h.at_
        have s3 := h.size
        have z3 := b2.size
        clear h b2
        go_wp2_with fail
        refine (take_ok_u _ _ _ _ _ _ _ x3 (by omega) (by omega) (by omega) (by omega) (by omega)).mono ?_
        rintro e w4 ⟨rfl, h⟩
        have b4 := h.below b3 (by omega)
        have x4 := h.at_
        have y4 := h.keep (by omega) y3
        clear x3
        clear y3
        clear h b3
        go_wp2_with fail
        refine (take_ok_u _ _ _ _ _ _ _ x4 (by omega) (by omega) (by omega) (by omega) (by omega)).mono ?_
        rintro e w5 ⟨rfl, h⟩
        have b5 := h.below b4 (by omega)
        have x5 := h.at_
        have y5 := h.keep (by omega) y4
        clear x4
        clear y4
        clear h b4
        go_wp2_with fail
        refine (take_ok_u _ _ _ _ _ _ _ y5 (by omega) (by omega) (by omega) (by omega) (by omega)).mono ?_
        rintro e w6 ⟨rfl, h⟩
        have b6 := h.below b5 (by omega)
        have x6 := h.keep (by omega) x5
        have y6 := h.at_
        clear x5
        clear y5
        clear h b5
        go_wp2_with fail
        refine (used_any _ _ _ _ _ _ x6 ).mono ?_
        rintro e w' ⟨rfl, rfl⟩
        go_wp2_with fail
        refine (used_any _ _ _ _ _ _ y6 ).mono ?_
        rintro e w' ⟨rfl, rfl⟩
        have z : ((0 + a + b : Int) == 0 + (a + b)) = true := by simp [Int.add_assoc]
        go_wp2_with fail
        refine (left_u _ _ _ _ _ _ x6 (by omega) (by omega) (by omega)).mono ?_
        rintro e w7 ⟨rfl, h⟩
        have b7 := h.below b6 (by omega)
        have x7 := h.at_
        have y7 := h.keep (by omega) y6
        clear x6
        clear y6
        clear h b6
        go_wp2_with fail
        refine (left_u _ _ _ _ _ _ y7 (by omega) (by omega) (by omega)).mono ?_
        rintro e w8 ⟨rfl, h⟩
        have b8 := h.below b7 (by omega)
        have x8 := h.keep (by omega) x7
        have y8 := h.at_
        clear x7
        clear y7
        clear h b7
        have z2 : ((L - (0 + a + b) : Int) == L - (0 + (a + b))) = true := by simp [Int.add_assoc]
        go_wp2_with fail
        go_ret
        exact ⟨rfl, b8⟩
      · go_enter Try.func3, Try.ntmps3
        go_wp2_with fail
        refine (wakes_any _).mono ?_
        rintro e w1 ⟨rfl, b1⟩
        go_wp2_with fail
        refine (new_u l _).mono ?_
        rintro e w2 ⟨rfl, h⟩
        have b2 := b1.trans (h.below.mono b1.size)
        have x2 : MAt w2 w1.heap.size L 0 0 0 := HL.out ▸ h.at_
        have s2 := h.size
        have z2 := b1.size
        clear h b1
        go_wp2_with fail
        refine (new_u l _).mono ?_
        rintro e w3 ⟨rfl, h⟩
        have b3 := b2.trans (h.below.mono b2.size)
        have x3 := h.keep x2
        clear x2
        have y3 : MAt w3 w2.heap.size L 0 0 0 := HL.out ▸ h.at_
        have s3 := h.size
        have z3 := b2.size
        clear h b2
        go_wp2_with fail
        refine (take_ok_u _ _ _ _ _ _ _ x3 (by omega) (by omega) (by omega) (by omega) (by omega)).mono ?_
        rintro e w4 ⟨rfl, h⟩
        have b4 := h.below b3 (by omega)
        have x4 := h.at_
        have y4 := h.keep (by omega) y3
        clear x3
        clear y3
        clear h b3
        go_wp2_with fail
        refine (take_no_u _ _ _ _ _ _ _ x4 (by omega) (by omega) (by omega) (by omega) (by omega) (by omega)).mono ?_
        rintro e w5 ⟨rfl, h⟩
        have b5 := h.below b4 (by omega)
        have x5 := h.at_
        have y5 := h.keep (by omega) y4
        clear x4
        clear y4
        clear h b4
        go_wp2_with fail
        refine (take_no_u _ _ _ _ _ _ _ y5 (by omega) (by omega) (by omega) (by omega) (by omega) (by omega)).mono ?_
        rintro e w6 ⟨rfl, h⟩
        have b6 := h.below b5 (by omega)
        have x6 := h.keep (by omega) x5
        have y6 := h.at_
        clear x5
        clear y5
        clear h b5
        go_wp2_with fail
        refine (used_any _ _ _ _ _ _ y6 ).mono ?_
        rintro e w' ⟨rfl, rfl⟩
        go_wp2_with fail
        go_ret
        exact ⟨rfl, b6⟩
    · by_cases hq : b ≤ L
      · go_enter Try.func3, Try.ntmps3
        go_wp2_with fail
        refine (wakes_any _).mono ?_
        rintro e w1 ⟨rfl, b1⟩
        go_wp2_with fail
        refine (new_u l _).mono ?_
        rintro e w2 ⟨rfl, h⟩
        have b2 := b1.trans (h.below.mono b1.size)
        have x2 : MAt w2 w1.heap.size L 0 0 0 := HL.out ▸ h.at_
        have s2 := h.size
        have z2 := b1.size
        clear h b1
        go_wp2_with fail
        refine (new_u l _).mono ?_
        rintro e w3 ⟨rfl, h⟩
        have b3 := b2.trans (h.below.mono b2.size)
        have x3 := h.keep x2
        clear x2
        have y3 : MAt w3 w2.heap.size L 0 0 0 := HL.out ▸ h.at_
        have s3 := h.size
        have z3 := b2.size
        clear h b2
        go_wp2_with fail
        refine (take_no_u _ _ _ _ _ _ _ x3 (by omega) (by omega) (by omega) (by omega) (by omega) (by omega)).mono ?_
        rintro e w4 ⟨rfl, h⟩
        have b4 := h.below b3 (by omega)
        have x4 := h.at_
        have y4 := h.keep (by omega) y3
        clear x3
        clear y3
        clear h b3
        go_wp2_with fail
        refine (take_ok_u _ _ _ _ _ _ _ x4 (by omega) (by omega) (by omega) (by omega) (by omega)).mono ?_
        rintro e w5 ⟨rfl, h⟩
        have b5 := h.below b4 (by omega)
        have x5 := h.at_
        have y5 := h.keep (by omega) y4
        clear x4
        clear y4
        clear h b4
        go_wp2_with fail
        refine (take_no_u _ _ _ _ _ _ _ y5 (by omega) (by omega) (by omega) (by omega) (by omega) (by omega)).mono ?_
        rintro e w6 ⟨rfl, h⟩
        have b6 := h.below b5 (by omega)
        have x6 := h.keep (by omega) x5
        have y6 := h.at_
        clear x5
        clear y5
        clear h b5
        go_wp2_with fail
        refine (used_any _ _ _ _ _ _ y6 ).mono ?_
        rintro e w' ⟨rfl, rfl⟩
        go_wp2_with fail
        go_ret
        exact ⟨rfl, b6⟩
      · go_enter Try.func3, Try.ntmps3
        go_wp2_with fail
        refine (wakes_any _).mono ?_
        rintro e w1 ⟨rfl, b1⟩
        go_wp2_with fail
        refine (new_u l _).mono ?_
        rintro e w2 ⟨rfl, h⟩
        have b2 := b1.trans (h.below.mono b1.size)
        have x2 : MAt w2 w1.heap.size L 0 0 0 := HL.out ▸ h.at_
        have s2 := h.size
        have z2 := b1.size
        clear h b1
        go_wp2_with fail
        refine (new_u l _).mono ?_
        rintro e w3 ⟨rfl, h⟩
        have b3 := b2.trans (h.below.mono b2.size)
        have x3 := h.keep x2
        clear x2
        have y3 : MAt w3 w2.heap.size L 0 0 0 := HL.out ▸ h.at_
        have s3 := h.size
        have z3 := b2.size
        clear h b2
        go_wp2_with fail
        refine (take_no_u _ _ _ _ _ _ _ x3 (by omega) (by omega) (by omega) (by omega) (by omega) (by omega)).mono ?_
        rintro e w4 ⟨rfl, h⟩
        have b4 := h.below b3 (by omega)
        have x4 := h.at_
        have y4 := h.keep (by omega) y3
        clear x3
        clear y3
        clear h b3
        go_wp2_with fail
        refine (take_no_u _ _ _ _ _ _ _ x4 (by omega) (by omega) (by omega) (by omega) (by omega) (by omega)).mono ?_
        rintro e w5 ⟨rfl, h⟩
        have b5 := h.below b4 (by omega)
        have x5 := h.at_
        have y5 := h.keep (by omega) y4
        clear x4
        clear y4
        clear h b4
        go_wp2_with fail
        refine (take_no_u _ _ _ _ _ _ _ y5 (by omega) (by omega) (by omega) (by omega) (by omega) (by omega)).mono ?_
        rintro e w6 ⟨rfl, h⟩
        have b6 := h.below b5 (by omega)
        have x6 := h.keep (by omega) x5
        have y6 := h.at_
        clear x5
        clear y5
        clear h b5
        go_wp2_with fail
        refine (used_any _ _ _ _ _ _ y6 ).mono ?_
        rintro e w' ⟨rfl, rfl⟩
        go_wp2_with fail
        go_ret
        exact ⟨rfl, b6⟩

end Go.Proofs.Ytngnafjenofihaa
