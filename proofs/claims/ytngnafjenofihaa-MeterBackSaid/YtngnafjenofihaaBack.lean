/- The walk of MeterBack: every call by its contract, on every way. -/
import Derived.Test.YtngnafjenofihaaUse
namespace Go.Proofs.Ytngnafjenofihaa
open Go.RowKit

set_option maxHeartbeats 4000000 in
theorem back_any (l a b : Int) (w : World) (hl : l ≤ 9223372036854775807) :
    Calls Try.prog 4 #[.int .i64 l, .int .i64 a, .int .i64 b] w fun e w' => e = .returned (.bool true) ∧ Below w.heap.size w w' := by
  by_cases hg : a < 0 ∨ b < 0 ∨ 1152921504606846976 < a ∨ 1152921504606846976 < b
  · obtain ⟨L, hL⟩ : ∃ L, L = max l 0 := ⟨_, rfl⟩
    have HL := Lib.hid hL
    clear hL
    by_cases g1 : a < 0
    all_goals by_cases g2 : b < 0
    all_goals by_cases g3 : 1152921504606846976 < a
    all_goals by_cases g4 : 1152921504606846976 < b
    all_goals first | (exfalso; omega) | skip
    all_goals clear hg
    all_goals
      go_enter Try.func4, Try.ntmps4
      go_wp2_with fail
      refine (wakes_any _).mono ?_
      rintro e w1 ⟨rfl, b1⟩
      go_wp2_with fail
      refine (new_u l _).mono ?_
      rintro e w2 ⟨rfl, h⟩
      have b2 := b1.trans (h.below.mono b1.size)
      have x2 : MAt w2 w1.heap.size L 0 0 0 := HL.out ▸ h.at_
      have s2 := h.size
      have z2 := b1.size
      clear h b1
      go_wp2_with fail
      go_ret
      exact ⟨rfl, b2⟩
  · have g1 : 0 ≤ a := by omega
    have g2 : 0 ≤ b := by omega
    have g3 : a ≤ 1152921504606846976 := by omega
    have g4 : b ≤ 1152921504606846976 := by omega
    clear hg
    obtain ⟨L, hL⟩ : ∃ L, L = max l 0 := ⟨_, rfl⟩
    have l0 : 0 ≤ L := by omega
    have l1 : L ≤ 9223372036854775807 := by omega
    have HL := Lib.hid hL
    clear hL
    by_cases hp : a ≤ L
    · by_cases hq : b ≤ L - a
      · go_enter Try.func4, Try.ntmps4
        go_wp2_with fail
        refine (wakes_any _).mono ?_
        rintro e w1 ⟨rfl, b1⟩
        go_wp2_with fail
        refine (new_u l _).mono ?_
        rintro e w2 ⟨rfl, h⟩
        have b2 := b1.trans (h.below.mono b1.size)
        have x2 : MAt w2 w1.heap.size L 0 0 0 := HL.out ▸ h.at_
        have s2 := h.size
        have z2 := b1.size
        clear h b1
        go_wp2_with fail
        refine (left_u _ _ _ _ _ _ x2 (by omega) (by omega) (by omega)).mono ?_
        rintro e w3 ⟨rfl, h⟩
        have b3 := h.below b2 (by omega)
        have x3 := h.at_
        clear x2
        clear h b2
        go_wp2_with fail
        refine (take_ok_u _ _ _ _ _ _ _ x3 (by omega) (by omega) (by omega) (by omega) (by omega)).mono ?_
        rintro e w4 ⟨rfl, h⟩
        have b4 := h.below b3 (by omega)
        have x4 := h.at_
        clear x3
        clear h b3
        go_wp2_with fail
        refine (take_ok_u _ _ _ _ _ _ _ x4 (by omega) (by omega) (by omega) (by omega) (by omega)).mono ?_
        rintro e w5 ⟨rfl, h⟩
        have b5 := h.below b4 (by omega)
        have x5 := h.at_
        clear x4
        clear h b4
        go_wp2_with fail
        refine (give_ok_u _ _ _ _ _ _ _ x5 (by omega) (by omega) (by omega) (by omega) (by omega) (by omega)).mono ?_
        rintro e w6 ⟨rfl, h⟩
        have b6 := h.below b5 (by omega)
        have x6 := h.at_
        clear x5
        clear h b5
        go_wp2_with fail
        refine (left_u _ _ _ _ _ _ x6 (by omega) (by omega) (by omega)).mono ?_
        rintro e w7 ⟨rfl, h⟩
        have b7 := h.below b6 (by omega)
        have x7 := h.at_
        clear x6
        clear h b6
        have z : ((L - (0 + a + b - (a + b)) : Int) == L - 0) = true := by simp <;> omega
        go_wp2_with fail
        refine (give_no_u _ _ _ _ _ _ _ x7 (by omega) (by omega) (by omega) (by omega) (by omega) (by omega) (by omega)).mono ?_
        rintro e w8 ⟨rfl, h⟩
        have b8 := h.below b7 (by omega)
        have x8 := h.at_
        clear x7
        clear h b7
        go_wp2_with fail
        refine (peak_any _ _ _ _ _ _ x8 ).mono ?_
        rintro e w' ⟨rfl, rfl⟩
        have z2 : (max 0 (max a (a + b)) == a + b) = true := by simp <;> omega
        go_wp2_with fail
        go_ret
        exact ⟨rfl, b8⟩
      · go_enter Try.func4, Try.ntmps4
        go_wp2_with fail
        refine (wakes_any _).mono ?_
        rintro e w1 ⟨rfl, b1⟩
        go_wp2_with fail
        refine (new_u l _).mono ?_
        rintro e w2 ⟨rfl, h⟩
        have b2 := b1.trans (h.below.mono b1.size)
        have x2 : MAt w2 w1.heap.size L 0 0 0 := HL.out ▸ h.at_
        have s2 := h.size
        have z2 := b1.size
        clear h b1
        go_wp2_with fail
        refine (left_u _ _ _ _ _ _ x2 (by omega) (by omega) (by omega)).mono ?_
        rintro e w3 ⟨rfl, h⟩
        have b3 := h.below b2 (by omega)
        have x3 := h.at_
        clear x2
        clear h b2
        go_wp2_with fail
        refine (take_ok_u _ _ _ _ _ _ _ x3 (by omega) (by omega) (by omega) (by omega) (by omega)).mono ?_
        rintro e w4 ⟨rfl, h⟩
        have b4 := h.below b3 (by omega)
        have x4 := h.at_
        clear x3
        clear h b3
        go_wp2_with fail
        refine (take_no_u _ _ _ _ _ _ _ x4 (by omega) (by omega) (by omega) (by omega) (by omega) (by omega)).mono ?_
        rintro e w5 ⟨rfl, h⟩
        have b5 := h.below b4 (by omega)
        have x5 := h.at_
        clear x4
        clear h b4
        have z : L - 0 - a < b := by omega
        go_wp2_with fail
        refine (give_ok_u _ _ _ _ _ _ _ x5 (by omega) (by omega) (by omega) (by omega) (by omega) (by omega)).mono ?_
        rintro e w6 ⟨rfl, h⟩
        have b6 := h.below b5 (by omega)
        have x6 := h.at_
        clear x5
        clear h b5
        go_wp2_with fail
        refine (left_u _ _ _ _ _ _ x6 (by omega) (by omega) (by omega)).mono ?_
        rintro e w7 ⟨rfl, h⟩
        have b7 := h.below b6 (by omega)
        have x7 := h.at_
        clear x6
        clear h b6
        have z2 : ((L - (0 + a - a) : Int) == L - 0) = true := by simp <;> omega
        go_wp2_with fail
        go_ret
        exact ⟨rfl, b7⟩
    · go_enter Try.func4, Try.ntmps4
      go_wp2_with fail
      refine (wakes_any _).mono ?_
      rintro e w1 ⟨rfl, b1⟩
      go_wp2_with fail
      refine (new_u l _).mono ?_
      rintro e w2 ⟨rfl, h⟩
      have b2 := b1.trans (h.below.mono b1.size)
      have x2 : MAt w2 w1.heap.size L 0 0 0 := HL.out ▸ h.at_
      have s2 := h.size
      have z2 := b1.size
      clear h b1
      go_wp2_with fail
      refine (left_u _ _ _ _ _ _ x2 (by omega) (by omega) (by omega)).mono ?_
      rintro e w3 ⟨rfl, h⟩
      have b3 := h.below b2 (by omega)
      have x3 := h.at_
      clear x2
      clear h b2
      go_wp2_with fail
      refine (take_no_u _ _ _ _ _ _ _ x3 (by omega) (by omega) (by omega) (by omega) (by omega) (by omega)).mono ?_
      rintro e w4 ⟨rfl, h⟩
      have b4 := h.below b3 (by omega)
      have x4 := h.at_
      clear x3
      clear h b3
      have z : L - 0 < a := by omega
      go_wp2_with fail
      refine (left_u _ _ _ _ _ _ x4 (by omega) (by omega) (by omega)).mono ?_
      rintro e w5 ⟨rfl, h⟩
      have b5 := h.below b4 (by omega)
      have x5 := h.at_
      clear x4
      clear h b4
      go_wp2_with fail
      go_ret
      exact ⟨rfl, b5⟩

end Go.Proofs.Ytngnafjenofihaa
