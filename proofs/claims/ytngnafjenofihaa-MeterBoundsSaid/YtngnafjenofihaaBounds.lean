/- The walk of MeterBounds. -/
import Derived.Test.YtngnafjenofihaaActs
namespace Go.Proofs.Ytngnafjenofihaa
open Go.RowKit

set_option maxHeartbeats 4000000 in
theorem bounds_any (l : Int) (A : Option Addr) (len cap : Nat) (gs : Nat → Bool) (ns : Nat → Int) (w : World) (hl : l ≤ 9223372036854775807) (hA : OpsAt w A len gs ns) (hlen : len ≤ 9223372036854775807) :
    Calls Try.prog 6 #[.int .i64 l, .slice A len cap] w fun e w' => e = .returned (.bool true) ∧ Below w.heap.size w w' := by
  by_cases hgt : 100 < len
  · go_enter Try.func6, Try.ntmps6
    go_wp2_with fail
    refine (wakes_any _).mono ?_
    rintro e w1 ⟨rfl, b1⟩
    go_wp2_with fail
    go_ret
    exact ⟨rfl, b1⟩
  · obtain ⟨L, hL⟩ : ∃ L, L = max l 0 := ⟨_, rfl⟩
    have l0 : 0 ≤ L := by omega
    have l1 : L ≤ 9223372036854775807 := by omega
    have HL := Lib.hid hL
    clear hL
    go_enter Try.func6, Try.ntmps6
    go_wp2_with fail
    refine (wakes_any _).mono ?_
    rintro e w1 ⟨rfl, b1⟩
    go_wp2_with fail
    refine (new_u l _).mono ?_
    rintro e w2 ⟨rfl, h⟩
    have b2 := b1.trans (h.below.mono b1.size)
    have x2 : MAt w2 w1.heap.size L 0 0 0 := HL.out ▸ h.at_
    have s2 := h.size
    have s1 := b1.size
    clear h b1
    obtain ⟨bx, hbx⟩ : ∃ bx, bx = w1.heap.size := ⟨_, rfl⟩
    rw [← hbx]
    rw [← hbx] at x2 s1 s2
    have Hbx := Lib.hid hbx
    clear hbx
    go_wp2_with fail
    go_loopw [20, 6] (fun i pk wr => ∃ (k : Nat) (u p r : Int), k ≤ len ∧ i = .int .i64 k ∧ pk = .int .i64 p ∧ MAt wr bx L u p r ∧ 0 ≤ u ∧ u ≤ L ∧ u ≤ p ∧ p ≤ L ∧ 0 ≤ r ∧ r ≤ k ∧ Below w.heap.size w wr) (fun i _ _ => len - (intOf i).toNat)
    case atStart => exact ⟨0, 0, 0, 0, by omega, rfl, rfl, x2, by omega, by omega, by omega, by omega, by omega, by omega, b2⟩
    case round =>
      obtain ⟨k, u, p, r, hk, rfl, rfl, xk, g1, g2, g3, g4, g5, g6, bk⟩ := hrel
      clear x2 b2
      by_cases hlt : k < len
      · obtain ⟨bo, off, rfl, o1, o2, o3, o4, o5⟩ := hA k hlt
        rw [← bk.cell (p := ⟨bo, off + k * 2, none⟩) o1] at o2
        rw [← bk.cell (p := ⟨bo, off + k * 2 + 1, none⟩) o1] at o3
        generalize gs k = gk at o2
        generalize ns k = nk at o3 o4 o5
        clear hA
        have kx := lt_of_block xk
        cases gk
        · by_cases ht : 0 ≤ nk ∧ nk ≤ L - u
          · obtain ⟨t1, t2⟩ := ht
            go_wp2_with fail
            refine (take_ok_u bx L u p r nk _ (xk.alloc (.cells #[.bool false, .int .i64 nk] 34)) g1 g2 l1 t2 t1).mono ?_
            rintro e w7 ⟨rfl, h⟩
            have b7 := h.below (bk.alloc bk.size (.cells #[.bool false, .int .i64 nk] 34)) (by omega)
            have x7 := h.at_
            clear h bk xk o2 o3
            generalize hU : (u + nk) = U at x7
            generalize hP : (max p (u + nk)) = P at x7
            have y0 : 0 ≤ U := by omega
            have y1 : U ≤ L := by omega
            have y2 : U ≤ P := by omega
            have y3 : P ≤ L := by omega
            have y4 : p ≤ P := by omega
            clear hU hP
            go_wp2_with fail
            refine (used_any _ _ _ _ _ _ x7).mono ?_
            rintro e w' ⟨rfl, rfl⟩
            go_wp2_with fail
            refine (left_u _ _ _ _ _ _ x7 y0 y1 l1).mono ?_
            rintro e w8 ⟨rfl, h⟩
            have b8 := h.below b7 (by omega)
            have x8 := h.at_
            clear h b7 x7
            go_wp2_with fail
            refine (used_any _ _ _ _ _ _ x8).mono ?_
            rintro e w' ⟨rfl, rfl⟩
            go_wp2_with fail
            refine (left_u _ _ _ _ _ _ x8 y0 y1 l1).mono ?_
            rintro e w9 ⟨rfl, h⟩
            have b9 := h.below b8 (by omega)
            have x9 := h.at_
            clear h b8 x8
            have z : U + (L - U) = L := by omega
            by_cases hl0 : l < 0
            · have hL0 : L = 0 := by have := HL.out; omega
              have y : (L != 0) = false := by simp; omega
              clear hL0
              go_wp2_with fail
              refine (peak_any _ _ _ _ _ _ x9).mono ?_
              rintro e w' ⟨rfl, rfl⟩
              go_wp2_with fail
              refine (peak_any _ _ _ _ _ _ x9).mono ?_
              rintro e w' ⟨rfl, rfl⟩
              go_wp2_with fail
              refine (used_any _ _ _ _ _ _ x9).mono ?_
              rintro e w' ⟨rfl, rfl⟩
              go_wp2_with fail
              refine (peak_any _ _ _ _ _ _ x9).mono ?_
              rintro e w' ⟨rfl, rfl⟩
              go_wp2_with fail
              go_roundw
              case rel => exact ⟨k + 1, _, _, _, by omega, by go_num, rfl, x9, by omega, by omega, by omega, by omega, by omega, by omega, b9⟩
              case measure => simp [intOf]; omega
            · have hLl : L = l := by have := HL.out; omega
              have y : (L != l) = false := by simp; omega
              clear hLl
              go_wp2_with fail
              refine (peak_any _ _ _ _ _ _ x9).mono ?_
              rintro e w' ⟨rfl, rfl⟩
              go_wp2_with fail
              refine (peak_any _ _ _ _ _ _ x9).mono ?_
              rintro e w' ⟨rfl, rfl⟩
              go_wp2_with fail
              refine (used_any _ _ _ _ _ _ x9).mono ?_
              rintro e w' ⟨rfl, rfl⟩
              go_wp2_with fail
              refine (peak_any _ _ _ _ _ _ x9).mono ?_
              rintro e w' ⟨rfl, rfl⟩
              go_wp2_with fail
              go_roundw
              case rel => exact ⟨k + 1, _, _, _, by omega, by go_num, rfl, x9, by omega, by omega, by omega, by omega, by omega, by omega, b9⟩
              case measure => simp [intOf]; omega
          · have t1 : L - u < nk ∨ nk < 0 := by omega
            clear ht
            go_wp2_with fail
            refine (take_no_u bx L u p r nk _ (xk.alloc (.cells #[.bool false, .int .i64 nk] 34)) g1 g2 l1 g5 (by omega) t1).mono ?_
            rintro e w7 ⟨rfl, h⟩
            have b7 := h.below (bk.alloc bk.size (.cells #[.bool false, .int .i64 nk] 34)) (by omega)
            have x7 := h.at_
            clear h bk xk o2 o3
            generalize hU : u = U at x7
            generalize hP : p = P at x7
            have y0 : 0 ≤ U := by omega
            have y1 : U ≤ L := by omega
            have y2 : U ≤ P := by omega
            have y3 : P ≤ L := by omega
            have y4 : p ≤ P := by omega
            clear hU hP
            go_wp2_with fail
            refine (used_any _ _ _ _ _ _ x7).mono ?_
            rintro e w' ⟨rfl, rfl⟩
            go_wp2_with fail
            refine (left_u _ _ _ _ _ _ x7 y0 y1 l1).mono ?_
            rintro e w8 ⟨rfl, h⟩
            have b8 := h.below b7 (by omega)
            have x8 := h.at_
            clear h b7 x7
            go_wp2_with fail
            refine (used_any _ _ _ _ _ _ x8).mono ?_
            rintro e w' ⟨rfl, rfl⟩
            go_wp2_with fail
            refine (left_u _ _ _ _ _ _ x8 y0 y1 l1).mono ?_
            rintro e w9 ⟨rfl, h⟩
            have b9 := h.below b8 (by omega)
            have x9 := h.at_
            clear h b8 x8
            have z : U + (L - U) = L := by omega
            by_cases hl0 : l < 0
            · have hL0 : L = 0 := by have := HL.out; omega
              have y : (L != 0) = false := by simp; omega
              clear hL0
              go_wp2_with fail
              refine (peak_any _ _ _ _ _ _ x9).mono ?_
              rintro e w' ⟨rfl, rfl⟩
              go_wp2_with fail
              refine (peak_any _ _ _ _ _ _ x9).mono ?_
              rintro e w' ⟨rfl, rfl⟩
              go_wp2_with fail
              refine (used_any _ _ _ _ _ _ x9).mono ?_
              rintro e w' ⟨rfl, rfl⟩
              go_wp2_with fail
              refine (peak_any _ _ _ _ _ _ x9).mono ?_
              rintro e w' ⟨rfl, rfl⟩
              go_wp2_with fail
              go_roundw
              case rel => exact ⟨k + 1, _, _, _, by omega, by go_num, rfl, x9, by omega, by omega, by omega, by omega, by omega, by omega, b9⟩
              case measure => simp [intOf]; omega
            · have hLl : L = l := by have := HL.out; omega
              have y : (L != l) = false := by simp; omega
              clear hLl
              go_wp2_with fail
              refine (peak_any _ _ _ _ _ _ x9).mono ?_
              rintro e w' ⟨rfl, rfl⟩
              go_wp2_with fail
              refine (peak_any _ _ _ _ _ _ x9).mono ?_
              rintro e w' ⟨rfl, rfl⟩
              go_wp2_with fail
              refine (used_any _ _ _ _ _ _ x9).mono ?_
              rintro e w' ⟨rfl, rfl⟩
              go_wp2_with fail
              refine (peak_any _ _ _ _ _ _ x9).mono ?_
              rintro e w' ⟨rfl, rfl⟩
              go_wp2_with fail
              go_roundw
              case rel => exact ⟨k + 1, _, _, _, by omega, by go_num, rfl, x9, by omega, by omega, by omega, by omega, by omega, by omega, b9⟩
              case measure => simp [intOf]; omega
        · by_cases ht : 0 ≤ nk ∧ nk ≤ u
          · obtain ⟨t1, t2⟩ := ht
            go_wp2_with fail
            refine (give_ok_u bx L u p r nk _ (xk.alloc (.cells #[.bool true, .int .i64 nk] 34)) g1 g2 l1 g3 t2 t1).mono ?_
            rintro e w7 ⟨rfl, h⟩
            have b7 := h.below (bk.alloc bk.size (.cells #[.bool true, .int .i64 nk] 34)) (by omega)
            have x7 := h.at_
            clear h bk xk o2 o3
            generalize hU : (u - nk) = U at x7
            generalize hP : p = P at x7
            have y0 : 0 ≤ U := by omega
            have y1 : U ≤ L := by omega
            have y2 : U ≤ P := by omega
            have y3 : P ≤ L := by omega
            have y4 : p ≤ P := by omega
            clear hU hP
            go_wp2_with fail
            refine (used_any _ _ _ _ _ _ x7).mono ?_
            rintro e w' ⟨rfl, rfl⟩
            go_wp2_with fail
            refine (left_u _ _ _ _ _ _ x7 y0 y1 l1).mono ?_
            rintro e w8 ⟨rfl, h⟩
            have b8 := h.below b7 (by omega)
            have x8 := h.at_
            clear h b7 x7
            go_wp2_with fail
            refine (used_any _ _ _ _ _ _ x8).mono ?_
            rintro e w' ⟨rfl, rfl⟩
            go_wp2_with fail
            refine (left_u _ _ _ _ _ _ x8 y0 y1 l1).mono ?_
            rintro e w9 ⟨rfl, h⟩
            have b9 := h.below b8 (by omega)
            have x9 := h.at_
            clear h b8 x8
            have z : U + (L - U) = L := by omega
            by_cases hl0 : l < 0
            · have hL0 : L = 0 := by have := HL.out; omega
              have y : (L != 0) = false := by simp; omega
              clear hL0
              go_wp2_with fail
              refine (peak_any _ _ _ _ _ _ x9).mono ?_
              rintro e w' ⟨rfl, rfl⟩
              go_wp2_with fail
              refine (peak_any _ _ _ _ _ _ x9).mono ?_
              rintro e w' ⟨rfl, rfl⟩
              go_wp2_with fail
              refine (used_any _ _ _ _ _ _ x9).mono ?_
              rintro e w' ⟨rfl, rfl⟩
              go_wp2_with fail
              refine (peak_any _ _ _ _ _ _ x9).mono ?_
              rintro e w' ⟨rfl, rfl⟩
              go_wp2_with fail
              go_roundw
              case rel => exact ⟨k + 1, _, _, _, by omega, by go_num, rfl, x9, by omega, by omega, by omega, by omega, by omega, by omega, b9⟩
              case measure => simp [intOf]; omega
            · have hLl : L = l := by have := HL.out; omega
              have y : (L != l) = false := by simp; omega
              clear hLl
              go_wp2_with fail
              refine (peak_any _ _ _ _ _ _ x9).mono ?_
              rintro e w' ⟨rfl, rfl⟩
              go_wp2_with fail
              refine (peak_any _ _ _ _ _ _ x9).mono ?_
              rintro e w' ⟨rfl, rfl⟩
              go_wp2_with fail
              refine (used_any _ _ _ _ _ _ x9).mono ?_
              rintro e w' ⟨rfl, rfl⟩
              go_wp2_with fail
              refine (peak_any _ _ _ _ _ _ x9).mono ?_
              rintro e w' ⟨rfl, rfl⟩
              go_wp2_with fail
              go_roundw
              case rel => exact ⟨k + 1, _, _, _, by omega, by go_num, rfl, x9, by omega, by omega, by omega, by omega, by omega, by omega, b9⟩
              case measure => simp [intOf]; omega
          · have t1 : u < nk ∨ nk < 0 := by omega
            clear ht
            go_wp2_with fail
            refine (give_no_u bx L u p r nk _ (xk.alloc (.cells #[.bool true, .int .i64 nk] 34)) g1 g2 l1 g5 (by omega) o5 t1).mono ?_
            rintro e w7 ⟨rfl, h⟩
            have b7 := h.below (bk.alloc bk.size (.cells #[.bool true, .int .i64 nk] 34)) (by omega)
            have x7 := h.at_
            clear h bk xk o2 o3
            generalize hU : u = U at x7
            generalize hP : p = P at x7
            have y0 : 0 ≤ U := by omega
            have y1 : U ≤ L := by omega
            have y2 : U ≤ P := by omega
            have y3 : P ≤ L := by omega
            have y4 : p ≤ P := by omega
            clear hU hP
            go_wp2_with fail
            refine (used_any _ _ _ _ _ _ x7).mono ?_
            rintro e w' ⟨rfl, rfl⟩
            go_wp2_with fail
            refine (left_u _ _ _ _ _ _ x7 y0 y1 l1).mono ?_
            rintro e w8 ⟨rfl, h⟩
            have b8 := h.below b7 (by omega)
            have x8 := h.at_
            clear h b7 x7
            go_wp2_with fail
            refine (used_any _ _ _ _ _ _ x8).mono ?_
            rintro e w' ⟨rfl, rfl⟩
            go_wp2_with fail
            refine (left_u _ _ _ _ _ _ x8 y0 y1 l1).mono ?_
            rintro e w9 ⟨rfl, h⟩
            have b9 := h.below b8 (by omega)
            have x9 := h.at_
            clear h b8 x8
            have z : U + (L - U) = L := by omega
            by_cases hl0 : l < 0
            · have hL0 : L = 0 := by have := HL.out; omega
              have y : (L != 0) = false := by simp; omega
              clear hL0
              go_wp2_with fail
              refine (peak_any _ _ _ _ _ _ x9).mono ?_
              rintro e w' ⟨rfl, rfl⟩
              go_wp2_with fail
              refine (peak_any _ _ _ _ _ _ x9).mono ?_
              rintro e w' ⟨rfl, rfl⟩
              go_wp2_with fail
              refine (used_any _ _ _ _ _ _ x9).mono ?_
              rintro e w' ⟨rfl, rfl⟩
              go_wp2_with fail
              refine (peak_any _ _ _ _ _ _ x9).mono ?_
              rintro e w' ⟨rfl, rfl⟩
              go_wp2_with fail
              go_roundw
              case rel => exact ⟨k + 1, _, _, _, by omega, by go_num, rfl, x9, by omega, by omega, by omega, by omega, by omega, by omega, b9⟩
              case measure => simp [intOf]; omega
            · have hLl : L = l := by have := HL.out; omega
              have y : (L != l) = false := by simp; omega
              clear hLl
              go_wp2_with fail
              refine (peak_any _ _ _ _ _ _ x9).mono ?_
              rintro e w' ⟨rfl, rfl⟩
              go_wp2_with fail
              refine (peak_any _ _ _ _ _ _ x9).mono ?_
              rintro e w' ⟨rfl, rfl⟩
              go_wp2_with fail
              refine (used_any _ _ _ _ _ _ x9).mono ?_
              rintro e w' ⟨rfl, rfl⟩
              go_wp2_with fail
              refine (peak_any _ _ _ _ _ _ x9).mono ?_
              rintro e w' ⟨rfl, rfl⟩
              go_wp2_with fail
              go_roundw
              case rel => exact ⟨k + 1, _, _, _, by omega, by go_num, rfl, x9, by omega, by omega, by omega, by omega, by omega, by omega, b9⟩
              case measure => simp [intOf]; omega
      · clear hA
        go_wp2
        go_ret
        exact ⟨rfl, bk⟩
end Go.Proofs.Ytngnafjenofihaa
