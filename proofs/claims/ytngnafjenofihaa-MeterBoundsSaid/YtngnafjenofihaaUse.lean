/- The meter's contracts once more, told as relations of the world behind to the world ahead; the example 'wakes'. -/
import Derived.Test.YtngnafjenofihaaMeter
namespace Go.Proofs.Ytngnafjenofihaa
open Go.RowKit

/-- Behind: block b holds that meter; all other blocks are as they were. -/
structure Upd (w w' : World) (b : Nat) (l u p r : Int) : Prop where
  at_ : MAt w' b l u p r
  rest : ∀ k, k ≠ b → w'.heap[k]? = w.heap[k]?
  size : w'.heap.size = w.heap.size
  os : w'.os = w.os
  tape : w'.tape = w.tape
  output : w'.output = w.output
theorem Upd.of_set {w : World} {b : Nat} {l u p r : Int} (h : MAt w b l u p r) (l' u' p' r' : Int) : Upd w (MSet w b l' u' p' r') b l' u' p' r' :=
  ⟨h.set _ _ _ _, fun k hk => by simp [MSet, Array.getElem?_modify]; omega, by simp [MSet], rfl, rfl, rfl⟩
theorem Upd.of_draw {w : World} {b : Nat} {l u p r : Int} (h : MAt w b l u p r) (n : Nat) : Upd w (w.drewN n) b l u p r :=
  ⟨h, fun k _ => rfl, rfl, rfl, rfl, rfl⟩
theorem Upd.keep {w w' : World} {b c : Nat} {l u p r l' u' p' r' : Int} (h : Upd w w' b l u p r) (hc : c ≠ b) (hm : MAt w c l' u' p' r') : MAt w' c l' u' p' r' := by
  unfold MAt at *; rw [h.rest c hc, hm]
theorem Upd.below {B : Nat} {a w w' : World} {b : Nat} {l u p r : Int} (h : Upd w w' b l u p r) (hb : Below B a w) (hB : B ≤ b) : Below B a w' :=
  hb.trans ⟨h.os, h.tape, h.output, by rw [h.size]; omega, fun k hk => h.rest k (by omega)⟩
/-- Behind New. -/
structure Made (w w' : World) (l : Int) : Prop where
  at_ : MAt w' w.heap.size (max l 0) 0 0 0
  below : Below w.heap.size w w'
  size : w.heap.size < w'.heap.size
theorem Made.keep {w w' : World} {l : Int} {c : Nat} {l' u' p' r' : Int} (h : Made w w' l) (hm : MAt w c l' u' p' r') : MAt w' c l' u' p' r' := by
  have := lt_of_block hm
  unfold MAt at *; rw [h.below.block c this, hm]

theorem new_u (l : Int) (w : World) : Calls Try.prog 8 #[.int .i64 l] w fun e w' => e = .returned (.pointer (some ⟨w.heap.size, 0, none⟩)) ∧ Made w w' l :=
  (new_any l w).mono fun e w' ⟨he, hw⟩ => by
    subst hw
    exact ⟨he, MAt.new _ _ _ _ _, (Below.refl _ _).alloc (Nat.le_refl _) _, by simp⟩
theorem take_ok_u (b : Nat) (l u p r n : Int) (w : World) (hm : MAt w b l u p r) (h1 : 0 ≤ u) (h2 : u ≤ l) (h3 : l ≤ 9223372036854775807) (h4 : n ≤ l - u) (h5 : 0 ≤ n) :
    Calls Try.prog 9 #[.pointer (some ⟨b, 0, none⟩), .int .i64 n] w fun e w' => e = .returned (.bool true) ∧ Upd w w' b l (u + n) (max p (u + n)) r :=
  (take_ok b l u p r n w hm h1 h2 h3 h4 h5).mono fun e w' ⟨he, hw⟩ => by subst hw; exact ⟨he, .of_set hm _ _ _ _⟩
theorem take_no_u (b : Nat) (l u p r n : Int) (w : World) (hm : MAt w b l u p r) (h1 : 0 ≤ u) (h2 : u ≤ l) (h3 : l ≤ 9223372036854775807) (h6 : 0 ≤ r) (h7 : r ≤ 4611686018427387904) (h4 : l - u < n ∨ n < 0) :
    Calls Try.prog 9 #[.pointer (some ⟨b, 0, none⟩), .int .i64 n] w fun e w' => e = .returned (.bool false) ∧ Upd w w' b l u p (r + 1) :=
  (take_no b l u p r n w hm h1 h2 h3 h6 h7 h4).mono fun e w' ⟨he, hw⟩ => by subst hw; exact ⟨he, .of_set hm _ _ _ _⟩
theorem give_ok_u (b : Nat) (l u p r n : Int) (w : World) (hm : MAt w b l u p r) (h1 : 0 ≤ u) (h2 : u ≤ l) (h3 : l ≤ 9223372036854775807) (hp : u ≤ p) (h4 : n ≤ u) (h5 : 0 ≤ n) :
    Calls Try.prog 12 #[.pointer (some ⟨b, 0, none⟩), .int .i64 n] w fun e w' => e = .returned (.bool true) ∧ Upd w w' b l (u - n) p r :=
  (give_ok b l u p r n w hm h1 h2 h3 hp h4 h5).mono fun e w' ⟨he, hw⟩ => by subst hw; exact ⟨he, .of_set hm _ _ _ _⟩
theorem give_no_u (b : Nat) (l u p r n : Int) (w : World) (hm : MAt w b l u p r) (h1 : 0 ≤ u) (h2 : u ≤ l) (h3 : l ≤ 9223372036854775807) (h6 : 0 ≤ r) (h7 : r ≤ 4611686018427387904) (h9 : n ≤ 9223372036854775807) (h4 : u < n ∨ n < 0) :
    Calls Try.prog 12 #[.pointer (some ⟨b, 0, none⟩), .int .i64 n] w fun e w' => e = .returned (.bool false) ∧ Upd w w' b l u p (r + 1) :=
  (give_no b l u p r n w hm h1 h2 h3 h6 h7 h9 h4).mono fun e w' ⟨he, hw⟩ => by subst hw; exact ⟨he, .of_set hm _ _ _ _⟩
theorem left_u (b : Nat) (l u p r : Int) (w : World) (hm : MAt w b l u p r) (h1 : 0 ≤ u) (h2 : u ≤ l) (h3 : l ≤ 9223372036854775807) :
    Calls Try.prog 11 #[.pointer (some ⟨b, 0, none⟩)] w fun e w' => e = .returned (.int .i64 (l - u)) ∧ Upd w w' b l u p r :=
  (left_any b l u p r w hm h1 h2 h3).mono fun e w' ⟨he, n, hw⟩ => by subst hw; exact ⟨he, .of_draw hm n⟩

set_option maxHeartbeats 1000000 in
theorem wakes_any (w : World) : Calls Try.prog 7 #[] w fun e w' => e = .returned (.bool true) ∧ Below w.heap.size w w' := by
  go_enter Try.func7, Try.ntmps7
  go_wp2_with fail
  refine (new_u 5 _).mono ?_
  rintro e w1 ⟨rfl, hw1⟩
  have m1 : MAt w1 w.heap.size 5 0 0 0 := hw1.at_
  have b1 := hw1.below
  clear hw1
  go_wp2_with fail
  refine (take_ok_u _ _ _ _ _ _ _ m1 (by omega) (by omega) (by omega) (by omega) (by omega)).mono ?_
  rintro e w2 ⟨rfl, h⟩
  have m2 := h.at_
  replace b1 := h.below b1 (Nat.le_refl _)
  clear h m1
  go_wp2_with fail
  refine (take_no_u _ _ _ _ _ _ _ m2 (by omega) (by omega) (by omega) (by omega) (by omega) (by omega)).mono ?_
  rintro e w3 ⟨rfl, h⟩
  have m3 := h.at_
  replace b1 := h.below b1 (Nat.le_refl _)
  clear h m2
  go_wp2_with fail
  refine (left_u _ _ _ _ _ _ m3 (by omega) (by omega) (by omega)).mono ?_
  rintro e w4 ⟨rfl, h⟩
  have m4 := h.at_
  replace b1 := h.below b1 (Nat.le_refl _)
  clear h m3
  go_wp2_with fail
  refine (refused_any _ _ _ _ _ _ m4).mono ?_
  rintro e w5 ⟨rfl, rfl⟩
  go_wp2_with fail
  go_ret
  exact ⟨rfl, b1⟩
end Go.Proofs.Ytngnafjenofihaa
