/- The walk of MeterActs: a loop over the operations; the meter and the reference's side by side. -/
import Derived.Test.YtngnafjenofihaaRef
namespace Go.Proofs.Ytngnafjenofihaa
open Go.RowKit
/-- A slice of operations that came in: nil or a row of pairs. -/
def OpsAt (w : World) (A : Option Addr) (n : Nat) (gs : Nat → Bool) (ns : Nat → Int) : Prop :=
  ∀ i, i < n → ∃ b off, A = some ⟨b, off, none⟩ ∧ b < w.heap.size ∧ w.cell? ⟨b, off + i * 2, none⟩ = some (.bool (gs i)) ∧ w.cell? ⟨b, off + i * 2 + 1, none⟩ = some (.int .i64 (ns i)) ∧ -9223372036854775808 ≤ ns i ∧ ns i ≤ 9223372036854775807

/-- The block of the reference's meter. -/
def RAt (w : World) (b : Nat) (l u p r : Int) : Prop := w.heap[b]? = some (.cells #[.int .i64 l, .int .i64 u, .int .i64 p, .int .i64 r] 30 (0, 0))
theorem RAt.new (w : World) (l u p r : Int) : RAt (w.alloc (.cells #[.int .i64 l, .int .i64 u, .int .i64 p, .int .i64 r] 30)) w.heap.size l u p r := by
  show (w.heap.push _)[w.heap.size]? = _
  simp
theorem RAt.c0 {w : World} {b : Nat} {l u p r : Int} (h : RAt w b l u p r) : w.cell? ⟨b, 0, none⟩ = some (.int .i64 l) := by
  unfold RAt at h; simp [World.cell?, h]
theorem RAt.c1 {w : World} {b : Nat} {l u p r : Int} (h : RAt w b l u p r) : w.cell? ⟨b, 1, none⟩ = some (.int .i64 u) := by
  unfold RAt at h; simp [World.cell?, h]
theorem RAt.c2 {w : World} {b : Nat} {l u p r : Int} (h : RAt w b l u p r) : w.cell? ⟨b, 2, none⟩ = some (.int .i64 p) := by
  unfold RAt at h; simp [World.cell?, h]
theorem RAt.c3 {w : World} {b : Nat} {l u p r : Int} (h : RAt w b l u p r) : w.cell? ⟨b, 3, none⟩ = some (.int .i64 r) := by
  unfold RAt at h; simp [World.cell?, h]
theorem RAt.fz {w : World} {b : Nat} {l u p r : Int} (h : RAt w b l u p r) (i : Nat) : w.frozen? ⟨b, i, none⟩ = false := by
  unfold RAt at h; simp [World.frozen?, h]
theorem RAt.below {w w' : World} {B b : Nat} {l u p r : Int} (h : RAt w b l u p r) (hb : Below B w w') (hB : b < B) : RAt w' b l u p r := by
  unfold RAt at *; rw [hb.block b hB, h]
theorem MAt.below {w w' : World} {B b : Nat} {l u p r : Int} (h : MAt w b l u p r) (hb : Below B w w') (hB : b < B) : MAt w' b l u p r := by
  unfold MAt at *; rw [hb.block b hB, h]

/-- Four stores into the reference's block. -/
def RPut (w : World) (b : Nat) (l u p r : Int) : World := (((w.setCell ⟨b, 0, none⟩ (.int .i64 l)).setCell ⟨b, 1, none⟩ (.int .i64 u)).setCell ⟨b, 2, none⟩ (.int .i64 p)).setCell ⟨b, 3, none⟩ (.int .i64 r)
theorem RAt.put {w : World} {b : Nat} {l u p r : Int} (h : RAt w b l u p r) (l' u' p' r' : Int) : RAt (RPut w b l' u' p' r') b l' u' p' r' := by
  unfold RAt at *
  simp [RPut, World.setCell, Array.getElem?_modify, h]
theorem RPut_rest (w : World) (b : Nat) (l u p r : Int) (k : Nat) (hk : k ≠ b) : (RPut w b l u p r).heap[k]? = w.heap[k]? := by
  unfold RPut
  rw [Below.heap_setCell _ _ _ _ hk, Below.heap_setCell _ _ _ _ hk, Below.heap_setCell _ _ _ _ hk, Below.heap_setCell _ _ _ _ hk]
theorem RPut_below {B : Nat} {a w : World} (h : Below B a w) {b : Nat} (hb : B ≤ b) (l u p r : Int) : Below B a (RPut w b l u p r) :=
  (((h.setCell (p := ⟨b, 0, none⟩) hb _).setCell (p := ⟨b, 1, none⟩) hb _).setCell (p := ⟨b, 2, none⟩) hb _).setCell (p := ⟨b, 3, none⟩) hb _
theorem MAt.rput {w : World} {b c : Nat} {l u p r : Int} (h : MAt w b l u p r) (hc : b ≠ c) (l' u' p' r' : Int) : MAt (RPut w c l' u' p' r') b l u p r := by
  unfold MAt at *; rw [RPut_rest _ _ _ _ _ _ _ hc, h]

set_option maxHeartbeats 4000000 in
theorem acts_any (l : Int) (A : Option Addr) (len cap : Nat) (gs : Nat → Bool) (ns : Nat → Int) (w : World) (hl : l ≤ 9223372036854775807) (hA : OpsAt w A len gs ns) (hlen : len ≤ 9223372036854775807) :
    Calls Try.prog 5 #[.int .i64 l, .slice A len cap] w fun e w' => e = .returned (.bool true) ∧ Below w.heap.size w w' := by
  by_cases hgt : 100 < len
  · go_enter Try.func5, Try.ntmps5
    go_wp2_with fail
    refine (wakes_any _).mono ?_
    rintro e w1 ⟨rfl, b1⟩
    go_wp2_with fail
    go_ret
    exact ⟨rfl, b1⟩
  · obtain ⟨L, hL⟩ : ∃ L, L = max l 0 := ⟨_, rfl⟩
    have l0 : 0 ≤ L := by omega
    have l1 : L ≤ 9223372036854775807 := by omega
    have HL := Lib.hid hL
    clear hL
    go_enter Try.func5, Try.ntmps5
    go_wp2_with fail
    refine (wakes_any _).mono ?_
    rintro e w1 ⟨rfl, b1⟩
    go_wp2_with fail
    refine (new_u l _).mono ?_
    rintro e w2 ⟨rfl, h⟩
    have b2 := b1.trans (h.below.mono b1.size)
    have x2 : MAt w2 w1.heap.size L 0 0 0 := HL.out ▸ h.at_
    have s2 := h.size
    have s1 := b1.size
    clear h b1
    go_wp2_with fail
    refine (rnew_any l _).mono ?_
    rw [← HL.out]
    rintro e w3 ⟨rfl, h⟩
    have b3 := b2.trans (h.mono b2.size)
    have x3 : MAt w3 w1.heap.size L 0 0 0 := by unfold MAt; rw [h.block _ s2]; exact x2
    have s3 := h.size
    clear h b2 x2
    go_wp2_with fail
    have b3' := b3.alloc b3.size (.cells #[.int .i64 L, .int .i64 0, .int .i64 0, .int .i64 0] 30)
    have r3 := RAt.new w3 L 0 0 0
    refine (told_any _ _ _ _ _ _ (x3.alloc _) (by omega) (by omega) (by omega)).mono ?_
    rintro e w4 ⟨rfl, h⟩
    have b4 := b3'.trans (h.mono b3'.size)
    have x4 := (x3.alloc (.cells #[.int .i64 L, .int .i64 0, .int .i64 0, .int .i64 0] 30)).below h (by simp; omega)
    have r4 := r3.below h (by simp)
    have s4 : w3.heap.size < w4.heap.size := by have := h.size; simp at this; omega
    clear h b3 b3' x3 r3
    obtain ⟨bx, hbx⟩ : ∃ bx, bx = w1.heap.size := ⟨_, rfl⟩
    obtain ⟨br, hbr⟩ : ∃ br, br = w3.heap.size := ⟨_, rfl⟩
    rw [← hbx, ← hbr]
    rw [← hbx] at x4 s1 s2
    rw [← hbr] at r4 s3 s4
    have Hbx := Lib.hid hbx
    have Hbr := Lib.hid hbr
    clear hbx hbr
    go_wp2_with fail
    go_loopw [29] (fun i wr => ∃ (k : Nat) (u p r : Int), k ≤ len ∧ i = .int .i64 k ∧ MAt wr bx L u p r ∧ RAt wr br L u p r ∧ 0 ≤ u ∧ u ≤ L ∧ u ≤ p ∧ p ≤ L ∧ 0 ≤ r ∧ r ≤ k ∧ Below w.heap.size w wr) (fun i _ => len - (intOf i).toNat)
    case atStart => exact ⟨0, 0, 0, 0, by omega, rfl, x4, r4, by omega, by omega, by omega, by omega, by omega, by omega, b4⟩
    case round =>
      obtain ⟨k, u, p, r, hk, rfl, xk, rk, g1, g2, g3, g4, g5, g6, bk⟩ := hrel
      clear x4 r4 b4
      by_cases hlt : k < len
      · obtain ⟨bo, off, rfl, o1, o2, o3, o4, o5⟩ := hA k hlt
        rw [← bk.cell (p := ⟨bo, off + k * 2, none⟩) o1] at o2
        rw [← bk.cell (p := ⟨bo, off + k * 2 + 1, none⟩) o1] at o3
        generalize gs k = gk at o2
        generalize ns k = nk at o3 o4 o5
        clear hA
        cases gk
        · by_cases ht : 0 ≤ nk ∧ nk ≤ L - u
          · obtain ⟨t1, t2⟩ := ht
            have q0 := rk.c0
            have q1 := rk.c1
            have q2 := rk.c2
            have q3 := rk.c3
            have kr := lt_of_block rk
            have kx := lt_of_block xk
            go_wp2_with fail
            refine (rtake_ok L u p r nk _ g1 g2 l1 t2 t1).mono ?_
            rintro e w5 ⟨rfl, h⟩
            have b5 := (bk.alloc bk.size (.cells #[.bool false, .int .i64 nk] 34)).trans (h.mono (by simp; have := bk.size; omega))
            have x5 := (xk.alloc (.cells #[.bool false, .int .i64 nk] 34)).below h (by simp; omega)
            have r5 : RAt w5 br L u p r := by unfold RAt at *; rw [h.block br (by simp; omega), Below.heap_alloc _ _ _ kr, rk]
            have i0 : w5.cell? ⟨wr.heap.size, 0, none⟩ = some (.bool false) := by rw [h.cell (by simp)]; simp
            have i1 : w5.cell? ⟨wr.heap.size, 1, none⟩ = some (.int .i64 nk) := by rw [h.cell (by simp)]; simp
            clear h q0 q1 q2 q3 bk xk rk o2 o3
            have q0 := r5.c0
            have q1 := r5.c1
            have q2 := r5.c2
            have q3 := r5.c3
            have f0 := r5.fz 0
            have f1 := r5.fz 1
            have f2 := r5.fz 2
            have f3 := r5.fz 3
            go_wp2_with fail
            obtain ⟨w6, hw6⟩ : ∃ w6, w6 = RPut w5 br L (u + nk) (max p (u + nk)) r := ⟨_, rfl⟩
            have b6 : Below w.heap.size w w6 := by rw [hw6]; exact RPut_below b5 (by omega) _ _ _ _
            have x6 : MAt w6 bx L u p r := by rw [hw6]; exact x5.rput (by omega) _ _ _ _
            have r6 : RAt w6 br L (u + nk) (max p (u + nk)) r := by rw [hw6]; exact r5.put _ _ _ _
            have j0 : w6.cell? ⟨wr.heap.size, 0, none⟩ = some (.bool false) := by rw [hw6, World.cell?_of_block (RPut_rest _ _ _ _ _ _ _ (by simp; omega)), i0]
            have j1 : w6.cell? ⟨wr.heap.size, 1, none⟩ = some (.int .i64 nk) := by rw [hw6, World.cell?_of_block (RPut_rest _ _ _ _ _ _ _ (by simp; omega)), i1]
            unfold RPut at hw6
            rw [← hw6]
            clear hw6 b5 x5 r5 i0 i1 q0 q1 q2 q3 f0 f1 f2 f3
            refine (take_ok_u bx L u p r nk _ x6 g1 g2 l1 t2 t1).mono ?_
            rintro e w7 ⟨rfl, h⟩
            have b7 := h.below b6 (by omega)
            have x7 := h.at_
            have r7 : RAt w7 br L (u + nk) (max p (u + nk)) r := by unfold RAt at *; rw [h.rest br (by omega), r6]
            clear h b6 x6 r6 j0 j1
            have q0 := r7.c0
            have q1 := r7.c1
            have q2 := r7.c2
            have q3 := r7.c3
            go_wp2_with fail
            clear q0 q1 q2 q3
            refine (told_any bx L (u + nk) (max p (u + nk)) r _ x7 (by omega) (by omega) l1).mono ?_
            rintro e w8 ⟨rfl, h⟩
            have b8 := b7.trans (h.mono b7.size)
            have x8 := x7.below h (lt_of_block x7)
            have r8 := r7.below h (lt_of_block r7)
            clear h b7 x7 r7
            go_wp2_with fail
            go_roundw
            case rel => exact ⟨k + 1, _, _, _, by omega, by go_num, x8, r8, by omega, by omega, by omega, by omega, by omega, by omega, b8⟩
            case measure => simp [intOf]; omega
          · have t1 : L - u < nk ∨ nk < 0 := by omega
            clear ht
            have q0 := rk.c0
            have q1 := rk.c1
            have q2 := rk.c2
            have q3 := rk.c3
            have kr := lt_of_block rk
            have kx := lt_of_block xk
            go_wp2_with fail
            refine (rtake_no L u p r nk _ g1 g2 l1 g5 (by omega) t1).mono ?_
            rintro e w5 ⟨rfl, h⟩
            have b5 := (bk.alloc bk.size (.cells #[.bool false, .int .i64 nk] 34)).trans (h.mono (by simp; have := bk.size; omega))
            have x5 := (xk.alloc (.cells #[.bool false, .int .i64 nk] 34)).below h (by simp; omega)
            have r5 : RAt w5 br L u p r := by unfold RAt at *; rw [h.block br (by simp; omega), Below.heap_alloc _ _ _ kr, rk]
            have i0 : w5.cell? ⟨wr.heap.size, 0, none⟩ = some (.bool false) := by rw [h.cell (by simp)]; simp
            have i1 : w5.cell? ⟨wr.heap.size, 1, none⟩ = some (.int .i64 nk) := by rw [h.cell (by simp)]; simp
            clear h q0 q1 q2 q3 bk xk rk o2 o3
            have q0 := r5.c0
            have q1 := r5.c1
            have q2 := r5.c2
            have q3 := r5.c3
            have f0 := r5.fz 0
            have f1 := r5.fz 1
            have f2 := r5.fz 2
            have f3 := r5.fz 3
            go_wp2_with fail
            obtain ⟨w6, hw6⟩ : ∃ w6, w6 = RPut w5 br L u p (r + 1) := ⟨_, rfl⟩
            have b6 : Below w.heap.size w w6 := by rw [hw6]; exact RPut_below b5 (by omega) _ _ _ _
            have x6 : MAt w6 bx L u p r := by rw [hw6]; exact x5.rput (by omega) _ _ _ _
            have r6 : RAt w6 br L u p (r + 1) := by rw [hw6]; exact r5.put _ _ _ _
            have j0 : w6.cell? ⟨wr.heap.size, 0, none⟩ = some (.bool false) := by rw [hw6, World.cell?_of_block (RPut_rest _ _ _ _ _ _ _ (by simp; omega)), i0]
            have j1 : w6.cell? ⟨wr.heap.size, 1, none⟩ = some (.int .i64 nk) := by rw [hw6, World.cell?_of_block (RPut_rest _ _ _ _ _ _ _ (by simp; omega)), i1]
            unfold RPut at hw6
            rw [← hw6]
            clear hw6 b5 x5 r5 i0 i1 q0 q1 q2 q3 f0 f1 f2 f3
            refine (take_no_u bx L u p r nk _ x6 g1 g2 l1 g5 (by omega) t1).mono ?_
            rintro e w7 ⟨rfl, h⟩
            have b7 := h.below b6 (by omega)
            have x7 := h.at_
            have r7 : RAt w7 br L u p (r + 1) := by unfold RAt at *; rw [h.rest br (by omega), r6]
            clear h b6 x6 r6 j0 j1
            have q0 := r7.c0
            have q1 := r7.c1
            have q2 := r7.c2
            have q3 := r7.c3
            go_wp2_with fail
            clear q0 q1 q2 q3
            refine (told_any bx L u p (r + 1) _ x7 (by omega) (by omega) l1).mono ?_
            rintro e w8 ⟨rfl, h⟩
            have b8 := b7.trans (h.mono b7.size)
            have x8 := x7.below h (lt_of_block x7)
            have r8 := r7.below h (lt_of_block r7)
            clear h b7 x7 r7
            go_wp2_with fail
            go_roundw
            case rel => exact ⟨k + 1, _, _, _, by omega, by go_num, x8, r8, by omega, by omega, by omega, by omega, by omega, by omega, b8⟩
            case measure => simp [intOf]; omega
        · by_cases ht : 0 ≤ nk ∧ nk ≤ u
          · obtain ⟨t1, t2⟩ := ht
            have q0 := rk.c0
            have q1 := rk.c1
            have q2 := rk.c2
            have q3 := rk.c3
            have kr := lt_of_block rk
            have kx := lt_of_block xk
            go_wp2_with fail
            refine (rgive_ok L u p r nk _ g1 g2 l1 t2 t1).mono ?_
            rintro e w5 ⟨rfl, h⟩
            have b5 := (bk.alloc bk.size (.cells #[.bool true, .int .i64 nk] 34)).trans (h.mono (by simp; have := bk.size; omega))
            have x5 := (xk.alloc (.cells #[.bool true, .int .i64 nk] 34)).below h (by simp; omega)
            have r5 : RAt w5 br L u p r := by unfold RAt at *; rw [h.block br (by simp; omega), Below.heap_alloc _ _ _ kr, rk]
            have i0 : w5.cell? ⟨wr.heap.size, 0, none⟩ = some (.bool true) := by rw [h.cell (by simp)]; simp
            have i1 : w5.cell? ⟨wr.heap.size, 1, none⟩ = some (.int .i64 nk) := by rw [h.cell (by simp)]; simp
            clear h q0 q1 q2 q3 bk xk rk o2 o3
            have q0 := r5.c0
            have q1 := r5.c1
            have q2 := r5.c2
            have q3 := r5.c3
            have f0 := r5.fz 0
            have f1 := r5.fz 1
            have f2 := r5.fz 2
            have f3 := r5.fz 3
            go_wp2_with fail
            obtain ⟨w6, hw6⟩ : ∃ w6, w6 = RPut w5 br L (u - nk) p r := ⟨_, rfl⟩
            have b6 : Below w.heap.size w w6 := by rw [hw6]; exact RPut_below b5 (by omega) _ _ _ _
            have x6 : MAt w6 bx L u p r := by rw [hw6]; exact x5.rput (by omega) _ _ _ _
            have r6 : RAt w6 br L (u - nk) p r := by rw [hw6]; exact r5.put _ _ _ _
            have j0 : w6.cell? ⟨wr.heap.size, 0, none⟩ = some (.bool true) := by rw [hw6, World.cell?_of_block (RPut_rest _ _ _ _ _ _ _ (by simp; omega)), i0]
            have j1 : w6.cell? ⟨wr.heap.size, 1, none⟩ = some (.int .i64 nk) := by rw [hw6, World.cell?_of_block (RPut_rest _ _ _ _ _ _ _ (by simp; omega)), i1]
            unfold RPut at hw6
            rw [← hw6]
            clear hw6 b5 x5 r5 i0 i1 q0 q1 q2 q3 f0 f1 f2 f3
            refine (give_ok_u bx L u p r nk _ x6 g1 g2 l1 g3 t2 t1).mono ?_
            rintro e w7 ⟨rfl, h⟩
            have b7 := h.below b6 (by omega)
            have x7 := h.at_
            have r7 : RAt w7 br L (u - nk) p r := by unfold RAt at *; rw [h.rest br (by omega), r6]
            clear h b6 x6 r6 j0 j1
            have q0 := r7.c0
            have q1 := r7.c1
            have q2 := r7.c2
            have q3 := r7.c3
            go_wp2_with fail
            clear q0 q1 q2 q3
            refine (told_any bx L (u - nk) p r _ x7 (by omega) (by omega) l1).mono ?_
            rintro e w8 ⟨rfl, h⟩
            have b8 := b7.trans (h.mono b7.size)
            have x8 := x7.below h (lt_of_block x7)
            have r8 := r7.below h (lt_of_block r7)
            clear h b7 x7 r7
            go_wp2_with fail
            go_roundw
            case rel => exact ⟨k + 1, _, _, _, by omega, by go_num, x8, r8, by omega, by omega, by omega, by omega, by omega, by omega, b8⟩
            case measure => simp [intOf]; omega
          · have t1 : u < nk ∨ nk < 0 := by omega
            clear ht
            have q0 := rk.c0
            have q1 := rk.c1
            have q2 := rk.c2
            have q3 := rk.c3
            have kr := lt_of_block rk
            have kx := lt_of_block xk
            go_wp2_with fail
            refine (rgive_no L u p r nk _ g1 g2 l1 g5 (by omega) t1).mono ?_
            rintro e w5 ⟨rfl, h⟩
            have b5 := (bk.alloc bk.size (.cells #[.bool true, .int .i64 nk] 34)).trans (h.mono (by simp; have := bk.size; omega))
            have x5 := (xk.alloc (.cells #[.bool true, .int .i64 nk] 34)).below h (by simp; omega)
            have r5 : RAt w5 br L u p r := by unfold RAt at *; rw [h.block br (by simp; omega), Below.heap_alloc _ _ _ kr, rk]
            have i0 : w5.cell? ⟨wr.heap.size, 0, none⟩ = some (.bool true) := by rw [h.cell (by simp)]; simp
            have i1 : w5.cell? ⟨wr.heap.size, 1, none⟩ = some (.int .i64 nk) := by rw [h.cell (by simp)]; simp
            clear h q0 q1 q2 q3 bk xk rk o2 o3
            have q0 := r5.c0
            have q1 := r5.c1
            have q2 := r5.c2
            have q3 := r5.c3
            have f0 := r5.fz 0
            have f1 := r5.fz 1
            have f2 := r5.fz 2
            have f3 := r5.fz 3
            go_wp2_with fail
            obtain ⟨w6, hw6⟩ : ∃ w6, w6 = RPut w5 br L u p (r + 1) := ⟨_, rfl⟩
            have b6 : Below w.heap.size w w6 := by rw [hw6]; exact RPut_below b5 (by omega) _ _ _ _
            have x6 : MAt w6 bx L u p r := by rw [hw6]; exact x5.rput (by omega) _ _ _ _
            have r6 : RAt w6 br L u p (r + 1) := by rw [hw6]; exact r5.put _ _ _ _
            have j0 : w6.cell? ⟨wr.heap.size, 0, none⟩ = some (.bool true) := by rw [hw6, World.cell?_of_block (RPut_rest _ _ _ _ _ _ _ (by simp; omega)), i0]
            have j1 : w6.cell? ⟨wr.heap.size, 1, none⟩ = some (.int .i64 nk) := by rw [hw6, World.cell?_of_block (RPut_rest _ _ _ _ _ _ _ (by simp; omega)), i1]
            unfold RPut at hw6
            rw [← hw6]
            clear hw6 b5 x5 r5 i0 i1 q0 q1 q2 q3 f0 f1 f2 f3
            refine (give_no_u bx L u p r nk _ x6 g1 g2 l1 g5 (by omega) o5 t1).mono ?_
            rintro e w7 ⟨rfl, h⟩
            have b7 := h.below b6 (by omega)
            have x7 := h.at_
            have r7 : RAt w7 br L u p (r + 1) := by unfold RAt at *; rw [h.rest br (by omega), r6]
            clear h b6 x6 r6 j0 j1
            have q0 := r7.c0
            have q1 := r7.c1
            have q2 := r7.c2
            have q3 := r7.c3
            go_wp2_with fail
            clear q0 q1 q2 q3
            refine (told_any bx L u p (r + 1) _ x7 (by omega) (by omega) l1).mono ?_
            rintro e w8 ⟨rfl, h⟩
            have b8 := b7.trans (h.mono b7.size)
            have x8 := x7.below h (lt_of_block x7)
            have r8 := r7.below h (lt_of_block r7)
            clear h b7 x7 r7
            go_wp2_with fail
            go_roundw
            case rel => exact ⟨k + 1, _, _, _, by omega, by go_num, x8, r8, by omega, by omega, by omega, by omega, by omega, by omega, b8⟩
            case measure => simp [intOf]; omega
      · clear hA
        go_wp2
        go_ret
        exact ⟨rfl, bk⟩
end Go.Proofs.Ytngnafjenofihaa

