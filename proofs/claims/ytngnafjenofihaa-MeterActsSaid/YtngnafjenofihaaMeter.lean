/- The contracts of package meter's methods and of the reference's, over one block of a meter. -/
import Derived.Test.YtngnafjenofihaaRows
import Derived.WalkKit
import Derived.WalkSpells
import Derived.WalkLawsBesides
import Derived.Laws.LoneSync
import Derived.Lib.Hide
import Derived.Deep.QuietTactic
import Derived.BigQuiet
namespace Go.Proofs.Ytngnafjenofihaa
open Go.RowKit

set_option maxHeartbeats 400000 in
theorem load_any (b off : Nat) (x : Int) (w : World) (h0 : w.cell? ⟨b, off, none⟩ = some (.int .i64 x)) :
    Calls Try.prog 21 #[.pointer (some ⟨b, off, none⟩)] w fun e w' => e = .returned (.int .i64 x) ∧ w = w' := by
  have hld := run_call_load (P := Try.prog) Try.func25 (by kernel_rfl) (by kernel_rfl) (by kernel_rfl) .i64 (by kernel_rfl) h0
  go_enter Try.func21, Try.ntmps21
  go_wp2
  go_ret
  exact ⟨rfl, rfl⟩

set_option maxHeartbeats 400000 in
theorem add_any (b off : Nat) (x n : Int) (w : World) (h0 : w.cell? ⟨b, off, none⟩ = some (.int .i64 x)) (f0 : w.frozen? ⟨b, off, none⟩ = false)
    (hb : -9223372036854775808 ≤ x + n ∧ x + n ≤ 9223372036854775807) :
    Calls Try.prog 19 #[.pointer (some ⟨b, off, none⟩), .int .i64 n] w fun e w' => e = .returned (.int .i64 (x + n)) ∧ w.setCell ⟨b, off, none⟩ (.int .i64 (x + n)) = w' := by
  have hs : (Op.intArith .add .i64 x n).run Try.prog w = .ok (.int .i64 (x + n)) w := by
    have := IntWalk.i64_in (x + n) (by omega)
    simp [go_sem, this]
  have had := run_call_add (P := Try.prog) Try.func22 (by kernel_rfl) (by kernel_rfl) (by kernel_rfl) .i64 (by kernel_rfl) h0 f0 hs
  clear hs
  go_enter Try.func19, Try.ntmps19
  go_wp2
  go_ret
  exact ⟨rfl, rfl⟩

set_option maxHeartbeats 400000 in
theorem cas_hit (b off : Nat) (x y : Int) (w : World) (h0 : w.cell? ⟨b, off, none⟩ = some (.int .i64 x)) (f0 : w.frozen? ⟨b, off, none⟩ = false) :
    Calls Try.prog 23 #[.pointer (some ⟨b, off, none⟩), .int .i64 x, .int .i64 y] w fun e w' => e = .returned (.bool true) ∧ w.setCell ⟨b, off, none⟩ (.int .i64 y) = w' := by
  have hcas := run_call_cas_hit (P := Try.prog) Try.func26 (by kernel_rfl) (by kernel_rfl) (by kernel_rfl) .i64 (by kernel_rfl) (y := y) h0 f0
  go_enter Try.func23, Try.ntmps23
  go_wp2
  go_ret
  exact ⟨rfl, rfl⟩


/-! ### a meter's block -/
def mobj (l u p r : Int) : Obj := .cells #[.int .i64 l, .int .i64 u, .int .i64 p, .int .i64 r] 44
def MAt (w : World) (b : Nat) (l u p r : Int) : Prop := w.heap[b]? = some (mobj l u p r)
def MSet (w : World) (b : Nat) (l u p r : Int) : World := { w with heap := w.heap.modify b (fun _ => mobj l u p r) }
theorem modify_congr {a : Array Obj} {b : Nat} {f g : Obj → Obj} (h : ∀ x, a[b]? = some x → f x = g x) : a.modify b f = a.modify b g := by
  apply Array.ext_getElem?
  intro i
  rw [Array.getElem?_modify, Array.getElem?_modify]
  by_cases hb : b = i
  · subst hb
    simp only [if_true]
    cases hx : a[b]? with
    | none => rfl
    | some x => simp [h x hx]
  · simp [hb]
theorem MAt.c0 {w : World} {b : Nat} {l u p r : Int} (h : MAt w b l u p r) : w.cell? ⟨b, 0, none⟩ = some (.int .i64 l) := by
  unfold MAt mobj at h; simp [World.cell?, h]
theorem MAt.c1 {w : World} {b : Nat} {l u p r : Int} (h : MAt w b l u p r) : w.cell? ⟨b, 1, none⟩ = some (.int .i64 u) := by
  unfold MAt mobj at h; simp [World.cell?, h]
theorem MAt.c2 {w : World} {b : Nat} {l u p r : Int} (h : MAt w b l u p r) : w.cell? ⟨b, 2, none⟩ = some (.int .i64 p) := by
  unfold MAt mobj at h; simp [World.cell?, h]
theorem MAt.c3 {w : World} {b : Nat} {l u p r : Int} (h : MAt w b l u p r) : w.cell? ⟨b, 3, none⟩ = some (.int .i64 r) := by
  unfold MAt mobj at h; simp [World.cell?, h]
theorem MAt.fz {w : World} {b : Nat} {l u p r : Int} (h : MAt w b l u p r) (i : Nat) : w.frozen? ⟨b, i, none⟩ = false := by
  unfold MAt mobj at h; simp [World.frozen?, h]
theorem MAt.s1 {w : World} {b : Nat} {l u p r : Int} (h : MAt w b l u p r) (x : Int) : w.setCell ⟨b, 1, none⟩ (.int .i64 x) = MSet w b l x p r := by
  unfold MAt mobj at h
  simp only [World.setCell, MSet]
  congr 1
  exact modify_congr fun y hy => by rw [h] at hy; cases hy; simp [mobj]
theorem MAt.s2 {w : World} {b : Nat} {l u p r : Int} (h : MAt w b l u p r) (x : Int) : w.setCell ⟨b, 2, none⟩ (.int .i64 x) = MSet w b l u x r := by
  unfold MAt mobj at h
  simp only [World.setCell, MSet]
  congr 1
  exact modify_congr fun y hy => by rw [h] at hy; cases hy; simp [mobj]
theorem MAt.s3 {w : World} {b : Nat} {l u p r : Int} (h : MAt w b l u p r) (x : Int) : w.setCell ⟨b, 3, none⟩ (.int .i64 x) = MSet w b l u p x := by
  unfold MAt mobj at h
  simp only [World.setCell, MSet]
  congr 1
  exact modify_congr fun y hy => by rw [h] at hy; cases hy; simp [mobj]
theorem MAt.self {w : World} {b : Nat} {l u p r : Int} (h : MAt w b l u p r) : MSet w b l u p r = w := by
  unfold MAt at h
  have : w.heap.modify b (fun _ => mobj l u p r) = w.heap := by
    apply Array.ext_getElem?
    intro i
    rw [Array.getElem?_modify]
    by_cases hb : b = i
    · subst hb; rw [h]; simp
    · simp [hb]
  simp only [MSet, this]
theorem MAt.set {w : World} {b : Nat} {l u p r : Int} (h : MAt w b l u p r) (l' u' p' r' : Int) : MAt (MSet w b l' u' p' r') b l' u' p' r' := by
  unfold MAt at *
  simp only [MSet, Array.getElem?_modify, if_true, h, Option.map_some]
theorem MSet_MSet (w : World) (b : Nat) (l u p r l' u' p' r' : Int) : MSet (MSet w b l u p r) b l' u' p' r' = MSet w b l' u' p' r' := by
  simp only [MSet]
  congr 1
  apply Array.ext_getElem?
  intro i
  simp only [Array.getElem?_modify]
  by_cases hb : b = i
  · subst hb; cases w.heap[b]? <;> simp
  · simp [hb]
theorem MAt.other {w : World} {b c : Nat} {l u p r : Int} (h : MAt w b l u p r) (hc : c ≠ b) (l' u' p' r' : Int) : MAt (MSet w c l' u' p' r') b l u p r := by
  unfold MAt at *
  simp [MSet, Array.getElem?_modify, hc, h]
theorem MAt.new (w : World) (l u p r : Int) : MAt (w.alloc (mobj l u p r)) w.heap.size l u p r := by
  show (w.heap.push _)[w.heap.size]? = _
  simp
theorem MAt.alloc {w : World} {b : Nat} {l u p r : Int} (h : MAt w b l u p r) (o : Obj) : MAt (w.alloc o) b l u p r := by
  have := lt_of_block h
  unfold MAt at *
  rw [Below.heap_alloc _ _ _ this, h]
theorem MSet_below {B : Nat} {a w : World} (h : Below B a w) {b : Nat} (hb : B ≤ b) (l u p r : Int) : Below B a (MSet w b l u p r) :=
  h.trans ⟨rfl, rfl, rfl, by simp [MSet], fun k hk => by simp [MSet, Array.getElem?_modify]; omega⟩
theorem MSet_size (w : World) (b : Nat) (l u p r : Int) : (MSet w b l u p r).heap.size = w.heap.size := by simp [MSet]

set_option maxHeartbeats 400000 in
theorem new_any (l : Int) (w : World)  :
    Calls Try.prog 8 #[.int .i64 l] w fun e w' => e = .returned (.pointer (some ⟨w.heap.size, 0, none⟩)) ∧ w.alloc (mobj (max l 0) 0 0 0) = w' := by
  by_cases h : l < 0
  · have hm : max l 0 = 0 := by omega
    rw [hm]
    go_enter Try.func8, Try.ntmps8
    go_wp2
    go_ret
    exact ⟨rfl, rfl⟩
  · have hm : max l 0 = l := by omega
    rw [hm]
    clear hm
    go_enter Try.func8, Try.ntmps8
    go_wp2
    go_ret
    exact ⟨rfl, rfl⟩

set_option maxHeartbeats 400000 in
theorem raise_any (b : Nat) (l u p r n : Int) (w : World) (hm : MAt w b l u p r) :
    Calls Try.prog 24 #[.pointer (some ⟨b, 2, none⟩), .int .i64 n] w fun e w' => e = .returned (.tuple #[]) ∧ MSet w b l u (max p n) r = w' := by
  have hself := Lib.hid hm.self
  have hs2 := Lib.hid (hm.s2 n)
  have h2 := hm.c2
  have f2 := hm.fz 2
  have hH := Lib.hid hm
  clear hm
  by_cases h : n ≤ p
  · have hx : max p n = p := by omega
    rw [hx, hself.out]
    clear hx
    go_enter Try.func24, Try.ntmps24
    go_step3
    go_wp2_with fail
    go_step3
    go_wp2_with fail
    refine wp_loop_once ?_
    go_wp2_with (first | (go_at_call 21; refine (load_any b 2 p _ h2).mono ?_; rintro e w' ⟨rfl, rfl⟩) | fail)
    rw [Exit.noGoto_ret]
    refine bodyPost_ret (results_none rfl _ _ _) rfl ?_
    exact ⟨rfl, rfl⟩
  · have hx : max p n = n := by omega
    rw [hx]
    clear hx
    go_enter Try.func24, Try.ntmps24
    go_step3
    go_wp2_with fail
    go_step3
    go_wp2_with fail
    refine wp_loop_once ?_
    go_wp2_with (first | (go_at_call 21; refine (load_any b 2 p _ h2).mono ?_; rintro e w' ⟨rfl, rfl⟩) | (go_at_call 23; refine (cas_hit b 2 p n _ h2 f2).mono ?_; rintro e w' ⟨rfl, rfl⟩))
    rw [Exit.noGoto_ret]
    refine bodyPost_ret (results_none rfl _ _ _) rfl ?_
    exact ⟨rfl, hs2.out.symm⟩

set_option maxHeartbeats 400000 in
theorem move_ok (b : Nat) (l u p r n : Int) (w : World) (hm : MAt w b l u p r) (h1 : 0 ≤ u) (h2 : u ≤ l) (h3 : l ≤ 9223372036854775807) (h4 : n ≤ l - u) (h5 : - u ≤ n) :
    Calls Try.prog 20 #[.pointer (some ⟨b, 0, none⟩), .int .i64 n] w fun e w' => e = .returned (.bool true) ∧ MSet w b l (u + n) (max p (u + n)) r = w' := by
  have c0 := hm.c0
  have c1 := hm.c1
  have f1 := hm.fz 1
  have hs := Lib.hid (hm.s1 (u + n))
  have ha := Lib.hid (hm.set l (u + n) p r)
  have hh := Lib.hid (MSet_MSet w b l (u + n) p r l (u + n) (max p (u + n)) r)
  clear hm
  go_enter Try.func20, Try.ntmps20
  go_wp2_with fail
  refine wp_loop_once ?_
  go_wp2_with (first | (go_at_call 21; refine (load_any b 1 u _ c1).mono ?_; rintro e w' ⟨rfl, rfl⟩) | (go_at_call 23; refine (cas_hit b 1 u (u + n) _ c1 f1).mono ?_; rintro e w' ⟨rfl, rfl⟩; rw [hs.out]) | (go_at_call 24; refine (raise_any b l (u + n) p r (u + n) _ ha.out).mono ?_; rintro e w' ⟨rfl, rfl⟩; rw [hh.out]))
  go_ret
  exact ⟨rfl, rfl⟩

set_option maxHeartbeats 400000 in
theorem move_no (b : Nat) (l u p r n : Int) (w : World) (hm : MAt w b l u p r) (h1 : 0 ≤ u) (h2 : u ≤ l) (h3 : l ≤ 9223372036854775807) (h6 : 0 ≤ r) (h7 : r ≤ 4611686018427387904) (h4 : l - u < n ∨ n < - u) :
    Calls Try.prog 20 #[.pointer (some ⟨b, 0, none⟩), .int .i64 n] w fun e w' => e = .returned (.bool false) ∧ MSet w b l u p (r + 1) = w' := by
  have c0 := hm.c0
  have c1 := hm.c1
  have c3 := hm.c3
  have f3 := hm.fz 3
  have hs := Lib.hid (hm.s3 (r + 1))
  clear hm
  by_cases h5 : l - u < n
  · clear h4
    go_enter Try.func20, Try.ntmps20
    go_wp2_with fail
    refine wp_loop_once ?_
    go_wp2_with (first | (go_at_call 21; refine (load_any b 1 u _ c1).mono ?_; rintro e w' ⟨rfl, rfl⟩) | (go_at_call 19; refine (add_any b 3 r 1 _ c3 f3 (by omega)).mono ?_; rintro e w' ⟨rfl, rfl⟩; rw [hs.out]))
    go_ret
    exact ⟨rfl, rfl⟩
  · have h8 : n < - u := by omega
    clear h4
    go_enter Try.func20, Try.ntmps20
    go_wp2_with fail
    refine wp_loop_once ?_
    go_wp2_with (first | (go_at_call 21; refine (load_any b 1 u _ c1).mono ?_; rintro e w' ⟨rfl, rfl⟩) | (go_at_call 19; refine (add_any b 3 r 1 _ c3 f3 (by omega)).mono ?_; rintro e w' ⟨rfl, rfl⟩; rw [hs.out]))
    go_ret
    exact ⟨rfl, rfl⟩


set_option maxHeartbeats 400000 in
theorem used_any (b : Nat) (l u p r : Int) (w : World) (hm : MAt w b l u p r) :
    Calls Try.prog 10 #[.pointer (some ⟨b, 0, none⟩)] w fun e w' => e = .returned (.int .i64 u) ∧ w = w' := by
  have c1 := hm.c1
  clear hm
  go_enter Try.func10, Try.ntmps10
  go_wp2_with (first | (go_at_call 21; refine (load_any b 1 u _ c1).mono ?_; rintro e w' ⟨rfl, rfl⟩))
  go_ret
  exact ⟨rfl, rfl⟩

set_option maxHeartbeats 400000 in
theorem peak_any (b : Nat) (l u p r : Int) (w : World) (hm : MAt w b l u p r) :
    Calls Try.prog 13 #[.pointer (some ⟨b, 0, none⟩)] w fun e w' => e = .returned (.int .i64 p) ∧ w = w' := by
  have c1 := hm.c2
  clear hm
  go_enter Try.func13, Try.ntmps13
  go_wp2_with (first | (go_at_call 21; refine (load_any b 2 p _ c1).mono ?_; rintro e w' ⟨rfl, rfl⟩))
  go_ret
  exact ⟨rfl, rfl⟩

set_option maxHeartbeats 400000 in
theorem refused_any (b : Nat) (l u p r : Int) (w : World) (hm : MAt w b l u p r) :
    Calls Try.prog 18 #[.pointer (some ⟨b, 0, none⟩)] w fun e w' => e = .returned (.int .i64 r) ∧ w = w' := by
  have c1 := hm.c3
  clear hm
  go_enter Try.func18, Try.ntmps18
  go_wp2_with (first | (go_at_call 21; refine (load_any b 3 r _ c1).mono ?_; rintro e w' ⟨rfl, rfl⟩))
  go_ret
  exact ⟨rfl, rfl⟩

theorem load_q (b off : Nat) (x : Int) (w : World) (n : Nat) (h0 : w.cell? ⟨b, off, none⟩ = some (.int .i64 x)) :
    Calls Try.prog 21 #[.pointer (some ⟨b, off, none⟩)] (w.drewN n) fun e w' => e = .returned (.int .i64 x) ∧ w' = w.drewN n :=
  (load_any b off x (w.drewN n) h0).mono fun _ _ ⟨h, k⟩ => ⟨h, k.symm⟩

set_option maxHeartbeats 400000 in
theorem left_any (b : Nat) (l u p r : Int) (w : World) (hm : MAt w b l u p r) (h1 : 0 ≤ u) (h2 : u ≤ l) (h3 : l ≤ 9223372036854775807) :
    Calls Try.prog 11 #[.pointer (some ⟨b, 0, none⟩)] w fun e w' => e = .returned (.int .i64 (l - u)) ∧ ∃ n, w' = w.drewN n := by
  have c0 := hm.c0
  have c1 := hm.c1
  clear hm
  go_enter Try.func11, Try.ntmps11
  go_wp2_with fail
  go_quiet ((go_at_call 21; exact Calls.quiet_of_same (load_q b 1 u w _ c1)))
  go_wp2
  go_ret
  exact ⟨rfl, _, rfl⟩

set_option maxHeartbeats 400000 in
theorem take_ok (b : Nat) (l u p r n : Int) (w : World) (hm : MAt w b l u p r) (h1 : 0 ≤ u) (h2 : u ≤ l) (h3 : l ≤ 9223372036854775807) (h4 : n ≤ l - u) (h5 : 0 ≤ n) :
    Calls Try.prog 9 #[.pointer (some ⟨b, 0, none⟩), .int .i64 n] w fun e w' => e = .returned (.bool true) ∧ MSet w b l (u + n) (max p (u + n)) r = w' := by
  have hH := Lib.hid hm
  clear hm
  go_enter Try.func9, Try.ntmps9
  go_wp2_with (first | (go_at_call 20; refine (move_ok b l u p r n _ hH.out h1 h2 h3 h4 (by omega)).mono ?_; rintro e w' ⟨rfl, rfl⟩))
  go_ret
  exact ⟨rfl, rfl⟩

set_option maxHeartbeats 400000 in
theorem take_no (b : Nat) (l u p r n : Int) (w : World) (hm : MAt w b l u p r) (h1 : 0 ≤ u) (h2 : u ≤ l) (h3 : l ≤ 9223372036854775807) (h6 : 0 ≤ r) (h7 : r ≤ 4611686018427387904) (h4 : l - u < n ∨ n < 0) :
    Calls Try.prog 9 #[.pointer (some ⟨b, 0, none⟩), .int .i64 n] w fun e w' => e = .returned (.bool false) ∧ MSet w b l u p (r + 1) = w' := by
  by_cases h5 : n < 0
  · have c3 := hm.c3
    have f3 := hm.fz 3
    have hs := Lib.hid (hm.s3 (r + 1))
    clear hm h4
    go_enter Try.func9, Try.ntmps9
    go_wp2_with (first | (go_at_call 19; refine (add_any b 3 r 1 _ c3 f3 (by omega)).mono ?_; rintro e w' ⟨rfl, rfl⟩; rw [hs.out]))
    go_ret
    exact ⟨rfl, rfl⟩
  · have h8 : l - u < n := by omega
    have hH := Lib.hid hm
    clear hm h4
    go_enter Try.func9, Try.ntmps9
    go_wp2_with (first | (go_at_call 20; refine (move_no b l u p r n _ hH.out h1 h2 h3 h6 h7 (.inl h8)).mono ?_; rintro e w' ⟨rfl, rfl⟩))
    go_ret
    exact ⟨rfl, rfl⟩

set_option maxHeartbeats 400000 in
theorem give_ok (b : Nat) (l u p r n : Int) (w : World) (hm : MAt w b l u p r) (h1 : 0 ≤ u) (h2 : u ≤ l) (h3 : l ≤ 9223372036854775807) (hp : u ≤ p) (h4 : n ≤ u) (h5 : 0 ≤ n) :
    Calls Try.prog 12 #[.pointer (some ⟨b, 0, none⟩), .int .i64 n] w fun e w' => e = .returned (.bool true) ∧ MSet w b l (u - n) p r = w' := by
  have hH := Lib.hid hm
  clear hm
  have hx : Hid (max p (u + -n) = p) := by unfold Hid; omega
  have hy : Hid (u + -n = u - n) := by unfold Hid; omega
  go_enter Try.func12, Try.ntmps12
  go_wp2_with (first | (go_at_call 20; refine (move_ok b l u p r (-n) _ hH.out h1 h2 h3 (by omega) (by omega)).mono ?_; rintro e w' ⟨rfl, rfl⟩; rw [hx.out, hy.out]))
  go_ret
  exact ⟨rfl, rfl⟩

set_option maxHeartbeats 400000 in
theorem give_no (b : Nat) (l u p r n : Int) (w : World) (hm : MAt w b l u p r) (h1 : 0 ≤ u) (h2 : u ≤ l) (h3 : l ≤ 9223372036854775807) (h6 : 0 ≤ r) (h7 : r ≤ 4611686018427387904) (h9 : n ≤ 9223372036854775807) (h4 : u < n ∨ n < 0) :
    Calls Try.prog 12 #[.pointer (some ⟨b, 0, none⟩), .int .i64 n] w fun e w' => e = .returned (.bool false) ∧ MSet w b l u p (r + 1) = w' := by
  by_cases h5 : n < 0
  · have c3 := hm.c3
    have f3 := hm.fz 3
    have hs := Lib.hid (hm.s3 (r + 1))
    clear hm h4
    go_enter Try.func12, Try.ntmps12
    go_wp2_with (first | (go_at_call 19; refine (add_any b 3 r 1 _ c3 f3 (by omega)).mono ?_; rintro e w' ⟨rfl, rfl⟩; rw [hs.out]))
    go_ret
    exact ⟨rfl, rfl⟩
  · have h8 : u < n := by omega
    have hH := Lib.hid hm
    clear hm h4
    go_enter Try.func12, Try.ntmps12
    go_wp2_with (first | (go_at_call 20; refine (move_no b l u p r (-n) _ hH.out h1 h2 h3 h6 h7 (.inr (by omega))).mono ?_; rintro e w' ⟨rfl, rfl⟩))
    go_ret
    exact ⟨rfl, rfl⟩

end Go.Proofs.Ytngnafjenofihaa
