/- The contracts of the reference's functions and of 'told'. -/
import Derived.Test.YtngnafjenofihaaUse
namespace Go.Proofs.Ytngnafjenofihaa
open Go.RowKit

set_option maxHeartbeats 400000 in
theorem rnew_any (l : Int) (w : World) :
    Calls Try.prog 14 #[.int .i64 l] w fun e w' => e = .returned (.agg #[.int .i64 (max l 0), .int .i64 0, .int .i64 0, .int .i64 0]) ∧ Below w.heap.size w w' := by
  by_cases h : l < 0
  · have hm : max l 0 = 0 := by omega
    rw [hm]
    clear hm
    go_enter Try.func14, Try.ntmps14
    go_wp2
    exact bodyPost_ret (v := .agg #[.int .i64 0, .int .i64 0, .int .i64 0, .int .i64 0]) (by simp [results, Try.results14, go_sem]) rfl ⟨rfl, (Below.refl _ _).alloc (Nat.le_refl _) _⟩
  · have hm : max l 0 = l := by omega
    rw [hm]
    clear hm
    go_enter Try.func14, Try.ntmps14
    go_wp2
    exact bodyPost_ret (v := .agg #[.int .i64 l, .int .i64 0, .int .i64 0, .int .i64 0]) (by simp [results, Try.results14, go_sem]) rfl ⟨rfl, (Below.refl _ _).alloc (Nat.le_refl _) _⟩

set_option maxHeartbeats 800000 in
theorem rgive_ok (l u p r n : Int) (w : World) (h1 : 0 ≤ u) (h2 : u ≤ l) (h3 : l ≤ 9223372036854775807) (h4 : n ≤ u) (h5 : 0 ≤ n) :
    Calls Try.prog 16 #[.agg #[.int .i64 l, .int .i64 u, .int .i64 p, .int .i64 r], .int .i64 n] w fun e w' =>
      e = .returned (.tuple #[.agg #[.int .i64 l, .int .i64 (u - n), .int .i64 p, .int .i64 r], .bool true]) ∧ Below w.heap.size w w' := by
  go_enter Try.func16, Try.ntmps16
  go_wp2
  all_goals exact bodyPost_ret (v := .tuple #[.agg #[.int .i64 l, .int .i64 (u - n), .int .i64 p, .int .i64 r], .bool true]) (by simp [results, Try.results16, go_sem] <;> omega) rfl ⟨rfl, by repeat (first | exact Below.refl _ _ | refine Below.alloc ?_ (by simp) _)⟩

set_option maxHeartbeats 800000 in
theorem rgive_no (l u p r n : Int) (w : World) (h1 : 0 ≤ u) (h2 : u ≤ l) (h3 : l ≤ 9223372036854775807) (h6 : 0 ≤ r) (h7 : r ≤ 4611686018427387904) (h4 : u < n ∨ n < 0) :
    Calls Try.prog 16 #[.agg #[.int .i64 l, .int .i64 u, .int .i64 p, .int .i64 r], .int .i64 n] w fun e w' =>
      e = .returned (.tuple #[.agg #[.int .i64 l, .int .i64 u, .int .i64 p, .int .i64 (r + 1)], .bool false]) ∧ Below w.heap.size w w' := by
  by_cases hs : n < 0
  all_goals
    rcases h4 with h4 | h4 <;> first | (exfalso; omega) | skip
    all_goals go_enter Try.func16, Try.ntmps16
    go_wp2
    all_goals exact bodyPost_ret (v := .tuple #[.agg #[.int .i64 l, .int .i64 u, .int .i64 p, .int .i64 (r + 1)], .bool false]) (by simp [results, Try.results16, go_sem] <;> omega) rfl ⟨rfl, by repeat (first | exact Below.refl _ _ | refine Below.alloc ?_ (by simp) _)⟩

set_option maxHeartbeats 800000 in
theorem rtake_ok (l u p r n : Int) (w : World) (h1 : 0 ≤ u) (h2 : u ≤ l) (h3 : l ≤ 9223372036854775807) (h4 : n ≤ l - u) (h5 : 0 ≤ n) :
    Calls Try.prog 17 #[.agg #[.int .i64 l, .int .i64 u, .int .i64 p, .int .i64 r], .int .i64 n] w fun e w' =>
      e = .returned (.tuple #[.agg #[.int .i64 l, .int .i64 (u + n), .int .i64 (max p (u + n)), .int .i64 r], .bool true]) ∧ Below w.heap.size w w' := by
  by_cases hs : p < u + n
  all_goals
    have hm : Hid (max p (u + n) = if p < u + n then u + n else p) := by unfold Hid; omega
    go_enter Try.func17, Try.ntmps17
    go_wp2
    all_goals exact bodyPost_ret (v := .tuple #[.agg #[.int .i64 l, .int .i64 (u + n), .int .i64 (max p (u + n)), .int .i64 r], .bool true]) (by simp [results, Try.results17, go_sem] <;> omega) rfl ⟨rfl, by repeat (first | exact Below.refl _ _ | refine Below.alloc ?_ (by simp) _)⟩

set_option maxHeartbeats 800000 in
theorem rtake_no (l u p r n : Int) (w : World) (h1 : 0 ≤ u) (h2 : u ≤ l) (h3 : l ≤ 9223372036854775807) (h6 : 0 ≤ r) (h7 : r ≤ 4611686018427387904) (h4 : l - u < n ∨ n < 0) :
    Calls Try.prog 17 #[.agg #[.int .i64 l, .int .i64 u, .int .i64 p, .int .i64 r], .int .i64 n] w fun e w' =>
      e = .returned (.tuple #[.agg #[.int .i64 l, .int .i64 u, .int .i64 p, .int .i64 (r + 1)], .bool false]) ∧ Below w.heap.size w w' := by
  by_cases hs : n < 0
  all_goals
    rcases h4 with h4 | h4 <;> first | (exfalso; omega) | skip
    all_goals go_enter Try.func17, Try.ntmps17
    go_wp2
    all_goals exact bodyPost_ret (v := .tuple #[.agg #[.int .i64 l, .int .i64 u, .int .i64 p, .int .i64 (r + 1)], .bool false]) (by simp [results, Try.results17, go_sem] <;> omega) rfl ⟨rfl, by repeat (first | exact Below.refl _ _ | refine Below.alloc ?_ (by simp) _)⟩


theorem left_q (b : Nat) (l u p r : Int) (w : World) (n : Nat) (hm : MAt w b l u p r) (h1 : 0 ≤ u) (h2 : u ≤ l) (h3 : l ≤ 9223372036854775807) :
    Calls Try.prog 11 #[.pointer (some ⟨b, 0, none⟩)] (w.drewN n) fun e w' => e = .returned (.int .i64 (l - u)) ∧ ∃ m, w' = (w.drewN n).drewN m :=
  left_any b l u p r (w.drewN n) hm h1 h2 h3
theorem used_q (b : Nat) (l u p r : Int) (w : World) (n : Nat) (hm : MAt w b l u p r) :
    Calls Try.prog 10 #[.pointer (some ⟨b, 0, none⟩)] (w.drewN n) fun e w' => e = .returned (.int .i64 u) ∧ w' = w.drewN n :=
  (used_any b l u p r (w.drewN n) hm).mono fun _ _ ⟨h, k⟩ => ⟨h, k.symm⟩
theorem peak_q (b : Nat) (l u p r : Int) (w : World) (n : Nat) (hm : MAt w b l u p r) :
    Calls Try.prog 13 #[.pointer (some ⟨b, 0, none⟩)] (w.drewN n) fun e w' => e = .returned (.int .i64 p) ∧ w' = w.drewN n :=
  (peak_any b l u p r (w.drewN n) hm).mono fun _ _ ⟨h, k⟩ => ⟨h, k.symm⟩
theorem refused_q (b : Nat) (l u p r : Int) (w : World) (n : Nat) (hm : MAt w b l u p r) :
    Calls Try.prog 18 #[.pointer (some ⟨b, 0, none⟩)] (w.drewN n) fun e w' => e = .returned (.int .i64 r) ∧ w' = w.drewN n :=
  (refused_any b l u p r (w.drewN n) hm).mono fun _ _ ⟨h, k⟩ => ⟨h, k.symm⟩

set_option maxHeartbeats 800000 in
theorem told_any (b : Nat) (l u p r : Int) (w : World) (hm : MAt w b l u p r) (h1 : 0 ≤ u) (h2 : u ≤ l) (h3 : l ≤ 9223372036854775807) :
    Calls Try.prog 15 #[.pointer (some ⟨b, 0, none⟩), .agg #[.int .i64 l, .int .i64 u, .int .i64 p, .int .i64 r]] w fun e w' => e = .returned (.bool true) ∧ Below w.heap.size w w' := by
  have hm' := hm.alloc (.cells #[.int .i64 l, .int .i64 u, .int .i64 p, .int .i64 r] 30)
  clear hm
  go_enter Try.func15, Try.ntmps15
  go_wp2_with fail
  go_quiet ((first
    | (go_at_call 10; exact Calls.quiet_of_same (used_q b l u p r _ _ hm'))
    | (go_at_call 11; exact Calls.quiet_of (left_q b l u p r _ _ hm' h1 h2 h3))
    | (go_at_call 13; exact Calls.quiet_of_same (peak_q b l u p r _ _ hm'))
    | (go_at_call 18; exact Calls.quiet_of_same (refused_q b l u p r _ _ hm'))))
  go_wp2_with fail
  go_ret
  exact ⟨rfl, ⟨rfl, rfl, rfl, by simp, fun k hk => Below.heap_alloc _ _ _ hk⟩⟩
end Go.Proofs.Ytngnafjenofihaa
