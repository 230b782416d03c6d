/- The walk of num.Parse: up to the loop over the power's digits. -/
import Derived.Test.YtffcmfhicefahaaDoorWalk3
import Derived.Test.YtffcmfhicefahaaDoorNumCuts
namespace Go.Proofs.YtffcmfhicefahaaDoor
open Go.RowKit Go.Proofs.NumPlain

/-- A number as a value. -/
def nv (n : Nm) : Value := .agg #[.bool n.neg, .string ⟨n.dig.toArray⟩, .int .i64 n.exp]

set_option maxHeartbeats 2000000 in
theorem parse_form (s : ByteArray) (w : World) (hs : s.size ≤ 9223372036854775807) (hG : Glob w) (hb : s.data.toList = [] ∨ NumPlain.scan s.data.toList < s.size) :
    Calls Tryd.prog 10 #[.string s] w fun e w' => e = .returned (.tuple #[nv zero, .int .i64 3]) ∧ Below w.heap.size w w' := by
  unfold nv
  by_cases h0 : s.data.toList = []
  · have hemp : s.toList.isEmpty = true := by rw [isEmpty_of _ _ h0]; rfl
    clear h0 hb hG
    go_enter Tryd.func10, Tryd.ntmps10
    go_wp2_with fail
    exact bodyPost_ret (v := .tuple #[.agg #[.bool false, .string ⟨#[]⟩, .int .i64 0], .int .i64 3]) (by simp [results, Tryd.results10, go_sem]) rfl ⟨rfl, (Below.refl _ _).alloc (Nat.le_refl _) _⟩
  · have hlt : NumPlain.scan s.data.toList < s.size := by rcases hb with h | h; exact absurd h h0; exact h
    have hemp : s.toList.isEmpty = false := by
      rw [isEmpty_iff]
      cases h : s.data.toList with
      | nil => exact absurd h h0
      | cons _ _ => rfl
    clear h0 hb
    have hG' : Glob (w.alloc (.cells #[.bool false, .string ⟨#[]⟩, .int .i64 0] 24)) := hG.below ((Below.refl _ _).alloc (Nat.le_refl _) _)
    have HG := Lib.hid hG'
    clear hG hG'
    go_enter Tryd.func10, Tryd.ntmps10
    go_wp2_with fail
    refine (scan_any s _ hs HG.out).mono ?_
    generalize NumPlain.scan s.data.toList = L at hlt ⊢
    rintro e w' ⟨rfl, rfl⟩
    go_wp2_with fail
    exact bodyPost_ret (v := .tuple #[.agg #[.bool false, .string ⟨#[]⟩, .int .i64 0], .int .i64 3]) (by simp [results, Tryd.results10, go_sem]) rfl ⟨rfl, (Below.refl _ _).alloc (Nat.le_refl _) _⟩
end Go.Proofs.YtffcmfhicefahaaDoor
