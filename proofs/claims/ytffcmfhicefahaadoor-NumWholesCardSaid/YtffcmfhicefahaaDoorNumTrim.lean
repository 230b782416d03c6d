/- Plain: trims. -/
import Derived.Test.YtffcmfhicefahaaDoorNumParse
import Derived.Lib.SlTrimSet
import Derived.Lib.TrimByte
import Derived.Lib.Index
import Derived.Lib.IndexAny
import Derived.Lib.IndexMore
import Derived.Lib.Strings
namespace Go.Proofs.NumPlain
open Go

theorem dropWhile_nil (p : UInt8 → Bool) (l : List UInt8) : l.dropWhile p = [] ↔ l.all p = true := by
  induction l with
  | nil => simp
  | cons c r ih =>
    rw [List.dropWhile_cons]
    by_cases h : p c
    · rw [if_pos h, ih, List.all_cons, h, Bool.true_and]
    · rw [if_neg h, List.all_cons]; simp [h]
theorem dropWhile_head (p : UInt8 → Bool) (l : List UInt8) (c : UInt8) (r : List UInt8) (h : l.dropWhile p = c :: r) : p c = false := by
  induction l with
  | nil => simp at h
  | cons d q ih =>
    rw [List.dropWhile_cons] at h
    by_cases hd : p d
    · rw [if_pos hd] at h; exact ih h
    · rw [if_neg hd] at h
      injection h with h1 h2
      subst h1; simpa using hd
theorem trimS_nil (l cs : List UInt8) : Lib.trimS l cs = [] ↔ l.all (cs.contains ·) = true := by
  unfold Lib.trimS Lib.trimLeftS Lib.trimRightS
  rw [dropWhile_nil, List.all_reverse]
  cases h : l.reverse.dropWhile (cs.contains ·) with
  | nil =>
    have := (dropWhile_nil _ _).1 h
    rw [List.all_reverse] at this
    rw [this]; simp
  | cons c r =>
    have h1 := dropWhile_head _ _ _ _ h
    have h2 : l.all (cs.contains ·) ≠ true := by
      intro h3
      have h4 : l.reverse.all (cs.contains ·) = true := by rw [List.all_reverse]; exact h3
      rw [(dropWhile_nil _ _).2 h4] at h
      cases h
    constructor
    · intro h5
      rw [List.all_cons, h1] at h5; simp at h5
    · intro h5; exact absurd h5 h2
theorem digits_cs (c : UInt8) : [48, 49, 50, 51, 52, 53, 54, 55, 56, 57].contains c = isD c := by
  have := all_u8 (fun c => [48, 49, 50, 51, 52, 53, 54, 55, 56, 57].contains c == isD c) (by decide +kernel) c
  simpa using this
theorem trimS_digits (l : List UInt8) : Lib.trimS l [48, 49, 50, 51, 52, 53, 54, 55, 56, 57] = [] ↔ l.all isD = true := by
  rw [trimS_nil]
  have : (fun c => [48, 49, 50, 51, 52, 53, 54, 55, 56, 57].contains c) = isD := funext digits_cs
  rw [this]
theorem right_some (neg : Bool) (l : List UInt8) (x : Int) (h : l ≠ []) : right ⟨neg, l, x⟩ = (decide (l.length ≤ 1000) && l.all isD && l.head? != some 48 && l.getLast? != some 48 && decide (x ≤ 10000) && decide (-10000 ≤ x)) := by
  unfold right; rw [if_neg h]
end Go.Proofs.NumPlain
