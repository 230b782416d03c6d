/- Plain: what a text's number is, as the program and as the document reckon it. -/
import Derived.Test.YtffcmfhicefahaaDoorNumText
namespace Go.Proofs.NumPlain

structure Nm where
  neg : Bool
  dig : List UInt8
  exp : Int
  deriving DecidableEq
def zero : Nm := ⟨false, [], 0⟩
def right (n : Nm) : Bool :=
  if n.dig = [] then !n.neg && n.exp == 0
  else decide (n.dig.length ≤ 1000) && n.dig.all isD && n.dig.head? != some 48 && n.dig.getLast? != some 48 && decide (n.exp ≤ 10000) && decide (-10000 ≤ n.exp)
def ltrim (l : List UInt8) : List UInt8 := l.dropWhile (· == 48)
def rtrim (l : List UInt8) : List UInt8 := (l.reverse.dropWhile (· == 48)).reverse
/-- A sign, digits, a power: the number, and 0; or no right one: 4. -/
def fin (neg : Bool) (D : List UInt8) (x : Int) : Nm × Int :=
  if rtrim (ltrim D) = [] then (zero, 0)
  else if right ⟨neg, rtrim (ltrim D), x + ((ltrim D).length - (rtrim (ltrim D)).length)⟩ then (⟨neg, rtrim (ltrim D), x + ((ltrim D).length - (rtrim (ltrim D)).length)⟩, 0)
  else (zero, 4)
/-- A power's number, without a bound. -/
def valN (X : List UInt8) : Nat := X.foldl (fun b c => 10 * b + (c.toNat - 48)) 0
/-- As the program reckons it: no more than 2^40. -/
def valP (X : List UInt8) : Nat := X.foldl (fun b c => min (10 * b + (c.toNat - 48)) 1099511627776) 0
/-- As the document's definition does: no further, once it has reached 10^9. -/
def valR (X : List UInt8) : Nat := X.foldl (fun b c => if b < 1000000000 then b * 10 + (c.toNat - 48) else b) 0
def Ex.val (f : List UInt8 → Nat) : Ex → Int
  | .no => 0
  | .some _ sg X => if sg = [45] then - (f X : Int) else f X

theorem valN_snoc (X : List UInt8) (c : UInt8) : valN (X ++ [c]) = 10 * valN X + (c.toNat - 48) := by simp [valN, List.foldl_append]
theorem valP_snoc (X : List UInt8) (c : UInt8) : valP (X ++ [c]) = min (10 * valP X + (c.toNat - 48)) 1099511627776 := by simp [valP, List.foldl_append]
theorem valR_snoc (X : List UInt8) (c : UInt8) : valR (X ++ [c]) = if valR X < 1000000000 then valR X * 10 + (c.toNat - 48) else valR X := by unfold valR; rw [List.foldl_append]; rfl
theorem snoc_ind {p : List UInt8 → Prop} (h0 : p []) (h1 : ∀ l c, p l → p (l ++ [c])) (l : List UInt8) : p l := by
  rw [← List.reverse_reverse l]
  induction l.reverse with
  | nil => exact h0
  | cons c r ih => rw [List.reverse_cons]; exact h1 _ _ ih
theorem valP_eq (X : List UInt8) : valP X = min (valN X) 1099511627776 := by
  induction X using snoc_ind with
  | h0 => rfl
  | h1 l c ih => rw [valP_snoc, valN_snoc, ih]; omega
theorem valR_eq (X : List UInt8) : (valN X < 1000000000 → valR X = valN X) ∧ (1000000000 ≤ valN X → 1000000000 ≤ valR X) := by
  induction X using snoc_ind with
  | h0 => exact ⟨fun _ => rfl, fun h => by simp [valN] at h⟩
  | h1 l c ih =>
    obtain ⟨a, b⟩ := ih
    rw [valR_snoc, valN_snoc]
    by_cases h : valN l < 1000000000
    · rw [a h, if_pos h]
      exact ⟨fun _ => by omega, fun _ => by omega⟩
    · have := b (by omega)
      rw [if_neg (by omega)]
      exact ⟨fun _ => by omega, fun _ => this⟩
/-- The two are one, or both are far too great. -/
theorem val_same (X : List UInt8) : valP X = valR X ∨ (1000000000 ≤ valP X ∧ 1000000000 ≤ valR X) := by
  have h := valR_eq X
  have hp := valP_eq X
  by_cases g : valN X < 1000000000
  · exact .inl (by rw [h.1 g, hp]; omega)
  · exact .inr ⟨by omega, h.2 (by omega)⟩

theorem length_dropWhile_le (p : UInt8 → Bool) (l : List UInt8) : (l.dropWhile p).length ≤ l.length := by
  induction l with
  | nil => exact Nat.le_refl _
  | cons c r ih => rw [List.dropWhile_cons]; split <;> simp only [List.length_cons] <;> omega
theorem ltrim_le (l : List UInt8) : (ltrim l).length ≤ l.length := length_dropWhile_le _ _
theorem rtrim_le (l : List UInt8) : (rtrim l).length ≤ l.length := by
  have := length_dropWhile_le (· == 48) l.reverse
  simpa [rtrim] using this
/-- Where a power is far too great it makes no difference which. -/
theorem fin_far (neg : Bool) (D : List UInt8) (x y : Int) (hl : D.length ≤ 100000) (hx : 900000000 ≤ x ∧ 900000000 ≤ y ∨ x ≤ -900000000 ∧ y ≤ -900000000) : fin neg D x = fin neg D y := by
  have h1 := ltrim_le D
  have h2 := rtrim_le (ltrim D)
  unfold fin
  split
  · rfl
  · rename_i hn
    have e1 : right ⟨neg, rtrim (ltrim D), x + ((ltrim D).length - (rtrim (ltrim D)).length)⟩ = false := by
      rw [right, if_neg hn]
      simp only [Bool.and_eq_false_iff, decide_eq_false_iff_not]
      rcases hx with hx | hx
      · left; right; omega
      · right; omega
    have e2 : right ⟨neg, rtrim (ltrim D), y + ((ltrim D).length - (rtrim (ltrim D)).length)⟩ = false := by
      rw [right, if_neg hn]
      simp only [Bool.and_eq_false_iff, decide_eq_false_iff_not]
      rcases hx with hx | hx
      · left; right; omega
      · right; omega
    rw [e1, e2]
    simp
/-- THE PROGRAM's POWER AND THE DOCUMENT's GIVE ONE NUMBER. -/
theorem fin_same (neg : Bool) (D : List UInt8) (k : Nat) (ex : Ex) (hl : D.length ≤ 100000) (hk : k ≤ 100000) : fin neg D (-k + ex.val valP) = fin neg D (-k + ex.val valR) := by
  cases ex with
  | no => rfl
  | some e sg X =>
    rcases val_same X with h | ⟨h1, h2⟩
    · simp only [Ex.val, h]
    · simp only [Ex.val]
      split
      · exact fin_far neg D _ _ hl (.inr ⟨by omega, by omega⟩)
      · exact fin_far neg D _ _ hl (.inl ⟨by omega, by omega⟩)
end Go.Proofs.NumPlain
