/- What a number's print is. -/
import Derived.Test.YtffcmfhicefahaaDoorNumFold
import Derived.Lib.Repeat
import Derived.Lib.ItoaMem
namespace Go.Proofs.NumPlain
def mid (n : Nm) : List UInt8 :=
  if 0 ≤ n.exp ∧ n.exp ≤ 20 then n.dig ++ List.replicate n.exp.toNat 48
  else if 20 < -n.exp ∨ -n.exp < 0 then n.dig ++ 101 :: Lib.itoa n.exp
  else if -n.exp < n.dig.length then n.dig.take (n.dig.length - (-n.exp).toNat) ++ 46 :: n.dig.drop (n.dig.length - (-n.exp).toNat)
  else 48 :: 46 :: (List.replicate ((-n.exp).toNat - n.dig.length) 48 ++ n.dig)
def print (n : Nm) : List UInt8 := if right n = false then [] else if n.dig = [] then [48] else sgText n.neg ++ mid n
theorem print_wrong (n : Nm) (h : right n = false) : print n = [] := by unfold print; rw [if_pos h]
theorem print_zero (n : Nm) (h : right n = true) (h0 : n.dig = []) : print n = [48] := by unfold print; rw [if_neg (by rw [h]; decide), if_pos h0]
theorem print_some (n : Nm) (h : right n = true) (h0 : n.dig ≠ []) : print n = sgText n.neg ++ mid n := by unfold print; rw [if_neg (by rw [h]; decide), if_neg h0]
theorem mid_small (neg : Bool) (l : List UInt8) (e : Nat) (h : e ≤ 20) : mid ⟨neg, l, e⟩ = l ++ List.replicate e 48 := by
  unfold mid; rw [if_pos ⟨by simp, by simp; omega⟩]; simp
theorem mid_power (neg : Bool) (l : List UInt8) (x : Int) (h : 20 < x ∨ x < -20) : mid ⟨neg, l, x⟩ = l ++ 101 :: Lib.itoa x := by
  unfold mid; rw [if_neg (by simp; omega), if_pos (by simp; omega)]
theorem mid_point (neg : Bool) (l : List UInt8) (m q : Nat) (h1 : 1 ≤ m) (h2 : m ≤ 20) (h3 : l.length = q + m) (h4 : 1 ≤ q) : mid ⟨neg, l, -m⟩ = l.take q ++ 46 :: l.drop q := by
  unfold mid; rw [if_neg (by simp; omega), if_neg (by simp; omega), if_pos (by simp; omega)]
  simp only [Int.neg_neg, Int.toNat_natCast, show l.length - m = q by omega]
theorem mid_behind (neg : Bool) (l : List UInt8) (m q : Nat) (h1 : 1 ≤ m) (h2 : m ≤ 20) (h3 : m = q + l.length) : mid ⟨neg, l, -m⟩ = 48 :: 46 :: (List.replicate q 48 ++ l) := by
  unfold mid; rw [if_neg (by simp; omega), if_neg (by simp; omega), if_neg (by simp; omega)]
  simp only [Int.neg_neg, Int.toNat_natCast, show m - l.length = q by omega]
theorem repeat_nought (c : Nat) : Lib.repeatL [48] c = List.replicate c 48 := by
  have := Lib.repeatL_replicate 48 1 c
  simpa using this
end Go.Proofs.NumPlain
