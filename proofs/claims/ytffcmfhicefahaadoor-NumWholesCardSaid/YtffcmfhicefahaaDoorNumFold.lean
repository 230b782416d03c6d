/- Plain: the reference's three loops over a number's text. -/
import Derived.Test.YtffcmfhicefahaaDoorNumCuts
namespace Go.Proofs.NumPlain

def Ex.tail : Ex → List UInt8
  | .no => []
  | .some _ sg X => sg ++ X
def step1 (st : Bool × List UInt8 × Int) (c : UInt8) : Bool × List UInt8 × Int :=
  if c = 46 then (true, st.2.1, st.2.2) else (st.1, if st.2.1 = [] ∧ c = 48 then [] else st.2.1 ++ [c], if st.1 then st.2.2 - 1 else st.2.2)
def fold1 (l : List UInt8) : Bool × List UInt8 × Int := l.foldl step1 (false, [], 0)
theorem fold1_snoc (l : List UInt8) (c : UInt8) : fold1 (l ++ [c]) = step1 (fold1 l) c := by unfold fold1; rw [List.foldl_append]; rfl
theorem fold1_bd (l : List UInt8) : (fold1 l).2.1.length ≤ l.length ∧ -(l.length : Int) ≤ (fold1 l).2.2 ∧ (fold1 l).2.2 ≤ 0 := by
  induction l using snoc_ind with
  | h0 => exact ⟨Nat.le_refl _, by simp [fold1], by simp [fold1]⟩
  | h1 l c ih =>
    obtain ⟨a, b, d⟩ := ih
    rw [fold1_snoc, List.length_append, List.length_singleton]
    unfold step1
    split
    · exact ⟨by dsimp only; omega, by dsimp only; omega, by dsimp only; omega⟩
    · refine ⟨?_, ?_, ?_⟩
      · dsimp only; split <;> simp; omega
      · dsimp only; split <;> omega
      · dsimp only; split <;> omega
theorem ltrim_snoc (l : List UInt8) (c : UInt8) : ltrim (l ++ [c]) = if ltrim l = [] ∧ c = 48 then [] else ltrim l ++ [c] := by
  unfold ltrim
  induction l with
  | nil =>
    by_cases h : c = 48
    · subst h; simp
    · simp [h]
  | cons b q ih =>
    by_cases h : b = 48
    · subst h; simpa using ih
    · simp [h]
theorem fold1_dig (l : List UInt8) (h : dig l) : fold1 l = (false, ltrim l, 0) := by
  induction l using snoc_ind with
  | h0 => rfl
  | h1 l c ih =>
    have hc := isD_not c (h c (by simp))
    rw [fold1_snoc, ih (fun d hd => h d (List.mem_append_left _ hd)), ltrim_snoc]
    simp [step1, hc.2.1]
theorem fold1_pt (I F : List UInt8) (hI : dig I) (hF : dig F) : fold1 (I ++ 46 :: F) = (true, ltrim (I ++ F), -(F.length : Int)) := by
  induction F using snoc_ind with
  | h0 =>
    rw [fold1_snoc, fold1_dig I hI]
    simp [step1]
  | h1 F c ih =>
    have hc := isD_not c (hF c (by simp))
    rw [show I ++ 46 :: (F ++ [c]) = (I ++ 46 :: F) ++ [c] by simp, fold1_snoc, ih (fun d hd => hF d (List.mem_append_left _ hd)), ← List.append_assoc, ltrim_snoc]
    simp [step1, hc.2.1]
    omega
theorem fold1_all (I : List UInt8) (pt : Bool) (F : List UInt8) (hI : dig I) (hF : dig F) (hn : pt = false → F = []) : fold1 (I ++ ptText pt F) = (pt, ltrim (I ++ F), -(F.length : Int)) := by
  cases pt with
  | true => exact fold1_pt I F hI hF
  | false => rw [hn rfl]; simpa [ptText] using fold1_dig I hI

def step2 (st : Bool × Nat) (c : UInt8) : Bool × Nat := (st.1 || c == 45, if isD c && decide (st.2 < 1000000000) then st.2 * 10 + (c.toNat - 48) else st.2)
def fold2 (l : List UInt8) : Bool × Nat := l.foldl step2 (false, 0)
theorem fold2_snoc (l : List UInt8) (c : UInt8) : fold2 (l ++ [c]) = step2 (fold2 l) c := by unfold fold2; rw [List.foldl_append]; rfl
theorem fold2_bd (l : List UInt8) : (fold2 l).2 ≤ 20000000000 := by
  induction l using snoc_ind with
  | h0 => simp [fold2]
  | h1 l c ih =>
    rw [fold2_snoc]
    unfold step2
    dsimp only
    split
    · rename_i h
      simp only [Bool.and_eq_true, decide_eq_true_eq] at h
      have := h.2
      have hc : c.toNat < 256 := c.toNat_lt
      omega
    · exact ih
theorem foldl_step2 (X : List UInt8) (h : dig X) (b : Bool) (n : Nat) : X.foldl step2 (b, n) = (b, X.foldl (fun b c => if b < 1000000000 then b * 10 + (c.toNat - 48) else b) n) := by
  induction X generalizing n with
  | nil => rfl
  | cons c q ih =>
    have hc := h c (List.mem_cons_self ..)
    have h45 : (c == 45) = false := by simpa using (isD_not c hc).2.2.1
    rw [List.foldl_cons, List.foldl_cons, step2, hc, h45, Bool.or_false, ih (fun d hd => h d (List.mem_cons_of_mem _ hd))]
    simp
theorem fold2_all (sg X : List UInt8) (hs : sg = [] ∨ sg = [43] ∨ sg = [45]) (hX : dig X) : fold2 (sg ++ X) = (decide (sg = [45]), valR X) := by
  unfold fold2 valR
  rw [List.foldl_append]
  rcases hs with rfl | rfl | rfl
  · rw [List.foldl_nil, foldl_step2 X hX]; simp
  · rw [show [43].foldl step2 (false, 0) = (false, 0) by decide, foldl_step2 X hX]; simp
  · rw [show [45].foldl step2 (false, 0) = (true, 0) by decide, foldl_step2 X hX]; simp

theorem rtrim_snoc (l : List UInt8) (c : UInt8) : rtrim (l ++ [c]) = if c = 48 then rtrim l else l ++ [c] := by
  unfold rtrim
  rw [List.reverse_append, List.reverse_singleton, List.singleton_append, List.dropWhile_cons]
  by_cases h : c = 48
  · subst h; simp
  · simp [h]
theorem rtrim_last (l : List UInt8) (c : UInt8) (h : l.getLast? = some c) : rtrim l = if c = 48 then rtrim (l.take (l.length - 1)) else l := by
  have hn : l ≠ [] := by rintro rfl; simp at h
  have e : l = l.take (l.length - 1) ++ [c] := by
    have h1 := List.dropLast_concat_getLast hn
    rw [List.getLast?_eq_some_getLast hn] at h
    rw [← List.dropLast_eq_take]
    injection h with h
    rw [← h, h1]
  rw [e, rtrim_snoc, ← e]
end Go.Proofs.NumPlain
