import Derived.Test.YtdfihhebgllpcaaGreatDoorAo01
import Derived.Lib.Bytealg

/- Plain: the reference's three loops over a number's text. -/
namespace Go.Proofs.NumPlain

def Ex.tail : Ex → List UInt8
  | .no => []
  | .some _ sg X => sg ++ X
def step1 (st : Bool × List UInt8 × Int) (c : UInt8) : Bool × List UInt8 × Int :=
  if c = 46 then (true, st.2.1, st.2.2) else (st.1, if st.2.1 = [] ∧ c = 48 then [] else st.2.1 ++ [c], if st.1 then st.2.2 - 1 else st.2.2)
def fold1 (l : List UInt8) : Bool × List UInt8 × Int := l.foldl step1 (false, [], 0)
theorem fold1_snoc (l : List UInt8) (c : UInt8) : fold1 (l ++ [c]) = step1 (fold1 l) c := by unfold fold1; rw [List.foldl_append]; rfl
theorem fold1_bd (l : List UInt8) : (fold1 l).2.1.length ≤ l.length ∧ -(l.length : Int) ≤ (fold1 l).2.2 ∧ (fold1 l).2.2 ≤ 0 := by
  induction l using snoc_ind with
  | h0 => exact ⟨Nat.le_refl _, by simp [fold1], by simp [fold1]⟩
  | h1 l c ih =>
    obtain ⟨a, b, d⟩ := ih
    rw [fold1_snoc, List.length_append, List.length_singleton]
    unfold step1
    split
    · exact ⟨by dsimp only; omega, by dsimp only; omega, by dsimp only; omega⟩
    · refine ⟨?_, ?_, ?_⟩
      · dsimp only; split <;> simp; omega
      · dsimp only; split <;> omega
      · dsimp only; split <;> omega
theorem ltrim_snoc (l : List UInt8) (c : UInt8) : ltrim (l ++ [c]) = if ltrim l = [] ∧ c = 48 then [] else ltrim l ++ [c] := by
  unfold ltrim
  induction l with
  | nil =>
    by_cases h : c = 48
    · subst h; simp
    · simp [h]
  | cons b q ih =>
    by_cases h : b = 48
    · subst h; simpa using ih
    · simp [h]
theorem fold1_dig (l : List UInt8) (h : dig l) : fold1 l = (false, ltrim l, 0) := by
  induction l using snoc_ind with
  | h0 => rfl
  | h1 l c ih =>
    have hc := isD_not c (h c (by simp))
    rw [fold1_snoc, ih (fun d hd => h d (List.mem_append_left _ hd)), ltrim_snoc]
    simp [step1, hc.2.1]
theorem fold1_pt (I F : List UInt8) (hI : dig I) (hF : dig F) : fold1 (I ++ 46 :: F) = (true, ltrim (I ++ F), -(F.length : Int)) := by
  induction F using snoc_ind with
  | h0 =>
    rw [fold1_snoc, fold1_dig I hI]
    simp [step1]
  | h1 F c ih =>
    have hc := isD_not c (hF c (by simp))
    rw [show I ++ 46 :: (F ++ [c]) = (I ++ 46 :: F) ++ [c] by simp, fold1_snoc, ih (fun d hd => hF d (List.mem_append_left _ hd)), ← List.append_assoc, ltrim_snoc]
    simp [step1, hc.2.1]
    omega
theorem fold1_all (I : List UInt8) (pt : Bool) (F : List UInt8) (hI : dig I) (hF : dig F) (hn : pt = false → F = []) : fold1 (I ++ ptText pt F) = (pt, ltrim (I ++ F), -(F.length : Int)) := by
  cases pt with
  | true => exact fold1_pt I F hI hF
  | false => rw [hn rfl]; simpa [ptText] using fold1_dig I hI

def step2 (st : Bool × Nat) (c : UInt8) : Bool × Nat := (st.1 || c == 45, if isD c && decide (st.2 < 1000000000) then st.2 * 10 + (c.toNat - 48) else st.2)
def fold2 (l : List UInt8) : Bool × Nat := l.foldl step2 (false, 0)
theorem fold2_snoc (l : List UInt8) (c : UInt8) : fold2 (l ++ [c]) = step2 (fold2 l) c := by unfold fold2; rw [List.foldl_append]; rfl
theorem fold2_bd (l : List UInt8) : (fold2 l).2 ≤ 20000000000 := by
  induction l using snoc_ind with
  | h0 => simp [fold2]
  | h1 l c ih =>
    rw [fold2_snoc]
    unfold step2
    dsimp only
    split
    · rename_i h
      simp only [Bool.and_eq_true, decide_eq_true_eq] at h
      have := h.2
      have hc : c.toNat < 256 := c.toNat_lt
      omega
    · exact ih
theorem foldl_step2 (X : List UInt8) (h : dig X) (b : Bool) (n : Nat) : X.foldl step2 (b, n) = (b, X.foldl (fun b c => if b < 1000000000 then b * 10 + (c.toNat - 48) else b) n) := by
  induction X generalizing n with
  | nil => rfl
  | cons c q ih =>
    have hc := h c (List.mem_cons_self ..)
    have h45 : (c == 45) = false := by simpa using (isD_not c hc).2.2.1
    rw [List.foldl_cons, List.foldl_cons, step2, hc, h45, Bool.or_false, ih (fun d hd => h d (List.mem_cons_of_mem _ hd))]
    simp
theorem fold2_all (sg X : List UInt8) (hs : sg = [] ∨ sg = [43] ∨ sg = [45]) (hX : dig X) : fold2 (sg ++ X) = (decide (sg = [45]), valR X) := by
  unfold fold2 valR
  rw [List.foldl_append]
  rcases hs with rfl | rfl | rfl
  · rw [List.foldl_nil, foldl_step2 X hX]; simp
  · rw [show [43].foldl step2 (false, 0) = (false, 0) by decide, foldl_step2 X hX]; simp
  · rw [show [45].foldl step2 (false, 0) = (true, 0) by decide, foldl_step2 X hX]; simp

theorem rtrim_snoc (l : List UInt8) (c : UInt8) : rtrim (l ++ [c]) = if c = 48 then rtrim l else l ++ [c] := by
  unfold rtrim
  rw [List.reverse_append, List.reverse_singleton, List.singleton_append, List.dropWhile_cons]
  by_cases h : c = 48
  · subst h; simp
  · simp [h]
theorem rtrim_last (l : List UInt8) (c : UInt8) (h : l.getLast? = some c) : rtrim l = if c = 48 then rtrim (l.take (l.length - 1)) else l := by
  have hn : l ≠ [] := by rintro rfl; simp at h
  have e : l = l.take (l.length - 1) ++ [c] := by
    have h1 := List.dropLast_concat_getLast hn
    rw [List.getLast?_eq_some_getLast hn] at h
    rw [← List.dropLast_eq_take]
    injection h with h
    rw [← h, h1]
  rw [e, rtrim_snoc, ← e]
end Go.Proofs.NumPlain

/- Plain: comparing two numbers, as the program and as the document reckon it. -/
namespace Go.Proofs.NumPlain
/-- Digit by digit. -/
def lex : List UInt8 → List UInt8 → Int
  | a :: as, b :: bs => if a < b then -1 else if b < a then 1 else lex as bs
  | _, _ => 0
theorem lex_self (l : List UInt8) : lex l l = 0 := by
  induction l with
  | nil => rfl
  | cons a r ih => simp [lex, UInt8.lt_irrefl, ih]
theorem lex_neg : ∀ (l m : List UInt8), lex m l = - lex l m
  | [], [] => rfl
  | [], _ :: _ => rfl
  | _ :: _, [] => rfl
  | a :: l, b :: m => by
    unfold lex
    have := lex_neg l m
    have hlt := @UInt8.lt_asymm a b
    split <;> split <;> simp_all
theorem lex_prefix (p l m : List UInt8) : lex (p ++ l) (p ++ m) = lex l m := by
  induction p with
  | nil => rfl
  | cons a r ih => simp [lex, UInt8.lt_irrefl, ih]
/-- Noughts against noughts, a digit that is none, and whatever. -/
theorem lex_less (i : Nat) (c : UInt8) (q : List UInt8) (hc : 48 < c) (z : Nat) (hz : i < z) : lex (List.replicate z 48) (List.replicate i 48 ++ c :: q) = -1 := by
  obtain ⟨k, rfl⟩ : ∃ k, z = i + (k + 1) := ⟨z - i - 1, by omega⟩
  rw [← List.replicate_append_replicate, lex_prefix, List.replicate_succ]
  simp [lex, hc]
theorem lex_head (i j : Nat) (h : i < j) (c : UInt8) (q m : List UInt8) (hc : 48 < c) : lex (List.replicate i 48 ++ c :: q) (List.replicate j 48 ++ m) = 1 := by
  obtain ⟨k, rfl⟩ : ∃ k, j = i + (k + 1) := ⟨j - i - 1, by omega⟩
  rw [← List.replicate_append_replicate, List.append_assoc, lex_prefix, List.replicate_succ]
  have := @UInt8.lt_asymm 48 c hc
  simp [lex, hc, this]
/-- All digits are no less than a nought's, and the last one is more. -/
def Tail (l : List UInt8) : Prop := (∀ c ∈ l, 48 ≤ c) ∧ l.getLast? ≠ some 48
theorem Tail.more {a : UInt8} {l : List UInt8} (h : Tail (a :: l)) : Tail l ∧ 48 ≤ a ∧ (l = [] → a ≠ 48) := by
  refine ⟨⟨fun c hc => h.1 c (List.mem_cons_of_mem _ hc), fun e => h.2 ?_⟩, h.1 a (List.mem_cons_self ..), fun e ha => h.2 ?_⟩
  · cases l with
    | nil => cases e
    | cons b r => rw [List.getLast?_cons_cons]; exact e
  · subst e; subst ha; rfl
theorem tail_more : ∀ (l : List UInt8) (r s : Nat), l ≠ [] → Tail l → r = l.length + s → lex (List.replicate r 48) (l ++ List.replicate s 48) = -1
  | [], _, _, h, _, _ => absurd rfl h
  | a :: l, r, s, _, h, hr => by
    obtain ⟨h1, h2, h3⟩ := h.more
    obtain ⟨k, rfl⟩ : ∃ k, r = k + 1 := ⟨r - 1, by simp at hr; omega⟩
    rw [List.replicate_succ, List.cons_append]
    unfold lex
    by_cases ha : 48 < a
    · rw [if_pos ha]
    · have ha' : a = 48 := UInt8.le_antisymm (UInt8.not_lt.1 ha) h2
      subst ha'
      rw [if_neg (UInt8.lt_irrefl _), if_neg (UInt8.lt_irrefl _)]
      refine tail_more l k s (fun e => h3 e rfl) h1 (by simp at hr; omega)
theorem lex_tail : ∀ (l m : List UInt8) (r s : Nat), Tail l → Tail m → l.length + r = m.length + s → lex (l ++ List.replicate r 48) (m ++ List.replicate s 48) = Lib.compareBytes l m
  | [], [], r, s, _, _, h => by
    simp at h; subst h
    exact lex_self _
  | [], b :: m, r, s, _, hm, h => by
    rw [List.nil_append, tail_more (b :: m) r s (by simp) hm (by simpa using h)]
    rfl
  | a :: l, [], r, s, hl, _, h => by
    rw [List.nil_append, lex_neg, tail_more (a :: l) s r (by simp) hl (by simpa using h.symm)]
    rfl
  | a :: l, b :: m, r, s, hl, hm, h => by
    rw [List.cons_append, List.cons_append]
    unfold lex Lib.compareBytes
    rw [lex_tail l m r s hl.more.1 hm.more.1 (by simp at h; omega)]
theorem compare_neg : ∀ (l m : List UInt8), Lib.compareBytes m l = - Lib.compareBytes l m
  | [], [] => rfl
  | [], _ :: _ => rfl
  | _ :: _, [] => rfl
  | a :: l, b :: m => by
    unfold Lib.compareBytes
    have := compare_neg l m
    have hlt := @UInt8.lt_asymm a b
    split <;> split <;> simp_all
theorem compare_zero : ∀ (l m : List UInt8), Lib.compareBytes l m = 0 → l = m
  | [], [], _ => rfl
  | [], _ :: _, h => by cases h
  | _ :: _, [], h => by cases h
  | a :: l, b :: m, h => by
    unfold Lib.compareBytes at h
    split at h
    · cases h
    · split at h
      · cases h
      · rename_i h1 h2
        rw [UInt8.le_antisymm (UInt8.not_lt.1 h2) (UInt8.not_lt.1 h1), compare_zero l m h]
theorem lex_trans : ∀ (l m n : List UInt8), l.length = m.length → m.length = n.length → lex l m ≤ 0 → lex m n ≤ 0 → lex l n ≤ 0
  | [], _, _, _, _, _, _ => by simp [lex]
  | _ :: _, [], _, h, _, _, _ => by simp at h
  | _ :: _, _ :: _, [], _, h, _, _ => by simp at h
  | a :: l, b :: m, c :: n, h1, h2, g1, g2 => by
    unfold lex at g1 g2 ⊢
    have ih := lex_trans l m n (by simpa using h1) (by simpa using h2)
    by_cases hab : a < b
    · by_cases hcb : c < b
      · have := @UInt8.lt_asymm b c
        simp [hcb, UInt8.lt_asymm hcb] at g2
      · have hac : a < c := UInt8.lt_of_lt_of_le hab (UInt8.not_lt.1 hcb)
        simp [hac]
    · by_cases hba : b < a
      · simp [hba, hab] at g1
      · have e : a = b := UInt8.le_antisymm (UInt8.not_lt.1 hba) (UInt8.not_lt.1 hab)
        subst e
        simp [UInt8.lt_irrefl] at g1
        by_cases hac : a < c
        · simp [hac]
        · by_cases hca : c < a
          · simp [hca, hac] at g2
          · simp [hac, hca] at g2 ⊢
            exact ih g1 g2

/-- A number's digit at a power of ten, as the document reckons it. -/
def at' (n : Nm) (p : Int) : UInt8 :=
  if (n.dig.length : Int) - 1 - (p - n.exp) < 0 ∨ (n.dig.length : Int) ≤ (n.dig.length : Int) - 1 - (p - n.exp) then 48
  else n.dig.getD ((n.dig.length : Int) - 1 - (p - n.exp)).toNat 48
/-- All digits, from a power down that none has. -/
def row (n : Nm) : List UInt8 := (List.range 21002).map fun (j : Nat) => at' n (11001 - (j : Int))
theorem row_length (n : Nm) : (row n).length = 21002 := by unfold row; rw [List.length_map, List.length_range]
theorem row_eq (n : Nm) (i r : Nat) (h1 : (i : Int) = 11002 - (n.dig.length + n.exp)) (h2 : (r : Int) = 10000 + n.exp) : row n = List.replicate i 48 ++ (n.dig ++ List.replicate r 48) := by
  apply List.ext_getElem?
  intro j
  by_cases hj : j < 21002
  · have e1 : (row n)[j]? = some (at' n (11001 - (j : Int))) := by
      unfold row
      rw [List.getElem?_map, List.getElem?_range hj]; rfl
    rw [e1]
    unfold at'
    by_cases c1 : j < i
    · rw [if_pos (by left; omega), List.getElem?_append_left (by rw [List.length_replicate]; exact c1), List.getElem?_replicate, if_pos c1]
    · rw [List.getElem?_append_right (by rw [List.length_replicate]; omega), List.length_replicate]
      by_cases c2 : j - i < n.dig.length
      · have e2 : ((n.dig.length : Int) - 1 - ((11001 - (j : Int)) - n.exp)).toNat = j - i := by omega
        rw [if_neg (by omega), e2, List.getElem?_append_left c2, List.getElem?_eq_getElem c2]
        simp [List.getD, List.getElem?_eq_getElem c2]
      · rw [if_pos (by right; omega), List.getElem?_append_right (by omega), List.getElem?_replicate, if_pos (by omega)]
  · rw [List.getElem?_eq_none (by rw [row_length]; omega), List.getElem?_eq_none (by simp; omega)]
def sizeR (a b : Nm) : Int := lex (row a) (row b)
def cmpR (a b : Nm) : Int :=
  if right a = false ∨ right b = false then 0
  else if a.neg = true ∧ b.neg = true then sizeR b a
  else if a.neg = true then -1 else if b.neg = true then 1 else sizeR a b
def sgn (n : Nm) : Int := if n.neg = true then -1 else if n.dig = [] then 0 else 1
def more (n : Nm) : Int := if n.neg = true then -1 else 1
def cmpP (a b : Nm) : Int :=
  if right a = false ∨ right b = false ∨ a = b then 0
  else if sgn a ≠ sgn b then (if sgn a < sgn b then -1 else 1)
  else if (a.dig.length : Int) + a.exp ≠ b.dig.length + b.exp then (if (a.dig.length : Int) + a.exp < b.dig.length + b.exp then -(more a) else more a)
  else more a * Lib.compareBytes a.dig b.dig
theorem right_zero (n : Nm) (h : right n = true) (h0 : n.dig = []) : n = zero := by
  obtain ⟨neg, dig, exp⟩ := n
  simp only at h0
  subst h0
  unfold right at h
  simp at h
  obtain ⟨rfl, rfl⟩ := h
  rfl
structure Rt (n : Nm) : Prop where
  ne : n.dig ≠ []
  len : n.dig.length ≤ 1000
  hi : n.exp ≤ 10000
  lo : -10000 ≤ n.exp
  tail : Tail n.dig
  head : ∃ c q, n.dig = c :: q ∧ 48 < c
theorem right_rt (n : Nm) (h : right n = true) (h0 : n.dig ≠ []) : Rt n := by
  obtain ⟨neg, dig, exp⟩ := n
  rw [right_some neg dig exp h0] at h
  simp only [Bool.and_eq_true, decide_eq_true_eq, bne_iff_ne] at h
  obtain ⟨⟨⟨⟨⟨h1, h2⟩, h3⟩, h4⟩, h5⟩, h6⟩ := h
  have hd : ∀ c ∈ dig, 48 ≤ c := fun c hc => by
    have := List.all_eq_true.1 h2 c hc
    have h := all_u8 (fun c => !isD c || decide (48 ≤ c)) (by decide +kernel) c
    rw [this] at h
    simpa using h
  refine ⟨h0, h1, h5, h6, ⟨hd, h4⟩, ?_⟩
  cases dig with
  | nil => exact absurd rfl h0
  | cons c q =>
    refine ⟨c, q, rfl, ?_⟩
    have hc := hd c (List.mem_cons_self ..)
    refine UInt8.lt_of_le_of_ne hc (fun e => h3 ?_)
    rw [← e]; rfl
theorem row_zero : row zero = List.replicate 21002 48 := by
  rw [row_eq zero 11002 10000 (by decide) (by decide)]
  show List.replicate 11002 48 ++ ([] ++ List.replicate 10000 48) = _
  rw [List.nil_append, List.replicate_append_replicate]
/-- Two right numbers' rows, where the signs play no part. -/
theorem size_same (a b : Nm) (ha : right a = true) (hb : right b = true) : sizeR a b =
    if a.dig = [] then (if b.dig = [] then 0 else -1) else if b.dig = [] then 1
    else if (a.dig.length : Int) + a.exp ≠ b.dig.length + b.exp then (if (a.dig.length : Int) + a.exp < b.dig.length + b.exp then -1 else 1) else Lib.compareBytes a.dig b.dig := by
  have rt : ∀ n, right n = true → n.dig ≠ [] → ∃ (i r : Nat) (c : UInt8) (q : List UInt8), (i : Int) = 11002 - (n.dig.length + n.exp) ∧ (r : Int) = 10000 + n.exp ∧ row n = List.replicate i 48 ++ c :: (q ++ List.replicate r 48) ∧ n.dig = c :: q ∧ 48 < c ∧ Rt n := by
    intro n hn h0
    obtain h := right_rt n hn h0
    obtain ⟨c, q, e, hc⟩ := h.head
    have h1 := h.len
    have h2 := h.hi
    have h3 := h.lo
    obtain ⟨i, hi⟩ : ∃ i : Nat, (i : Int) = 11002 - (n.dig.length + n.exp) := ⟨(11002 - ((n.dig.length : Int) + n.exp)).toNat, by omega⟩
    obtain ⟨r, hr⟩ : ∃ r : Nat, (r : Int) = 10000 + n.exp := ⟨(10000 + n.exp).toNat, by omega⟩
    refine ⟨i, r, c, q, hi, hr, ?_, e, hc, h⟩
    rw [row_eq n i r hi hr, e, List.cons_append]
  unfold sizeR
  by_cases h1 : a.dig = []
  · rw [if_pos h1, right_zero a ha h1, row_zero]
    by_cases h2 : b.dig = []
    · rw [if_pos h2, right_zero b hb h2, row_zero, lex_self]
    · obtain ⟨i, r, c, q, e1, e2, e3, e4, hc, hr⟩ := rt b hb h2
      have := hr.lo
      have := hr.len
      have hl : 1 ≤ b.dig.length := by rw [e4]; simp
      rw [if_neg h2, e3, lex_less i c _ hc 21002 (by omega)]
  · rw [if_neg h1]
    obtain ⟨i, r, c, q, e1, e2, e3, e4, hc, hr⟩ := rt a ha h1
    by_cases h2 : b.dig = []
    · have := hr.lo
      have hl : 1 ≤ a.dig.length := by rw [e4]; simp
      rw [if_pos h2, right_zero b hb h2, row_zero, lex_neg, e3, lex_less i c _ hc 21002 (by omega)]; rfl
    · rw [if_neg h2]
      obtain ⟨j, s, d, p, f1, f2, f3, f4, hd, hs⟩ := rt b hb h2
      by_cases hk : (a.dig.length : Int) + a.exp ≠ b.dig.length + b.exp
      · rw [if_pos hk]
        by_cases hl : (a.dig.length : Int) + a.exp < b.dig.length + b.exp
        · rw [if_pos hl, lex_neg, e3, f3, lex_head j i (by omega) d _ _ hd]
        · rw [if_neg hl, e3, f3, lex_head i j (by omega) c _ _ hc]
      · rw [if_neg hk, e3, f3]
        have hij : i = j := by omega
        subst hij
        rw [lex_prefix, ← List.cons_append, ← List.cons_append, ← e4, ← f4]
        exact lex_tail _ _ _ _ hr.tail hs.tail (by omega)
theorem sizeR_neg (a b : Nm) : sizeR b a = - sizeR a b := lex_neg _ _
theorem cmpR_neg (a b : Nm) : cmpR b a = - cmpR a b := by
  unfold cmpR
  have := sizeR_neg a b
  cases ha : right a <;> cases hb : right b <;> cases hc : a.neg <;> cases hd : b.neg <;> simp_all
theorem right_neg (n : Nm) (h : right n = true) (h1 : n.neg = true) : n.dig ≠ [] := by
  intro h0
  rw [right_zero n h h0] at h1
  cases h1
theorem cmp_same (a b : Nm) : cmpP a b = cmpR a b := by
  by_cases ha : right a = true
  · by_cases hb : right b = true
    · by_cases he : a = b
      · subst he
        have : sizeR a a = 0 := lex_self _
        unfold cmpP cmpR
        cases h : a.neg <;> simp [ha, this]
      · unfold cmpP cmpR
        rw [if_neg (show ¬ (right a = false ∨ right b = false ∨ a = b) by simp [ha, hb, he]), if_neg (show ¬ (right a = false ∨ right b = false) by simp [ha, hb])]
        have key : ∀ n : Nm, sgn n = if n.neg = true then -1 else if n.dig = [] then 0 else 1 := fun _ => rfl
        have e1 := size_same a b ha hb
        have e2 := size_same b a hb ha
        rw [compare_neg a.dig b.dig] at e2
        have za : a.dig = [] → b.dig = [] → False := fun x y => he (by rw [right_zero a ha x, right_zero b hb y])
        have na := right_neg a ha
        have nb := right_neg b hb
        simp only [key, more]
        clear key he
        cases h : a.neg <;> cases h' : b.neg <;> by_cases x : a.dig = [] <;> by_cases y : b.dig = [] <;> simp [h, h', x, y] at na nb za e1 e2 ⊢
        all_goals first
          | (rw [e1]; done)
          | (rw [sizeR_neg a b, e1]; split <;> first | rfl | (split <;> rfl))
          | (rw [e1]; split <;> first | rfl | (split <;> rfl))
          | skip
    · have hb := Bool.eq_false_iff.2 hb
      simp [cmpP, cmpR, hb]
  · have ha := Bool.eq_false_iff.2 ha
    simp [cmpP, cmpR, ha]
theorem cmp_zero (a b : Nm) (h : cmpP a b = 0) : a = b ∨ right a = false ∨ right b = false := by
  unfold cmpP at h
  split at h
  · rename_i h1
    rcases h1 with h1 | h1 | h1
    · exact .inr (.inl h1)
    · exact .inr (.inr h1)
    · exact .inl h1
  · rename_i h0
    split at h
    · split at h <;> cases h
    · rename_i hs
      have hm : more a = 1 ∨ more a = -1 := by unfold more; split <;> simp
      split at h
      · split at h <;> omega
      · rename_i hk
        have hc : Lib.compareBytes a.dig b.dig = 0 := by
          rcases hm with e | e <;> rw [e] at h <;> omega
        have hd := compare_zero _ _ hc
        obtain ⟨n1, d1, x1⟩ := a
        obtain ⟨n2, d2, x2⟩ := b
        simp only at hd
        subst hd
        have hx : x1 = x2 := by simp only at hk; omega
        subst hx
        have hn : n1 = n2 := by
          cases n1 <;> cases n2 <;> simp [sgn] at hs ⊢
          all_goals (split at hs <;> cases hs)
        subst hn
        exact .inl rfl
theorem cmpR_trans (a b c : Nm) (ha : right a = true) (hb : right b = true) (hc : right c = true) (h1 : cmpR a b ≤ 0) (h2 : cmpR b c ≤ 0) : cmpR a c ≤ 0 := by
  have t : ∀ x y z, sizeR x y ≤ 0 → sizeR y z ≤ 0 → sizeR x z ≤ 0 := fun x y z => lex_trans _ _ _ (by rw [row_length, row_length]) (by rw [row_length, row_length])
  have t1 := t a b c
  have t2 := t c b a
  unfold cmpR at h1 h2 ⊢
  cases na : a.neg <;> cases nb : b.neg <;> cases nc : c.neg <;> simp_all
end Go.Proofs.NumPlain
