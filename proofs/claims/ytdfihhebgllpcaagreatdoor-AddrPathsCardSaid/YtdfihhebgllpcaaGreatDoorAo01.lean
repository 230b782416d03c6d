import Derived.Lib.SlTrimSet
import Derived.Lib.TrimByte
import Derived.Lib.Index
import Derived.Lib.IndexAny
import Derived.Lib.IndexMore
import Derived.Lib.Strings

/- Plain: the texts of numbers. 'dfa': as the program's table of states goes; 'scan': as the document says it. No program in sight. -/
namespace Go.Proofs.NumPlain

def isD (c : UInt8) : Bool := 48 ≤ c && c ≤ 57
def isE (c : UInt8) : Bool := c == 101 || c == 69
def isS (c : UInt8) : Bool := c == 43 || c == 45
/-- How many digits stand at the beginning. -/
def run (l : List UInt8) : Nat := (l.takeWhile isD).length
def hd (l : List UInt8) : Bool := match l with | c :: _ => isD c | [] => false
/-- How long the power is that stands at the beginning; 0: none. -/
def expLen : List UInt8 → Nat
  | c :: r => if isE c then (match r with | d :: q => if isS d then (if hd q then 2 + run q else 0) else (if hd r then 1 + run r else 0) | [] => 0) else 0
  | [] => 0
/-- .. the digits behind a point, and the power. -/
def tailLen : List UInt8 → Nat
  | c :: r => if c == 46 then (if hd r then 1 + run r + expLen (r.drop (run r)) else 0) else expLen (c :: r)
  | [] => 0
/-- .. a number without its sign. -/
def bodyLen : List UInt8 → Nat
  | c :: r => if c == 48 then 1 + tailLen r else if isD c then run (c :: r) + tailLen ((c :: r).drop (run (c :: r))) else 0
  | [] => 0
def scan : List UInt8 → Nat
  | c :: r => if c == 45 then (if bodyLen r = 0 then 0 else 1 + bodyLen r) else bodyLen (c :: r)
  | [] => 0

/-! ### the table of states -/
def kind (c : UInt8) : Int := if 49 ≤ c && c ≤ 57 then 1 else if c == 48 then 0 else if c == 46 then 2 else if c == 101 || c == 69 then 3 else if c == 43 then 4 else if c == 45 then 5 else -1
def table : List (List Nat) := [[2, 3, 0, 0, 0, 1], [2, 3, 0, 0, 0, 0], [0, 0, 4, 6, 0, 0], [3, 3, 4, 6, 0, 0], [5, 5, 0, 0, 0, 0], [5, 5, 0, 6, 0, 0], [8, 8, 0, 0, 7, 7], [8, 8, 0, 0, 0, 0], [8, 8, 0, 0, 0, 0]]
def nxt (q : Nat) (k : Nat) : Nat := (table.getD q []).getD k 0
def acc (q : Nat) : Bool := q == 2 || q == 3 || q == 5 || q == 8
def dfa (q p e : Nat) : List UInt8 → Nat
  | [] => e
  | c :: r => if kind c < 0 then e else if nxt q (kind c).toNat = 0 then e else dfa (nxt q (kind c).toNat) (p + 1) (if acc (nxt q (kind c).toNat) then p + 1 else e) r

theorem all_u8 (P : UInt8 → Bool) (h : (List.range 256).all (fun n => P (UInt8.ofNat n)) = true) (c : UInt8) : P c = true := by
  have := List.all_eq_true.1 h c.toNat (List.mem_range.2 (UInt8.toNat_lt c))
  simpa using this
/-- A byte's kinds, one of seven. -/
theorem kinds (c : UInt8) : (kind c = 1 ∧ isD c = true ∧ c ≠ 48 ∧ c ≠ 45 ∧ c ≠ 46 ∧ isE c = false ∧ isS c = false) ∨ (kind c = 0 ∧ c = 48) ∨ (kind c = 2 ∧ c = 46) ∨ (kind c = 3 ∧ isE c = true ∧ isD c = false ∧ c ≠ 48 ∧ c ≠ 45 ∧ c ≠ 46 ∧ isS c = false) ∨ (kind c = 4 ∧ c = 43) ∨ (kind c = 5 ∧ c = 45) ∨ (kind c = -1 ∧ isD c = false ∧ isE c = false ∧ isS c = false ∧ c ≠ 48 ∧ c ≠ 45 ∧ c ≠ 46) := by
  have := all_u8 (fun c => decide ((kind c = 1 ∧ isD c = true ∧ c ≠ 48 ∧ c ≠ 45 ∧ c ≠ 46 ∧ isE c = false ∧ isS c = false) ∨ (kind c = 0 ∧ c = 48) ∨ (kind c = 2 ∧ c = 46) ∨ (kind c = 3 ∧ isE c = true ∧ isD c = false ∧ c ≠ 48 ∧ c ≠ 45 ∧ c ≠ 46 ∧ isS c = false) ∨ (kind c = 4 ∧ c = 43) ∨ (kind c = 5 ∧ c = 45) ∨ (kind c = -1 ∧ isD c = false ∧ isE c = false ∧ isS c = false ∧ c ≠ 48 ∧ c ≠ 45 ∧ c ≠ 46))) (by decide +kernel) c
  simpa only [decide_eq_true_eq] using this

theorem run_cons (c : UInt8) (r : List UInt8) : run (c :: r) = if isD c then 1 + run r else 0 := by
  unfold run
  by_cases h : isD c <;> simp [h]; omega
theorem drop_run (c : UInt8) (r : List UInt8) (h : isD c = true) : (c :: r).drop (run (c :: r)) = r.drop (run r) := by
  rw [run_cons, if_pos h, Nat.add_comm]; rfl
theorem hd_cons (c : UInt8) (r : List UInt8) : hd (c :: r) = isD c := rfl
theorem run_pos (l : List UInt8) (h : hd l = true) : 0 < run l := by
  cases l with
  | nil => simp [hd] at h
  | cons c r => rw [run_cons, if_pos (by simpa [hd] using h)]; omega
theorem run_zero (l : List UInt8) (h : hd l = false) : run l = 0 := by
  cases l with
  | nil => rfl
  | cons c r => rw [run_cons, if_neg (by simpa [hd] using h)]

theorem dfa_power (l : List UInt8) : ∀ p, dfa 8 p p l = p + run l := by
  induction l with
  | nil => intro p; rfl
  | cons c r ih =>
    intro p
    rw [run_cons]
    rcases kinds c with ⟨k, d, _⟩ | ⟨k, rfl⟩ | ⟨k, rfl⟩ | ⟨k, _, d, _⟩ | ⟨k, rfl⟩ | ⟨k, rfl⟩ | ⟨k, d, _⟩
    · simp [dfa, k, nxt, table, acc, ih, d]; omega
    · simp [dfa, k, nxt, table, acc, ih, isD]; omega
    · simp [dfa, k, nxt, table, isD]
    · simp [dfa, k, nxt, table, d]
    · simp [dfa, k, nxt, table, isD]
    · simp [dfa, k, nxt, table, isD]
    · simp [dfa, k, d]
/-- A state that only a digit leads out of, to the state q'. -/
theorem dfa_sign (p e : Nat) (l : List UInt8) : dfa 7 p e l = if hd l then p + run l else e := by
  cases l with
  | nil => rfl
  | cons c r =>
    rw [run_cons, hd_cons]
    rcases kinds c with ⟨k, d, _⟩ | ⟨k, rfl⟩ | ⟨k, rfl⟩ | ⟨k, _, d, _⟩ | ⟨k, rfl⟩ | ⟨k, rfl⟩ | ⟨k, d, _⟩
    · simp [dfa, k, nxt, table, acc, dfa_power, d]; omega
    · simp [dfa, k, nxt, table, acc, dfa_power, isD]; omega
    · simp [dfa, k, nxt, table, isD]
    · simp [dfa, k, nxt, table, d]
    · simp [dfa, k, nxt, table, isD]
    · simp [dfa, k, nxt, table, isD]
    · simp [dfa, k, d]
theorem dfa_letter (p e : Nat) (l : List UInt8) : dfa 6 p e l = match l with | d :: q => if isS d then (if hd q then p + 1 + run q else e) else (if hd l then p + run l else e) | [] => e := by
  cases l with
  | nil => rfl
  | cons c r =>
    simp only [run_cons, hd_cons]
    rcases kinds c with ⟨k, d, _, _, _, _, s⟩ | ⟨k, rfl⟩ | ⟨k, rfl⟩ | ⟨k, _, d, _, _, _, s⟩ | ⟨k, rfl⟩ | ⟨k, rfl⟩ | ⟨k, d, _, s, _⟩
    · simp [dfa, k, nxt, table, acc, dfa_power, d, s]; omega
    · simp [dfa, k, nxt, table, acc, dfa_power, isD, isS]; omega
    · simp [dfa, k, nxt, table, isD, isS]
    · simp [dfa, k, nxt, table, d, s]
    · simp [dfa, k, nxt, table, isS, dfa_sign, acc]
    · simp [dfa, k, nxt, table, isS, dfa_sign, acc]
    · simp [dfa, k, d, s]
theorem letter_exp (c : UInt8) (r : List UInt8) (h : isE c = true) (p : Nat) : dfa 6 (p + 1) p r = p + expLen (c :: r) := by
  rw [dfa_letter]
  cases r with
  | nil => simp [expLen, h]
  | cons d q =>
    simp only [expLen, h, if_true]
    by_cases s : isS d <;> simp only [s, if_true, if_false, Bool.false_eq_true]
    · split <;> omega
    · split <;> omega
theorem exp_no (c : UInt8) (r : List UInt8) (h : isE c = false) : expLen (c :: r) = 0 := by simp [expLen, h]
theorem dfa_part (l : List UInt8) : ∀ p, dfa 5 p p l = p + run l + expLen (l.drop (run l)) := by
  induction l with
  | nil => intro p; rfl
  | cons c r ih =>
    intro p
    rcases kinds c with ⟨k, d, _, _, _, _, s⟩ | ⟨k, rfl⟩ | ⟨k, rfl⟩ | ⟨k, e, d, _, _, _, s⟩ | ⟨k, rfl⟩ | ⟨k, rfl⟩ | ⟨k, d, e, s, _⟩
    · rw [drop_run _ _ d, run_cons, if_pos d]
      simp [dfa, k, nxt, table, acc, ih]; omega
    · rw [drop_run _ _ (by decide), run_cons, if_pos (by decide)]
      simp [dfa, k, nxt, table, acc, ih]; omega
    · rw [run_cons, if_neg (by decide), List.drop_zero, exp_no _ _ (by decide)]
      simp [dfa, k, nxt, table]
    · rw [run_cons, if_neg (by simp [d]), List.drop_zero, ← letter_exp c r e]
      simp [dfa, k, nxt, table, acc]
    · rw [run_cons, if_neg (by decide), List.drop_zero, exp_no _ _ (by decide)]
      simp [dfa, k, nxt, table]
    · rw [run_cons, if_neg (by decide), List.drop_zero, exp_no _ _ (by decide)]
      simp [dfa, k, nxt, table]
    · rw [run_cons, if_neg (by simp [d]), List.drop_zero, exp_no _ _ e]
      simp [dfa, k]
theorem dfa_point (p e : Nat) (l : List UInt8) : dfa 4 p e l = if hd l then p + run l + expLen (l.drop (run l)) else e := by
  cases l with
  | nil => rfl
  | cons c r =>
    rw [hd_cons]
    rcases kinds c with ⟨k, d, _⟩ | ⟨k, rfl⟩ | ⟨k, rfl⟩ | ⟨k, _, d, _⟩ | ⟨k, rfl⟩ | ⟨k, rfl⟩ | ⟨k, d, _⟩
    · rw [drop_run _ _ d, run_cons, if_pos d, if_pos d]
      simp [dfa, k, nxt, table, acc, dfa_part]; omega
    · rw [drop_run _ _ (by decide), run_cons, if_pos (by decide), if_pos (by decide)]
      simp [dfa, k, nxt, table, acc, dfa_part]; omega
    · simp [dfa, k, nxt, table, isD]
    · simp [dfa, k, nxt, table, d]
    · simp [dfa, k, nxt, table, isD]
    · simp [dfa, k, nxt, table, isD]
    · simp [dfa, k, d]
theorem dfa_nought (p : Nat) (l : List UInt8) : dfa 2 p p l = p + tailLen l := by
  cases l with
  | nil => rfl
  | cons c r =>
    rcases kinds c with ⟨k, d, _, _, n, e, s⟩ | ⟨k, rfl⟩ | ⟨k, rfl⟩ | ⟨k, e, d, _, _, n, s⟩ | ⟨k, rfl⟩ | ⟨k, rfl⟩ | ⟨k, d, e, s, _, _, n⟩
    · simp [dfa, k, nxt, table, tailLen, n, exp_no _ _ e]
    · simp [dfa, k, nxt, table, tailLen, exp_no _ _ (show isE 48 = false by decide)]
    · rw [show dfa 2 p p (46 :: r) = dfa 4 (p + 1) p r by simp [dfa, k, nxt, table, acc], dfa_point]
      simp only [tailLen, beq_self_eq_true, if_true]
      split <;> omega
    · simp [dfa, k, nxt, table, acc, tailLen, n, letter_exp c r e]
    · simp [dfa, k, nxt, table, tailLen, exp_no _ _ (show isE 43 = false by decide)]
    · simp [dfa, k, nxt, table, tailLen, exp_no _ _ (show isE 45 = false by decide)]
    · simp [dfa, k, tailLen, n, exp_no _ _ e]
theorem dfa_whole (l : List UInt8) : ∀ p, dfa 3 p p l = p + run l + tailLen (l.drop (run l)) := by
  induction l with
  | nil => intro p; rfl
  | cons c r ih =>
    intro p
    rcases kinds c with ⟨k, d, _, _, n, e, s⟩ | ⟨k, rfl⟩ | ⟨k, rfl⟩ | ⟨k, e, d, _, _, n, s⟩ | ⟨k, rfl⟩ | ⟨k, rfl⟩ | ⟨k, d, e, s, _, _, n⟩
    · rw [drop_run _ _ d, run_cons, if_pos d]
      simp [dfa, k, nxt, table, acc, ih]; omega
    · rw [drop_run _ _ (by decide), run_cons, if_pos (by decide)]
      simp [dfa, k, nxt, table, acc, ih]; omega
    · rw [run_cons, if_neg (by decide), List.drop_zero]
      rw [show dfa 3 p p (46 :: r) = dfa 4 (p + 1) p r by simp [dfa, k, nxt, table, acc], dfa_point]
      simp only [tailLen, beq_self_eq_true, if_true]
      split <;> omega
    · rw [run_cons, if_neg (by simp [d]), List.drop_zero]
      simp [dfa, k, nxt, table, acc, tailLen, n, letter_exp c r e]
    · rw [run_cons, if_neg (by decide), List.drop_zero]
      simp [dfa, k, nxt, table, tailLen, exp_no _ _ (show isE 43 = false by decide)]
    · rw [run_cons, if_neg (by decide), List.drop_zero]
      simp [dfa, k, nxt, table, tailLen, exp_no _ _ (show isE 45 = false by decide)]
    · rw [run_cons, if_neg (by simp [d]), List.drop_zero]
      simp [dfa, k, tailLen, n, exp_no _ _ e]
theorem dfa_body (q : Nat) (hq : q = 0 ∨ q = 1) (p : Nat) (l : List UInt8) (hl : q = 0 → ∀ r, l ≠ 45 :: r) : dfa q p 0 l = if bodyLen l = 0 then 0 else p + bodyLen l := by
  cases l with
  | nil => rfl
  | cons c r =>
    rcases kinds c with ⟨k, d, z, _, n, e, s⟩ | ⟨k, rfl⟩ | ⟨k, rfl⟩ | ⟨k, e, d, z, _, n, s⟩ | ⟨k, rfl⟩ | ⟨k, rfl⟩ | ⟨k, d, e, s, z, _, n⟩
    · have hb : bodyLen (c :: r) = 1 + run r + tailLen (r.drop (run r)) := by
        simp only [bodyLen, beq_iff_eq, z, if_false, d, if_true, drop_run _ _ d]
        rw [run_cons, if_pos d]
      rw [hb, if_neg (by omega)]
      rcases hq with rfl | rfl <;> simp [dfa, k, nxt, table, acc, dfa_whole] <;> omega
    · have hb : bodyLen (48 :: r) = 1 + tailLen r := by simp [bodyLen]
      rw [hb, if_neg (by omega)]
      rcases hq with rfl | rfl <;> simp [dfa, k, nxt, table, acc, dfa_nought] <;> omega
    · have hb : bodyLen (46 :: r) = 0 := by simp [bodyLen, isD]
      rw [hb]
      rcases hq with rfl | rfl <;> simp [dfa, k, nxt, table]
    · have hb : bodyLen (c :: r) = 0 := by simp [bodyLen, d, z]
      rw [hb]
      rcases hq with rfl | rfl <;> simp [dfa, k, nxt, table]
    · have hb : bodyLen (43 :: r) = 0 := by simp [bodyLen, isD]
      rw [hb]
      rcases hq with rfl | rfl <;> simp [dfa, k, nxt, table]
    · have hb : bodyLen (45 :: r) = 0 := by simp [bodyLen, isD]
      rw [hb]
      rcases hq with rfl | rfl
      · exact absurd rfl (hl rfl r)
      · simp [dfa, k, nxt, table]
    · have hb : bodyLen (c :: r) = 0 := by simp [bodyLen, d, z]
      rw [hb]
      simp [dfa, k]
/-- THE TABLE OF STATES SCANS AS THE DOCUMENT SAYS. -/
theorem dfa_scan (l : List UInt8) : dfa 0 0 0 l = scan l := by
  cases l with
  | nil => rfl
  | cons c r =>
    by_cases h : c = 45
    · subst h
      have h1 : dfa 0 0 0 (45 :: r) = dfa 1 1 0 r := by simp [dfa, nxt, table, acc, show kind 45 = 5 from by decide]
      rw [h1, dfa_body 1 (.inr rfl) 1 r (by simp)]
      simp [scan]
    · rw [dfa_body 0 (.inl rfl) 0 _ (fun _ q hq => h (by injection hq))]
      simp [scan, h]
      omega
end Go.Proofs.NumPlain

/- Plain: a number's text taken apart, and put together. -/
namespace Go.Proofs.NumPlain

theorem take_run (l : List UInt8) : l.take (run l) = l.takeWhile isD := by
  induction l with
  | nil => rfl
  | cons c r ih =>
    rw [run_cons]
    by_cases h : isD c
    · rw [if_pos h, Nat.add_comm, List.take_succ_cons, ih, List.takeWhile_cons, if_pos h]
    · rw [if_neg h, List.takeWhile_cons, if_neg h]; rfl
theorem drop_run_eq (l : List UInt8) : l.drop (run l) = l.dropWhile isD := by
  induction l with
  | nil => rfl
  | cons c r ih =>
    rw [run_cons]
    by_cases h : isD c
    · rw [if_pos h, Nat.add_comm, List.drop_succ_cons, ih, List.dropWhile_cons, if_pos h]
    · rw [if_neg h, List.dropWhile_cons, if_neg h]; rfl
theorem run_le (l : List UInt8) : run l ≤ l.length := by
  induction l with
  | nil => exact Nat.le_refl _
  | cons c r ih =>
    rw [run_cons, List.length_cons]
    split <;> omega
theorem all_takeWhile (p : UInt8 → Bool) (l : List UInt8) : ∀ c ∈ l.takeWhile p, p c = true := by
  induction l with
  | nil => simp
  | cons c r ih =>
    rw [List.takeWhile_cons]
    split
    · rename_i h
      intro d hd
      rcases List.mem_cons.1 hd with rfl | hd
      · exact h
      · exact ih d hd
    · simp
def dig (l : List UInt8) : Prop := ∀ c ∈ l, isD c = true
theorem run_all (l : List UInt8) (h : dig l) : run l = l.length := by
  induction l with
  | nil => rfl
  | cons c r ih =>
    rw [run_cons, if_pos (h c (List.mem_cons_self ..)), ih (fun d hd => h d (List.mem_cons_of_mem _ hd)), List.length_cons]; omega
theorem all_run (l : List UInt8) (h : run l = l.length) : dig l := by
  induction l with
  | nil => intro c hc; simp at hc
  | cons c r ih =>
    rw [run_cons, List.length_cons] at h
    by_cases hc : isD c
    · rw [if_pos hc] at h
      intro d hd
      rcases List.mem_cons.1 hd with rfl | hd
      · exact hc
      · exact ih (by omega) d hd
    · rw [if_neg hc] at h; omega
theorem run_append (l r : List UInt8) (h : dig l) : run (l ++ r) = l.length + run r := by
  induction l with
  | nil => simp
  | cons c q ih =>
    rw [List.cons_append, run_cons, if_pos (h c (List.mem_cons_self ..)), ih (fun d hd => h d (List.mem_cons_of_mem _ hd)), List.length_cons]; omega
theorem hd_of_dig (l : List UInt8) (h : dig l) (hn : l ≠ []) : hd l = true := by
  cases l with
  | nil => exact absurd rfl hn
  | cons c r => exact h c (List.mem_cons_self ..)
theorem hd_append (l r : List UInt8) (hn : l ≠ []) : hd (l ++ r) = hd l := by
  cases l with
  | nil => exact absurd rfl hn
  | cons c q => rfl

/-- A power's text: nothing; or e, a sign or none, digits. -/
inductive Ex where
  | no
  | some (e : UInt8) (sg X : List UInt8)
def Ex.text : Ex → List UInt8
  | .no => []
  | .some e sg X => e :: (sg ++ X)
def Ex.ok : Ex → Prop
  | .no => True
  | .some e sg X => isE e = true ∧ (sg = [] ∨ sg = [43] ∨ sg = [45]) ∧ X ≠ [] ∧ dig X
def ptText (pt : Bool) (F : List UInt8) : List UInt8 := if pt then 46 :: F else []
def sgText (neg : Bool) : List UInt8 := if neg then [45] else []
def render (neg : Bool) (I : List UInt8) (pt : Bool) (F : List UInt8) (ex : Ex) : List UInt8 := sgText neg ++ (I ++ (ptText pt F ++ ex.text))
structure Good (I : List UInt8) (pt : Bool) (F : List UInt8) (ex : Ex) : Prop where
  iDig : dig I
  iNe : I ≠ []
  fDig : dig F
  fNe : pt = true → F ≠ []
  fNo : pt = false → F = []
  exOk : ex.ok

theorem isS_iff (c : UInt8) : isS c = true ↔ c = 43 ∨ c = 45 := by simp [isS]
theorem exp_all (l : List UInt8) (h : expLen l = l.length) : ∃ ex : Ex, ex.ok ∧ l = ex.text := by
  cases l with
  | nil => exact ⟨.no, trivial, rfl⟩
  | cons c r =>
    simp only [expLen] at h
    by_cases he : isE c
    · simp only [he, if_true] at h
      cases r with
      | nil => simp at h
      | cons d q =>
        simp only [List.length_cons] at h
        by_cases hs : isS d
        · simp only [hs, if_true] at h
          by_cases hq : hd q
          · simp only [hq, if_true] at h
            refine ⟨.some c [d] q, ⟨he, ?_, ?_, all_run q (by omega)⟩, rfl⟩
            · rcases (isS_iff d).1 hs with rfl | rfl
              · exact .inr (.inl rfl)
              · exact .inr (.inr rfl)
            · rintro rfl; simp [hd] at hq
          · simp [hq] at h
        · simp only [hs, if_false, Bool.false_eq_true] at h
          by_cases hr : hd (d :: q)
          · simp only [hr, if_true] at h
            exact ⟨.some c [] (d :: q), ⟨he, .inl rfl, by simp, all_run _ (by simp only [List.length_cons]; omega)⟩, rfl⟩
          · simp [hr] at h
    · simp [he] at h
theorem tail_all (l : List UInt8) (h : tailLen l = l.length) : ∃ (pt : Bool) (F : List UInt8) (ex : Ex), l = ptText pt F ++ ex.text ∧ dig F ∧ (pt = true → F ≠ []) ∧ (pt = false → F = []) ∧ ex.ok := by
  cases l with
  | nil => exact ⟨false, [], .no, rfl, by intro c hc; simp at hc, by simp, by simp, trivial⟩
  | cons c r =>
    simp only [tailLen] at h
    by_cases hc : c = 46
    · subst hc
      simp only [beq_self_eq_true, if_true] at h
      by_cases hr : hd r
      · simp only [hr, if_true, List.length_cons] at h
        have hl := run_le r
        have hp := run_pos r hr
        obtain ⟨ex, hok, hex⟩ := exp_all (r.drop (run r)) (by rw [List.length_drop]; omega)
        refine ⟨true, r.take (run r), ex, ?_, ?_, ?_, by simp, hok⟩
        · rw [← hex]; simp [ptText]
        · rw [take_run]; exact all_takeWhile _ _
        · intro _ h0
          have := congrArg List.length h0
          rw [List.length_take, List.length_nil] at this
          omega
      · simp [hr] at h
    · have hb : (c == 46) = false := by simpa using hc
      simp only [hb, Bool.false_eq_true, if_false] at h
      obtain ⟨ex, hok, hex⟩ := exp_all (c :: r) h
      exact ⟨false, [], ex, by rw [hex]; rfl, by intro c hc; simp at hc, by simp, by simp, hok⟩
theorem body_all (l : List UInt8) (hn : l ≠ []) (h : bodyLen l = l.length) : ∃ (I : List UInt8) (pt : Bool) (F : List UInt8) (ex : Ex), Good I pt F ex ∧ l = I ++ (ptText pt F ++ ex.text) := by
  cases l with
  | nil => exact absurd rfl hn
  | cons c r =>
    simp only [bodyLen] at h
    by_cases hc : c = 48
    · subst hc
      simp only [beq_self_eq_true, if_true, List.length_cons] at h
      obtain ⟨pt, F, ex, hl, h1, h2, h3, h4⟩ := tail_all r (by omega)
      exact ⟨[48], pt, F, ex, ⟨by intro c hc; simp at hc; subst hc; decide, by simp, h1, h2, h3, h4⟩, by rw [hl]; rfl⟩
    · have hb : (c == 48) = false := by simpa using hc
      simp only [hb, Bool.false_eq_true, if_false] at h
      by_cases hd' : isD c
      · simp only [hd', if_true] at h
        have hl := run_le (c :: r)
        obtain ⟨pt, F, ex, hl, h1, h2, h3, h4⟩ := tail_all ((c :: r).drop (run (c :: r))) (by rw [List.length_drop]; omega)
        refine ⟨(c :: r).take (run (c :: r)), pt, F, ex, ⟨?_, ?_, h1, h2, h3, h4⟩, ?_⟩
        · rw [take_run]; exact all_takeWhile _ _
        · rw [run_cons, if_pos hd', Nat.add_comm]; simp
        · rw [← hl, List.take_append_drop]
      · simp [hd'] at h
/-- WHATEVER IS SCANNED WHOLE COMES APART. -/
theorem apart (l : List UInt8) (hn : l ≠ []) (h : scan l = l.length) : ∃ (neg : Bool) (I : List UInt8) (pt : Bool) (F : List UInt8) (ex : Ex), Good I pt F ex ∧ l = render neg I pt F ex := by
  cases l with
  | nil => exact absurd rfl hn
  | cons c r =>
    simp only [scan] at h
    by_cases hc : c = 45
    · subst hc
      simp only [beq_self_eq_true, if_true, List.length_cons] at h
      split at h
      · omega
      · rename_i hb
        have hr : r ≠ [] := by rintro rfl; exact hb rfl
        obtain ⟨I, pt, F, ex, hg, hl⟩ := body_all r hr (by omega)
        exact ⟨true, I, pt, F, ex, hg, by rw [hl]; rfl⟩
    · have hb : (c == 45) = false := by simpa using hc
      simp only [hb, Bool.false_eq_true, if_false] at h
      obtain ⟨I, pt, F, ex, hg, hl⟩ := body_all (c :: r) (by simp) h
      exact ⟨false, I, pt, F, ex, hg, by rw [hl]; rfl⟩

/-! ### the other way -/
theorem isE_not (e : UInt8) (h : isE e = true) : isD e = false ∧ e ≠ 46 ∧ e ≠ 45 ∧ e ≠ 48 ∧ isS e = false := by
  rcases kinds e with ⟨k, d, a, b, c, x, s⟩ | ⟨k, rfl⟩ | ⟨k, rfl⟩ | ⟨k, _, d, a, b, c, s⟩ | ⟨k, rfl⟩ | ⟨k, rfl⟩ | ⟨k, d, x, _⟩
  · rw [h] at x; cases x
  · exact absurd h (by decide)
  · exact absurd h (by decide)
  · exact ⟨d, c, b, a, s⟩
  · exact absurd h (by decide)
  · exact absurd h (by decide)
  · rw [h] at x; cases x
theorem isD_not (c : UInt8) (h : isD c = true) : isE c = false ∧ c ≠ 46 ∧ c ≠ 45 ∧ c ≠ 43 ∧ isS c = false := by
  rcases kinds c with ⟨k, d, a, b, x, e, s⟩ | ⟨k, rfl⟩ | ⟨k, rfl⟩ | ⟨k, _, d, _⟩ | ⟨k, rfl⟩ | ⟨k, rfl⟩ | ⟨k, d, _⟩
  · refine ⟨e, x, b, ?_, s⟩
    rintro rfl; exact absurd s (by decide)
  · exact ⟨by decide, by decide, by decide, by decide, by decide⟩
  · exact absurd h (by decide)
  · rw [h] at d; cases d
  · exact absurd h (by decide)
  · exact absurd h (by decide)
  · rw [h] at d; cases d
theorem exp_text (ex : Ex) (h : ex.ok) : expLen ex.text = ex.text.length := by
  cases ex with
  | no => rfl
  | some e sg X =>
    obtain ⟨he, hs, hn, hX⟩ := h
    have hX' := hd_of_dig X hX hn
    have hr := run_all X hX
    rcases hs with rfl | rfl | rfl
    · cases X with
      | nil => exact absurd rfl hn
      | cons d q =>
        have hd' := isD_not d (hX d (List.mem_cons_self ..))
        simp only [Ex.text, expLen, he, if_true, List.nil_append, hd'.2.2.2.2, Bool.false_eq_true, if_false, hX', hr, List.length_cons]; omega
    · simp [Ex.text, expLen, he, isS, hX', hr]; omega
    · simp [Ex.text, expLen, he, isS, hX', hr]; omega
theorem run_ex (ex : Ex) (h : ex.ok) : run ex.text = 0 := by
  cases ex with
  | no => rfl
  | some e sg X => rw [Ex.text, run_cons, if_neg (by simp [(isE_not e h.1).1])]
theorem tail_text (pt : Bool) (F : List UInt8) (ex : Ex) (h1 : dig F) (h2 : pt = true → F ≠ []) (h4 : ex.ok) : tailLen (ptText pt F ++ ex.text) = (ptText pt F ++ ex.text).length := by
  cases pt with
  | true =>
    have hr : run (F ++ ex.text) = F.length := by rw [run_append _ _ h1, run_ex ex h4]; rfl
    have hh : hd (F ++ ex.text) = true := by rw [hd_append _ _ (h2 rfl)]; exact hd_of_dig F h1 (h2 rfl)
    simp only [ptText, if_true, List.cons_append, tailLen, beq_self_eq_true, hh, hr, List.drop_left, exp_text ex h4, List.length_cons, List.length_append]
    omega
  | false =>
    simp only [ptText, Bool.false_eq_true, if_false, List.nil_append]
    cases ex with
    | no => rfl
    | some e sg X =>
      have := exp_text _ h4
      have hb : (e == 46) = false := by simpa using (isE_not e h4.1).2.1
      rw [Ex.text] at this ⊢
      simp only [tailLen, hb, Bool.false_eq_true, if_false]
      exact this
theorem run_tail (pt : Bool) (F : List UInt8) (ex : Ex) (h4 : ex.ok) : run (ptText pt F ++ ex.text) = 0 := by
  cases pt with
  | true => simp only [ptText, if_true, List.cons_append]; rw [run_cons, if_neg (by decide)]
  | false => exact run_ex ex h4
theorem scan_render (neg : Bool) (I : List UInt8) (pt : Bool) (F : List UInt8) (ex : Ex) (h : Good I pt F ex) (h0 : I = [48] ∨ I.head? ≠ some 48) : scan (render neg I pt F ex) = (render neg I pt F ex).length := by
  have hb : bodyLen (I ++ (ptText pt F ++ ex.text)) = (I ++ (ptText pt F ++ ex.text)).length := by
    have ht := tail_text pt F ex h.fDig h.fNe h.exOk
    have hrt := run_tail pt F ex h.exOk
    rcases h0 with rfl | h0
    · simp only [List.cons_append, List.nil_append, bodyLen, beq_self_eq_true, if_true, ht, List.length_cons]; omega
    · have hrun := run_append I (ptText pt F ++ ex.text) h.iDig
      have hi := h.iDig
      cases I with
      | nil => exact absurd rfl h.iNe
      | cons c r =>
        have hc : (c == 48) = false := by simp at h0; simpa using h0
        have hc' := hi c (List.mem_cons_self ..)
        simp only [List.cons_append, bodyLen, hc, Bool.false_eq_true, if_false, hc', if_true]
        simp only [List.cons_append] at hrun
        rw [hrun, hrt, Nat.add_zero]
        have hdr : (c :: (r ++ (ptText pt F ++ ex.text))).drop (c :: r).length = ptText pt F ++ ex.text := by
          rw [← List.cons_append, List.drop_left]
        rw [hdr, ht]
        simp; omega
  have hne : 0 < (I ++ (ptText pt F ++ ex.text)).length := by
    have := h.iNe
    cases I with
    | nil => exact absurd rfl this
    | cons c r => simp
  cases neg with
  | true =>
    simp only [render, sgText, if_true, List.cons_append, List.nil_append, scan, beq_self_eq_true, hb, List.length_cons]
    rw [if_neg (by omega)]; omega
  | false =>
    simp only [render, sgText, Bool.false_eq_true, if_false, List.nil_append]
    have hi := h.iDig
    cases I with
    | nil => exact absurd rfl h.iNe
    | cons c r =>
      have hc : (c == 45) = false := by simpa using (isD_not c (hi c (List.mem_cons_self ..))).2.2.1
      simp only [List.cons_append, scan, hc, Bool.false_eq_true, if_false]
      exact hb
end Go.Proofs.NumPlain

/- Plain: what a text's number is, as the program and as the document reckon it. -/
namespace Go.Proofs.NumPlain

structure Nm where
  neg : Bool
  dig : List UInt8
  exp : Int
  deriving DecidableEq
def zero : Nm := ⟨false, [], 0⟩
def right (n : Nm) : Bool :=
  if n.dig = [] then !n.neg && n.exp == 0
  else decide (n.dig.length ≤ 1000) && n.dig.all isD && n.dig.head? != some 48 && n.dig.getLast? != some 48 && decide (n.exp ≤ 10000) && decide (-10000 ≤ n.exp)
def ltrim (l : List UInt8) : List UInt8 := l.dropWhile (· == 48)
def rtrim (l : List UInt8) : List UInt8 := (l.reverse.dropWhile (· == 48)).reverse
/-- A sign, digits, a power: the number, and 0; or no right one: 4. -/
def fin (neg : Bool) (D : List UInt8) (x : Int) : Nm × Int :=
  if rtrim (ltrim D) = [] then (zero, 0)
  else if right ⟨neg, rtrim (ltrim D), x + ((ltrim D).length - (rtrim (ltrim D)).length)⟩ then (⟨neg, rtrim (ltrim D), x + ((ltrim D).length - (rtrim (ltrim D)).length)⟩, 0)
  else (zero, 4)
/-- A power's number, without a bound. -/
def valN (X : List UInt8) : Nat := X.foldl (fun b c => 10 * b + (c.toNat - 48)) 0
/-- As the program reckons it: no more than 2^40. -/
def valP (X : List UInt8) : Nat := X.foldl (fun b c => min (10 * b + (c.toNat - 48)) 1099511627776) 0
/-- As the document's definition does: no further, once it has reached 10^9. -/
def valR (X : List UInt8) : Nat := X.foldl (fun b c => if b < 1000000000 then b * 10 + (c.toNat - 48) else b) 0
def Ex.val (f : List UInt8 → Nat) : Ex → Int
  | .no => 0
  | .some _ sg X => if sg = [45] then - (f X : Int) else f X

theorem valN_snoc (X : List UInt8) (c : UInt8) : valN (X ++ [c]) = 10 * valN X + (c.toNat - 48) := by simp [valN, List.foldl_append]
theorem valP_snoc (X : List UInt8) (c : UInt8) : valP (X ++ [c]) = min (10 * valP X + (c.toNat - 48)) 1099511627776 := by simp [valP, List.foldl_append]
theorem valR_snoc (X : List UInt8) (c : UInt8) : valR (X ++ [c]) = if valR X < 1000000000 then valR X * 10 + (c.toNat - 48) else valR X := by unfold valR; rw [List.foldl_append]; rfl
theorem snoc_ind {p : List UInt8 → Prop} (h0 : p []) (h1 : ∀ l c, p l → p (l ++ [c])) (l : List UInt8) : p l := by
  rw [← List.reverse_reverse l]
  induction l.reverse with
  | nil => exact h0
  | cons c r ih => rw [List.reverse_cons]; exact h1 _ _ ih
theorem valP_eq (X : List UInt8) : valP X = min (valN X) 1099511627776 := by
  induction X using snoc_ind with
  | h0 => rfl
  | h1 l c ih => rw [valP_snoc, valN_snoc, ih]; omega
theorem valR_eq (X : List UInt8) : (valN X < 1000000000 → valR X = valN X) ∧ (1000000000 ≤ valN X → 1000000000 ≤ valR X) := by
  induction X using snoc_ind with
  | h0 => exact ⟨fun _ => rfl, fun h => by simp [valN] at h⟩
  | h1 l c ih =>
    obtain ⟨a, b⟩ := ih
    rw [valR_snoc, valN_snoc]
    by_cases h : valN l < 1000000000
    · rw [a h, if_pos h]
      exact ⟨fun _ => by omega, fun _ => by omega⟩
    · have := b (by omega)
      rw [if_neg (by omega)]
      exact ⟨fun _ => by omega, fun _ => this⟩
/-- The two are one, or both are far too great. -/
theorem val_same (X : List UInt8) : valP X = valR X ∨ (1000000000 ≤ valP X ∧ 1000000000 ≤ valR X) := by
  have h := valR_eq X
  have hp := valP_eq X
  by_cases g : valN X < 1000000000
  · exact .inl (by rw [h.1 g, hp]; omega)
  · exact .inr ⟨by omega, h.2 (by omega)⟩

theorem length_dropWhile_le (p : UInt8 → Bool) (l : List UInt8) : (l.dropWhile p).length ≤ l.length := by
  induction l with
  | nil => exact Nat.le_refl _
  | cons c r ih => rw [List.dropWhile_cons]; split <;> simp only [List.length_cons] <;> omega
theorem ltrim_le (l : List UInt8) : (ltrim l).length ≤ l.length := length_dropWhile_le _ _
theorem rtrim_le (l : List UInt8) : (rtrim l).length ≤ l.length := by
  have := length_dropWhile_le (· == 48) l.reverse
  simpa [rtrim] using this
/-- Where a power is far too great it makes no difference which. -/
theorem fin_far (neg : Bool) (D : List UInt8) (x y : Int) (hl : D.length ≤ 100000) (hx : 900000000 ≤ x ∧ 900000000 ≤ y ∨ x ≤ -900000000 ∧ y ≤ -900000000) : fin neg D x = fin neg D y := by
  have h1 := ltrim_le D
  have h2 := rtrim_le (ltrim D)
  unfold fin
  split
  · rfl
  · rename_i hn
    have e1 : right ⟨neg, rtrim (ltrim D), x + ((ltrim D).length - (rtrim (ltrim D)).length)⟩ = false := by
      rw [right, if_neg hn]
      simp only [Bool.and_eq_false_iff, decide_eq_false_iff_not]
      rcases hx with hx | hx
      · left; right; omega
      · right; omega
    have e2 : right ⟨neg, rtrim (ltrim D), y + ((ltrim D).length - (rtrim (ltrim D)).length)⟩ = false := by
      rw [right, if_neg hn]
      simp only [Bool.and_eq_false_iff, decide_eq_false_iff_not]
      rcases hx with hx | hx
      · left; right; omega
      · right; omega
    rw [e1, e2]
    simp
/-- THE PROGRAM's POWER AND THE DOCUMENT's GIVE ONE NUMBER. -/
theorem fin_same (neg : Bool) (D : List UInt8) (k : Nat) (ex : Ex) (hl : D.length ≤ 100000) (hk : k ≤ 100000) : fin neg D (-k + ex.val valP) = fin neg D (-k + ex.val valR) := by
  cases ex with
  | no => rfl
  | some e sg X =>
    rcases val_same X with h | ⟨h1, h2⟩
    · simp only [Ex.val, h]
    · simp only [Ex.val]
      split
      · exact fin_far neg D _ _ hl (.inr ⟨by omega, by omega⟩)
      · exact fin_far neg D _ _ hl (.inl ⟨by omega, by omega⟩)
end Go.Proofs.NumPlain

/- Plain: trims. -/
namespace Go.Proofs.NumPlain
open Go

theorem dropWhile_nil (p : UInt8 → Bool) (l : List UInt8) : l.dropWhile p = [] ↔ l.all p = true := by
  induction l with
  | nil => simp
  | cons c r ih =>
    rw [List.dropWhile_cons]
    by_cases h : p c
    · rw [if_pos h, ih, List.all_cons, h, Bool.true_and]
    · rw [if_neg h, List.all_cons]; simp [h]
theorem dropWhile_head (p : UInt8 → Bool) (l : List UInt8) (c : UInt8) (r : List UInt8) (h : l.dropWhile p = c :: r) : p c = false := by
  induction l with
  | nil => simp at h
  | cons d q ih =>
    rw [List.dropWhile_cons] at h
    by_cases hd : p d
    · rw [if_pos hd] at h; exact ih h
    · rw [if_neg hd] at h
      injection h with h1 h2
      subst h1; simpa using hd
theorem trimS_nil (l cs : List UInt8) : Lib.trimS l cs = [] ↔ l.all (cs.contains ·) = true := by
  unfold Lib.trimS Lib.trimLeftS Lib.trimRightS
  rw [dropWhile_nil, List.all_reverse]
  cases h : l.reverse.dropWhile (cs.contains ·) with
  | nil =>
    have := (dropWhile_nil _ _).1 h
    rw [List.all_reverse] at this
    rw [this]; simp
  | cons c r =>
    have h1 := dropWhile_head _ _ _ _ h
    have h2 : l.all (cs.contains ·) ≠ true := by
      intro h3
      have h4 : l.reverse.all (cs.contains ·) = true := by rw [List.all_reverse]; exact h3
      rw [(dropWhile_nil _ _).2 h4] at h
      cases h
    constructor
    · intro h5
      rw [List.all_cons, h1] at h5; simp at h5
    · intro h5; exact absurd h5 h2
theorem digits_cs (c : UInt8) : [48, 49, 50, 51, 52, 53, 54, 55, 56, 57].contains c = isD c := by
  have := all_u8 (fun c => [48, 49, 50, 51, 52, 53, 54, 55, 56, 57].contains c == isD c) (by decide +kernel) c
  simpa using this
theorem trimS_digits (l : List UInt8) : Lib.trimS l [48, 49, 50, 51, 52, 53, 54, 55, 56, 57] = [] ↔ l.all isD = true := by
  rw [trimS_nil]
  have : (fun c => [48, 49, 50, 51, 52, 53, 54, 55, 56, 57].contains c) = isD := funext digits_cs
  rw [this]
theorem right_some (neg : Bool) (l : List UInt8) (x : Int) (h : l ≠ []) : right ⟨neg, l, x⟩ = (decide (l.length ≤ 1000) && l.all isD && l.head? != some 48 && l.getLast? != some 48 && decide (x ≤ 10000) && decide (-10000 ≤ x)) := by
  unfold right; rw [if_neg h]
end Go.Proofs.NumPlain

/- Plain: what the library's cuts make of a number's text. -/
namespace Go.Proofs.NumPlain
open Go

theorem head_dig (I r : List UInt8) (h : dig I) (hn : I ≠ []) : ∃ c q, I ++ r = c :: q ∧ isD c = true := by
  cases I with
  | nil => exact absurd rfl hn
  | cons c q => exact ⟨c, q ++ r, rfl, h c (List.mem_cons_self ..)⟩
theorem prefix_cons (c : UInt8) (q : List UInt8) : Lib.hasPrefix (c :: q) [45] = (c == 45) := by
  simp only [Lib.hasPrefix, List.isPrefixOf, Bool.and_true]
  exact Bool.beq_comm ..
theorem cut_sign (neg : Bool) (I : List UInt8) (pt : Bool) (F : List UInt8) (ex : Ex) (h : Good I pt F ex) :
    Lib.hasPrefix (render neg I pt F ex) [45] = neg ∧ Lib.trimPrefix (render neg I pt F ex) [45] = I ++ (ptText pt F ++ ex.text) := by
  cases neg with
  | true => constructor <;> simp [render, sgText, Lib.trimPrefix, Lib.hasPrefix]
  | false =>
    obtain ⟨c, q, e, hc⟩ := head_dig I (ptText pt F ++ ex.text) h.iDig h.iNe
    have hb : (c == 45) = false := by simpa using (isD_not c hc).2.2.1
    have h1 : render false I pt F ex = c :: q := by simp only [render, sgText, Bool.false_eq_true, if_false, List.nil_append]; exact e
    rw [h1, e]
    unfold Lib.trimPrefix
    rw [prefix_cons, hb]
    exact ⟨rfl, rfl⟩
theorem indexAny_skip (l r : List UInt8) (cs : List UInt8) (h : ∀ c ∈ l, cs.contains c = false) (b : UInt8) (hb : cs.contains b = true) : Lib.indexAny (l ++ b :: r) cs = l.length := by
  induction l with
  | nil => rw [List.nil_append, Lib.indexAny, hb]; rfl
  | cons c q ih =>
    have ih' := ih (fun d hd => h d (List.mem_cons_of_mem _ hd))
    have hc := h c (List.mem_cons_self ..)
    rw [List.cons_append, Lib.indexAny, hc, ih']
    simp only [Bool.false_eq_true, if_false, List.length_cons]
    rw [if_neg (by simp)]
    omega
theorem indexAny_miss (l : List UInt8) (cs : List UInt8) (h : ∀ c ∈ l, cs.contains c = false) : Lib.indexAny l cs = -1 := by
  induction l with
  | nil => rfl
  | cons c q ih =>
    rw [Lib.indexAny, h c (List.mem_cons_self ..), ih (fun d hd => h d (List.mem_cons_of_mem _ hd))]
    rfl
theorem cs_E (c : UInt8) : [101, 69].contains c = isE c := by
  have := all_u8 (fun c => [101, 69].contains c == isE c) (by decide +kernel) c
  simpa using this
theorem cs_S (c : UInt8) : [43, 45].contains c = isS c := by
  have := all_u8 (fun c => [43, 45].contains c == isS c) (by decide +kernel) c
  simpa using this
theorem noE (I : List UInt8) (pt : Bool) (F : List UInt8) (hI : dig I) (hF : dig F) : ∀ c ∈ I ++ ptText pt F, [101, 69].contains c = false := by
  intro c hc
  rw [cs_E]
  rcases List.mem_append.1 hc with h | h
  · exact (isD_not c (hI c h)).1
  · unfold ptText at h
    split at h
    · rcases List.mem_cons.1 h with rfl | h
      · decide
      · exact (isD_not c (hF c h)).1
    · simp at h
theorem index_E_no (I : List UInt8) (pt : Bool) (F : List UInt8) (hI : dig I) (hF : dig F) : Lib.indexAny (I ++ (ptText pt F ++ Ex.no.text)) [101, 69] = -1 := by
  rw [show Ex.no.text = [] from rfl, List.append_nil]
  exact indexAny_miss _ _ (noE I pt F hI hF)
theorem index_E_some (I : List UInt8) (pt : Bool) (F : List UInt8) (hI : dig I) (hF : dig F) (e : UInt8) (sg X : List UInt8) (he : isE e = true) :
    Lib.indexAny (I ++ (ptText pt F ++ (Ex.some e sg X).text)) [101, 69] = (I ++ ptText pt F).length := by
  rw [← List.append_assoc, show (Ex.some e sg X).text = e :: (sg ++ X) from rfl]
  exact indexAny_skip _ _ _ (noE I pt F hI hF) e (by rw [cs_E]; exact he)
theorem index_one (l r : List UInt8) (b : UInt8) (h : ∀ c ∈ l, c ≠ b) : Lib.index (l ++ b :: r) [b] = l.length := by
  induction l with
  | nil => simp [Lib.index]
  | cons c q ih =>
    have ih' := ih (fun d hd => h d (List.mem_cons_of_mem _ hd))
    have hc : (b == c) = false := by simpa using fun e => h c (List.mem_cons_self ..) e.symm
    rw [List.cons_append, Lib.index, ih']
    simp only [List.isPrefixOf, hc, Bool.false_and, Bool.false_eq_true, if_false, List.length_cons]
    rw [if_neg (by simp)]
    omega
theorem index_none (l : List UInt8) (b : UInt8) (h : ∀ c ∈ l, c ≠ b) : Lib.index l [b] = -1 := by
  induction l with
  | nil => rfl
  | cons c q ih =>
    have ih' := ih (fun d hd => h d (List.mem_cons_of_mem _ hd))
    have hc : (b == c) = false := by simpa using fun e => h c (List.mem_cons_self ..) e.symm
    rw [Lib.index, ih']
    simp [List.isPrefixOf, hc]
theorem dig_ne46 (I : List UInt8) (h : dig I) : ∀ c ∈ I, c ≠ 46 := fun c hc => (isD_not c (h c hc)).2.1
theorem cut_pt (I : List UInt8) (pt : Bool) (F : List UInt8) (hI : dig I) (hp : pt = false → F = []) : Lib.cut (I ++ ptText pt F) [46] = (I, F, pt) := by
  cases pt with
  | true =>
    have := index_one I F 46 (dig_ne46 I hI)
    simp only [ptText, if_true, Lib.cut]
    rw [this, if_pos (by omega)]
    simp
  | false =>
    rw [hp rfl]
    have := index_none I 46 (dig_ne46 I hI)
    simp only [ptText, Bool.false_eq_true, if_false, List.append_nil, Lib.cut]
    rw [this, if_neg (by omega)]
theorem trimLeftS_keep (l cs : List UInt8) (c : UInt8) (q : List UInt8) (e : l = c :: q) (h : cs.contains c = false) : Lib.trimLeftS l cs = l := by
  subst e
  simp only [Lib.trimLeftS]
  rw [List.dropWhile_cons, h]; rfl
theorem trimRightS_keep (l cs : List UInt8) (h : ∀ c, l.getLast? = some c → cs.contains c = false) : Lib.trimRightS l cs = l := by
  unfold Lib.trimRightS
  cases hl : l.reverse with
  | nil =>
    have : l = [] := by simpa using hl
    subst this; rfl
  | cons c q =>
    have h1 : l.getLast? = some c := by rw [← List.head?_reverse, hl]; rfl
    rw [List.dropWhile_cons, h c h1]
    simp only [Bool.false_eq_true, if_false]
    rw [← hl, List.reverse_reverse]
theorem dig_noS (X : List UInt8) (h : dig X) (c : UInt8) (hc : c ∈ X) : [43, 45].contains c = false := by
  rw [cs_S]; exact (isD_not c (h c hc)).2.2.2.2
theorem trim_signs (sg X : List UInt8) (hs : sg = [] ∨ sg = [43] ∨ sg = [45]) (hn : X ≠ []) (hX : dig X) : Lib.trimS (sg ++ X) [43, 45] = X := by
  unfold Lib.trimS
  have h1 : Lib.trimRightS (sg ++ X) [43, 45] = sg ++ X := trimRightS_keep _ _ fun c hc => by
    rw [List.getLast?_append, List.getLast?_eq_some_getLast hn, Option.some_or, ← List.getLast?_eq_some_getLast hn] at hc
    exact dig_noS X hX c (List.mem_of_getLast? hc)
  rw [h1]
  have h2 : Lib.trimLeftS X [43, 45] = X := by
    cases X with
    | nil => exact absurd rfl hn
    | cons c q => exact trimLeftS_keep _ _ c q rfl (dig_noS _ hX c (List.mem_cons_self ..))
  rcases hs with rfl | rfl | rfl
  · exact h2
  · have : Lib.trimLeftS ([43] ++ X) [43, 45] = Lib.trimLeftS X [43, 45] := rfl
    rw [this, h2]
  · have : Lib.trimLeftS ([45] ++ X) [43, 45] = Lib.trimLeftS X [43, 45] := rfl
    rw [this, h2]
theorem sign_neg (sg X : List UInt8) (hs : sg = [] ∨ sg = [43] ∨ sg = [45]) (hn : X ≠ []) (hX : dig X) : Lib.hasPrefix (sg ++ X) [45] = decide (sg = [45]) := by
  rcases hs with rfl | rfl | rfl
  · cases X with
    | nil => exact absurd rfl hn
    | cons c q =>
      rw [List.nil_append, prefix_cons]
      have := (isD_not c (hX c (List.mem_cons_self ..))).2.2.1
      simp [this]
  · rw [List.cons_append, prefix_cons]; decide
  · rw [List.cons_append, prefix_cons]; decide
theorem trimB_l (l : List UInt8) : Lib.trimLeftB l 48 = ltrim l := rfl
theorem trimB_r (l : List UInt8) : Lib.trimRightB l 48 = rtrim l := rfl
end Go.Proofs.NumPlain
