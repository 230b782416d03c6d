/- Plain: the texts of numbers. 'dfa': as the program's table of states goes; 'scan': as the document says it. No program in sight. -/
namespace Go.Proofs.NumPlain

def isD (c : UInt8) : Bool := 48 ≤ c && c ≤ 57
def isE (c : UInt8) : Bool := c == 101 || c == 69
def isS (c : UInt8) : Bool := c == 43 || c == 45
/-- How many digits stand at the beginning. -/
def run (l : List UInt8) : Nat := (l.takeWhile isD).length
def hd (l : List UInt8) : Bool := match l with | c :: _ => isD c | [] => false
/-- How long the power is that stands at the beginning; 0: none. -/
def expLen : List UInt8 → Nat
  | c :: r => if isE c then (match r with | d :: q => if isS d then (if hd q then 2 + run q else 0) else (if hd r then 1 + run r else 0) | [] => 0) else 0
  | [] => 0
/-- .. the digits behind a point, and the power. -/
def tailLen : List UInt8 → Nat
  | c :: r => if c == 46 then (if hd r then 1 + run r + expLen (r.drop (run r)) else 0) else expLen (c :: r)
  | [] => 0
/-- .. a number without its sign. -/
def bodyLen : List UInt8 → Nat
  | c :: r => if c == 48 then 1 + tailLen r else if isD c then run (c :: r) + tailLen ((c :: r).drop (run (c :: r))) else 0
  | [] => 0
def scan : List UInt8 → Nat
  | c :: r => if c == 45 then (if bodyLen r = 0 then 0 else 1 + bodyLen r) else bodyLen (c :: r)
  | [] => 0

/-! ### the table of states -/
def kind (c : UInt8) : Int := if 49 ≤ c && c ≤ 57 then 1 else if c == 48 then 0 else if c == 46 then 2 else if c == 101 || c == 69 then 3 else if c == 43 then 4 else if c == 45 then 5 else -1
def table : List (List Nat) := [[2, 3, 0, 0, 0, 1], [2, 3, 0, 0, 0, 0], [0, 0, 4, 6, 0, 0], [3, 3, 4, 6, 0, 0], [5, 5, 0, 0, 0, 0], [5, 5, 0, 6, 0, 0], [8, 8, 0, 0, 7, 7], [8, 8, 0, 0, 0, 0], [8, 8, 0, 0, 0, 0]]
def nxt (q : Nat) (k : Nat) : Nat := (table.getD q []).getD k 0
def acc (q : Nat) : Bool := q == 2 || q == 3 || q == 5 || q == 8
def dfa (q p e : Nat) : List UInt8 → Nat
  | [] => e
  | c :: r => if kind c < 0 then e else if nxt q (kind c).toNat = 0 then e else dfa (nxt q (kind c).toNat) (p + 1) (if acc (nxt q (kind c).toNat) then p + 1 else e) r

theorem all_u8 (P : UInt8 → Bool) (h : (List.range 256).all (fun n => P (UInt8.ofNat n)) = true) (c : UInt8) : P c = true := by
  have := List.all_eq_true.1 h c.toNat (List.mem_range.2 (UInt8.toNat_lt c))
  simpa using this
/-- A byte's kinds, one of seven. -/
theorem kinds (c : UInt8) : (kind c = 1 ∧ isD c = true ∧ c ≠ 48 ∧ c ≠ 45 ∧ c ≠ 46 ∧ isE c = false ∧ isS c = false) ∨ (kind c = 0 ∧ c = 48) ∨ (kind c = 2 ∧ c = 46) ∨ (kind c = 3 ∧ isE c = true ∧ isD c = false ∧ c ≠ 48 ∧ c ≠ 45 ∧ c ≠ 46 ∧ isS c = false) ∨ (kind c = 4 ∧ c = 43) ∨ (kind c = 5 ∧ c = 45) ∨ (kind c = -1 ∧ isD c = false ∧ isE c = false ∧ isS c = false ∧ c ≠ 48 ∧ c ≠ 45 ∧ c ≠ 46) := by
  have := all_u8 (fun c => decide ((kind c = 1 ∧ isD c = true ∧ c ≠ 48 ∧ c ≠ 45 ∧ c ≠ 46 ∧ isE c = false ∧ isS c = false) ∨ (kind c = 0 ∧ c = 48) ∨ (kind c = 2 ∧ c = 46) ∨ (kind c = 3 ∧ isE c = true ∧ isD c = false ∧ c ≠ 48 ∧ c ≠ 45 ∧ c ≠ 46 ∧ isS c = false) ∨ (kind c = 4 ∧ c = 43) ∨ (kind c = 5 ∧ c = 45) ∨ (kind c = -1 ∧ isD c = false ∧ isE c = false ∧ isS c = false ∧ c ≠ 48 ∧ c ≠ 45 ∧ c ≠ 46))) (by decide +kernel) c
  simpa only [decide_eq_true_eq] using this

theorem run_cons (c : UInt8) (r : List UInt8) : run (c :: r) = if isD c then 1 + run r else 0 := by
  unfold run
  by_cases h : isD c <;> simp [h]; omega
theorem drop_run (c : UInt8) (r : List UInt8) (h : isD c = true) : (c :: r).drop (run (c :: r)) = r.drop (run r) := by
  rw [run_cons, if_pos h, Nat.add_comm]; rfl
theorem hd_cons (c : UInt8) (r : List UInt8) : hd (c :: r) = isD c := rfl
theorem run_pos (l : List UInt8) (h : hd l = true) : 0 < run l := by
  cases l with
  | nil => simp [hd] at h
  | cons c r => rw [run_cons, if_pos (by simpa [hd] using h)]; omega
theorem run_zero (l : List UInt8) (h : hd l = false) : run l = 0 := by
  cases l with
  | nil => rfl
  | cons c r => rw [run_cons, if_neg (by simpa [hd] using h)]

theorem dfa_power (l : List UInt8) : ∀ p, dfa 8 p p l = p + run l := by
  induction l with
  | nil => intro p; rfl
  | cons c r ih =>
    intro p
    rw [run_cons]
    rcases kinds c with ⟨k, d, _⟩ | ⟨k, rfl⟩ | ⟨k, rfl⟩ | ⟨k, _, d, _⟩ | ⟨k, rfl⟩ | ⟨k, rfl⟩ | ⟨k, d, _⟩
    · simp [dfa, k, nxt, table, acc, ih, d]; omega
    · simp [dfa, k, nxt, table, acc, ih, isD]; omega
    · simp [dfa, k, nxt, table, isD]
    · simp [dfa, k, nxt, table, d]
    · simp [dfa, k, nxt, table, isD]
    · simp [dfa, k, nxt, table, isD]
    · simp [dfa, k, d]
/-- A state that only a digit leads out of, to the state q'. -/
theorem dfa_sign (p e : Nat) (l : List UInt8) : dfa 7 p e l = if hd l then p + run l else e := by
  cases l with
  | nil => rfl
  | cons c r =>
    rw [run_cons, hd_cons]
    rcases kinds c with ⟨k, d, _⟩ | ⟨k, rfl⟩ | ⟨k, rfl⟩ | ⟨k, _, d, _⟩ | ⟨k, rfl⟩ | ⟨k, rfl⟩ | ⟨k, d, _⟩
    · simp [dfa, k, nxt, table, acc, dfa_power, d]; omega
    · simp [dfa, k, nxt, table, acc, dfa_power, isD]; omega
    · simp [dfa, k, nxt, table, isD]
    · simp [dfa, k, nxt, table, d]
    · simp [dfa, k, nxt, table, isD]
    · simp [dfa, k, nxt, table, isD]
    · simp [dfa, k, d]
theorem dfa_letter (p e : Nat) (l : List UInt8) : dfa 6 p e l = match l with | d :: q => if isS d then (if hd q then p + 1 + run q else e) else (if hd l then p + run l else e) | [] => e := by
  cases l with
  | nil => rfl
  | cons c r =>
    simp only [run_cons, hd_cons]
    rcases kinds c with ⟨k, d, _, _, _, _, s⟩ | ⟨k, rfl⟩ | ⟨k, rfl⟩ | ⟨k, _, d, _, _, _, s⟩ | ⟨k, rfl⟩ | ⟨k, rfl⟩ | ⟨k, d, _, s, _⟩
    · simp [dfa, k, nxt, table, acc, dfa_power, d, s]; omega
    · simp [dfa, k, nxt, table, acc, dfa_power, isD, isS]; omega
    · simp [dfa, k, nxt, table, isD, isS]
    · simp [dfa, k, nxt, table, d, s]
    · simp [dfa, k, nxt, table, isS, dfa_sign, acc]
    · simp [dfa, k, nxt, table, isS, dfa_sign, acc]
    · simp [dfa, k, d, s]
theorem letter_exp (c : UInt8) (r : List UInt8) (h : isE c = true) (p : Nat) : dfa 6 (p + 1) p r = p + expLen (c :: r) := by
  rw [dfa_letter]
  cases r with
  | nil => simp [expLen, h]
  | cons d q =>
    simp only [expLen, h, if_true]
    by_cases s : isS d <;> simp only [s, if_true, if_false, Bool.false_eq_true]
    · split <;> omega
    · split <;> omega
theorem exp_no (c : UInt8) (r : List UInt8) (h : isE c = false) : expLen (c :: r) = 0 := by simp [expLen, h]
theorem dfa_part (l : List UInt8) : ∀ p, dfa 5 p p l = p + run l + expLen (l.drop (run l)) := by
  induction l with
  | nil => intro p; rfl
  | cons c r ih =>
    intro p
    rcases kinds c with ⟨k, d, _, _, _, _, s⟩ | ⟨k, rfl⟩ | ⟨k, rfl⟩ | ⟨k, e, d, _, _, _, s⟩ | ⟨k, rfl⟩ | ⟨k, rfl⟩ | ⟨k, d, e, s, _⟩
    · rw [drop_run _ _ d, run_cons, if_pos d]
      simp [dfa, k, nxt, table, acc, ih]; omega
    · rw [drop_run _ _ (by decide), run_cons, if_pos (by decide)]
      simp [dfa, k, nxt, table, acc, ih]; omega
    · rw [run_cons, if_neg (by decide), List.drop_zero, exp_no _ _ (by decide)]
      simp [dfa, k, nxt, table]
    · rw [run_cons, if_neg (by simp [d]), List.drop_zero, ← letter_exp c r e]
      simp [dfa, k, nxt, table, acc]
    · rw [run_cons, if_neg (by decide), List.drop_zero, exp_no _ _ (by decide)]
      simp [dfa, k, nxt, table]
    · rw [run_cons, if_neg (by decide), List.drop_zero, exp_no _ _ (by decide)]
      simp [dfa, k, nxt, table]
    · rw [run_cons, if_neg (by simp [d]), List.drop_zero, exp_no _ _ e]
      simp [dfa, k]
theorem dfa_point (p e : Nat) (l : List UInt8) : dfa 4 p e l = if hd l then p + run l + expLen (l.drop (run l)) else e := by
  cases l with
  | nil => rfl
  | cons c r =>
    rw [hd_cons]
    rcases kinds c with ⟨k, d, _⟩ | ⟨k, rfl⟩ | ⟨k, rfl⟩ | ⟨k, _, d, _⟩ | ⟨k, rfl⟩ | ⟨k, rfl⟩ | ⟨k, d, _⟩
    · rw [drop_run _ _ d, run_cons, if_pos d, if_pos d]
      simp [dfa, k, nxt, table, acc, dfa_part]; omega
    · rw [drop_run _ _ (by decide), run_cons, if_pos (by decide), if_pos (by decide)]
      simp [dfa, k, nxt, table, acc, dfa_part]; omega
    · simp [dfa, k, nxt, table, isD]
    · simp [dfa, k, nxt, table, d]
    · simp [dfa, k, nxt, table, isD]
    · simp [dfa, k, nxt, table, isD]
    · simp [dfa, k, d]
theorem dfa_nought (p : Nat) (l : List UInt8) : dfa 2 p p l = p + tailLen l := by
  cases l with
  | nil => rfl
  | cons c r =>
    rcases kinds c with ⟨k, d, _, _, n, e, s⟩ | ⟨k, rfl⟩ | ⟨k, rfl⟩ | ⟨k, e, d, _, _, n, s⟩ | ⟨k, rfl⟩ | ⟨k, rfl⟩ | ⟨k, d, e, s, _, _, n⟩
    · simp [dfa, k, nxt, table, tailLen, n, exp_no _ _ e]
    · simp [dfa, k, nxt, table, tailLen, exp_no _ _ (show isE 48 = false by decide)]
    · rw [show dfa 2 p p (46 :: r) = dfa 4 (p + 1) p r by simp [dfa, k, nxt, table, acc], dfa_point]
      simp only [tailLen, beq_self_eq_true, if_true]
      split <;> omega
    · simp [dfa, k, nxt, table, acc, tailLen, n, letter_exp c r e]
    · simp [dfa, k, nxt, table, tailLen, exp_no _ _ (show isE 43 = false by decide)]
    · simp [dfa, k, nxt, table, tailLen, exp_no _ _ (show isE 45 = false by decide)]
    · simp [dfa, k, tailLen, n, exp_no _ _ e]
theorem dfa_whole (l : List UInt8) : ∀ p, dfa 3 p p l = p + run l + tailLen (l.drop (run l)) := by
  induction l with
  | nil => intro p; rfl
  | cons c r ih =>
    intro p
    rcases kinds c with ⟨k, d, _, _, n, e, s⟩ | ⟨k, rfl⟩ | ⟨k, rfl⟩ | ⟨k, e, d, _, _, n, s⟩ | ⟨k, rfl⟩ | ⟨k, rfl⟩ | ⟨k, d, e, s, _, _, n⟩
    · rw [drop_run _ _ d, run_cons, if_pos d]
      simp [dfa, k, nxt, table, acc, ih]; omega
    · rw [drop_run _ _ (by decide), run_cons, if_pos (by decide)]
      simp [dfa, k, nxt, table, acc, ih]; omega
    · rw [run_cons, if_neg (by decide), List.drop_zero]
      rw [show dfa 3 p p (46 :: r) = dfa 4 (p + 1) p r by simp [dfa, k, nxt, table, acc], dfa_point]
      simp only [tailLen, beq_self_eq_true, if_true]
      split <;> omega
    · rw [run_cons, if_neg (by simp [d]), List.drop_zero]
      simp [dfa, k, nxt, table, acc, tailLen, n, letter_exp c r e]
    · rw [run_cons, if_neg (by decide), List.drop_zero]
      simp [dfa, k, nxt, table, tailLen, exp_no _ _ (show isE 43 = false by decide)]
    · rw [run_cons, if_neg (by decide), List.drop_zero]
      simp [dfa, k, nxt, table, tailLen, exp_no _ _ (show isE 45 = false by decide)]
    · rw [run_cons, if_neg (by simp [d]), List.drop_zero]
      simp [dfa, k, tailLen, n, exp_no _ _ e]
theorem dfa_body (q : Nat) (hq : q = 0 ∨ q = 1) (p : Nat) (l : List UInt8) (hl : q = 0 → ∀ r, l ≠ 45 :: r) : dfa q p 0 l = if bodyLen l = 0 then 0 else p + bodyLen l := by
  cases l with
  | nil => rfl
  | cons c r =>
    rcases kinds c with ⟨k, d, z, _, n, e, s⟩ | ⟨k, rfl⟩ | ⟨k, rfl⟩ | ⟨k, e, d, z, _, n, s⟩ | ⟨k, rfl⟩ | ⟨k, rfl⟩ | ⟨k, d, e, s, z, _, n⟩
    · have hb : bodyLen (c :: r) = 1 + run r + tailLen (r.drop (run r)) := by
        simp only [bodyLen, beq_iff_eq, z, if_false, d, if_true, drop_run _ _ d]
        rw [run_cons, if_pos d]
      rw [hb, if_neg (by omega)]
      rcases hq with rfl | rfl <;> simp [dfa, k, nxt, table, acc, dfa_whole] <;> omega
    · have hb : bodyLen (48 :: r) = 1 + tailLen r := by simp [bodyLen]
      rw [hb, if_neg (by omega)]
      rcases hq with rfl | rfl <;> simp [dfa, k, nxt, table, acc, dfa_nought] <;> omega
    · have hb : bodyLen (46 :: r) = 0 := by simp [bodyLen, isD]
      rw [hb]
      rcases hq with rfl | rfl <;> simp [dfa, k, nxt, table]
    · have hb : bodyLen (c :: r) = 0 := by simp [bodyLen, d, z]
      rw [hb]
      rcases hq with rfl | rfl <;> simp [dfa, k, nxt, table]
    · have hb : bodyLen (43 :: r) = 0 := by simp [bodyLen, isD]
      rw [hb]
      rcases hq with rfl | rfl <;> simp [dfa, k, nxt, table]
    · have hb : bodyLen (45 :: r) = 0 := by simp [bodyLen, isD]
      rw [hb]
      rcases hq with rfl | rfl
      · exact absurd rfl (hl rfl r)
      · simp [dfa, k, nxt, table]
    · have hb : bodyLen (c :: r) = 0 := by simp [bodyLen, d, z]
      rw [hb]
      simp [dfa, k]
/-- THE TABLE OF STATES SCANS AS THE DOCUMENT SAYS. -/
theorem dfa_scan (l : List UInt8) : dfa 0 0 0 l = scan l := by
  cases l with
  | nil => rfl
  | cons c r =>
    by_cases h : c = 45
    · subst h
      have h1 : dfa 0 0 0 (45 :: r) = dfa 1 1 0 r := by simp [dfa, nxt, table, acc, show kind 45 = 5 from by decide]
      rw [h1, dfa_body 1 (.inr rfl) 1 r (by simp)]
      simp [scan]
    · rw [dfa_body 0 (.inl rfl) 0 _ (fun _ q hq => h (by injection hq))]
      simp [scan, h]
      omega
end Go.Proofs.NumPlain
