/- Plain: a number as a whole one of 64 bits. -/
import Derived.Test.YtffcmfhicefahaaDoorNumMove
import Derived.Lib.ParseIntB
import Derived.Lib.ItoaLen
namespace Go.Proofs.NumPlain

def val (acc : Nat) (l : List UInt8) : Nat := l.foldl (fun b c => 10 * b + (c.toNat - 48)) acc
theorem val_cons (acc : Nat) (c : UInt8) (r : List UInt8) : val acc (c :: r) = val (10 * acc + (c.toNat - 48)) r := by unfold val; rw [List.foldl_cons]
theorem val_ge (l : List UInt8) : ∀ acc, acc * 10 ^ l.length ≤ val acc l := by
  induction l with
  | nil => intro acc; simp [val]
  | cons c r ih =>
    intro acc
    rw [val_cons, List.length_cons, Nat.pow_succ]
    refine Nat.le_trans ?_ (ih _)
    rw [Nat.mul_comm (10 ^ r.length) 10, ← Nat.mul_assoc]
    exact Nat.mul_le_mul_right _ (by omega)
theorem val_le (l : List UInt8) (acc : Nat) : acc ≤ val acc l := by
  refine Nat.le_trans ?_ (val_ge l acc)
  exact Nat.le_mul_of_pos_right _ (Nat.pow_pos (by omega))
/-- Digit by digit, as long as 64 bits hold it. -/
def runM (M : Nat) : Nat → List UInt8 → Option Nat
  | acc, [] => some acc
  | acc, c :: r => if acc * 10 + (c.toNat - 48) < M then runM M (acc * 10 + (c.toNat - 48)) r else none
theorem runM_eq (M : Nat) (l : List UInt8) : ∀ acc, acc < M → runM M acc l = if val acc l < M then some (val acc l) else none := by
  induction l with
  | nil => intro acc h; rw [show val acc [] = acc from rfl, if_pos h]; rfl
  | cons c r ih =>
    intro acc h
    unfold runM
    rw [val_cons]
    split
    · rename_i h1
      rw [ih _ h1, Nat.mul_comm acc 10]
    · rename_i h1
      have := val_le r (10 * acc + (c.toNat - 48))
      rw [if_neg (by omega)]
def run64 (acc : Nat) (l : List UInt8) : Option Nat := runM 18446744073709551616 acc l
theorem run64_eq (l : List UInt8) (acc : Nat) (h : acc < 18446744073709551616) : run64 acc l = if val acc l < 18446744073709551616 then some (val acc l) else none := runM_eq _ l acc h
theorem run64_cons (acc : Nat) (c : UInt8) (r : List UInt8) : run64 acc (c :: r) = if acc * 10 + (c.toNat - 48) < 18446744073709551616 then run64 (acc * 10 + (c.toNat - 48)) r else none := by
  unfold run64
  rw [runM]
theorem parse_run (l : List UInt8) : ∀ acc, acc < 18446744073709551616 → dig l → Lib.parseUintM 18446744073709551615 acc l = match run64 acc l with | some v => .ok v | none => .range := by
  induction l with
  | nil => intro acc h _; rfl
  | cons c r ih =>
    intro acc h hd
    have hc := hd c (List.mem_cons_self ..)
    have hb : 48 ≤ c.toNat ∧ c.toNat ≤ 57 := by
      have := all_u8 (fun c => !isD c || (decide (48 ≤ c.toNat) && decide (c.toNat ≤ 57))) (by decide +kernel) c
      rw [hc] at this
      simpa using this
    rw [run64_cons]
    unfold Lib.parseUintM
    rw [if_pos hb]
    by_cases h1 : acc * 10 + (c.toNat - 48) < 18446744073709551616
    · rw [if_pos h1, if_neg (by omega), if_neg (by omega)]
      exact ih _ h1 (fun d hd' => hd d (List.mem_cons_of_mem _ hd'))
    · rw [if_neg h1]
      split
      · rfl
      · rw [if_pos (by omega)]
/-- The digits that the document's definition goes over. -/
def digs (n : Nm) : List UInt8 := n.dig ++ List.replicate n.exp.toNat 48
/-- Neither wrong nor below nothing nor with digits behind the point. -/
def fits (n : Nm) : Bool := right n && !n.neg && decide (0 ≤ n.exp) && decide (n.exp ≤ 20)
def whole (n : Nm) : Option Nat := if fits n = true then run64 0 (digs n) else none
theorem digs_dig (n : Nm) (h : right n = true) : dig (digs n) := by
  unfold digs
  refine dig_append ?_ (dig_replicate _)
  by_cases h0 : n.dig = []
  · rw [h0]; intro c hc; cases hc
  · exact (right_rd n h h0).dig
/-- As the program has it: parsed from its print. -/
theorem whole_print (n : Nm) (h : fits n = true) : Lib.parseUintB 64 (print n) = match run64 0 (digs n) with | some v => .ok v | none => .range := by
  unfold fits at h
  simp only [Bool.and_eq_true, Bool.not_eq_true', decide_eq_true_eq] at h
  obtain ⟨⟨⟨h1, h2⟩, h3⟩, h4⟩ := h
  unfold Lib.parseUintB
  by_cases h0 : n.dig = []
  · have hz := right_zero n h1 h0
    subst hz
    rfl
  · have hp : print n = digs n := by
      rw [print_some n h1 h0, h2]
      obtain ⟨e, he⟩ : ∃ e : Nat, n.exp = e := ⟨n.exp.toNat, by omega⟩
      have := mid_small n.neg n.dig e (by omega)
      unfold digs
      rw [show n = ⟨n.neg, n.dig, n.exp⟩ from rfl, he, this]
      simp [sgText]
    have hne : digs n ≠ [] := by unfold digs; simp [h0]
    rw [hp, if_neg hne]
    exact parse_run _ 0 (by omega) (digs_dig n h1)
/-- More than twenty digits: more than 64 bits. -/
theorem whole_long (n : Nm) (h : right n = true) (h3 : 0 ≤ n.exp) (hl : 20 < n.exp + n.dig.length) : run64 0 (digs n) = none := by
  rw [run64_eq _ 0 (by omega), if_neg]
  have h0 : n.dig ≠ [] := by
    intro e
    rw [right_zero n h e] at hl
    revert hl; decide
  obtain ⟨c, q, hc, hgt⟩ := (right_rt n h h0).head
  have hlen : (digs n).length = n.dig.length + n.exp.toNat := by unfold digs; rw [List.length_append, List.length_replicate]
  have hd : digs n = c :: (q ++ List.replicate n.exp.toNat 48) := by unfold digs; rw [hc, List.cons_append]
  rw [hd] at hlen ⊢
  rw [val_cons]
  rw [List.length_cons] at hlen
  have h1 := val_ge (q ++ List.replicate n.exp.toNat 48) (10 * 0 + (c.toNat - 48))
  have h2 : 10 ^ 20 ≤ 10 ^ (q ++ List.replicate n.exp.toNat (48 : UInt8)).length := Nat.pow_le_pow_right (by omega) (by omega)
  have h4 : 1 ≤ 10 * 0 + (c.toNat - 48) := by
    have := UInt8.lt_iff_toNat_lt.1 hgt
    have e : (48 : UInt8).toNat = 48 := rfl
    omega
  have h5 := Nat.mul_le_mul h4 h2
  have h6 : (1 * 10 ^ 20 : Nat) = 100000000000000000000 := by decide
  omega
theorem rtrim_split (l : List UInt8) : l = rtrim l ++ List.replicate (l.length - (rtrim l).length) 48 := by
  induction l using snoc_ind with
  | h0 => rfl
  | h1 l c ih =>
    rw [rtrim_snoc]
    split
    · rename_i h
      subst h
      have := rtrim_le l
      have e : (l ++ [(48 : UInt8)]).length - (rtrim l).length = (l.length - (rtrim l).length) + 1 := by rw [List.length_append]; simp; omega
      rw [e, List.replicate_succ', ← List.append_assoc, ← ih]
    · rw [Nat.sub_self]; simp
/-- A whole number's own. -/
def ofN (v : Nat) : Nm := (fin false (Lib.decDigits v) 0).1
theorem of_err (v : Nat) (h : v < 18446744073709551616) : fin false (Lib.decDigits v) 0 = (ofN v, 0) := by
  have h1 := fin_ok (Lib.decDigits v) (dec_dig v).1 (by
    rw [Lib.decDigits_length]
    have := Lib.nDigits_le20 v h
    omega)
  exact Prod.ext rfl h1
theorem of_whole (v : Nat) (h : v < 18446744073709551616) : fits (ofN v) = true ∧ run64 0 (digs (ofN v)) = some v := by
  have hlen : (Lib.decDigits v).length ≤ 20 := by rw [Lib.decDigits_length]; exact Lib.nDigits_le20 v h
  have herr := of_err v h
  obtain ⟨hd, hne, hval⟩ := dec_dig v
  rcases dec_head v with h0 | h0
  · have hv : v = 0 := by rw [← hval, h0]; decide
    subst hv
    have : ofN 0 = zero := by unfold ofN; rw [h0]; decide
    rw [this]
    exact ⟨by decide, rfl⟩
  · cases hc : Lib.decDigits v with
    | nil => exact absurd hc hne
    | cons c q =>
      have hc48 : c ≠ 48 := by rw [hc] at h0; simpa using h0
      have hlt : ltrim (Lib.decDigits v) = Lib.decDigits v := by rw [hc, ltrim_head c q hc48]
      have hsp := rtrim_split (Lib.decDigits v)
      have hrt : rtrim (Lib.decDigits v) ≠ [] := by
        intro e
        rw [e, List.nil_append] at hsp
        rw [hc] at hsp
        have : (c :: q).head? = some c := rfl
        rw [hsp] at this
        rw [List.length_cons, List.length_nil, Nat.sub_zero, List.replicate_succ] at this
        exact hc48 (Option.some.inj this).symm
      have hle := rtrim_le (Lib.decDigits v)
      have hof : ofN v = ⟨false, rtrim (Lib.decDigits v), (((Lib.decDigits v).length - (rtrim (Lib.decDigits v)).length : Nat) : Int)⟩ ∧ right (ofN v) = true := by
        have h2 := herr
        unfold fin at h2
        rw [hlt, if_neg hrt] at h2
        have e : (0 : Int) + (((Lib.decDigits v).length : Int) - ((rtrim (Lib.decDigits v)).length : Int)) = (((Lib.decDigits v).length - (rtrim (Lib.decDigits v)).length : Nat) : Int) := by omega
        rw [e] at h2
        split at h2
        · rename_i hr
          have h3 := (Prod.mk.inj h2).1
          rw [← h3]
          exact ⟨rfl, hr⟩
        · cases (Prod.mk.inj h2).2
      obtain ⟨ho, hr⟩ := hof
      have hdg : digs (ofN v) = Lib.decDigits v := by
        rw [ho]
        unfold digs
        simp only [Int.toNat_natCast]
        exact hsp.symm
      refine ⟨?_, ?_⟩
      · unfold fits
        rw [hr, ho]
        simp only [Bool.not_false, Bool.and_true, Bool.true_and, Bool.and_eq_true, decide_eq_true_eq]
        omega
      · rw [hdg, run64_eq _ 0 (by omega)]
        have : val 0 (Lib.decDigits v) = v := hval
        rw [this, if_pos h]
end Go.Proofs.NumPlain
namespace Go.Proofs.NumPlain
theorem at_digs (n : Nm) (e : Nat) (he : n.exp = e) (j : Nat) (hj : j < n.dig.length + e) : at' n ((n.dig.length : Int) + e - 1 - j) = (digs n).getD j 48 := by
  unfold at' digs
  rw [he]
  simp only [Int.toNat_natCast]
  by_cases h : j < n.dig.length
  · rw [if_neg (by omega), show ((n.dig.length : Int) - 1 - ((n.dig.length : Int) + e - 1 - j - e)).toNat = j by omega]
    simp only [List.getD, List.getElem?_append_left h]
  · rw [if_pos (by omega)]
    have hr : (List.replicate e (48 : UInt8))[j - n.dig.length]? = some 48 := by
      rw [List.getElem?_replicate, if_pos (by omega)]
    simp only [List.getD, List.getElem?_append_right (Nat.le_of_not_lt h), hr, Option.getD_some]
theorem digs_drop (n : Nm) (j : Nat) (hj : j < (digs n).length) : (digs n).drop j = (digs n).getD j 48 :: (digs n).drop (j + 1) := by
  rw [List.drop_eq_getElem_cons hj]
  simp only [List.getD, List.getElem?_eq_getElem hj, Option.getD_some]
theorem digs_length (n : Nm) (e : Nat) (he : n.exp = e) : (digs n).length = n.dig.length + e := by
  unfold digs; rw [List.length_append, List.length_replicate, he, Int.toNat_natCast]
theorem digs_isD (n : Nm) (h : right n = true) (j : Nat) : 48 ≤ ((digs n).getD j 48).toNat ∧ ((digs n).getD j 48).toNat ≤ 57 := by
  have key : isD ((digs n).getD j 48) = true := by
    by_cases hj : j < (digs n).length
    · simp only [List.getD, List.getElem?_eq_getElem hj, Option.getD_some]
      exact digs_dig n h _ (List.getElem_mem hj)
    · simp only [List.getD, List.getElem?_eq_none (Nat.le_of_not_lt hj), Option.getD_none]
      decide
  have := all_u8 (fun c => !isD c || (decide (48 ≤ c.toNat) && decide (c.toNat ≤ 57))) (by decide +kernel) ((digs n).getD j 48)
  rw [key] at this
  simpa using this
/-- Nothing for nought. -/
def dec0 (m : Nat) : List UInt8 := if m = 0 then [] else Lib.decDigits m
theorem dec0_step (m : Nat) (h : 0 < m) : dec0 m = dec0 (m / 10) ++ [UInt8.ofNat (48 + m % 10)] := by
  unfold dec0
  rw [if_neg (by omega)]
  by_cases h1 : m < 10
  · rw [if_pos (by omega), Lib.decDigits_one h1, show m % 10 = m by omega]; rfl
  · rw [if_neg (by omega)]
    conv => lhs; rw [Lib.decDigits, dif_neg h1]
theorem dec0_len (v : Nat) (h : v < 18446744073709551616) : (dec0 v).length ≤ 20 := by
  unfold dec0
  split
  · simp
  · rw [Lib.decDigits_length]; exact Lib.nDigits_le20 v h
end Go.Proofs.NumPlain
