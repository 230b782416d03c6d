import Derived.Test.YtdfihhebgllpcaaGreatDoorAo02
import Derived.Lib.Repeat
import Derived.Lib.ItoaMem
import Derived.Lib.ParseIntB
import Derived.Lib.ItoaLen
import Derived.Test.YtdfihhebgllpcaaGreatDoorAo03
import Derived.Test.YtdfihhebgllpcaaGreatDoorAo16

/- What a number's print is. -/
namespace Go.Proofs.NumPlain
def mid (n : Nm) : List UInt8 :=
  if 0 ≤ n.exp ∧ n.exp ≤ 20 then n.dig ++ List.replicate n.exp.toNat 48
  else if 20 < -n.exp ∨ -n.exp < 0 then n.dig ++ 101 :: Lib.itoa n.exp
  else if -n.exp < n.dig.length then n.dig.take (n.dig.length - (-n.exp).toNat) ++ 46 :: n.dig.drop (n.dig.length - (-n.exp).toNat)
  else 48 :: 46 :: (List.replicate ((-n.exp).toNat - n.dig.length) 48 ++ n.dig)
def print (n : Nm) : List UInt8 := if right n = false then [] else if n.dig = [] then [48] else sgText n.neg ++ mid n
theorem print_wrong (n : Nm) (h : right n = false) : print n = [] := by unfold print; rw [if_pos h]
theorem print_zero (n : Nm) (h : right n = true) (h0 : n.dig = []) : print n = [48] := by unfold print; rw [if_neg (by rw [h]; decide), if_pos h0]
theorem print_some (n : Nm) (h : right n = true) (h0 : n.dig ≠ []) : print n = sgText n.neg ++ mid n := by unfold print; rw [if_neg (by rw [h]; decide), if_neg h0]
theorem mid_small (neg : Bool) (l : List UInt8) (e : Nat) (h : e ≤ 20) : mid ⟨neg, l, e⟩ = l ++ List.replicate e 48 := by
  unfold mid; rw [if_pos ⟨by simp, by simp; omega⟩]; simp
theorem mid_power (neg : Bool) (l : List UInt8) (x : Int) (h : 20 < x ∨ x < -20) : mid ⟨neg, l, x⟩ = l ++ 101 :: Lib.itoa x := by
  unfold mid; rw [if_neg (by simp; omega), if_pos (by simp; omega)]
theorem mid_point (neg : Bool) (l : List UInt8) (m q : Nat) (h1 : 1 ≤ m) (h2 : m ≤ 20) (h3 : l.length = q + m) (h4 : 1 ≤ q) : mid ⟨neg, l, -m⟩ = l.take q ++ 46 :: l.drop q := by
  unfold mid; rw [if_neg (by simp; omega), if_neg (by simp; omega), if_pos (by simp; omega)]
  simp only [Int.neg_neg, Int.toNat_natCast, show l.length - m = q by omega]
theorem mid_behind (neg : Bool) (l : List UInt8) (m q : Nat) (h1 : 1 ≤ m) (h2 : m ≤ 20) (h3 : m = q + l.length) : mid ⟨neg, l, -m⟩ = 48 :: 46 :: (List.replicate q 48 ++ l) := by
  unfold mid; rw [if_neg (by simp; omega), if_neg (by simp; omega), if_neg (by simp; omega)]
  simp only [Int.neg_neg, Int.toNat_natCast, show m - l.length = q by omega]
theorem repeat_nought (c : Nat) : Lib.repeatL [48] c = List.replicate c 48 := by
  have := Lib.repeatL_replicate 48 1 c
  simpa using this
end Go.Proofs.NumPlain

/- Plain: a right number's print is a number's text, and its number is the number. -/
namespace Go.Proofs.NumPlain

theorem ltrim_head (c : UInt8) (q : List UInt8) (h : c ≠ 48) : ltrim (c :: q) = c :: q := by
  unfold ltrim; rw [List.dropWhile_cons_of_neg (by simpa using h)]
theorem ltrim_noughts (k : Nat) (l : List UInt8) : ltrim (List.replicate k 48 ++ l) = ltrim l := by
  unfold ltrim
  induction k with
  | zero => rfl
  | succ k ih => rw [List.replicate_succ, List.cons_append, List.dropWhile_cons_of_pos (by rfl), ih]
theorem rtrim_keep (l : List UInt8) (h : l.getLast? ≠ some 48) : rtrim l = l := by
  unfold rtrim
  cases e : l.reverse with
  | nil => rw [← List.reverse_reverse l, e]; rfl
  | cons c q =>
    have hc : c ≠ 48 := by
      intro hc
      apply h
      rw [← List.reverse_reverse l, e, hc]
      simp
    rw [List.dropWhile_cons_of_neg (by simpa using hc), ← e, List.reverse_reverse]
theorem rtrim_noughts (l : List UInt8) (k : Nat) (h : l.getLast? ≠ some 48) : rtrim (l ++ List.replicate k 48) = l := by
  have : rtrim (l ++ List.replicate k 48) = rtrim l := by
    unfold rtrim
    rw [List.reverse_append, List.reverse_replicate]
    have := ltrim_noughts k l.reverse
    unfold ltrim at this
    rw [this]
  rw [this, rtrim_keep l h]
structure Rd (l : List UInt8) : Prop where
  ne : l ≠ []
  dig : dig l
  head : ∃ c q, l = c :: q ∧ c ≠ 48
  last : l.getLast? ≠ some 48
theorem right_rd (n : Nm) (h : right n = true) (h0 : n.dig ≠ []) : Rd n.dig := by
  obtain ⟨neg, l, exp⟩ := n
  rw [right_some neg l exp h0] at h
  simp only [Bool.and_eq_true, decide_eq_true_eq, bne_iff_ne] at h
  obtain ⟨⟨⟨⟨⟨h1, h2⟩, h3⟩, h4⟩, h5⟩, h6⟩ := h
  refine ⟨h0, List.all_eq_true.1 h2, ?_, h4⟩
  cases l with
  | nil => exact absurd rfl h0
  | cons c q => exact ⟨c, q, rfl, fun e => h3 (by rw [e]; rfl)⟩
/-- A sign, noughts, the digits, noughts. -/
theorem fin_right (n : Nm) (h : right n = true) (h0 : n.dig ≠ []) (k e : Nat) (x : Int) (hx : x + e = n.exp) : fin n.neg (List.replicate k 48 ++ (n.dig ++ List.replicate e 48)) x = (n, 0) := by
  have r := right_rd n h h0
  obtain ⟨c, q, hc, hne⟩ := r.head
  have e1 : ltrim (List.replicate k 48 ++ (n.dig ++ List.replicate e 48)) = n.dig ++ List.replicate e 48 := by
    rw [ltrim_noughts, hc, List.cons_append, ltrim_head c _ hne]
  unfold fin
  rw [e1, rtrim_noughts _ _ r.last, if_neg h0]
  have e2 : x + (((n.dig ++ List.replicate e 48).length : Int) - (n.dig.length : Int)) = n.exp := by
    rw [List.length_append, List.length_replicate]; omega
  rw [e2]
  rw [if_pos (by exact h)]
theorem dig_replicate (k : Nat) : dig (List.replicate k 48) := fun c hc => by
  rw [(List.mem_replicate.1 hc).2]; rfl
theorem dig_append {l m : List UInt8} (h : dig l) (h' : dig m) : dig (l ++ m) := fun c hc => by
  rcases List.mem_append.1 hc with h1 | h1
  · exact h c h1
  · exact h' c h1
theorem dec_dig : ∀ u : Nat, dig (Lib.decDigits u) ∧ Lib.decDigits u ≠ [] ∧ valN (Lib.decDigits u) = u := by
  intro u
  induction u using Nat.strongRecOn with
  | _ u ih =>
    have hb : ∀ k, k < 10 → isD (UInt8.ofNat (48 + k)) = true ∧ (UInt8.ofNat (48 + k)).toNat - 48 = k := by decide
    rw [Lib.decDigits]
    by_cases h : u < 10
    · rw [dif_pos h]
      refine ⟨fun c hc => ?_, by simp, ?_⟩
      · rw [List.mem_singleton.1 hc]; exact (hb u h).1
      · show 10 * 0 + ((UInt8.ofNat (48 + u)).toNat - 48) = u
        rw [(hb u h).2]; omega
    · rw [dif_neg h]
      obtain ⟨h1, _, h3⟩ := ih (u / 10) (by omega)
      refine ⟨dig_append h1 (fun c hc => ?_), by simp, ?_⟩
      · rw [List.mem_singleton.1 hc]; exact (hb _ (by omega)).1
      · rw [valN_snoc, h3, (hb _ (by omega)).2]; omega
theorem valP_dec (u : Nat) (h : u ≤ 1000000) : valP (Lib.decDigits u) = u := by
  rw [valP_eq, (dec_dig u).2.2]; omega
/-- A right number's print, as a text in parts. -/
theorem print_text (n : Nm) (h : right n = true) : ∃ (I : List UInt8) (pt : Bool) (F : List UInt8) (ex : Ex),
    Good I pt F ex ∧ print n = render n.neg I pt F ex ∧ (I = [48] ∨ I.head? ≠ some 48) ∧ fin n.neg (I ++ F) (-(F.length : Int) + ex.val valP) = (n, 0) := by
  by_cases h0 : n.dig = []
  · have hz := right_zero n h h0
    subst hz
    exact ⟨[48], false, [], .no, ⟨by unfold dig; decide, by decide, by unfold dig; decide, by decide, by decide, trivial⟩, by decide, .inl rfl, by decide⟩
  · have r := right_rd n h h0
    have rt := right_rt n h h0
    obtain ⟨c, q, hc, hne⟩ := r.head
    have hhead : ∀ l, (n.dig ++ l).head? ≠ some 48 := by
      intro l
      rw [hc, List.cons_append]
      simpa using hne
    rw [print_some n h h0]
    have h3 := rt.hi
    have h4 := rt.lo
    by_cases c1 : 0 ≤ n.exp ∧ n.exp ≤ 20
    · obtain ⟨e, he⟩ : ∃ e : Nat, n.exp = e := ⟨n.exp.toNat, by omega⟩
      refine ⟨n.dig ++ List.replicate e 48, false, [], .no, ⟨dig_append r.dig (dig_replicate e), by rw [hc]; simp, by unfold dig; simp, by simp, fun _ => rfl, trivial⟩, ?_, .inr (hhead _), ?_⟩
      · have := mid_small n.neg n.dig e (by omega)
        rw [show n = ⟨n.neg, n.dig, n.exp⟩ from rfl, he, this]
        simp [render, ptText, Ex.text]
      · have := fin_right n h h0 0 e 0 (by omega)
        simpa [Ex.val] using this
    · by_cases c2 : 20 < -n.exp ∨ -n.exp < 0
      · have hm := mid_power n.neg n.dig n.exp (by omega)
        by_cases c3 : n.exp < 0
        · obtain ⟨u, hu⟩ : ∃ u : Nat, n.exp = -(u : Int) := ⟨(-n.exp).toNat, by omega⟩
          refine ⟨n.dig, false, [], .some 101 [45] (Lib.decDigits u), ⟨r.dig, h0, by unfold dig; simp, by simp, fun _ => rfl, rfl, .inr (.inr rfl), (dec_dig u).2.1, (dec_dig u).1⟩, ?_, .inr (by have := hhead []; rwa [List.append_nil] at this), ?_⟩
          · rw [hm, hu, Lib.itoa_neg u (by omega)]
            simp [render, ptText, Ex.text]
          · have := fin_right n h h0 0 0 n.exp (by omega)
            simp only [Ex.val, if_true, valP_dec u (by omega)]
            rw [← hu]
            simpa using this
        · obtain ⟨u, hu⟩ : ∃ u : Nat, n.exp = (u : Int) := ⟨n.exp.toNat, by omega⟩
          refine ⟨n.dig, false, [], .some 101 [] (Lib.decDigits u), ⟨r.dig, h0, by unfold dig; simp, by simp, fun _ => rfl, rfl, .inl rfl, (dec_dig u).2.1, (dec_dig u).1⟩, ?_, .inr (by have := hhead []; rwa [List.append_nil] at this), ?_⟩
          · rw [hm, hu, Lib.itoa_nonneg u]
            simp [render, ptText, Ex.text]
          · have := fin_right n h h0 0 0 n.exp (by omega)
            simp only [Ex.val, valP_dec u (by omega), show ¬ (([] : List UInt8) = [45]) from by decide, if_false]
            rw [← hu]
            simpa using this
      · obtain ⟨m, hm⟩ : ∃ m : Nat, n.exp = -(m : Int) := ⟨(-n.exp).toNat, by omega⟩
        by_cases c3 : m < n.dig.length
        · obtain ⟨k, hk⟩ : ∃ k : Nat, n.dig.length = k + m := ⟨n.dig.length - m, by omega⟩
          have hmd := mid_point n.neg n.dig m k (by omega) (by omega) hk (by omega)
          refine ⟨n.dig.take k, true, n.dig.drop k, .no, ⟨fun c hc => r.dig c (List.mem_of_mem_take hc), ?_, fun c hc => r.dig c (List.mem_of_mem_drop hc), fun _ => ?_, by simp, trivial⟩, ?_, .inr ?_, ?_⟩
          · intro e
            have := congrArg List.length e
            rw [List.length_take, List.length_nil] at this
            omega
          · intro e
            have := congrArg List.length e
            rw [List.length_drop, List.length_nil] at this
            omega
          · rw [show n = ⟨n.neg, n.dig, n.exp⟩ from rfl, hm, hmd]
            simp [render, ptText, Ex.text]
          · rw [hc]
            obtain ⟨k', rfl⟩ : ∃ k', k = k' + 1 := ⟨k - 1, by omega⟩
            rw [List.take_succ_cons]
            simpa using hne
          · rw [List.take_append_drop, List.length_drop]
            have := fin_right n h h0 0 0 (-(m : Int)) (by omega)
            have hl : ((n.dig.length - k : Nat) : Int) = (m : Int) := by omega
            rw [hl]
            simpa [Ex.val] using this
        · obtain ⟨k, hk⟩ : ∃ k : Nat, m = k + n.dig.length := ⟨m - n.dig.length, by omega⟩
          have hmd := mid_behind n.neg n.dig m k (by omega) (by omega) hk
          refine ⟨[48], true, List.replicate k 48 ++ n.dig, .no, ⟨by unfold dig; decide, by decide, dig_append (dig_replicate k) r.dig, fun _ => by rw [hc]; simp, by simp, trivial⟩, ?_, .inl rfl, ?_⟩
          · rw [show n = ⟨n.neg, n.dig, n.exp⟩ from rfl, hm, hmd]
            simp [render, ptText, Ex.text]
          · have := fin_right n h h0 (k + 1) 0 (-(m : Int)) (by omega)
            rw [List.replicate_succ, List.replicate_zero, List.append_nil] at this
            have hl : (((List.replicate k (48 : UInt8) ++ n.dig).length : Nat) : Int) = (m : Int) := by rw [List.length_append, List.length_replicate, hk]
            rw [hl]
            simpa [Ex.val] using this
end Go.Proofs.NumPlain

/- Plain: a number that is written otherwise. -/
namespace Go.Proofs.NumPlain

theorem rtrim_more (l : List UInt8) (k : Nat) : rtrim (l ++ List.replicate k 48) = rtrim l := by
  unfold rtrim
  rw [List.reverse_append, List.reverse_replicate]
  have := ltrim_noughts k l.reverse
  unfold ltrim at this
  rw [this]
theorem ltrim_nil (l : List UInt8) (h : ltrim l = []) (k : Nat) : ltrim (l ++ List.replicate k 48) = [] := by
  unfold ltrim at h ⊢
  rw [dropWhile_nil] at h ⊢
  rw [List.all_append, h, Bool.true_and, List.all_eq_true]
  intro c hc
  rw [(List.mem_replicate.1 hc).2]; rfl
theorem ltrim_some (l r : List UInt8) (h : ltrim l ≠ []) : ltrim (l ++ r) = ltrim l ++ r := by
  induction l with
  | nil => exact absurd rfl h
  | cons c q ih =>
    by_cases hc : c = 48
    · subst hc
      have e : ∀ m : List UInt8, ltrim (48 :: m) = ltrim m := fun m => ltrim_noughts 1 m
      rw [List.cons_append, e, e]
      rw [e] at h
      exact ih h
    · rw [List.cons_append, ltrim_head c _ hc, ltrim_head c _ hc, List.cons_append]
/-- Noughts ahead, and noughts behind that a power makes up for. -/
theorem fin_shift (neg : Bool) (s : List UInt8) (k e : Nat) (x y : Int) (h : x + e = y) : fin neg (List.replicate k 48 ++ (s ++ List.replicate e 48)) x = fin neg s y := by
  have e1 : ltrim (List.replicate k 48 ++ (s ++ List.replicate e 48)) = ltrim (s ++ List.replicate e 48) := ltrim_noughts _ _
  unfold fin
  rw [e1]
  by_cases h0 : ltrim s = []
  · rw [ltrim_nil s h0 e, h0]
    rw [if_pos (by rfl), if_pos (by rfl)]
  · rw [ltrim_some s _ h0, rtrim_more]
    have e2 : x + (((ltrim s ++ List.replicate e 48).length : Int) - ((rtrim (ltrim s)).length : Int)) = y + (((ltrim s).length : Int) - ((rtrim (ltrim s)).length : Int)) := by
      rw [List.length_append, List.length_replicate]; omega
    rw [e2]
/-- The number of few digits: right. -/
theorem fin_ok (s : List UInt8) (hd : dig s) (hl : s.length ≤ 1000) : (fin false s 0).2 = 0 := by
  have e1 : (ltrim s).length ≤ s.length := ltrim_le s
  have e2 : (rtrim (ltrim s)).length ≤ (ltrim s).length := rtrim_le _
  have hsub : ∀ c ∈ ltrim s, c ∈ s := fun c hc => (List.dropWhile_sublist _).subset hc
  have hsub2 : ∀ c ∈ rtrim (ltrim s), c ∈ ltrim s := fun c hc => by
    unfold rtrim at hc
    have := (List.dropWhile_sublist _).subset (List.mem_reverse.1 hc)
    exact List.mem_reverse.1 this
  unfold fin
  by_cases h : rtrim (ltrim s) = []
  · rw [if_pos h]
  · rw [if_neg h]
    have hh : (rtrim (ltrim s)).head? ≠ some 48 := by
      intro e
      cases hl : ltrim s with
      | nil => rw [hl] at h; exact h rfl
      | cons c q =>
        have hc : c ≠ 48 := by
          have := dropWhile_head (· == 48) s c q hl
          simpa using this
        rw [hl] at e
        have : rtrim (c :: q) = c :: rtrim q := by
          unfold rtrim
          rw [List.reverse_cons]
          cases hq : (q.reverse.dropWhile (· == 48)) with
          | nil =>
            rw [dropWhile_nil] at hq
            rw [List.dropWhile_append_of_pos (List.all_eq_true.1 hq), List.dropWhile_cons_of_neg (by simpa using hc)]
            rfl
          | cons d r =>
            rw [List.dropWhile_append, hq]
            simp
        rw [this] at e
        simp at e
        exact hc e
    have hlast : (rtrim (ltrim s)).getLast? ≠ some 48 := by
      unfold rtrim
      rw [List.getLast?_reverse]
      intro e
      cases hq : ((ltrim s).reverse.dropWhile (· == 48)) with
      | nil => rw [hq] at e; cases e
      | cons c q =>
        have := dropWhile_head (· == 48) _ c q hq
        rw [hq] at e
        simp at e
        rw [e] at this
        simp at this
    have hdg : (rtrim (ltrim s)).all isD = true := List.all_eq_true.2 fun c hc => hd c (hsub c (hsub2 c hc))
    rw [if_pos]
    rw [right_some _ _ _ h]
    simp only [Bool.and_eq_true, decide_eq_true_eq, bne_iff_ne]
    exact ⟨⟨⟨⟨⟨by omega, hdg⟩, hh⟩, hlast⟩, by omega⟩, by omega⟩
/-- A numeral begins with no nought, but for nought's own. -/
theorem dec_head : ∀ u : Nat, Lib.decDigits u = [48] ∨ (Lib.decDigits u).head? ≠ some 48 := by
  intro u
  induction u using Nat.strongRecOn with
  | _ u ih =>
    rw [Lib.decDigits]
    by_cases h : u < 10
    · rw [dif_pos h]
      have : ∀ k, k < 10 → [UInt8.ofNat (48 + k)] = [48] ∨ [UInt8.ofNat (48 + k)].head? ≠ some 48 := by decide
      exact this u h
    · rw [dif_neg h]
      right
      have hz : Lib.decDigits (u / 10) = [48] → False := by
        intro e
        have := (dec_dig (u / 10)).2.2
        rw [e] at this
        have e2 : valN [48] = 0 := by decide
        omega
      rcases ih (u / 10) (by omega) with h1 | h1
      · exact absurd h1 hz
      · cases e : Lib.decDigits (u / 10) with
        | nil => exact absurd e (dec_dig _).2.1
        | cons c q => rw [e] at h1; simpa using h1
end Go.Proofs.NumPlain

/- Plain: a number as a whole one of 64 bits. -/
namespace Go.Proofs.NumPlain

def val (acc : Nat) (l : List UInt8) : Nat := l.foldl (fun b c => 10 * b + (c.toNat - 48)) acc
theorem val_cons (acc : Nat) (c : UInt8) (r : List UInt8) : val acc (c :: r) = val (10 * acc + (c.toNat - 48)) r := by unfold val; rw [List.foldl_cons]
theorem val_ge (l : List UInt8) : ∀ acc, acc * 10 ^ l.length ≤ val acc l := by
  induction l with
  | nil => intro acc; simp [val]
  | cons c r ih =>
    intro acc
    rw [val_cons, List.length_cons, Nat.pow_succ]
    refine Nat.le_trans ?_ (ih _)
    rw [Nat.mul_comm (10 ^ r.length) 10, ← Nat.mul_assoc]
    exact Nat.mul_le_mul_right _ (by omega)
theorem val_le (l : List UInt8) (acc : Nat) : acc ≤ val acc l := by
  refine Nat.le_trans ?_ (val_ge l acc)
  exact Nat.le_mul_of_pos_right _ (Nat.pow_pos (by omega))
/-- Digit by digit, as long as 64 bits hold it. -/
def runM (M : Nat) : Nat → List UInt8 → Option Nat
  | acc, [] => some acc
  | acc, c :: r => if acc * 10 + (c.toNat - 48) < M then runM M (acc * 10 + (c.toNat - 48)) r else none
theorem runM_eq (M : Nat) (l : List UInt8) : ∀ acc, acc < M → runM M acc l = if val acc l < M then some (val acc l) else none := by
  induction l with
  | nil => intro acc h; rw [show val acc [] = acc from rfl, if_pos h]; rfl
  | cons c r ih =>
    intro acc h
    unfold runM
    rw [val_cons]
    split
    · rename_i h1
      rw [ih _ h1, Nat.mul_comm acc 10]
    · rename_i h1
      have := val_le r (10 * acc + (c.toNat - 48))
      rw [if_neg (by omega)]
def run64 (acc : Nat) (l : List UInt8) : Option Nat := runM 18446744073709551616 acc l
theorem run64_eq (l : List UInt8) (acc : Nat) (h : acc < 18446744073709551616) : run64 acc l = if val acc l < 18446744073709551616 then some (val acc l) else none := runM_eq _ l acc h
theorem run64_cons (acc : Nat) (c : UInt8) (r : List UInt8) : run64 acc (c :: r) = if acc * 10 + (c.toNat - 48) < 18446744073709551616 then run64 (acc * 10 + (c.toNat - 48)) r else none := by
  unfold run64
  rw [runM]
theorem parse_run (l : List UInt8) : ∀ acc, acc < 18446744073709551616 → dig l → Lib.parseUintM 18446744073709551615 acc l = match run64 acc l with | some v => .ok v | none => .range := by
  induction l with
  | nil => intro acc h _; rfl
  | cons c r ih =>
    intro acc h hd
    have hc := hd c (List.mem_cons_self ..)
    have hb : 48 ≤ c.toNat ∧ c.toNat ≤ 57 := by
      have := all_u8 (fun c => !isD c || (decide (48 ≤ c.toNat) && decide (c.toNat ≤ 57))) (by decide +kernel) c
      rw [hc] at this
      simpa using this
    rw [run64_cons]
    unfold Lib.parseUintM
    rw [if_pos hb]
    by_cases h1 : acc * 10 + (c.toNat - 48) < 18446744073709551616
    · rw [if_pos h1, if_neg (by omega), if_neg (by omega)]
      exact ih _ h1 (fun d hd' => hd d (List.mem_cons_of_mem _ hd'))
    · rw [if_neg h1]
      split
      · rfl
      · rw [if_pos (by omega)]
/-- The digits that the document's definition goes over. -/
def digs (n : Nm) : List UInt8 := n.dig ++ List.replicate n.exp.toNat 48
/-- Neither wrong nor below nothing nor with digits behind the point. -/
def fits (n : Nm) : Bool := right n && !n.neg && decide (0 ≤ n.exp) && decide (n.exp ≤ 20)
def whole (n : Nm) : Option Nat := if fits n = true then run64 0 (digs n) else none
theorem digs_dig (n : Nm) (h : right n = true) : dig (digs n) := by
  unfold digs
  refine dig_append ?_ (dig_replicate _)
  by_cases h0 : n.dig = []
  · rw [h0]; intro c hc; cases hc
  · exact (right_rd n h h0).dig
/-- As the program has it: parsed from its print. -/
theorem whole_print (n : Nm) (h : fits n = true) : Lib.parseUintB 64 (print n) = match run64 0 (digs n) with | some v => .ok v | none => .range := by
  unfold fits at h
  simp only [Bool.and_eq_true, Bool.not_eq_true', decide_eq_true_eq] at h
  obtain ⟨⟨⟨h1, h2⟩, h3⟩, h4⟩ := h
  unfold Lib.parseUintB
  by_cases h0 : n.dig = []
  · have hz := right_zero n h1 h0
    subst hz
    rfl
  · have hp : print n = digs n := by
      rw [print_some n h1 h0, h2]
      obtain ⟨e, he⟩ : ∃ e : Nat, n.exp = e := ⟨n.exp.toNat, by omega⟩
      have := mid_small n.neg n.dig e (by omega)
      unfold digs
      rw [show n = ⟨n.neg, n.dig, n.exp⟩ from rfl, he, this]
      simp [sgText]
    have hne : digs n ≠ [] := by unfold digs; simp [h0]
    rw [hp, if_neg hne]
    exact parse_run _ 0 (by omega) (digs_dig n h1)
/-- More than twenty digits: more than 64 bits. -/
theorem whole_long (n : Nm) (h : right n = true) (h3 : 0 ≤ n.exp) (hl : 20 < n.exp + n.dig.length) : run64 0 (digs n) = none := by
  rw [run64_eq _ 0 (by omega), if_neg]
  have h0 : n.dig ≠ [] := by
    intro e
    rw [right_zero n h e] at hl
    revert hl; decide
  obtain ⟨c, q, hc, hgt⟩ := (right_rt n h h0).head
  have hlen : (digs n).length = n.dig.length + n.exp.toNat := by unfold digs; rw [List.length_append, List.length_replicate]
  have hd : digs n = c :: (q ++ List.replicate n.exp.toNat 48) := by unfold digs; rw [hc, List.cons_append]
  rw [hd] at hlen ⊢
  rw [val_cons]
  rw [List.length_cons] at hlen
  have h1 := val_ge (q ++ List.replicate n.exp.toNat 48) (10 * 0 + (c.toNat - 48))
  have h2 : 10 ^ 20 ≤ 10 ^ (q ++ List.replicate n.exp.toNat (48 : UInt8)).length := Nat.pow_le_pow_right (by omega) (by omega)
  have h4 : 1 ≤ 10 * 0 + (c.toNat - 48) := by
    have := UInt8.lt_iff_toNat_lt.1 hgt
    have e : (48 : UInt8).toNat = 48 := rfl
    omega
  have h5 := Nat.mul_le_mul h4 h2
  have h6 : (1 * 10 ^ 20 : Nat) = 100000000000000000000 := by decide
  omega
theorem rtrim_split (l : List UInt8) : l = rtrim l ++ List.replicate (l.length - (rtrim l).length) 48 := by
  induction l using snoc_ind with
  | h0 => rfl
  | h1 l c ih =>
    rw [rtrim_snoc]
    split
    · rename_i h
      subst h
      have := rtrim_le l
      have e : (l ++ [(48 : UInt8)]).length - (rtrim l).length = (l.length - (rtrim l).length) + 1 := by rw [List.length_append]; simp; omega
      rw [e, List.replicate_succ', ← List.append_assoc, ← ih]
    · rw [Nat.sub_self]; simp
/-- A whole number's own. -/
def ofN (v : Nat) : Nm := (fin false (Lib.decDigits v) 0).1
theorem of_err (v : Nat) (h : v < 18446744073709551616) : fin false (Lib.decDigits v) 0 = (ofN v, 0) := by
  have h1 := fin_ok (Lib.decDigits v) (dec_dig v).1 (by
    rw [Lib.decDigits_length]
    have := Lib.nDigits_le20 v h
    omega)
  exact Prod.ext rfl h1
theorem of_whole (v : Nat) (h : v < 18446744073709551616) : fits (ofN v) = true ∧ run64 0 (digs (ofN v)) = some v := by
  have hlen : (Lib.decDigits v).length ≤ 20 := by rw [Lib.decDigits_length]; exact Lib.nDigits_le20 v h
  have herr := of_err v h
  obtain ⟨hd, hne, hval⟩ := dec_dig v
  rcases dec_head v with h0 | h0
  · have hv : v = 0 := by rw [← hval, h0]; decide
    subst hv
    have : ofN 0 = zero := by unfold ofN; rw [h0]; decide
    rw [this]
    exact ⟨by decide, rfl⟩
  · cases hc : Lib.decDigits v with
    | nil => exact absurd hc hne
    | cons c q =>
      have hc48 : c ≠ 48 := by rw [hc] at h0; simpa using h0
      have hlt : ltrim (Lib.decDigits v) = Lib.decDigits v := by rw [hc, ltrim_head c q hc48]
      have hsp := rtrim_split (Lib.decDigits v)
      have hrt : rtrim (Lib.decDigits v) ≠ [] := by
        intro e
        rw [e, List.nil_append] at hsp
        rw [hc] at hsp
        have : (c :: q).head? = some c := rfl
        rw [hsp] at this
        rw [List.length_cons, List.length_nil, Nat.sub_zero, List.replicate_succ] at this
        exact hc48 (Option.some.inj this).symm
      have hle := rtrim_le (Lib.decDigits v)
      have hof : ofN v = ⟨false, rtrim (Lib.decDigits v), (((Lib.decDigits v).length - (rtrim (Lib.decDigits v)).length : Nat) : Int)⟩ ∧ right (ofN v) = true := by
        have h2 := herr
        unfold fin at h2
        rw [hlt, if_neg hrt] at h2
        have e : (0 : Int) + (((Lib.decDigits v).length : Int) - ((rtrim (Lib.decDigits v)).length : Int)) = (((Lib.decDigits v).length - (rtrim (Lib.decDigits v)).length : Nat) : Int) := by omega
        rw [e] at h2
        split at h2
        · rename_i hr
          have h3 := (Prod.mk.inj h2).1
          rw [← h3]
          exact ⟨rfl, hr⟩
        · cases (Prod.mk.inj h2).2
      obtain ⟨ho, hr⟩ := hof
      have hdg : digs (ofN v) = Lib.decDigits v := by
        rw [ho]
        unfold digs
        simp only [Int.toNat_natCast]
        exact hsp.symm
      refine ⟨?_, ?_⟩
      · unfold fits
        rw [hr, ho]
        simp only [Bool.not_false, Bool.and_true, Bool.true_and, Bool.and_eq_true, decide_eq_true_eq]
        omega
      · rw [hdg, run64_eq _ 0 (by omega)]
        have : val 0 (Lib.decDigits v) = v := hval
        rw [this, if_pos h]
end Go.Proofs.NumPlain
namespace Go.Proofs.NumPlain
theorem at_digs (n : Nm) (e : Nat) (he : n.exp = e) (j : Nat) (hj : j < n.dig.length + e) : at' n ((n.dig.length : Int) + e - 1 - j) = (digs n).getD j 48 := by
  unfold at' digs
  rw [he]
  simp only [Int.toNat_natCast]
  by_cases h : j < n.dig.length
  · rw [if_neg (by omega), show ((n.dig.length : Int) - 1 - ((n.dig.length : Int) + e - 1 - j - e)).toNat = j by omega]
    simp only [List.getD, List.getElem?_append_left h]
  · rw [if_pos (by omega)]
    have hr : (List.replicate e (48 : UInt8))[j - n.dig.length]? = some 48 := by
      rw [List.getElem?_replicate, if_pos (by omega)]
    simp only [List.getD, List.getElem?_append_right (Nat.le_of_not_lt h), hr, Option.getD_some]
theorem digs_drop (n : Nm) (j : Nat) (hj : j < (digs n).length) : (digs n).drop j = (digs n).getD j 48 :: (digs n).drop (j + 1) := by
  rw [List.drop_eq_getElem_cons hj]
  simp only [List.getD, List.getElem?_eq_getElem hj, Option.getD_some]
theorem digs_length (n : Nm) (e : Nat) (he : n.exp = e) : (digs n).length = n.dig.length + e := by
  unfold digs; rw [List.length_append, List.length_replicate, he, Int.toNat_natCast]
theorem digs_isD (n : Nm) (h : right n = true) (j : Nat) : 48 ≤ ((digs n).getD j 48).toNat ∧ ((digs n).getD j 48).toNat ≤ 57 := by
  have key : isD ((digs n).getD j 48) = true := by
    by_cases hj : j < (digs n).length
    · simp only [List.getD, List.getElem?_eq_getElem hj, Option.getD_some]
      exact digs_dig n h _ (List.getElem_mem hj)
    · simp only [List.getD, List.getElem?_eq_none (Nat.le_of_not_lt hj), Option.getD_none]
      decide
  have := all_u8 (fun c => !isD c || (decide (48 ≤ c.toNat) && decide (c.toNat ≤ 57))) (by decide +kernel) ((digs n).getD j 48)
  rw [key] at this
  simpa using this
/-- Nothing for nought. -/
def dec0 (m : Nat) : List UInt8 := if m = 0 then [] else Lib.decDigits m
theorem dec0_step (m : Nat) (h : 0 < m) : dec0 m = dec0 (m / 10) ++ [UInt8.ofNat (48 + m % 10)] := by
  unfold dec0
  rw [if_neg (by omega)]
  by_cases h1 : m < 10
  · rw [if_pos (by omega), Lib.decDigits_one h1, show m % 10 = m by omega]; rfl
  · rw [if_neg (by omega)]
    conv => lhs; rw [Lib.decDigits, dif_neg h1]
theorem dec0_len (v : Nat) (h : v < 18446744073709551616) : (dec0 v).length ≤ 20 := by
  unfold dec0
  split
  · simp
  · rw [Lib.decDigits_length]; exact Lib.nDigits_le20 v h
end Go.Proofs.NumPlain

/- Plain: addresses, as they are printed and parsed. -/
namespace Go.Proofs.AddrPlain
open Go.Proofs.UtfPlain Go.Proofs.QuotePlain Go.Proofs.LexPlain

def mk (l : List UInt8) : ByteArray := ⟨l.toArray⟩
theorem mk_data (l : List UInt8) : (mk l).data.toList = l := by simp [mk]
theorem mk_eta (s : ByteArray) : mk s.data.toList = s := by
  obtain ⟨⟨l⟩⟩ := s; rfl
/-- An address. -/
structure Ad where
  path : List ByteArray
  ty : ByteArray
  nm : ByteArray
  key : Int
  place : Nat
  word : ByteArray
deriving DecidableEq
def Ad.zero : Ad := ⟨[], ⟨#[]⟩, ⟨#[]⟩, 0, 0, ⟨#[]⟩⟩
def modL : List UInt8 := [109, 111, 100, 117, 108, 101]
def names (xs : List ByteArray) : Bool := xs.all fun X => isName X.data.toList
def keyOk (k : Int) (p : Nat) (w : ByteArray) : Bool :=
  (decide (k = 0) && decide (p = 0) && w.data.toList.isEmpty) || (decide (k = 1) && w.data.toList.isEmpty) || (decide (k = 2) && decide (p = 0) && valid w.data.toList)
def rightA (a : Ad) : Bool :=
  decide (a.path.length ≤ 20) && names a.path && isName a.ty.data.toList && isName a.nm.data.toList && decide (a.ty.data.toList ≠ modL) && keyOk a.key a.place a.word
def stepP (m : ByteArray) : List UInt8 := modL ++ 46 :: (m.data.toList ++ [46])
def headP (a : Ad) : List UInt8 := a.path.flatMap stepP ++ (a.ty.data.toList ++ 46 :: a.nm.data.toList)
def keyP (a : Ad) : List UInt8 :=
  if a.key = 1 then 91 :: (Lib.decDigits a.place ++ [93]) else if a.key = 2 then 91 :: (qprint a.word.data.toList ++ [93]) else []
def printA (a : Ad) : List UInt8 := if rightA a then headP a ++ keyP a else []

/-! Cut, and split, at a byte. -/
def splitC (c : UInt8) : List UInt8 → List (List UInt8)
  | [] => [[]]
  | x :: r => if x = c then [] :: splitC c r else (splitC c r).modifyHead (x :: ·)
theorem splitC_ne (c : UInt8) (l : List UInt8) : splitC c l ≠ [] := by
  induction l with
  | nil => simp [splitC]
  | cons x r ih =>
    unfold splitC
    split
    · simp
    · cases h : splitC c r with
      | nil => exact absurd h ih
      | cons a t => simp
theorem splitC_no (c : UInt8) (l : List UInt8) (h : c ∉ l) : splitC c l = [l] := by
  induction l with
  | nil => rfl
  | cons x r ih =>
    simp only [List.mem_cons, not_or] at h
    unfold splitC
    rw [if_neg (fun e => h.1 e.symm), ih h.2]; rfl
theorem splitC_app (c : UInt8) (l r : List UInt8) (h : c ∉ l) : splitC c (l ++ c :: r) = l :: splitC c r := by
  induction l with
  | nil => simp [splitC]
  | cons x t ih =>
    simp only [List.mem_cons, not_or] at h
    rw [List.cons_append]
    show (if x = c then [] :: splitC c (t ++ c :: r) else (splitC c (t ++ c :: r)).modifyHead (x :: ·)) = _
    rw [if_neg (fun e => h.1 e.symm), ih h.2]; rfl
def aheadC (c : UInt8) (l : List UInt8) : List UInt8 := l.takeWhile (fun x => decide (x ≠ c))
def behindC (c : UInt8) (l : List UInt8) : Option (List UInt8) := match l.dropWhile (fun x => decide (x ≠ c)) with
  | [] => none
  | _ :: r => some r
theorem cutC_no (c : UInt8) (l : List UInt8) (h : c ∉ l) : aheadC c l = l ∧ behindC c l = none := by
  induction l with
  | nil => exact ⟨rfl, rfl⟩
  | cons x r ih =>
    simp only [List.mem_cons, not_or] at h
    have hx : decide (x ≠ c) = true := decide_eq_true (fun e => h.1 e.symm)
    unfold aheadC behindC
    rw [List.takeWhile_cons, List.dropWhile_cons, if_pos hx, if_pos hx]
    exact ⟨by rw [show List.takeWhile (fun x => decide (x ≠ c)) r = r from (ih h.2).1], (ih h.2).2⟩
theorem cutC_app (c : UInt8) (l r : List UInt8) (h : c ∉ l) : aheadC c (l ++ c :: r) = l ∧ behindC c (l ++ c :: r) = some r := by
  induction l with
  | nil => unfold aheadC behindC; simp
  | cons x t ih =>
    simp only [List.mem_cons, not_or] at h
    have hx : decide (x ≠ c) = true := decide_eq_true (fun e => h.1 e.symm)
    unfold aheadC behindC
    rw [List.cons_append, List.takeWhile_cons, List.dropWhile_cons, if_pos hx, if_pos hx]
    exact ⟨by rw [show List.takeWhile (fun x => decide (x ≠ c)) (t ++ c :: r) = t from (ih h.2).1], (ih h.2).2⟩
theorem mem_first (c : UInt8) (l : List UInt8) (h : c ∈ l) : ∃ a b, l = a ++ c :: b ∧ c ∉ a := by
  induction l with
  | nil => cases h
  | cons x r ih =>
    by_cases hx : x = c
    · exact ⟨[], r, by rw [hx]; rfl, by simp⟩
    · have : c ∈ r := by
        rcases List.mem_cons.1 h with e | e
        · exact absurd e.symm hx
        · exact e
      obtain ⟨a, b, e, hn⟩ := ih this
      exact ⟨x :: a, b, by rw [e]; rfl, by simp only [List.mem_cons, not_or]; exact ⟨fun e => hx e.symm, hn⟩⟩
theorem cutC_cases (c : UInt8) (l : List UInt8) : (c ∉ l ∧ aheadC c l = l ∧ behindC c l = none) ∨ ∃ a b, c ∉ a ∧ l = a ++ c :: b ∧ aheadC c l = a ∧ behindC c l = some b := by
  by_cases h : c ∈ l
  · right
    obtain ⟨a, b, e, hn⟩ := mem_first c l h
    subst e
    exact ⟨a, b, hn, rfl, (cutC_app c a b hn).1, (cutC_app c a b hn).2⟩
  · exact .inl ⟨h, (cutC_no c l h).1, (cutC_no c l h).2⟩

/-- Modules aheadC. -/
def mods : List (List UInt8) → List (List UInt8) × List (List UInt8)
  | m :: x :: y :: r => if m = modL then (x :: (mods (y :: r)).1, (mods (y :: r)).2) else ([], m :: x :: y :: r)
  | l => ([], l)
termination_by l => l.length
/-- A number's digits, without needless noughts. -/
def number (l : List UInt8) : Option Nat := match Lib.parseUintB 64 l with
  | .ok v => if Lib.decDigits v = l then some v else none
  | _ => none
/-- What stands between brackets. -/
def inBrk (l : List UInt8) : Option (Int × Nat × List UInt8) := match number l with
  | some n => some (1, n, [])
  | none => if (scanQ l).1 = 0 ∧ (scanQ l).2.2 = l.length then some (2, 0, (scanQ l).2.1) else none
def keyPart : Option (List UInt8) → Option (Int × Nat × List UInt8)
  | none => some (0, 0, [])
  | some r => if r.getLast? = some 93 then inBrk r.dropLast else none
def made (k : Int × Nat × List UInt8) (l : List (List UInt8)) : Option Ad := match mods l with
  | (p, [t, n]) => if rightA ⟨p.map mk, mk t, mk n, k.1, k.2.1, mk k.2.2⟩ then some ⟨p.map mk, mk t, mk n, k.1, k.2.1, mk k.2.2⟩ else none
  | _ => none
def parseA (s : List UInt8) : Option Ad := match keyPart (behindC 91 s) with
  | none => none
  | some k => made k (splitC 46 (aheadC 91 s))
/-- An older text's parts. -/
def oldM (l : List (List UInt8)) : Option Ad :=
  match l with
  | [t, n] => if rightA ⟨[], mk t, mk n, 0, 0, mk []⟩ then some ⟨[], mk t, mk n, 0, 0, mk []⟩ else none
  | [t, n, k] => match number k with
    | some p => if rightA ⟨[], mk t, mk n, 1, p, mk []⟩ then some ⟨[], mk t, mk n, 1, p, mk []⟩ else none
    | none => none
  | _ => none
def dataL : List UInt8 := [100, 97, 116, 97]
def oldS (l : List (List UInt8)) : List (List UInt8) := match l with
  | d :: x :: y :: r => if d = dataL then x :: y :: r else d :: x :: y :: r
  | l => l
def oldA (s : List UInt8) : Option Ad := oldM (oldS (splitC 46 s))
theorem parse_right (s : List UInt8) (a : Ad) (h : parseA s = some a) : rightA a = true := by
  unfold parseA at h
  split at h
  · cases h
  · unfold made at h
    split at h
    · split at h
      · rename_i h1; injection h with h; rw [← h]; exact h1
      · cases h
    · cases h
theorem old_right (s : List UInt8) (a : Ad) (h : oldA s = some a) : rightA a = true := by
  unfold oldA oldM at h
  split at h
  · split at h
    · rename_i h1; injection h with h; rw [← h]; exact h1
    · cases h
  · split at h
    · split at h
      · rename_i h1; injection h with h; rw [← h]; exact h1
      · cases h
    · cases h
  · cases h
theorem old_flat (s : List UInt8) (a : Ad) (h : oldA s = some a) : a.path = [] ∧ a.key ≠ 2 := by
  unfold oldA oldM at h
  split at h
  · split at h
    · injection h with h; rw [← h]; exact ⟨rfl, (by decide : (0 : Int) ≠ 2)⟩
    · cases h
  · split at h
    · split at h
      · injection h with h; rw [← h]; exact ⟨rfl, (by decide : (1 : Int) ≠ 2)⟩
      · cases h
    · cases h
  · cases h

/-! Names, and what they have none of. -/
theorem name_no (l : List UInt8) (h : isName l = true) (c : UInt8) (hc : word c = false) : c ∉ l := by
  intro hm
  cases l with
  | nil => cases hm
  | cons x r =>
    rw [isName_cons, Bool.and_eq_true] at h
    rcases List.mem_cons.1 hm with e | e
    · subst e; unfold word at hc; rw [h.1] at hc; cases hc
    · rw [List.all_eq_true.1 h.2 c e] at hc; cases hc
theorem modL_no (c : UInt8) (hc : word c = false) : c ∉ modL := name_no modL (by decide) c hc
theorem steps_no (p : List ByteArray) (h : names p = true) (c : UInt8) (hc : word c = false) (h46 : c ≠ 46) : c ∉ p.flatMap stepP := by
  intro hm
  obtain ⟨m, h1, h2⟩ := List.mem_flatMap.1 hm
  have hn := List.all_eq_true.1 h m h1
  unfold stepP at h2
  simp only [List.mem_append, List.mem_cons, List.not_mem_nil, or_false] at h2
  rcases h2 with h2 | h2 | h2 | h2
  · exact modL_no c hc h2
  · exact h46 h2
  · exact name_no _ hn c hc h2
  · exact h46 h2
theorem right_parts (a : Ad) (h : rightA a = true) : a.path.length ≤ 20 ∧ names a.path = true ∧ isName a.ty.data.toList = true ∧ isName a.nm.data.toList = true ∧ a.ty.data.toList ≠ modL ∧ keyOk a.key a.place a.word = true := by
  unfold rightA at h
  simp only [Bool.and_eq_true, decide_eq_true_eq] at h
  obtain ⟨⟨⟨⟨⟨h1, h2⟩, h3⟩, h4⟩, h5⟩, h6⟩ := h
  exact ⟨h1, h2, h3, h4, h5, h6⟩
theorem head_no (a : Ad) (h : rightA a = true) : (91 : UInt8) ∉ headP a := by
  obtain ⟨_, h2, h3, h4, _, _⟩ := right_parts a h
  unfold headP
  simp only [List.mem_append, List.mem_cons, not_or]
  exact ⟨steps_no _ h2 91 (by decide) (by decide), name_no _ h3 91 (by decide), by decide, name_no _ h4 91 (by decide)⟩
theorem split_head (p : List ByteArray) (h : names p = true) (t n : List UInt8) (ht : isName t = true) (hn : isName n = true) :
    splitC 46 (p.flatMap stepP ++ (t ++ 46 :: n)) = (p.flatMap fun m => [modL, m.data.toList]) ++ [t, n] := by
  induction p with
  | nil =>
    rw [List.flatMap_nil, List.flatMap_nil, List.nil_append, List.nil_append, splitC_app 46 t n (name_no _ ht 46 (by decide)), splitC_no 46 n (name_no _ hn 46 (by decide))]
  | cons m p ih =>
    have h' : isName m.data.toList = true ∧ names p = true := by
      have : names (m :: p) = (isName m.data.toList && names p) := rfl
      rw [this, Bool.and_eq_true] at h; exact h
    rw [List.flatMap_cons, List.flatMap_cons, List.append_assoc]
    unfold stepP
    rw [List.append_assoc, List.cons_append, splitC_app 46 modL _ (modL_no 46 (by decide)), List.append_assoc, List.singleton_append, splitC_app 46 _ _ (name_no _ h'.1 46 (by decide))]
    have := ih h'.2
    unfold stepP at this
    rw [this]; rfl
theorem mods_path (p : List ByteArray) (t n : List UInt8) : mods ((p.flatMap fun m => [modL, m.data.toList]) ++ [t, n]) = (p.map (·.data.toList), [t, n]) := by
  induction p with
  | nil => rw [List.flatMap_nil, List.nil_append]; unfold mods; rfl
  | cons m p ih =>
    rw [List.flatMap_cons, List.append_assoc]
    show mods (modL :: m.data.toList :: ((p.flatMap fun m => [modL, m.data.toList]) ++ [t, n])) = _
    obtain ⟨y, r, hy⟩ : ∃ y r, (p.flatMap fun m => [modL, m.data.toList]) ++ [t, n] = y :: r := by
      cases p with
      | nil => exact ⟨t, [n], rfl⟩
      | cons a b => exact ⟨modL, _, rfl⟩
    rw [hy] at ih ⊢
    unfold mods
    rw [if_pos rfl, ih]; rfl
theorem number_dec (n : Nat) (h : n < 18446744073709551616) : number (Lib.decDigits n) = some n := by
  have hd := NumPlain.dec_dig n
  have hp := NumPlain.parse_run (Lib.decDigits n) 0 (by omega) hd.1
  have hv : NumPlain.run64 0 (Lib.decDigits n) = some n := by
    rw [NumPlain.run64_eq _ _ (by omega)]
    have : NumPlain.val 0 (Lib.decDigits n) = n := by
      have := hd.2.2
      exact this
    rw [this, if_pos h]
  rw [hv] at hp
  unfold number Lib.parseUintB
  rw [if_neg hd.2.1]
  show (match Lib.parseUintM (2 ^ 64 - 1) 0 (Lib.decDigits n) with | .ok v => _ | _ => _) = _
  rw [show (2 : Nat) ^ 64 - 1 = 18446744073709551615 from rfl, hp]
  simp
theorem number_digits (l : List UInt8) (v : Nat) (h : number l = some v) : l = Lib.decDigits v := by
  unfold number at h
  split at h
  · split at h
    · rename_i h1; injection h with h; rw [← h]; exact h1.symm
    · cases h
  · cases h
theorem number_quote (w : List UInt8) : number (qprint w) = none := by
  cases h : number (qprint w) with
  | none => rfl
  | some v =>
    exfalso
    have h1 := number_digits _ _ h
    have hd := (NumPlain.dec_dig v).1
    have hm : (34 : UInt8) ∈ Lib.decDigits v := by rw [← h1]; unfold qprint; simp
    have := hd 34 hm
    revert this; decide
theorem getLast_snoc (l : List UInt8) (c : UInt8) : (l ++ [c]).getLast? = some c := by simp
theorem keyPart_back (a : Ad) (h : keyOk a.key a.place a.word = true) (hp : a.place < 18446744073709551616) :
    (keyP a = [] ∧ a.key = 0 ∧ a.place = 0 ∧ a.word.data.toList = []) ∨ ∃ r, keyP a = 91 :: r ∧ keyPart (some r) = some (a.key, a.place, a.word.data.toList) := by
  unfold keyOk at h
  simp only [Bool.or_eq_true, Bool.and_eq_true, decide_eq_true_eq, List.isEmpty_iff] at h
  rcases h with (⟨⟨h1, h2⟩, h3⟩ | ⟨h1, h3⟩) | ⟨⟨h1, h2⟩, h3⟩
  · left
    unfold keyP
    rw [h1]
    exact ⟨rfl, rfl, h2, h3⟩
  · right
    refine ⟨Lib.decDigits a.place ++ [93], by unfold keyP; rw [if_pos h1], ?_⟩
    unfold keyPart
    simp only
    rw [getLast_snoc, if_pos rfl, List.dropLast_concat]
    unfold inBrk
    rw [number_dec a.place hp, h1, h3]
  · right
    refine ⟨qprint a.word.data.toList ++ [93], by unfold keyP; rw [if_neg (by omega), if_pos h1], ?_⟩
    unfold keyPart
    simp only
    rw [getLast_snoc, if_pos rfl, List.dropLast_concat]
    unfold inBrk
    rw [number_quote, scan_print _ h3, h1, h2]
    simp
theorem map_mk (p : List ByteArray) : (p.map (·.data.toList)).map mk = p := by
  rw [List.map_map]
  conv => rhs; rw [← List.map_id p]
  exact List.map_congr_left fun x _ => mk_eta x
theorem made_back (a : Ad) (h : rightA a = true) : made (a.key, a.place, a.word.data.toList) (splitC 46 (headP a)) = some a := by
  obtain ⟨_, h2, h3, h4, _, _⟩ := right_parts a h
  unfold headP made
  rw [split_head a.path h2 _ _ h3 h4, mods_path]
  simp only
  rw [map_mk, mk_eta, mk_eta, mk_eta, if_pos h]
theorem print_back (a : Ad) (h : rightA a = true) (hp : a.place < 18446744073709551616) : parseA (printA a) = some a := by
  have hk := (right_parts a h).2.2.2.2.2
  unfold printA
  rw [if_pos h]
  unfold parseA
  rcases keyPart_back a hk hp with ⟨h1, h2, h3, h4⟩ | ⟨r, h1, h2⟩
  · rw [h1, List.append_nil]
    obtain ⟨e1, e2⟩ := cutC_no 91 (headP a) (head_no a h)
    rw [e1, e2]
    have := made_back a h
    rw [h2, h3, h4] at this
    exact this
  · rw [h1]
    obtain ⟨e1, e2⟩ := cutC_app 91 (headP a) r (head_no a h)
    rw [e1, e2, h2]
    exact made_back a h
theorem print_inj (a b : Ad) (ha : rightA a = true) (hb : rightA b = true) (hpa : a.place < 18446744073709551616) (hpb : b.place < 18446744073709551616) (h : printA a = printA b) : a = b := by
  have h1 := print_back a ha hpa
  rw [h, print_back b hb hpb] at h1
  exact (Option.some.inj h1).symm
theorem print_nil (a : Ad) : printA a = [] ↔ rightA a = false := by
  unfold printA
  split
  · rename_i h
    rw [h]
    constructor
    · intro h1
      obtain ⟨_, _, h3, _⟩ := right_parts a h
      exfalso
      unfold headP at h1
      simp at h1
    · intro h1; cases h1
  · rename_i h; simpa using h
/-- One module more. -/
theorem print_cons (a : Ad) (m : ByteArray) (h : rightA a = true) (hm : isName m.data.toList = true) (hl : a.path.length ≤ 19) :
    rightA { a with path := m :: a.path } = true ∧ printA { a with path := m :: a.path } = stepP m ++ printA a := by
  have hr : rightA { a with path := m :: a.path } = true := by
    obtain ⟨_, h2, h3, h4, h5, h6⟩ := right_parts a h
    unfold rightA names
    simp only [List.length_cons, List.all_cons, hm, Bool.true_and]
    unfold names at h2
    rw [h2, h3, h4, h6, decide_eq_true h5, decide_eq_true (by omega : a.path.length + 1 ≤ 20)]; rfl
  refine ⟨hr, ?_⟩
  unfold printA
  rw [if_pos hr, if_pos h]
  unfold headP keyP
  simp only [List.flatMap_cons, List.append_assoc]
end Go.Proofs.AddrPlain
