/- Plain: a number that is written otherwise. -/
import Derived.Test.YtffcmfhicefahaaDoorNumBack
namespace Go.Proofs.NumPlain

theorem rtrim_more (l : List UInt8) (k : Nat) : rtrim (l ++ List.replicate k 48) = rtrim l := by
  unfold rtrim
  rw [List.reverse_append, List.reverse_replicate]
  have := ltrim_noughts k l.reverse
  unfold ltrim at this
  rw [this]
theorem ltrim_nil (l : List UInt8) (h : ltrim l = []) (k : Nat) : ltrim (l ++ List.replicate k 48) = [] := by
  unfold ltrim at h ⊢
  rw [dropWhile_nil] at h ⊢
  rw [List.all_append, h, Bool.true_and, List.all_eq_true]
  intro c hc
  rw [(List.mem_replicate.1 hc).2]; rfl
theorem ltrim_some (l r : List UInt8) (h : ltrim l ≠ []) : ltrim (l ++ r) = ltrim l ++ r := by
  induction l with
  | nil => exact absurd rfl h
  | cons c q ih =>
    by_cases hc : c = 48
    · subst hc
      have e : ∀ m : List UInt8, ltrim (48 :: m) = ltrim m := fun m => ltrim_noughts 1 m
      rw [List.cons_append, e, e]
      rw [e] at h
      exact ih h
    · rw [List.cons_append, ltrim_head c _ hc, ltrim_head c _ hc, List.cons_append]
/-- Noughts ahead, and noughts behind that a power makes up for. -/
theorem fin_shift (neg : Bool) (s : List UInt8) (k e : Nat) (x y : Int) (h : x + e = y) : fin neg (List.replicate k 48 ++ (s ++ List.replicate e 48)) x = fin neg s y := by
  have e1 : ltrim (List.replicate k 48 ++ (s ++ List.replicate e 48)) = ltrim (s ++ List.replicate e 48) := ltrim_noughts _ _
  unfold fin
  rw [e1]
  by_cases h0 : ltrim s = []
  · rw [ltrim_nil s h0 e, h0]
    rw [if_pos (by rfl), if_pos (by rfl)]
  · rw [ltrim_some s _ h0, rtrim_more]
    have e2 : x + (((ltrim s ++ List.replicate e 48).length : Int) - ((rtrim (ltrim s)).length : Int)) = y + (((ltrim s).length : Int) - ((rtrim (ltrim s)).length : Int)) := by
      rw [List.length_append, List.length_replicate]; omega
    rw [e2]
/-- The number of few digits: right. -/
theorem fin_ok (s : List UInt8) (hd : dig s) (hl : s.length ≤ 1000) : (fin false s 0).2 = 0 := by
  have e1 : (ltrim s).length ≤ s.length := ltrim_le s
  have e2 : (rtrim (ltrim s)).length ≤ (ltrim s).length := rtrim_le _
  have hsub : ∀ c ∈ ltrim s, c ∈ s := fun c hc => (List.dropWhile_sublist _).subset hc
  have hsub2 : ∀ c ∈ rtrim (ltrim s), c ∈ ltrim s := fun c hc => by
    unfold rtrim at hc
    have := (List.dropWhile_sublist _).subset (List.mem_reverse.1 hc)
    exact List.mem_reverse.1 this
  unfold fin
  by_cases h : rtrim (ltrim s) = []
  · rw [if_pos h]
  · rw [if_neg h]
    have hh : (rtrim (ltrim s)).head? ≠ some 48 := by
      intro e
      cases hl : ltrim s with
      | nil => rw [hl] at h; exact h rfl
      | cons c q =>
        have hc : c ≠ 48 := by
          have := dropWhile_head (· == 48) s c q hl
          simpa using this
        rw [hl] at e
        have : rtrim (c :: q) = c :: rtrim q := by
          unfold rtrim
          rw [List.reverse_cons]
          cases hq : (q.reverse.dropWhile (· == 48)) with
          | nil =>
            rw [dropWhile_nil] at hq
            rw [List.dropWhile_append_of_pos (List.all_eq_true.1 hq), List.dropWhile_cons_of_neg (by simpa using hc)]
            rfl
          | cons d r =>
            rw [List.dropWhile_append, hq]
            simp
        rw [this] at e
        simp at e
        exact hc e
    have hlast : (rtrim (ltrim s)).getLast? ≠ some 48 := by
      unfold rtrim
      rw [List.getLast?_reverse]
      intro e
      cases hq : ((ltrim s).reverse.dropWhile (· == 48)) with
      | nil => rw [hq] at e; cases e
      | cons c q =>
        have := dropWhile_head (· == 48) _ c q hq
        rw [hq] at e
        simp at e
        rw [e] at this
        simp at this
    have hdg : (rtrim (ltrim s)).all isD = true := List.all_eq_true.2 fun c hc => hd c (hsub c (hsub2 c hc))
    rw [if_pos]
    rw [right_some _ _ _ h]
    simp only [Bool.and_eq_true, decide_eq_true_eq, bne_iff_ne]
    exact ⟨⟨⟨⟨⟨by omega, hdg⟩, hh⟩, hlast⟩, by omega⟩, by omega⟩
/-- A numeral begins with no nought, but for nought's own. -/
theorem dec_head : ∀ u : Nat, Lib.decDigits u = [48] ∨ (Lib.decDigits u).head? ≠ some 48 := by
  intro u
  induction u using Nat.strongRecOn with
  | _ u ih =>
    rw [Lib.decDigits]
    by_cases h : u < 10
    · rw [dif_pos h]
      have : ∀ k, k < 10 → [UInt8.ofNat (48 + k)] = [48] ∨ [UInt8.ofNat (48 + k)].head? ≠ some 48 := by decide
      exact this u h
    · rw [dif_neg h]
      right
      have hz : Lib.decDigits (u / 10) = [48] → False := by
        intro e
        have := (dec_dig (u / 10)).2.2
        rw [e] at this
        have e2 : valN [48] = 0 := by decide
        omega
      rcases ih (u / 10) (by omega) with h1 | h1
      · exact absurd h1 hz
      · cases e : Lib.decDigits (u / 10) with
        | nil => exact absurd e (dec_dig _).2.1
        | cons c q => rw [e] at h1; simpa using h1
end Go.Proofs.NumPlain
