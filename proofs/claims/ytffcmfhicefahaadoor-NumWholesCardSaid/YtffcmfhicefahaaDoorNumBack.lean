/- Plain: a right number's print is a number's text, and its number is the number. -/
import Derived.Test.YtffcmfhicefahaaDoorNumPrint
import Derived.Test.YtffcmfhicefahaaDoorNumOrd
namespace Go.Proofs.NumPlain

theorem ltrim_head (c : UInt8) (q : List UInt8) (h : c ≠ 48) : ltrim (c :: q) = c :: q := by
  unfold ltrim; rw [List.dropWhile_cons_of_neg (by simpa using h)]
theorem ltrim_noughts (k : Nat) (l : List UInt8) : ltrim (List.replicate k 48 ++ l) = ltrim l := by
  unfold ltrim
  induction k with
  | zero => rfl
  | succ k ih => rw [List.replicate_succ, List.cons_append, List.dropWhile_cons_of_pos (by rfl), ih]
theorem rtrim_keep (l : List UInt8) (h : l.getLast? ≠ some 48) : rtrim l = l := by
  unfold rtrim
  cases e : l.reverse with
  | nil => rw [← List.reverse_reverse l, e]; rfl
  | cons c q =>
    have hc : c ≠ 48 := by
      intro hc
      apply h
      rw [← List.reverse_reverse l, e, hc]
      simp
    rw [List.dropWhile_cons_of_neg (by simpa using hc), ← e, List.reverse_reverse]
theorem rtrim_noughts (l : List UInt8) (k : Nat) (h : l.getLast? ≠ some 48) : rtrim (l ++ List.replicate k 48) = l := by
  have : rtrim (l ++ List.replicate k 48) = rtrim l := by
    unfold rtrim
    rw [List.reverse_append, List.reverse_replicate]
    have := ltrim_noughts k l.reverse
    unfold ltrim at this
    rw [this]
  rw [this, rtrim_keep l h]
structure Rd (l : List UInt8) : Prop where
  ne : l ≠ []
  dig : dig l
  head : ∃ c q, l = c :: q ∧ c ≠ 48
  last : l.getLast? ≠ some 48
theorem right_rd (n : Nm) (h : right n = true) (h0 : n.dig ≠ []) : Rd n.dig := by
  obtain ⟨neg, l, exp⟩ := n
  rw [right_some neg l exp h0] at h
  simp only [Bool.and_eq_true, decide_eq_true_eq, bne_iff_ne] at h
  obtain ⟨⟨⟨⟨⟨h1, h2⟩, h3⟩, h4⟩, h5⟩, h6⟩ := h
  refine ⟨h0, List.all_eq_true.1 h2, ?_, h4⟩
  cases l with
  | nil => exact absurd rfl h0
  | cons c q => exact ⟨c, q, rfl, fun e => h3 (by rw [e]; rfl)⟩
/-- A sign, noughts, the digits, noughts. -/
theorem fin_right (n : Nm) (h : right n = true) (h0 : n.dig ≠ []) (k e : Nat) (x : Int) (hx : x + e = n.exp) : fin n.neg (List.replicate k 48 ++ (n.dig ++ List.replicate e 48)) x = (n, 0) := by
  have r := right_rd n h h0
  obtain ⟨c, q, hc, hne⟩ := r.head
  have e1 : ltrim (List.replicate k 48 ++ (n.dig ++ List.replicate e 48)) = n.dig ++ List.replicate e 48 := by
    rw [ltrim_noughts, hc, List.cons_append, ltrim_head c _ hne]
  unfold fin
  rw [e1, rtrim_noughts _ _ r.last, if_neg h0]
  have e2 : x + (((n.dig ++ List.replicate e 48).length : Int) - (n.dig.length : Int)) = n.exp := by
    rw [List.length_append, List.length_replicate]; omega
  rw [e2]
  rw [if_pos (by exact h)]
theorem dig_replicate (k : Nat) : dig (List.replicate k 48) := fun c hc => by
  rw [(List.mem_replicate.1 hc).2]; rfl
theorem dig_append {l m : List UInt8} (h : dig l) (h' : dig m) : dig (l ++ m) := fun c hc => by
  rcases List.mem_append.1 hc with h1 | h1
  · exact h c h1
  · exact h' c h1
theorem dec_dig : ∀ u : Nat, dig (Lib.decDigits u) ∧ Lib.decDigits u ≠ [] ∧ valN (Lib.decDigits u) = u := by
  intro u
  induction u using Nat.strongRecOn with
  | _ u ih =>
    have hb : ∀ k, k < 10 → isD (UInt8.ofNat (48 + k)) = true ∧ (UInt8.ofNat (48 + k)).toNat - 48 = k := by decide
    rw [Lib.decDigits]
    by_cases h : u < 10
    · rw [dif_pos h]
      refine ⟨fun c hc => ?_, by simp, ?_⟩
      · rw [List.mem_singleton.1 hc]; exact (hb u h).1
      · show 10 * 0 + ((UInt8.ofNat (48 + u)).toNat - 48) = u
        rw [(hb u h).2]; omega
    · rw [dif_neg h]
      obtain ⟨h1, _, h3⟩ := ih (u / 10) (by omega)
      refine ⟨dig_append h1 (fun c hc => ?_), by simp, ?_⟩
      · rw [List.mem_singleton.1 hc]; exact (hb _ (by omega)).1
      · rw [valN_snoc, h3, (hb _ (by omega)).2]; omega
theorem valP_dec (u : Nat) (h : u ≤ 1000000) : valP (Lib.decDigits u) = u := by
  rw [valP_eq, (dec_dig u).2.2]; omega
/-- A right number's print, as a text in parts. -/
theorem print_text (n : Nm) (h : right n = true) : ∃ (I : List UInt8) (pt : Bool) (F : List UInt8) (ex : Ex),
    Good I pt F ex ∧ print n = render n.neg I pt F ex ∧ (I = [48] ∨ I.head? ≠ some 48) ∧ fin n.neg (I ++ F) (-(F.length : Int) + ex.val valP) = (n, 0) := by
  by_cases h0 : n.dig = []
  · have hz := right_zero n h h0
    subst hz
    exact ⟨[48], false, [], .no, ⟨by unfold dig; decide, by decide, by unfold dig; decide, by decide, by decide, trivial⟩, by decide, .inl rfl, by decide⟩
  · have r := right_rd n h h0
    have rt := right_rt n h h0
    obtain ⟨c, q, hc, hne⟩ := r.head
    have hhead : ∀ l, (n.dig ++ l).head? ≠ some 48 := by
      intro l
      rw [hc, List.cons_append]
      simpa using hne
    rw [print_some n h h0]
    have h3 := rt.hi
    have h4 := rt.lo
    by_cases c1 : 0 ≤ n.exp ∧ n.exp ≤ 20
    · obtain ⟨e, he⟩ : ∃ e : Nat, n.exp = e := ⟨n.exp.toNat, by omega⟩
      refine ⟨n.dig ++ List.replicate e 48, false, [], .no, ⟨dig_append r.dig (dig_replicate e), by rw [hc]; simp, by unfold dig; simp, by simp, fun _ => rfl, trivial⟩, ?_, .inr (hhead _), ?_⟩
      · have := mid_small n.neg n.dig e (by omega)
        rw [show n = ⟨n.neg, n.dig, n.exp⟩ from rfl, he, this]
        simp [render, ptText, Ex.text]
      · have := fin_right n h h0 0 e 0 (by omega)
        simpa [Ex.val] using this
    · by_cases c2 : 20 < -n.exp ∨ -n.exp < 0
      · have hm := mid_power n.neg n.dig n.exp (by omega)
        by_cases c3 : n.exp < 0
        · obtain ⟨u, hu⟩ : ∃ u : Nat, n.exp = -(u : Int) := ⟨(-n.exp).toNat, by omega⟩
          refine ⟨n.dig, false, [], .some 101 [45] (Lib.decDigits u), ⟨r.dig, h0, by unfold dig; simp, by simp, fun _ => rfl, rfl, .inr (.inr rfl), (dec_dig u).2.1, (dec_dig u).1⟩, ?_, .inr (by have := hhead []; rwa [List.append_nil] at this), ?_⟩
          · rw [hm, hu, Lib.itoa_neg u (by omega)]
            simp [render, ptText, Ex.text]
          · have := fin_right n h h0 0 0 n.exp (by omega)
            simp only [Ex.val, if_true, valP_dec u (by omega)]
            rw [← hu]
            simpa using this
        · obtain ⟨u, hu⟩ : ∃ u : Nat, n.exp = (u : Int) := ⟨n.exp.toNat, by omega⟩
          refine ⟨n.dig, false, [], .some 101 [] (Lib.decDigits u), ⟨r.dig, h0, by unfold dig; simp, by simp, fun _ => rfl, rfl, .inl rfl, (dec_dig u).2.1, (dec_dig u).1⟩, ?_, .inr (by have := hhead []; rwa [List.append_nil] at this), ?_⟩
          · rw [hm, hu, Lib.itoa_nonneg u]
            simp [render, ptText, Ex.text]
          · have := fin_right n h h0 0 0 n.exp (by omega)
            simp only [Ex.val, valP_dec u (by omega), show ¬ (([] : List UInt8) = [45]) from by decide, if_false]
            rw [← hu]
            simpa using this
      · obtain ⟨m, hm⟩ : ∃ m : Nat, n.exp = -(m : Int) := ⟨(-n.exp).toNat, by omega⟩
        by_cases c3 : m < n.dig.length
        · obtain ⟨k, hk⟩ : ∃ k : Nat, n.dig.length = k + m := ⟨n.dig.length - m, by omega⟩
          have hmd := mid_point n.neg n.dig m k (by omega) (by omega) hk (by omega)
          refine ⟨n.dig.take k, true, n.dig.drop k, .no, ⟨fun c hc => r.dig c (List.mem_of_mem_take hc), ?_, fun c hc => r.dig c (List.mem_of_mem_drop hc), fun _ => ?_, by simp, trivial⟩, ?_, .inr ?_, ?_⟩
          · intro e
            have := congrArg List.length e
            rw [List.length_take, List.length_nil] at this
            omega
          · intro e
            have := congrArg List.length e
            rw [List.length_drop, List.length_nil] at this
            omega
          · rw [show n = ⟨n.neg, n.dig, n.exp⟩ from rfl, hm, hmd]
            simp [render, ptText, Ex.text]
          · rw [hc]
            obtain ⟨k', rfl⟩ : ∃ k', k = k' + 1 := ⟨k - 1, by omega⟩
            rw [List.take_succ_cons]
            simpa using hne
          · rw [List.take_append_drop, List.length_drop]
            have := fin_right n h h0 0 0 (-(m : Int)) (by omega)
            have hl : ((n.dig.length - k : Nat) : Int) = (m : Int) := by omega
            rw [hl]
            simpa [Ex.val] using this
        · obtain ⟨k, hk⟩ : ∃ k : Nat, m = k + n.dig.length := ⟨m - n.dig.length, by omega⟩
          have hmd := mid_behind n.neg n.dig m k (by omega) (by omega) hk
          refine ⟨[48], true, List.replicate k 48 ++ n.dig, .no, ⟨by unfold dig; decide, by decide, dig_append (dig_replicate k) r.dig, fun _ => by rw [hc]; simp, by simp, trivial⟩, ?_, .inl rfl, ?_⟩
          · rw [show n = ⟨n.neg, n.dig, n.exp⟩ from rfl, hm, hmd]
            simp [render, ptText, Ex.text]
          · have := fin_right n h h0 (k + 1) 0 (-(m : Int)) (by omega)
            rw [List.replicate_succ, List.replicate_zero, List.append_nil] at this
            have hl : (((List.replicate k (48 : UInt8) ++ n.dig).length : Nat) : Int) = (m : Int) := by rw [List.length_append, List.length_replicate, hk]
            rw [hl]
            simpa [Ex.val] using this
end Go.Proofs.NumPlain
