/- Plain: a number's text taken apart, and put together. -/
import Derived.Test.YtffcmfhicefahaaDoorNumScan
namespace Go.Proofs.NumPlain

theorem take_run (l : List UInt8) : l.take (run l) = l.takeWhile isD := by
  induction l with
  | nil => rfl
  | cons c r ih =>
    rw [run_cons]
    by_cases h : isD c
    · rw [if_pos h, Nat.add_comm, List.take_succ_cons, ih, List.takeWhile_cons, if_pos h]
    · rw [if_neg h, List.takeWhile_cons, if_neg h]; rfl
theorem drop_run_eq (l : List UInt8) : l.drop (run l) = l.dropWhile isD := by
  induction l with
  | nil => rfl
  | cons c r ih =>
    rw [run_cons]
    by_cases h : isD c
    · rw [if_pos h, Nat.add_comm, List.drop_succ_cons, ih, List.dropWhile_cons, if_pos h]
    · rw [if_neg h, List.dropWhile_cons, if_neg h]; rfl
theorem run_le (l : List UInt8) : run l ≤ l.length := by
  induction l with
  | nil => exact Nat.le_refl _
  | cons c r ih =>
    rw [run_cons, List.length_cons]
    split <;> omega
theorem all_takeWhile (p : UInt8 → Bool) (l : List UInt8) : ∀ c ∈ l.takeWhile p, p c = true := by
  induction l with
  | nil => simp
  | cons c r ih =>
    rw [List.takeWhile_cons]
    split
    · rename_i h
      intro d hd
      rcases List.mem_cons.1 hd with rfl | hd
      · exact h
      · exact ih d hd
    · simp
def dig (l : List UInt8) : Prop := ∀ c ∈ l, isD c = true
theorem run_all (l : List UInt8) (h : dig l) : run l = l.length := by
  induction l with
  | nil => rfl
  | cons c r ih =>
    rw [run_cons, if_pos (h c (List.mem_cons_self ..)), ih (fun d hd => h d (List.mem_cons_of_mem _ hd)), List.length_cons]; omega
theorem all_run (l : List UInt8) (h : run l = l.length) : dig l := by
  induction l with
  | nil => intro c hc; simp at hc
  | cons c r ih =>
    rw [run_cons, List.length_cons] at h
    by_cases hc : isD c
    · rw [if_pos hc] at h
      intro d hd
      rcases List.mem_cons.1 hd with rfl | hd
      · exact hc
      · exact ih (by omega) d hd
    · rw [if_neg hc] at h; omega
theorem run_append (l r : List UInt8) (h : dig l) : run (l ++ r) = l.length + run r := by
  induction l with
  | nil => simp
  | cons c q ih =>
    rw [List.cons_append, run_cons, if_pos (h c (List.mem_cons_self ..)), ih (fun d hd => h d (List.mem_cons_of_mem _ hd)), List.length_cons]; omega
theorem hd_of_dig (l : List UInt8) (h : dig l) (hn : l ≠ []) : hd l = true := by
  cases l with
  | nil => exact absurd rfl hn
  | cons c r => exact h c (List.mem_cons_self ..)
theorem hd_append (l r : List UInt8) (hn : l ≠ []) : hd (l ++ r) = hd l := by
  cases l with
  | nil => exact absurd rfl hn
  | cons c q => rfl

/-- A power's text: nothing; or e, a sign or none, digits. -/
inductive Ex where
  | no
  | some (e : UInt8) (sg X : List UInt8)
def Ex.text : Ex → List UInt8
  | .no => []
  | .some e sg X => e :: (sg ++ X)
def Ex.ok : Ex → Prop
  | .no => True
  | .some e sg X => isE e = true ∧ (sg = [] ∨ sg = [43] ∨ sg = [45]) ∧ X ≠ [] ∧ dig X
def ptText (pt : Bool) (F : List UInt8) : List UInt8 := if pt then 46 :: F else []
def sgText (neg : Bool) : List UInt8 := if neg then [45] else []
def render (neg : Bool) (I : List UInt8) (pt : Bool) (F : List UInt8) (ex : Ex) : List UInt8 := sgText neg ++ (I ++ (ptText pt F ++ ex.text))
structure Good (I : List UInt8) (pt : Bool) (F : List UInt8) (ex : Ex) : Prop where
  iDig : dig I
  iNe : I ≠ []
  fDig : dig F
  fNe : pt = true → F ≠ []
  fNo : pt = false → F = []
  exOk : ex.ok

theorem isS_iff (c : UInt8) : isS c = true ↔ c = 43 ∨ c = 45 := by simp [isS]
theorem exp_all (l : List UInt8) (h : expLen l = l.length) : ∃ ex : Ex, ex.ok ∧ l = ex.text := by
  cases l with
  | nil => exact ⟨.no, trivial, rfl⟩
  | cons c r =>
    simp only [expLen] at h
    by_cases he : isE c
    · simp only [he, if_true] at h
      cases r with
      | nil => simp at h
      | cons d q =>
        simp only [List.length_cons] at h
        by_cases hs : isS d
        · simp only [hs, if_true] at h
          by_cases hq : hd q
          · simp only [hq, if_true] at h
            refine ⟨.some c [d] q, ⟨he, ?_, ?_, all_run q (by omega)⟩, rfl⟩
            · rcases (isS_iff d).1 hs with rfl | rfl
              · exact .inr (.inl rfl)
              · exact .inr (.inr rfl)
            · rintro rfl; simp [hd] at hq
          · simp [hq] at h
        · simp only [hs, if_false, Bool.false_eq_true] at h
          by_cases hr : hd (d :: q)
          · simp only [hr, if_true] at h
            exact ⟨.some c [] (d :: q), ⟨he, .inl rfl, by simp, all_run _ (by simp only [List.length_cons]; omega)⟩, rfl⟩
          · simp [hr] at h
    · simp [he] at h
theorem tail_all (l : List UInt8) (h : tailLen l = l.length) : ∃ (pt : Bool) (F : List UInt8) (ex : Ex), l = ptText pt F ++ ex.text ∧ dig F ∧ (pt = true → F ≠ []) ∧ (pt = false → F = []) ∧ ex.ok := by
  cases l with
  | nil => exact ⟨false, [], .no, rfl, by intro c hc; simp at hc, by simp, by simp, trivial⟩
  | cons c r =>
    simp only [tailLen] at h
    by_cases hc : c = 46
    · subst hc
      simp only [beq_self_eq_true, if_true] at h
      by_cases hr : hd r
      · simp only [hr, if_true, List.length_cons] at h
        have hl := run_le r
        have hp := run_pos r hr
        obtain ⟨ex, hok, hex⟩ := exp_all (r.drop (run r)) (by rw [List.length_drop]; omega)
        refine ⟨true, r.take (run r), ex, ?_, ?_, ?_, by simp, hok⟩
        · rw [← hex]; simp [ptText]
        · rw [take_run]; exact all_takeWhile _ _
        · intro _ h0
          have := congrArg List.length h0
          rw [List.length_take, List.length_nil] at this
          omega
      · simp [hr] at h
    · have hb : (c == 46) = false := by simpa using hc
      simp only [hb, Bool.false_eq_true, if_false] at h
      obtain ⟨ex, hok, hex⟩ := exp_all (c :: r) h
      exact ⟨false, [], ex, by rw [hex]; rfl, by intro c hc; simp at hc, by simp, by simp, hok⟩
theorem body_all (l : List UInt8) (hn : l ≠ []) (h : bodyLen l = l.length) : ∃ (I : List UInt8) (pt : Bool) (F : List UInt8) (ex : Ex), Good I pt F ex ∧ l = I ++ (ptText pt F ++ ex.text) := by
  cases l with
  | nil => exact absurd rfl hn
  | cons c r =>
    simp only [bodyLen] at h
    by_cases hc : c = 48
    · subst hc
      simp only [beq_self_eq_true, if_true, List.length_cons] at h
      obtain ⟨pt, F, ex, hl, h1, h2, h3, h4⟩ := tail_all r (by omega)
      exact ⟨[48], pt, F, ex, ⟨by intro c hc; simp at hc; subst hc; decide, by simp, h1, h2, h3, h4⟩, by rw [hl]; rfl⟩
    · have hb : (c == 48) = false := by simpa using hc
      simp only [hb, Bool.false_eq_true, if_false] at h
      by_cases hd' : isD c
      · simp only [hd', if_true] at h
        have hl := run_le (c :: r)
        obtain ⟨pt, F, ex, hl, h1, h2, h3, h4⟩ := tail_all ((c :: r).drop (run (c :: r))) (by rw [List.length_drop]; omega)
        refine ⟨(c :: r).take (run (c :: r)), pt, F, ex, ⟨?_, ?_, h1, h2, h3, h4⟩, ?_⟩
        · rw [take_run]; exact all_takeWhile _ _
        · rw [run_cons, if_pos hd', Nat.add_comm]; simp
        · rw [← hl, List.take_append_drop]
      · simp [hd'] at h
/-- WHATEVER IS SCANNED WHOLE COMES APART. -/
theorem apart (l : List UInt8) (hn : l ≠ []) (h : scan l = l.length) : ∃ (neg : Bool) (I : List UInt8) (pt : Bool) (F : List UInt8) (ex : Ex), Good I pt F ex ∧ l = render neg I pt F ex := by
  cases l with
  | nil => exact absurd rfl hn
  | cons c r =>
    simp only [scan] at h
    by_cases hc : c = 45
    · subst hc
      simp only [beq_self_eq_true, if_true, List.length_cons] at h
      split at h
      · omega
      · rename_i hb
        have hr : r ≠ [] := by rintro rfl; exact hb rfl
        obtain ⟨I, pt, F, ex, hg, hl⟩ := body_all r hr (by omega)
        exact ⟨true, I, pt, F, ex, hg, by rw [hl]; rfl⟩
    · have hb : (c == 45) = false := by simpa using hc
      simp only [hb, Bool.false_eq_true, if_false] at h
      obtain ⟨I, pt, F, ex, hg, hl⟩ := body_all (c :: r) (by simp) h
      exact ⟨false, I, pt, F, ex, hg, by rw [hl]; rfl⟩

/-! ### the other way -/
theorem isE_not (e : UInt8) (h : isE e = true) : isD e = false ∧ e ≠ 46 ∧ e ≠ 45 ∧ e ≠ 48 ∧ isS e = false := by
  rcases kinds e with ⟨k, d, a, b, c, x, s⟩ | ⟨k, rfl⟩ | ⟨k, rfl⟩ | ⟨k, _, d, a, b, c, s⟩ | ⟨k, rfl⟩ | ⟨k, rfl⟩ | ⟨k, d, x, _⟩
  · rw [h] at x; cases x
  · exact absurd h (by decide)
  · exact absurd h (by decide)
  · exact ⟨d, c, b, a, s⟩
  · exact absurd h (by decide)
  · exact absurd h (by decide)
  · rw [h] at x; cases x
theorem isD_not (c : UInt8) (h : isD c = true) : isE c = false ∧ c ≠ 46 ∧ c ≠ 45 ∧ c ≠ 43 ∧ isS c = false := by
  rcases kinds c with ⟨k, d, a, b, x, e, s⟩ | ⟨k, rfl⟩ | ⟨k, rfl⟩ | ⟨k, _, d, _⟩ | ⟨k, rfl⟩ | ⟨k, rfl⟩ | ⟨k, d, _⟩
  · refine ⟨e, x, b, ?_, s⟩
    rintro rfl; exact absurd s (by decide)
  · exact ⟨by decide, by decide, by decide, by decide, by decide⟩
  · exact absurd h (by decide)
  · rw [h] at d; cases d
  · exact absurd h (by decide)
  · exact absurd h (by decide)
  · rw [h] at d; cases d
theorem exp_text (ex : Ex) (h : ex.ok) : expLen ex.text = ex.text.length := by
  cases ex with
  | no => rfl
  | some e sg X =>
    obtain ⟨he, hs, hn, hX⟩ := h
    have hX' := hd_of_dig X hX hn
    have hr := run_all X hX
    rcases hs with rfl | rfl | rfl
    · cases X with
      | nil => exact absurd rfl hn
      | cons d q =>
        have hd' := isD_not d (hX d (List.mem_cons_self ..))
        simp only [Ex.text, expLen, he, if_true, List.nil_append, hd'.2.2.2.2, Bool.false_eq_true, if_false, hX', hr, List.length_cons]; omega
    · simp [Ex.text, expLen, he, isS, hX', hr]; omega
    · simp [Ex.text, expLen, he, isS, hX', hr]; omega
theorem run_ex (ex : Ex) (h : ex.ok) : run ex.text = 0 := by
  cases ex with
  | no => rfl
  | some e sg X => rw [Ex.text, run_cons, if_neg (by simp [(isE_not e h.1).1])]
theorem tail_text (pt : Bool) (F : List UInt8) (ex : Ex) (h1 : dig F) (h2 : pt = true → F ≠ []) (h4 : ex.ok) : tailLen (ptText pt F ++ ex.text) = (ptText pt F ++ ex.text).length := by
  cases pt with
  | true =>
    have hr : run (F ++ ex.text) = F.length := by rw [run_append _ _ h1, run_ex ex h4]; rfl
    have hh : hd (F ++ ex.text) = true := by rw [hd_append _ _ (h2 rfl)]; exact hd_of_dig F h1 (h2 rfl)
    simp only [ptText, if_true, List.cons_append, tailLen, beq_self_eq_true, hh, hr, List.drop_left, exp_text ex h4, List.length_cons, List.length_append]
    omega
  | false =>
    simp only [ptText, Bool.false_eq_true, if_false, List.nil_append]
    cases ex with
    | no => rfl
    | some e sg X =>
      have := exp_text _ h4
      have hb : (e == 46) = false := by simpa using (isE_not e h4.1).2.1
      rw [Ex.text] at this ⊢
      simp only [tailLen, hb, Bool.false_eq_true, if_false]
      exact this
theorem run_tail (pt : Bool) (F : List UInt8) (ex : Ex) (h4 : ex.ok) : run (ptText pt F ++ ex.text) = 0 := by
  cases pt with
  | true => simp only [ptText, if_true, List.cons_append]; rw [run_cons, if_neg (by decide)]
  | false => exact run_ex ex h4
theorem scan_render (neg : Bool) (I : List UInt8) (pt : Bool) (F : List UInt8) (ex : Ex) (h : Good I pt F ex) (h0 : I = [48] ∨ I.head? ≠ some 48) : scan (render neg I pt F ex) = (render neg I pt F ex).length := by
  have hb : bodyLen (I ++ (ptText pt F ++ ex.text)) = (I ++ (ptText pt F ++ ex.text)).length := by
    have ht := tail_text pt F ex h.fDig h.fNe h.exOk
    have hrt := run_tail pt F ex h.exOk
    rcases h0 with rfl | h0
    · simp only [List.cons_append, List.nil_append, bodyLen, beq_self_eq_true, if_true, ht, List.length_cons]; omega
    · have hrun := run_append I (ptText pt F ++ ex.text) h.iDig
      have hi := h.iDig
      cases I with
      | nil => exact absurd rfl h.iNe
      | cons c r =>
        have hc : (c == 48) = false := by simp at h0; simpa using h0
        have hc' := hi c (List.mem_cons_self ..)
        simp only [List.cons_append, bodyLen, hc, Bool.false_eq_true, if_false, hc', if_true]
        simp only [List.cons_append] at hrun
        rw [hrun, hrt, Nat.add_zero]
        have hdr : (c :: (r ++ (ptText pt F ++ ex.text))).drop (c :: r).length = ptText pt F ++ ex.text := by
          rw [← List.cons_append, List.drop_left]
        rw [hdr, ht]
        simp; omega
  have hne : 0 < (I ++ (ptText pt F ++ ex.text)).length := by
    have := h.iNe
    cases I with
    | nil => exact absurd rfl this
    | cons c r => simp
  cases neg with
  | true =>
    simp only [render, sgText, if_true, List.cons_append, List.nil_append, scan, beq_self_eq_true, hb, List.length_cons]
    rw [if_neg (by omega)]; omega
  | false =>
    simp only [render, sgText, Bool.false_eq_true, if_false, List.nil_append]
    have hi := h.iDig
    cases I with
    | nil => exact absurd rfl h.iNe
    | cons c r =>
      have hc : (c == 45) = false := by simpa using (isD_not c (hi c (List.mem_cons_self ..))).2.2.1
      simp only [List.cons_append, scan, hc, Bool.false_eq_true, if_false]
      exact hb
end Go.Proofs.NumPlain
