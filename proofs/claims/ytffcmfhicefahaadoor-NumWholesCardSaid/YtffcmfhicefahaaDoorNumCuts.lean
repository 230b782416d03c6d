/- Plain: what the library's cuts make of a number's text. -/
import Derived.Test.YtffcmfhicefahaaDoorNumTrim
namespace Go.Proofs.NumPlain
open Go

theorem head_dig (I r : List UInt8) (h : dig I) (hn : I ≠ []) : ∃ c q, I ++ r = c :: q ∧ isD c = true := by
  cases I with
  | nil => exact absurd rfl hn
  | cons c q => exact ⟨c, q ++ r, rfl, h c (List.mem_cons_self ..)⟩
theorem prefix_cons (c : UInt8) (q : List UInt8) : Lib.hasPrefix (c :: q) [45] = (c == 45) := by
  simp only [Lib.hasPrefix, List.isPrefixOf, Bool.and_true]
  exact Bool.beq_comm ..
theorem cut_sign (neg : Bool) (I : List UInt8) (pt : Bool) (F : List UInt8) (ex : Ex) (h : Good I pt F ex) :
    Lib.hasPrefix (render neg I pt F ex) [45] = neg ∧ Lib.trimPrefix (render neg I pt F ex) [45] = I ++ (ptText pt F ++ ex.text) := by
  cases neg with
  | true => constructor <;> simp [render, sgText, Lib.trimPrefix, Lib.hasPrefix]
  | false =>
    obtain ⟨c, q, e, hc⟩ := head_dig I (ptText pt F ++ ex.text) h.iDig h.iNe
    have hb : (c == 45) = false := by simpa using (isD_not c hc).2.2.1
    have h1 : render false I pt F ex = c :: q := by simp only [render, sgText, Bool.false_eq_true, if_false, List.nil_append]; exact e
    rw [h1, e]
    unfold Lib.trimPrefix
    rw [prefix_cons, hb]
    exact ⟨rfl, rfl⟩
theorem indexAny_skip (l r : List UInt8) (cs : List UInt8) (h : ∀ c ∈ l, cs.contains c = false) (b : UInt8) (hb : cs.contains b = true) : Lib.indexAny (l ++ b :: r) cs = l.length := by
  induction l with
  | nil => rw [List.nil_append, Lib.indexAny, hb]; rfl
  | cons c q ih =>
    have ih' := ih (fun d hd => h d (List.mem_cons_of_mem _ hd))
    have hc := h c (List.mem_cons_self ..)
    rw [List.cons_append, Lib.indexAny, hc, ih']
    simp only [Bool.false_eq_true, if_false, List.length_cons]
    rw [if_neg (by simp)]
    omega
theorem indexAny_miss (l : List UInt8) (cs : List UInt8) (h : ∀ c ∈ l, cs.contains c = false) : Lib.indexAny l cs = -1 := by
  induction l with
  | nil => rfl
  | cons c q ih =>
    rw [Lib.indexAny, h c (List.mem_cons_self ..), ih (fun d hd => h d (List.mem_cons_of_mem _ hd))]
    rfl
theorem cs_E (c : UInt8) : [101, 69].contains c = isE c := by
  have := all_u8 (fun c => [101, 69].contains c == isE c) (by decide +kernel) c
  simpa using this
theorem cs_S (c : UInt8) : [43, 45].contains c = isS c := by
  have := all_u8 (fun c => [43, 45].contains c == isS c) (by decide +kernel) c
  simpa using this
theorem noE (I : List UInt8) (pt : Bool) (F : List UInt8) (hI : dig I) (hF : dig F) : ∀ c ∈ I ++ ptText pt F, [101, 69].contains c = false := by
  intro c hc
  rw [cs_E]
  rcases List.mem_append.1 hc with h | h
  · exact (isD_not c (hI c h)).1
  · unfold ptText at h
    split at h
    · rcases List.mem_cons.1 h with rfl | h
      · decide
      · exact (isD_not c (hF c h)).1
    · simp at h
theorem index_E_no (I : List UInt8) (pt : Bool) (F : List UInt8) (hI : dig I) (hF : dig F) : Lib.indexAny (I ++ (ptText pt F ++ Ex.no.text)) [101, 69] = -1 := by
  rw [show Ex.no.text = [] from rfl, List.append_nil]
  exact indexAny_miss _ _ (noE I pt F hI hF)
theorem index_E_some (I : List UInt8) (pt : Bool) (F : List UInt8) (hI : dig I) (hF : dig F) (e : UInt8) (sg X : List UInt8) (he : isE e = true) :
    Lib.indexAny (I ++ (ptText pt F ++ (Ex.some e sg X).text)) [101, 69] = (I ++ ptText pt F).length := by
  rw [← List.append_assoc, show (Ex.some e sg X).text = e :: (sg ++ X) from rfl]
  exact indexAny_skip _ _ _ (noE I pt F hI hF) e (by rw [cs_E]; exact he)
theorem index_one (l r : List UInt8) (b : UInt8) (h : ∀ c ∈ l, c ≠ b) : Lib.index (l ++ b :: r) [b] = l.length := by
  induction l with
  | nil => simp [Lib.index]
  | cons c q ih =>
    have ih' := ih (fun d hd => h d (List.mem_cons_of_mem _ hd))
    have hc : (b == c) = false := by simpa using fun e => h c (List.mem_cons_self ..) e.symm
    rw [List.cons_append, Lib.index, ih']
    simp only [List.isPrefixOf, hc, Bool.false_and, Bool.false_eq_true, if_false, List.length_cons]
    rw [if_neg (by simp)]
    omega
theorem index_none (l : List UInt8) (b : UInt8) (h : ∀ c ∈ l, c ≠ b) : Lib.index l [b] = -1 := by
  induction l with
  | nil => rfl
  | cons c q ih =>
    have ih' := ih (fun d hd => h d (List.mem_cons_of_mem _ hd))
    have hc : (b == c) = false := by simpa using fun e => h c (List.mem_cons_self ..) e.symm
    rw [Lib.index, ih']
    simp [List.isPrefixOf, hc]
theorem dig_ne46 (I : List UInt8) (h : dig I) : ∀ c ∈ I, c ≠ 46 := fun c hc => (isD_not c (h c hc)).2.1
theorem cut_pt (I : List UInt8) (pt : Bool) (F : List UInt8) (hI : dig I) (hp : pt = false → F = []) : Lib.cut (I ++ ptText pt F) [46] = (I, F, pt) := by
  cases pt with
  | true =>
    have := index_one I F 46 (dig_ne46 I hI)
    simp only [ptText, if_true, Lib.cut]
    rw [this, if_pos (by omega)]
    simp
  | false =>
    rw [hp rfl]
    have := index_none I 46 (dig_ne46 I hI)
    simp only [ptText, Bool.false_eq_true, if_false, List.append_nil, Lib.cut]
    rw [this, if_neg (by omega)]
theorem trimLeftS_keep (l cs : List UInt8) (c : UInt8) (q : List UInt8) (e : l = c :: q) (h : cs.contains c = false) : Lib.trimLeftS l cs = l := by
  subst e
  simp only [Lib.trimLeftS]
  rw [List.dropWhile_cons, h]; rfl
theorem trimRightS_keep (l cs : List UInt8) (h : ∀ c, l.getLast? = some c → cs.contains c = false) : Lib.trimRightS l cs = l := by
  unfold Lib.trimRightS
  cases hl : l.reverse with
  | nil =>
    have : l = [] := by simpa using hl
    subst this; rfl
  | cons c q =>
    have h1 : l.getLast? = some c := by rw [← List.head?_reverse, hl]; rfl
    rw [List.dropWhile_cons, h c h1]
    simp only [Bool.false_eq_true, if_false]
    rw [← hl, List.reverse_reverse]
theorem dig_noS (X : List UInt8) (h : dig X) (c : UInt8) (hc : c ∈ X) : [43, 45].contains c = false := by
  rw [cs_S]; exact (isD_not c (h c hc)).2.2.2.2
theorem trim_signs (sg X : List UInt8) (hs : sg = [] ∨ sg = [43] ∨ sg = [45]) (hn : X ≠ []) (hX : dig X) : Lib.trimS (sg ++ X) [43, 45] = X := by
  unfold Lib.trimS
  have h1 : Lib.trimRightS (sg ++ X) [43, 45] = sg ++ X := trimRightS_keep _ _ fun c hc => by
    rw [List.getLast?_append, List.getLast?_eq_some_getLast hn, Option.some_or, ← List.getLast?_eq_some_getLast hn] at hc
    exact dig_noS X hX c (List.mem_of_getLast? hc)
  rw [h1]
  have h2 : Lib.trimLeftS X [43, 45] = X := by
    cases X with
    | nil => exact absurd rfl hn
    | cons c q => exact trimLeftS_keep _ _ c q rfl (dig_noS _ hX c (List.mem_cons_self ..))
  rcases hs with rfl | rfl | rfl
  · exact h2
  · have : Lib.trimLeftS ([43] ++ X) [43, 45] = Lib.trimLeftS X [43, 45] := rfl
    rw [this, h2]
  · have : Lib.trimLeftS ([45] ++ X) [43, 45] = Lib.trimLeftS X [43, 45] := rfl
    rw [this, h2]
theorem sign_neg (sg X : List UInt8) (hs : sg = [] ∨ sg = [43] ∨ sg = [45]) (hn : X ≠ []) (hX : dig X) : Lib.hasPrefix (sg ++ X) [45] = decide (sg = [45]) := by
  rcases hs with rfl | rfl | rfl
  · cases X with
    | nil => exact absurd rfl hn
    | cons c q =>
      rw [List.nil_append, prefix_cons]
      have := (isD_not c (hX c (List.mem_cons_self ..))).2.2.1
      simp [this]
  · rw [List.cons_append, prefix_cons]; decide
  · rw [List.cons_append, prefix_cons]; decide
theorem trimB_l (l : List UInt8) : Lib.trimLeftB l 48 = ltrim l := rfl
theorem trimB_r (l : List UInt8) : Lib.trimRightB l 48 = rtrim l := rfl
end Go.Proofs.NumPlain
