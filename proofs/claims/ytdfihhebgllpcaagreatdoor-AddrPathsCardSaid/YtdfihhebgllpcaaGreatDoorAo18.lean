import Derived.Test.YtdfihhebgllpcaaGreatDoorAo17
import Derived.Lib.SplitLaws
import Derived.Lib.CutLaws
import Derived.Test.YtdfihhebgllpcaaGreatDoorAo16
import Derived.Laws.StructEq
import Derived.Test.YtdfihhebgllpcaaGreatDoorAo06
import Derived.Test.YtdfihhebgllpcaaGreatDoorAo07
import Derived.Deep.RegionWith

/- Plain: the library's cut and split, at one byte. -/
namespace Go.Proofs.AddrPlain
open Go.Proofs.UtfPlain Go.Proofs.QuotePlain Go.Proofs.LexPlain

theorem idx_cases (c : UInt8) (l : List UInt8) : (c ∉ l ∧ Lib.index l [c] = -1) ∨ ∃ a b, c ∉ a ∧ l = a ++ c :: b ∧ Lib.index l [c] = (a.length : Int) := by
  induction l with
  | nil => left; exact ⟨by simp, rfl⟩
  | cons x r ih =>
    by_cases h : x = c
    · right
      subst h
      refine ⟨[], r, by simp, rfl, ?_⟩
      show (if [x].isPrefixOf (x :: r) then (0 : Int) else _) = _
      rw [if_pos (by simp [List.isPrefixOf])]; rfl
    · rw [index_cons x c r h]
      rcases ih with ⟨h1, h2⟩ | ⟨a, b, h1, h2, h3⟩
      · left
        refine ⟨?_, by rw [h2]; rfl⟩
        simp only [List.mem_cons, not_or]; exact ⟨fun e => h e.symm, h1⟩
      · right
        refine ⟨x :: a, b, by simp only [List.mem_cons, not_or]; exact ⟨fun e => h e.symm, h1⟩, by rw [h2]; rfl, ?_⟩
        rw [h3, if_neg (by simp), List.length_cons]; rfl
theorem cut_eq (c : UInt8) (l : List UInt8) : Lib.cut l [c] = (aheadC c l, (behindC c l).getD [], (behindC c l).isSome) := by
  rcases idx_cases c l with ⟨h1, h2⟩ | ⟨a, b, h1, h2, h3⟩
  · obtain ⟨e1, e2⟩ := cutC_no c l h1
    unfold Lib.cut
    rw [h2, if_neg (by omega), e1, e2]; rfl
  · subst h2
    obtain ⟨e1, e2⟩ := cutC_app c a b h1
    unfold Lib.cut
    rw [h3, if_pos (by omega), e1, e2]
    simp
theorem mk_of (s : ByteArray) (l : List UInt8) (h : s.data.toList = l) : s = mk l := by rw [← h, mk_eta]
theorem indexB_eq (s : ByteArray) (c : UInt8) : Lib.indexB s ⟨#[c]⟩ = Lib.index s.data.toList [c] := rfl
theorem split_eq (c : UInt8) : ∀ (k : Nat) (s : ByteArray), Lib.countB s ⟨#[c]⟩ = k → Lib.splitB ⟨#[c]⟩ 0 k s = (splitC c s.data.toList).map mk := by
  intro k
  induction k with
  | zero =>
    intro s h
    rw [Lib.splitB_zero]
    rcases idx_cases c s.data.toList with ⟨h1, _⟩ | ⟨a, b, h1, h2, h3⟩
    · rw [splitC_no c _ h1, List.map_singleton, mk_eta]
    · exfalso
      have := Lib.countB_hit s ⟨#[c]⟩ a.length (Nat.le_refl 1) h3
      omega
  | succ k ih =>
    intro s h
    rcases idx_cases c s.data.toList with ⟨_, h2⟩ | ⟨a, b, h1, h2, h3⟩
    · exfalso
      have := Lib.countB_miss s ⟨#[c]⟩ h2
      omega
    · have hc := Lib.countB_hit s ⟨#[c]⟩ a.length (Nat.le_refl 1) h3
      rw [Lib.splitB_hit ⟨#[c]⟩ 0 k s a.length h3, ih _ (by omega)]
      have hsz : s.size = a.length + 1 + b.length := by
        rw [Lib.size_eq, h2]; simp; omega
      have e1 : (s.extract 0 (a.length + 0)).data.toList = a := by
        rw [← Lib.toList_data, Lib.extract_toList, h2]; simp
      have e2 : (s.extract (a.length + (⟨#[c]⟩ : ByteArray).size) s.size).data.toList = b := by
        rw [← Lib.toList_data, Lib.extract_toList, h2]
        have : (⟨#[c]⟩ : ByteArray).size = 1 := rfl
        rw [this, hsz, show a.length + 1 = (a ++ [c]).length by simp, show a ++ c :: b = (a ++ [c]) ++ b by simp, List.drop_left]
        rw [List.take_of_length_le (by simp)]
      rw [e2, mk_of _ _ e1, h2, splitC_app c a b h1]; rfl
theorem count_split (c : UInt8) (s : ByteArray) : Lib.countB s ⟨#[c]⟩ + 1 = (splitC c s.data.toList).length := by
  have h1 := Lib.splitB_all ⟨#[c]⟩ (Nat.le_refl 1) 0 _ s rfl
  rw [split_eq c _ s rfl, List.length_map] at h1
  exact h1.symm
theorem suffix_eq (r : List UInt8) (c : UInt8) : Lib.hasSuffix r [c] = decide (r.getLast? = some c) ∧ Lib.trimSuffix r [c] = if r.getLast? = some c then r.dropLast else r := by
  have h : Lib.hasSuffix r [c] = decide (r.getLast? = some c) := by
    rw [Bool.eq_iff_iff]
    unfold Lib.hasSuffix
    rw [List.isSuffixOf_iff_suffix, decide_eq_true_iff]
    constructor
    · rintro ⟨t, ht⟩; rw [← ht]; simp
    · intro h
      obtain ⟨t, ht⟩ := List.getLast?_eq_some_iff.1 h
      exact ⟨t, ht.symm⟩
  refine ⟨h, ?_⟩
  unfold Lib.trimSuffix
  rw [h]
  by_cases hc : r.getLast? = some c
  · rw [if_pos hc, if_pos (by simpa using hc), List.dropLast_eq_take]; rfl
  · rw [if_neg hc, if_neg (by simpa using hc)]
/-! Comparing texts. -/
theorem cmp_neg : ∀ (l m : List UInt8), Lib.compareBytes m l = - Lib.compareBytes l m
  | [], [] => rfl
  | [], _ :: _ => rfl
  | _ :: _, [] => rfl
  | a :: l, b :: m => by
    unfold Lib.compareBytes
    have := cmp_neg l m
    have hlt := @UInt8.lt_asymm a b
    split <;> split <;> simp_all
theorem cmp_less : ∀ (l m : List UInt8), Lib.compareBytes l m = if Op.bytesLess l m then -1 else if Op.bytesLess m l then 1 else 0
  | [], [] => rfl
  | [], _ :: _ => rfl
  | _ :: _, [] => rfl
  | a :: l, b :: m => by
    unfold Lib.compareBytes Op.bytesLess
    by_cases h1 : a < b
    · simp [h1]
    · by_cases h2 : b < a
      · have h3 : (a == b) = false := by rw [beq_eq_false_iff_ne]; rintro rfl; exact h1 h2
        simp [h1, h2, h3]
      · have h3 : a = b := UInt8.le_antisymm (UInt8.not_lt.1 h2) (UInt8.not_lt.1 h1)
        subst h3
        simp [h1, cmp_less l m]
theorem cmp_zero : ∀ (l m : List UInt8), Lib.compareBytes l m = 0 ↔ l = m
  | [], [] => by simp [Lib.compareBytes]
  | [], _ :: _ => by simp [Lib.compareBytes]
  | _ :: _, [] => by simp [Lib.compareBytes]
  | a :: l, b :: m => by
    unfold Lib.compareBytes
    by_cases h1 : a < b
    · rw [if_pos h1]; constructor
      · intro h; omega
      · intro h; injection h with h _; subst h; exact absurd h1 (UInt8.lt_irrefl _)
    · by_cases h2 : b < a
      · rw [if_neg h1, if_pos h2]; constructor
        · intro h; omega
        · intro h; injection h with h _; subst h; exact absurd h2 (UInt8.lt_irrefl _)
      · have h3 : a = b := UInt8.le_antisymm (UInt8.not_lt.1 h2) (UInt8.not_lt.1 h1)
        subst h3
        rw [if_neg h1, if_neg h2, cmp_zero l m]; simp
theorem less_irrefl (l : List UInt8) : Op.bytesLess l l = false := by
  induction l with
  | nil => rfl
  | cons a l ih => unfold Op.bytesLess; simp [ih]
theorem less_trans : ∀ (l m n : List UInt8), Op.bytesLess l m = true → Op.bytesLess m n = true → Op.bytesLess l n = true
  | _, _, [], _, h => by cases h' : (Op.bytesLess _ []) <;> simp_all [Op.bytesLess]
  | [], _, _ :: _, _, _ => rfl
  | _ :: _, [], _ :: _, h, _ => by simp [Op.bytesLess] at h
  | a :: l, b :: m, c :: n, h1, h2 => by
    unfold Op.bytesLess at h1 h2 ⊢
    simp only [Bool.or_eq_true, Bool.and_eq_true, decide_eq_true_eq, beq_iff_eq] at h1 h2 ⊢
    rcases h1 with h1 | ⟨rfl, h1⟩
    · rcases h2 with h2 | ⟨rfl, h2⟩
      · left; exact UInt8.lt_trans h1 h2
      · left; exact h1
    · rcases h2 with h2 | ⟨rfl, h2⟩
      · left; exact h2
      · right; exact ⟨rfl, less_trans l m n h1 h2⟩
theorem less_asymm (l m : List UInt8) (h : Op.bytesLess l m = true) : Op.bytesLess m l = false := by
  rw [← Bool.not_eq_true]
  intro h2
  have := less_trans l m l h h2
  rw [less_irrefl] at this; cases this
theorem less_total (l m : List UInt8) (h1 : Op.bytesLess l m = false) (h2 : Op.bytesLess m l = false) : l = m := by
  rw [← cmp_zero, cmp_less, h1, h2]; rfl
end Go.Proofs.AddrPlain

/- Plain: numbers of digits, and what stands between points, as the reference reads them. -/
namespace Go.Proofs.AddrPlain
open Go.Proofs.UtfPlain Go.Proofs.QuotePlain Go.Proofs.LexPlain
open Go.Proofs.NumPlain (dig isD valN run64 snoc_ind)

def canon (l : List UInt8) : Bool := !l.isEmpty && decide (l.length ≤ 20) && !(decide (l.head? = some 48) && decide (1 < l.length)) && l.all isD
theorem all_dig (l : List UInt8) : l.all isD = true ↔ dig l := List.all_eq_true
theorem isD_val (c : UInt8) (h : isD c = true) : UInt8.ofNat (48 + (c.toNat - 48)) = c ∧ c.toNat - 48 < 10 ∧ 48 ≤ c.toNat := by
  have := all_u8 (fun c => !isD c || (decide (UInt8.ofNat (48 + (c.toNat - 48)) = c) && decide (c.toNat - 48 < 10) && decide (48 ≤ c.toNat))) (by decide +kernel) c
  rw [h] at this
  simp only [Bool.not_true, Bool.false_or, Bool.and_eq_true, decide_eq_true_eq] at this
  exact ⟨this.1.1, this.1.2, this.2⟩
/-- Digits without needless noughts are their number's. -/
theorem dec_of (l : List UInt8) : dig l → l ≠ [] → (l.head? = some 48 → l.length = 1) → Lib.decDigits (valN l) = l ∧ (l.head? ≠ some 48 → 0 < valN l) := by
  induction l using snoc_ind with
  | h0 => intro _ h; exact absurd rfl h
  | h1 l c ih =>
    intro hd _ hh
    have hc := isD_val c (hd c (by simp))
    by_cases hl : l = []
    · subst hl
      have e : valN ([] ++ [c]) = c.toNat - 48 := by
        rw [NumPlain.valN_snoc]; show 10 * 0 + _ = _; omega
      rw [e, Lib.decDigits_one hc.2.1, hc.1]
      refine ⟨rfl, fun h => ?_⟩
      have : c ≠ 48 := fun e => h (by rw [e]; rfl)
      have h2 : c.toNat ≠ 48 := fun e => this (UInt8.toNat_inj.1 e)
      have := hc.2.2
      omega
    · have hhd : (l ++ [c]).head? = l.head? := by
        cases l with
        | nil => exact absurd rfl hl
        | cons _ _ => rfl
      have hh' : l.head? ≠ some 48 := fun e => by
        have := hh (by rw [hhd]; exact e)
        rw [List.length_append] at this
        have : l.length = 0 := by simp at this; simp [this]
        exact hl (List.length_eq_zero_iff.1 this)
      obtain ⟨i1, i2⟩ := ih (fun x hx => hd x (by simp [hx])) hl (fun e => absurd e hh')
      have hp := i2 hh'
      rw [NumPlain.valN_snoc]
      refine ⟨?_, fun _ => by omega⟩
      rw [Lib.decDigits, dif_neg (by omega), show (10 * valN l + (c.toNat - 48)) / 10 = valN l by omega, show (10 * valN l + (c.toNat - 48)) % 10 = c.toNat - 48 by omega, i1, hc.1]
theorem run_val (l : List UInt8) (v : Nat) (h : run64 0 l = some v) : v = valN l ∧ v < 18446744073709551616 := by
  rw [NumPlain.run64_eq l 0 (by omega)] at h
  split at h
  · rename_i h1
    injection h with h
    exact ⟨h.symm, by rw [← h]; exact h1⟩
  · cases h
theorem parse_dig (l : List UInt8) (hd : dig l) (hn : l ≠ []) : Lib.parseUintB 64 l = match run64 0 l with | some v => .ok v | none => .range := by
  unfold Lib.parseUintB
  rw [if_neg hn]
  exact NumPlain.parse_run l 0 (by omega) hd
theorem number_some (l : List UInt8) (v : Nat) (h : number l = some v) : dig l ∧ l ≠ [] ∧ (l.head? = some 48 → l.length = 1) ∧ run64 0 l = some v := by
  have hl := number_digits l v h
  have hd := NumPlain.dec_dig v
  have hh := NumPlain.dec_head v
  rw [← hl] at hd hh
  refine ⟨hd.1, hd.2.1, fun e => ?_, ?_⟩
  · rcases hh with h1 | h1
    · rw [h1]; rfl
    · exact absurd e h1
  · unfold number at h
    rw [parse_dig l hd.1 hd.2.1] at h
    split at h
    · rename_i u hu
      split at hu
      · rename_i w hw
        injection hu with hu
        split at h
        · injection h with h; rw [hw, hu, h]
        · cases h
      · cases hu
    · cases h
theorem number_of (l : List UInt8) (v : Nat) (hd : dig l) (hn : l ≠ []) (hh : l.head? = some 48 → l.length = 1) (h : run64 0 l = some v) : number l = some v := by
  have hv := run_val l v h
  unfold number
  rw [parse_dig l hd hn, h]
  simp only
  rw [hv.1, (dec_of l hd hn hh).1, if_pos rfl]
theorem valN_pos (l : List UInt8) (hd : dig l) (hh : l.head? ≠ some 48) (hn : l ≠ []) : 10 ^ (l.length - 1) ≤ valN l := by
  cases l with
  | nil => exact absurd rfl hn
  | cons c r =>
    have hc := isD_val c (hd c (by simp))
    have h48 : c.toNat ≠ 48 := fun e => hh (by rw [show c = 48 from UInt8.toNat_inj.1 e]; rfl)
    have : valN (c :: r) = NumPlain.val (c.toNat - 48) r := by
      show NumPlain.val 0 (c :: r) = _
      rw [NumPlain.val_cons]; congr 1; omega
    rw [this]
    have h1 := NumPlain.val_ge r (c.toNat - 48)
    refine Nat.le_trans ?_ h1
    rw [List.length_cons, Nat.add_sub_cancel]
    exact Nat.le_mul_of_pos_left _ (by omega)
/-- The reference's way: no text of more than 20 bytes. -/
theorem number_ref (l : List UInt8) : number l = if canon l then run64 0 l else none := by
  by_cases hc : canon l = true
  · rw [if_pos hc]
    unfold canon at hc
    simp only [Bool.and_eq_true, Bool.not_eq_true', List.isEmpty_eq_false_iff, decide_eq_true_eq, Bool.and_eq_false_iff, decide_eq_false_iff_not] at hc
    obtain ⟨⟨⟨h1, h2⟩, h3⟩, h4⟩ := hc
    have hd := (all_dig l).1 h4
    have hh : l.head? = some 48 → l.length = 1 := fun e => by
      rcases h3 with h3 | h3
      · exact absurd e h3
      · have : 0 < l.length := List.length_pos_iff.2 h1
        omega
    cases hr : run64 0 l with
    | some v => exact number_of l v hd h1 hh hr
    | none =>
      cases hn : number l with
      | none => rfl
      | some v => have := (number_some l v hn).2.2.2; rw [hr] at this; cases this
  · rw [if_neg hc]
    cases hn : number l with
    | none => rfl
    | some v =>
      exfalso
      obtain ⟨h1, h2, h3, h4⟩ := number_some l v hn
      apply hc
      have hv := run_val l v h4
      have h20 : l.length ≤ 20 := by
        by_cases h0 : l.head? = some 48
        · rw [h3 h0]; omega
        · have hp := valN_pos l h1 h0 h2
          rw [← hv.1] at hp
          rcases Nat.lt_or_ge 20 l.length with h | h
          · have : 10 ^ 20 ≤ 10 ^ (l.length - 1) := Nat.pow_le_pow_right (by omega) (by omega)
            have : (10 : Nat) ^ 20 = 100000000000000000000 := by decide
            omega
          · exact h
      unfold canon
      simp only [Bool.and_eq_true, Bool.not_eq_true', List.isEmpty_eq_false_iff, decide_eq_true_eq, Bool.and_eq_false_iff, decide_eq_false_iff_not]
      refine ⟨⟨⟨h2, h20⟩, ?_⟩, (all_dig l).2 h1⟩
      by_cases h0 : l.head? = some 48
      · right; rw [h3 h0]; omega
      · left; exact h0
theorem number_lt (l : List UInt8) (v : Nat) (h : number l = some v) : v < 18446744073709551616 := (run_val l v (number_some l v h).2.2.2).2

/-! Points. -/
theorem split_last (c : UInt8) (l : List UInt8) (a : Nat) (h : ∀ j, a ≤ j → ∀ x, l[j]? = some x → x ≠ c) : splitC c (l.drop a) = [l.drop a] := by
  apply splitC_no
  intro hm
  obtain ⟨j, hj⟩ := List.getElem?_of_mem hm
  rw [List.getElem?_drop] at hj
  exact h (a + j) (by omega) c hj rfl
theorem split_more (c : UInt8) (l : List UInt8) (a i : Nat) (ha : a ≤ i) (hi : l[i]? = some c) (h : ∀ j, a ≤ j → j < i → ∀ x, l[j]? = some x → x ≠ c) : splitC c (l.drop a) = (l.drop a).take (i - a) :: splitC c (l.drop (i + 1)) := by
  have hlt : i < l.length := by
    rcases Nat.lt_or_ge i l.length with h | h
    · exact h
    · rw [List.getElem?_eq_none h] at hi; cases hi
  have e : l.drop a = (l.drop a).take (i - a) ++ c :: l.drop (i + 1) := by
    conv => lhs; rw [← List.take_append_drop (i - a) (l.drop a)]
    rw [List.drop_drop, show a + (i - a) = i by omega, List.drop_eq_getElem_cons hlt]
    rw [List.getElem?_eq_getElem hlt] at hi
    injection hi with hi
    rw [hi]
  have hn : c ∉ (l.drop a).take (i - a) := by
    intro hm
    obtain ⟨j, hj⟩ := List.getElem?_of_mem hm
    rw [List.getElem?_take] at hj
    split at hj
    · rw [List.getElem?_drop] at hj
      exact h (a + j) (by omega) (by omega) c hj rfl
    · cases hj
  conv => lhs; rw [e]
  rw [splitC_app c _ _ hn]
end Go.Proofs.AddrPlain

/- The walks of addr.of, key.right, addr.Right. -/
namespace Go.Proofs.YtdfihhebgllpcaaGreatDoor
open Go.RowKit Go.Proofs.QuotePlain Go.Proofs.UtfPlain Go.Proofs.LexPlain Go.Proofs.AddrPlain

/-- An address's six cells. -/
def adV (pv : Value) (a : Ad) : Array Value := #[pv, .string a.ty, .string a.nm, .int .i64 a.key, .int .u64 ((a.place : Nat) : Int), .string a.word]
/-- No text of an address is great. -/
structure AdB (a : Ad) : Prop where
  pl : a.path.length ≤ 100000
  ps : ∀ X ∈ a.path, X.size ≤ 100000
  ty : a.ty.size ≤ 100000
  nm : a.nm.size ≤ 100000
  wd : a.word.size ≤ 100000
  pc : a.place < 18446744073709551616
theorem StrS.mono {w : World} {B B' : Nat} {v : Value} {xs : List ByteArray} (h : StrS w B v xs) (hB : B ≤ B') : StrS w B' v xs := by
  obtain ⟨ao, cap, rfl, h2⟩ := h
  refine ⟨ao, cap, rfl, fun j X hj => ?_⟩
  obtain ⟨ad, h3, h4, h5⟩ := h2 j X hj
  exact ⟨ad, h3, by omega, h5⟩
theorem StrS.len {w : World} {B : Nat} {v : Value} {xs : List ByteArray} (h : StrS w B v xs) : ∃ ao cap, v = .slice ao xs.length cap := by
  obtain ⟨ao, cap, rfl, _⟩ := h; exact ⟨_, _, rfl⟩
theorem StrS.far {w w' : World} {v : Value} {xs : List ByteArray} (h : StrS w w.heap.size v xs) (hb : Below w.heap.size w w') : StrS w' w'.heap.size v xs := (h.below hb).mono hb.size
theorem names_eq (xs : List ByteArray) : allNames xs = AddrPlain.names xs := rfl

set_option maxHeartbeats 1000000 in
theorem of_any (pv : Value) (a : Ad) (w : World) :
    Calls Tryz.prog 92 #[.agg (adV pv a)] w fun e w' => e = .returned (.agg #[.int .i64 a.key, .int .u64 ((a.place : Nat) : Int), .string a.word]) ∧ Below w.heap.size w w' := by
  unfold adV
  go_enter Tryz.func92, Tryz.ntmps92
  go_wp2_with fail
  exact bodyPost_ret (v := .agg #[.int .i64 a.key, .int .u64 ((a.place : Nat) : Int), .string a.word]) (by simp [results, Tryz.results92, go_sem]) rfl ⟨rfl, ((Below.refl _ _).alloc (Nat.le_refl _) _).alloc (by simp) _⟩

theorem empty_eq (wd : ByteArray) : (wd.toList == (⟨#[]⟩ : ByteArray).toList) = wd.data.toList.isEmpty := by
  rw [Lib.toList_data, Lib.toList_data]
  cases h : wd.data.toList <;> rfl

set_option maxRecDepth 100000 in
set_option maxHeartbeats 2000000 in
theorem key_right (k : Int) (p : Nat) (wd : ByteArray) (w : World) (hF : FormsAt w) (hs : wd.size ≤ 100000) :
    Calls Tryz.prog 93 #[.agg #[.int .i64 k, .int .u64 ((p : Nat) : Int), .string wd]] w fun e w' => e = .returned (.bool (keyOk k p wd)) ∧ Below w.heap.size w w' := by
  obtain ⟨V, hV⟩ : ∃ V, valid wd.data.toList = V := ⟨_, rfl⟩
  obtain ⟨Q, z, hz, CQ⟩ : ∃ (Q : ByteArray) (z : Int), (z == 0) = V ∧ Hid (∀ w, FormsAt w → Calls Tryz.prog 89 #[.string wd] w fun e w' => e = .returned (.tuple #[.string Q, .int .i64 z]) ∧ Below w.heap.size w w') := by
    cases V with
    | true => exact ⟨_, 0, rfl, fun w hF => qprint_any wd w hF (by omega) hV⟩
    | false => exact ⟨_, 7, rfl, fun w hF => qprint_bad wd w hF (by omega) hV⟩
  have hl := (Below.refl w.heap.size w).alloc (Nat.le_refl _) (.cells #[.int .i64 k, .int .u64 ((p : Nat) : Int), .string wd] 105)
  have HL := Lib.hid hl
  have HF := Lib.hid (hF.below hl)
  have HB := Lib.hid (Blk.new w 105 #[.int .i64 k, .int .u64 ((p : Nat) : Int), .string wd])
  have HK : Hid (keyOk k p wd = ((decide (k = 0) && decide (p = 0) && wd.data.toList.isEmpty) || (decide (k = 1) && wd.data.toList.isEmpty) || (decide (k = 2) && decide (p = 0) && V))) := by
    unfold Hid keyOk; rw [hV]
  obtain ⟨R, hR⟩ : ∃ R, keyOk k p wd = R := ⟨_, rfl⟩
  rw [hR] at HK ⊢
  have HE := Lib.hid (empty_eq wd)
  have HZ := Lib.hid hz
  clear hl hF hR hV hz
  go_enter Tryz.func93, Tryz.ntmps93
  go_wp2_with fail
  refine (CQ.out _ HF.out).mono ?_
  rintro e w2 ⟨rfl, hb⟩
  have HB2 := HB.out.below hb HB.out.lt
  have HL2 := Lib.hid (HL.out.trans (hb.mono HL.out.size))
  have a0 : w2.cell? ⟨w.heap.size, 0, none⟩ = some (.int .i64 k) := HB2.cell 0
  have a1 : w2.cell? ⟨w.heap.size, 1, none⟩ = some (.int .u64 ((p : Nat) : Int)) := HB2.cell 1
  have a2 : w2.cell? ⟨w.heap.size, 2, none⟩ = some (.string wd) := HB2.cell 2
  clear hb HB2 HB HL HF
  have he0 : wd.toList = [] → wd.data.toList.isEmpty = true := fun h => by rw [← Lib.toList_data, h]; rfl
  have he1 : ¬ wd.toList = [] → wd.data.toList.isEmpty = false := fun h => by
    rw [← Lib.toList_data]
    cases hh : wd.toList with
    | nil => exact absurd hh h
    | cons _ _ => rfl
  have HE0 := Lib.hid he0
  have HE1 := Lib.hid he1
  clear he0 he1 HE CQ
  by_cases k0 : k = 0
  · subst k0
    by_cases hp : p = 0
    · subst hp
      by_cases he : wd.toList = []
      · have HR : Hid (true = R) := by unfold Hid; rw [HK.out, HE0.out he]; rfl
        clear HK HE0 HE1 HZ
        go_wp2_with fail
        go_ret
        exact ⟨congrArg (fun b => Ending.returned (.bool b)) HR.out, HL2.out⟩
      · have HR : Hid (false = R) := by unfold Hid; rw [HK.out, HE1.out he]; rfl
        clear HK HE0 HE1 HZ
        go_wp2_with fail
        go_ret
        exact ⟨congrArg (fun b => Ending.returned (.bool b)) HR.out, HL2.out⟩
    · have HR : Hid (false = R) := by unfold Hid; rw [HK.out, decide_eq_false hp]; rfl
      clear HK HE0 HE1 HZ
      go_wp2_with fail
      go_ret
      exact ⟨congrArg (fun b => Ending.returned (.bool b)) HR.out, HL2.out⟩
  by_cases k1 : k = 1
  · subst k1
    by_cases he : wd.toList = []
    · have HR : Hid (true = R) := by unfold Hid; rw [HK.out, HE0.out he]; rfl
      clear HK HE0 HE1 HZ k0
      go_wp2_with fail
      go_ret
      exact ⟨congrArg (fun b => Ending.returned (.bool b)) HR.out, HL2.out⟩
    · have HR : Hid (false = R) := by unfold Hid; rw [HK.out, HE1.out he]; simp
      clear HK HE0 HE1 HZ k0
      go_wp2_with fail
      go_ret
      exact ⟨congrArg (fun b => Ending.returned (.bool b)) HR.out, HL2.out⟩
  by_cases k2 : k = 2
  · subst k2
    by_cases hp : p = 0
    · subst hp
      have HR : Hid (V = R) := by unfold Hid; rw [HK.out]; simp
      have hz := HZ.out
      clear HK HE0 HE1 HZ k0 k1
      cases V with
      | true =>
        go_wp2_with fail
        go_ret
        exact ⟨congrArg (fun b => Ending.returned (.bool b)) HR.out, HL2.out⟩
      | false =>
        go_wp2_with fail
        go_ret
        exact ⟨congrArg (fun b => Ending.returned (.bool b)) HR.out, HL2.out⟩
    · have HR : Hid (false = R) := by unfold Hid; rw [HK.out, decide_eq_false hp]; simp
      clear HK HE0 HE1 HZ k0 k1
      go_wp2_with fail
      go_ret
      exact ⟨congrArg (fun b => Ending.returned (.bool b)) HR.out, HL2.out⟩
  have HR : Hid (false = R) := by unfold Hid; rw [HK.out, decide_eq_false k0, decide_eq_false k1, decide_eq_false k2]; rfl
  have b0 : (k == 0) = false := by rw [beq_eq_false_iff_ne]; exact k0
  have b1 : (k == 1) = false := by rw [beq_eq_false_iff_ne]; exact k1
  have b2 : (k == 2) = false := by rw [beq_eq_false_iff_ne]; exact k2
  clear HK HE0 HE1 HZ k0 k1 k2
  go_wp2_with fail
  go_ret
  exact ⟨congrArg (fun b => Ending.returned (.bool b)) HR.out, HL2.out⟩
end Go.Proofs.YtdfihhebgllpcaaGreatDoor

/- The walk of addr.Right. -/
namespace Go.Proofs.YtdfihhebgllpcaaGreatDoor
open Go.RowKit Go.Proofs.QuotePlain Go.Proofs.UtfPlain Go.Proofs.LexPlain Go.Proofs.AddrPlain

theorem names2 (x y : ByteArray) : allNames [x, y] = (isName x.data.toList && isName y.data.toList) := by
  unfold allNames; simp
theorem strS_two (w : World) (x y : ByteArray) : StrS (w.alloc (.cells #[.string x, .string y] 9)) (w.heap.size + 1) (.slice (some ⟨w.heap.size, 0, none⟩) 2 2) [x, y] := by
  refine ⟨_, 2, rfl, fun j X hj => ?_⟩
  have hB := Blk.new w 9 #[.string x, .string y]
  refine ⟨_, rfl, Nat.lt_succ_self _, ?_⟩
  have hadd : (⟨w.heap.size, 0, none⟩ : Addr).add j = ⟨w.heap.size, j, none⟩ := by unfold Addr.add; split <;> simp_all
  rw [hadd, hB.cell j]
  match j, hj with
  | 0, hj => injection hj with hj; rw [← hj]; rfl
  | 1, hj => injection hj with hj; rw [← hj]; rfl
def modB : ByteArray := ⟨#[109, 111, 100, 117, 108, 101]⟩
theorem modB_eq (x : ByteArray) : x.toList = [109, 111, 100, 117, 108, 101] ↔ x.data.toList = modL := by
  rw [Lib.toList_data]; exact Iff.rfl
/-- An address in a block of its own. -/
theorem ad_cells {W : World} {g : Nat} {pv : Value} {a : Ad} (h : Blk W g 29 (adV pv a)) :
    W.cell? ⟨g, 0, none⟩ = some pv ∧ W.cell? ⟨g, 1, none⟩ = some (.string a.ty) ∧ W.cell? ⟨g, 2, none⟩ = some (.string a.nm) ∧ W.cell? ⟨g, 3, none⟩ = some (.int .i64 a.key) ∧ W.cell? ⟨g, 4, none⟩ = some (.int .u64 ((a.place : Nat) : Int)) ∧ W.cell? ⟨g, 5, none⟩ = some (.string a.word) :=
  ⟨h.cell 0, h.cell 1, h.cell 2, h.cell 3, h.cell 4, h.cell 5⟩

set_option maxRecDepth 100000 in
set_option maxHeartbeats 4000000 in
theorem aright_any (pv : Value) (a : Ad) (w : World) (hG : LexG w) (hP : StrS w w.heap.size pv a.path) (hA : AdB a) :
    Calls Tryz.prog 42 #[.agg (adV pv a)] w fun e w' => e = .returned (.bool (rightA a)) ∧ Below w.heap.size w w' := by
  obtain ⟨R, hR⟩ : ∃ R, rightA a = R := ⟨_, rfl⟩
  rw [hR]
  have HR : Hid (R = (decide (a.path.length ≤ 20) && allNames a.path && isName a.ty.data.toList && isName a.nm.data.toList && decide (a.ty.data.toList ≠ modL) && keyOk a.key a.place a.word)) := hR.symm
  have hl := (Below.refl w.heap.size w).alloc (Nat.le_refl _) (.cells (adV pv a) 29)
  have HL := Lib.hid hl
  have HG := Lib.hid (hG.below hl)
  have HB := Lib.hid (Blk.new w 29 (adV pv a))
  have HP : Hid (StrS (w.alloc (.cells (adV pv a) 29)) (w.alloc (.cells (adV pv a) 29)).heap.size pv a.path) := hP.far hl
  obtain ⟨ao, cap, hpv⟩ := hP.len
  have hpl := hA.pl
  have HA := Lib.hid hA
  clear hR hl hG hP
  by_cases h20 : a.path.length ≤ 20
  case neg =>
    have HR2 : Hid (false = R) := by unfold Hid; rw [HR.out, decide_eq_false h20]; rfl
    have d20 : decide ((a.path.length : Int) ≤ 20) = false := decide_eq_false (by omega)
    obtain ⟨m, hm⟩ : ∃ m, a.path.length = m := ⟨_, rfl⟩
    rw [hm] at hpv d20 hpl
    subst hpv
    unfold adV at HB HL ⊢
    clear HR HP HA HG HB h20 hm
    go_enter Tryz.func42, Tryz.ntmps42
    go_wp2_with fail
    go_ret
    exact ⟨congrArg (fun b => Ending.returned (.bool b)) HR2.out, HL.out⟩
  have CN : Hid (∀ W, LexG W → StrS W W.heap.size pv a.path → Calls Tryz.prog 91 #[pv] W fun e w' => e = .returned (.bool (allNames a.path)) ∧ Below W.heap.size W w') := fun W hG hS => names_any pv a.path W hG hS HA.out.ps (by omega)
  have d20 : decide ((a.path.length : Int) ≤ 20) = true := decide_eq_true (by omega)
  have HR2 : Hid (R = (allNames a.path && (isName a.ty.data.toList && isName a.nm.data.toList) && decide (a.ty.data.toList ≠ modL) && keyOk a.key a.place a.word)) := by
    unfold Hid; rw [HR.out, decide_eq_true h20]; simp [Bool.and_assoc]
  obtain ⟨m, hm⟩ : ∃ m, a.path.length = m := ⟨_, rfl⟩
  rw [hm] at hpv d20 hpl
  subst hpv
  clear HR h20 hm
  have HBc := Lib.hid (ad_cells HB.out)
  obtain ⟨N1, hN1⟩ : ∃ N1, allNames a.path = N1 := ⟨_, rfl⟩
  rw [hN1] at HR2 CN
  clear hN1
  cases N1 with
  | false =>
    have HR3 : Hid (false = R) := by unfold Hid; rw [HR2.out]; rfl
    unfold adV at HB HL HG HP HBc ⊢
    clear HR2 HA HB HBc
    go_enter Tryz.func42, Tryz.ntmps42
    go_wp2_with fail
    refine (CN.out _ HG.out HP.out).mono ?_
    rintro e w2 ⟨rfl, hb⟩
    have HL2 := Lib.hid (HL.out.trans (hb.mono HL.out.size))
    clear hb HG HP
    go_wp2_with fail
    go_ret
    exact ⟨congrArg (fun b => Ending.returned (.bool b)) HR3.out, HL2.out⟩
  | true =>
    have CM : Hid (∀ W g, LexG W → StrS W W.heap.size (.slice (some ⟨g, 0, none⟩) 2 2) [a.ty, a.nm] → Calls Tryz.prog 91 #[.slice (some ⟨g, 0, none⟩) 2 2] W fun e w' => e = .returned (.bool (isName a.ty.data.toList && isName a.nm.data.toList)) ∧ Below W.heap.size W w') := fun W g hG hS => by
      have := names_any _ _ W hG hS (fun X hX => by
        simp only [List.mem_cons, List.not_mem_nil, or_false] at hX
        rcases hX with rfl | rfl
        · exact HA.out.ty
        · exact HA.out.nm) (by simp)
      rw [names2] at this
      exact this
    obtain ⟨N2, hN2⟩ : ∃ N2, (isName a.ty.data.toList && isName a.nm.data.toList) = N2 := ⟨_, rfl⟩
    rw [hN2] at HR2 CM
    clear hN2
    have CO : Hid (∀ W, Calls Tryz.prog 92 #[.agg (adV (.slice ao m cap) a)] W fun e w' => e = .returned (.agg #[.int .i64 a.key, .int .u64 ((a.place : Nat) : Int), .string a.word]) ∧ Below W.heap.size W w') := fun W => of_any _ a W
    have CK : Hid (∀ W, FormsAt W → Calls Tryz.prog 93 #[.agg #[.int .i64 a.key, .int .u64 ((a.place : Nat) : Int), .string a.word]] W fun e w' => e = .returned (.bool (keyOk a.key a.place a.word)) ∧ Below W.heap.size W w') := fun W hF => key_right a.key a.place a.word W hF HA.out.wd
    obtain ⟨KO, hKO⟩ : ∃ KO, keyOk a.key a.place a.word = KO := ⟨_, rfl⟩
    rw [hKO] at HR2 CK
    clear hKO
    by_cases hM : a.ty.toList = [109, 111, 100, 117, 108, 101]
    all_goals
      have hM2 := hM
      first
        | rw [modB_eq] at hM2
          have HR3 : Hid ((N2 && false) = R) := by unfold Hid; rw [HR2.out, show decide (a.ty.data.toList ≠ modL) = false from decide_eq_false (fun h => h hM2)]; simp
        | have HR3 : Hid ((N2 && KO) = R) := by
            have hne : a.ty.data.toList ≠ modL := fun e => hM2 ((modB_eq _).2 e)
            unfold Hid; rw [HR2.out, show decide (a.ty.data.toList ≠ modL) = true from decide_eq_true hne]; simp
      clear HR2 hM2
      obtain ⟨pth, ty, nm, key, place, word⟩ := a
      dsimp only at hM CN CM CO CK HP HA HB HL HG HBc ⊢
      unfold adV at HB HL HG HP HBc CO ⊢
      dsimp only at HB HL HG HP HBc CO ⊢
      clear HBc HA
      go_enter Tryz.func42, Tryz.ntmps42
      go_wp2_with fail
      refine (CN.out _ HG.out HP.out).mono ?_
      rintro e w2 ⟨rfl, hb⟩
      have HL2 := Lib.hid (HL.out.trans (hb.mono HL.out.size))
      have HB2 := Lib.hid (HB.out.below hb HB.out.lt)
      have HG2 := Lib.hid (HG.out.below hb)
      obtain ⟨a0, a1, a2, a3, a4, a5⟩ := ad_cells (a := ⟨pth, ty, nm, key, place, word⟩) HB2.out
      dsimp only at a0 a1 a2 a3 a4 a5
      clear hb HG HP HB HL
      have hl3 := (Below.refl w2.heap.size w2).alloc (Nat.le_refl _) (.cells #[.string ty, .string nm] 9)
      have HG3 := Lib.hid (HG2.out.below hl3)
      have HS3 : Hid (StrS (w2.alloc (.cells #[.string ty, .string nm] 9)) (w2.alloc (.cells #[.string ty, .string nm] 9)).heap.size (.slice (some ⟨w2.heap.size, 0, none⟩) 2 2) [ty, nm]) := Lib.hid ((strS_two w2 ty nm).mono (by simp))
      have HL3 := Lib.hid (HL2.out.alloc HL2.out.size (.cells #[.string ty, .string nm] 9))
      have HB3 := Lib.hid (HB2.out.alloc (.cells #[.string ty, .string nm] 9))
      clear hl3 HB2 HL2 HG2 CN
      go_wp2_with fail
      refine (CM.out _ _ HG3.out HS3.out).mono ?_
      rintro e w4 ⟨rfl, hb⟩
      have HL4 := Lib.hid (HL3.out.trans (hb.mono HL3.out.size))
      have HB4 := Lib.hid (HB3.out.below hb HB3.out.lt)
      have HG4 := Lib.hid (HG3.out.below hb)
      clear hb HG3 HS3 HL3 HB3 a0 a1 a2 a3 a4 a5 CM
      obtain ⟨a0, a1, a2, a3, a4, a5⟩ := ad_cells (a := ⟨pth, ty, nm, key, place, word⟩) HB4.out
      dsimp only at a0 a1 a2 a3 a4 a5
      cases N2 with
      | false =>
        go_wp2_with fail
        go_ret
        exact ⟨congrArg (fun b => Ending.returned (.bool b)) HR3.out, HL4.out⟩
      | true =>
        first
          | (go_wp2_with fail
             go_ret
             exact ⟨congrArg (fun b => Ending.returned (.bool b)) HR3.out, HL4.out⟩)
          | (go_wp2_with fail
             refine (CO.out _).mono ?_
             rintro e w5 ⟨rfl, hb⟩
             have HL5 := Lib.hid (HL4.out.trans (hb.mono HL4.out.size))
             have HG5 := Lib.hid (HG4.out.below hb)
             clear hb HL4 HG4
             go_wp2_with fail
             refine (CK.out _ HG5.out.fm).mono ?_
             rintro e w6 ⟨rfl, hb⟩
             have HL6 := Lib.hid (HL5.out.trans (hb.mono HL5.out.size))
             clear hb HL5 HG5
             go_wp2_with fail
             go_ret
             exact ⟨congrArg (fun b => Ending.returned (.bool b)) (by rw [← HR3.out]; simp [hM]), HL6.out⟩)
end Go.Proofs.YtdfihhebgllpcaaGreatDoor

/- The walks of the reference's short, digit, Print (of texts between quotes). -/
namespace Go.Proofs.YtdfihhebgllpcaaGreatDoor
open Go.RowKit Go.Proofs.QuotePlain Go.Proofs.UtfPlain

set_option maxHeartbeats 2000000 in
theorem rshort_none (c : UInt8) (w : World) (h0 : (((c.toNat : Nat) : Int) == 34) = false) (h1 : (((c.toNat : Nat) : Int) == 92) = false) (h2 : (((c.toNat : Nat) : Int) == 8) = false) (h3 : (((c.toNat : Nat) : Int) == 12) = false) (h4 : (((c.toNat : Nat) : Int) == 10) = false) (h5 : (((c.toNat : Nat) : Int) == 13) = false) (h6 : (((c.toNat : Nat) : Int) == 9) = false) :
    Calls Tryz.prog 107 #[.int .u8 (c.toNat : Int)] w fun e w' => e = .returned (.string ⟨#[]⟩) ∧ w = w' := by
  go_enter Tryz.func107, Tryz.ntmps107
  go_wp2_with fail
  go_ret
  exact ⟨rfl, rfl⟩
theorem rshort_34 (w : World) : Calls Tryz.prog 107 #[.int .u8 34] w fun e w' => e = .returned (.string ⟨#[34]⟩) ∧ w = w' := by
  go_enter Tryz.func107, Tryz.ntmps107
  go_wp2_with fail
  go_ret
  exact ⟨rfl, rfl⟩
theorem rshort_92 (w : World) : Calls Tryz.prog 107 #[.int .u8 92] w fun e w' => e = .returned (.string ⟨#[92]⟩) ∧ w = w' := by
  go_enter Tryz.func107, Tryz.ntmps107
  go_wp2_with fail
  go_ret
  exact ⟨rfl, rfl⟩
theorem rshort_8 (w : World) : Calls Tryz.prog 107 #[.int .u8 8] w fun e w' => e = .returned (.string ⟨#[98]⟩) ∧ w = w' := by
  go_enter Tryz.func107, Tryz.ntmps107
  go_wp2_with fail
  go_ret
  exact ⟨rfl, rfl⟩
theorem rshort_12 (w : World) : Calls Tryz.prog 107 #[.int .u8 12] w fun e w' => e = .returned (.string ⟨#[102]⟩) ∧ w = w' := by
  go_enter Tryz.func107, Tryz.ntmps107
  go_wp2_with fail
  go_ret
  exact ⟨rfl, rfl⟩
theorem rshort_10 (w : World) : Calls Tryz.prog 107 #[.int .u8 10] w fun e w' => e = .returned (.string ⟨#[110]⟩) ∧ w = w' := by
  go_enter Tryz.func107, Tryz.ntmps107
  go_wp2_with fail
  go_ret
  exact ⟨rfl, rfl⟩
theorem rshort_13 (w : World) : Calls Tryz.prog 107 #[.int .u8 13] w fun e w' => e = .returned (.string ⟨#[114]⟩) ∧ w = w' := by
  go_enter Tryz.func107, Tryz.ntmps107
  go_wp2_with fail
  go_ret
  exact ⟨rfl, rfl⟩
theorem rshort_9 (w : World) : Calls Tryz.prog 107 #[.int .u8 9] w fun e w' => e = .returned (.string ⟨#[116]⟩) ∧ w = w' := by
  go_enter Tryz.func107, Tryz.ntmps107
  go_wp2_with fail
  go_ret
  exact ⟨rfl, rfl⟩
theorem byte_ne (c d : UInt8) (h : c ≠ d) : (((c.toNat : Nat) : Int) == (d.toNat : Int)) = false := by
  rw [beq_eq_false_iff_ne]
  intro e
  exact h (UInt8.toNat_inj.1 (by omega))
theorem rshort_any (c : UInt8) (w : World) : Calls Tryz.prog 107 #[.int .u8 (c.toNat : Int)] w fun e w' => e = .returned (.string ⟨(short c).toArray⟩) ∧ w = w' := by
  by_cases e0 : c = 34
  · subst e0; exact rshort_34 w
  by_cases e1 : c = 92
  · subst e1; exact rshort_92 w
  by_cases e2 : c = 8
  · subst e2; exact rshort_8 w
  by_cases e3 : c = 12
  · subst e3; exact rshort_12 w
  by_cases e4 : c = 10
  · subst e4; exact rshort_10 w
  by_cases e5 : c = 13
  · subst e5; exact rshort_13 w
  by_cases e6 : c = 9
  · subst e6; exact rshort_9 w
  have hs : short c = [] := by unfold short; rw [if_neg e0, if_neg e1, if_neg e2, if_neg e3, if_neg e4, if_neg e5, if_neg e6]
  rw [hs]
  exact rshort_none c w (byte_ne c 34 e0) (byte_ne c 92 e1) (byte_ne c 8 e2) (byte_ne c 12 e3) (byte_ne c 10 e4) (byte_ne c 13 e5) (byte_ne c 9 e6)

set_option maxHeartbeats 2000000 in
theorem rdigit_any (n : Nat) (w : World) (h : n < 16) : Calls Tryz.prog 108 #[.int .i64 (n : Int)] w fun e w' => e = .returned (.string ⟨#[hexd n]⟩) ∧ Below w.heap.size w w' := by
  have hb : hexd n = if n < 10 then byte (48 + (n : Int)) else byte (97 + (n : Int) - 10) := by
    have : ∀ n : Fin 16, hexd n.1 = if n.1 < 10 then byte (48 + ((n.1 : Nat) : Int)) else byte (97 + ((n.1 : Nat) : Int) - 10) := by decide +kernel
    exact this ⟨n, h⟩
  by_cases h10 : n < 10
  · rw [if_pos h10] at hb
    rw [hb]
    have h1 : (n : Int) < 10 := by omega
    have hc : ∀ (W : World) g, W.cell? ⟨g, 0, none⟩ = some (.int .u8 (48 + (n : Int))) → (convert 112 9 (.slice (some ⟨g, 0, none⟩) 1 1)).run Tryz.prog W = .ok (.string ⟨#[byte (48 + (n : Int))]⟩) W := fun W g k => conv1 W g (48 + (n : Int)) (by omega) k
    clear hb
    go_enter Tryz.func108, Tryz.ntmps108
    go_wp2_with fail
    go_ret
    exact ⟨rfl, (Below.refl _ _).alloc (Nat.le_refl _) _⟩
  · rw [if_neg h10] at hb
    rw [hb]
    have h1 : ¬ (n : Int) < 10 := by omega
    have hc : ∀ (W : World) g, W.cell? ⟨g, 0, none⟩ = some (.int .u8 (97 + (n : Int) - 10)) → (convert 112 9 (.slice (some ⟨g, 0, none⟩) 1 1)).run Tryz.prog W = .ok (.string ⟨#[byte (97 + (n : Int) - 10)]⟩) W := fun W g k => conv1 W g (97 + (n : Int) - 10) (by omega) k
    clear hb
    go_enter Tryz.func108, Tryz.ntmps108
    go_wp2_with fail
    go_ret
    exact ⟨rfl, (Below.refl _ _).alloc (Nat.le_refl _) _⟩
end Go.Proofs.YtdfihhebgllpcaaGreatDoor
