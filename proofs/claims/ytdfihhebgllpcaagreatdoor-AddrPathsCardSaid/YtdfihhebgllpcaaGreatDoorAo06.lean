import Derived.Test.YtdfihhebgllpcaaGreatDoorAo05
import Derived.Test.YtdfihhebgllpcaaGreatDoorAo03
import Derived.WalkSmall
import Derived.Recover
import Derived.Defers
import Derived.Deep.RegionWith
import Derived.StillTailTactics

/- utf.next at every text; utf.walk, Bad, Valid. -/
namespace Go.Proofs.YtdfihhebgllpcaaGreatDoor
open Go.RowKit Go.Proofs.UtfPlain

theorem get_head (s : ByteArray) (a : UInt8) (r : List UInt8) (hl : s.data.toList = a :: r) (h : 0 < s.size) : s[0] = a := by
  have h1 : s.data.toList[0]? = some a := by rw [hl]; rfl
  rw [List.getElem?_eq_getElem (by rw [← Lib.size_eq]; exact h)] at h1
  exact Option.some.inj h1

set_option maxHeartbeats 2000000 in
theorem next_any (s : ByteArray) (w : World) (hF : FormsAt w) (hs : s.size ≤ 9223372036854775807) :
    Calls Tryz.prog 159 #[.string s] w fun e w' => e = .returned (.tuple #[.int .i64 (one s.data.toList).1, .int .i64 (one s.data.toList).2]) ∧ Below w.heap.size w w' := by
  cases hl : s.data.toList with
  | nil =>
    have hemp : s.toList.isEmpty = true := by rw [isEmpty_iff, hl]; rfl
    have hemp2 : s.toList = [] := by rw [Lib.toList_data, hl]
    clear hl hF
    go_enter Tryz.func159, Tryz.ntmps159
    go_wp2_with fail
    go_ret2
    exact ⟨rfl, Below.refl _ _⟩
  | cons a r =>
    have hsz : s.size = r.length + 1 := by rw [Lib.size_eq, hl]; rfl
    have h0 : 0 < s.size := by omega
    have ha := get_head s a r hl h0
    by_cases hok : okF a.toNat = true
    · by_cases hlen : more a.toNat ≤ r.length
      · exact next_x s w hF hs a r hl h0 ha hok hlen
      · have hz := one_bad_len a r hlen
        rw [hz]
        have hemp : s.toList.isEmpty = false := by rw [isEmpty_iff, hl]; rfl
        obtain ⟨m, hm⟩ : ∃ m, m = more a.toNat := ⟨_, rfl⟩
        have ha8 : a.toNat < 256 := a.toNat_lt
        have hlen2 : s.size ≤ m := by omega
        have hlen3 : (s.size : Int) ≤ (m : Int) := by omega
        have hlen4 : ¬ m < s.size := by omega
        have CF : Hid (Calls Tryz.prog 189 #[.int .i64 (a.toNat : Int)] w fun e w' => e = .returned (.tuple #[.agg #[.int .i64 (below m), .int .i64 (fmark m), .int .i64 m], .bool true]) ∧ Below w.heap.size w w') := by
          have h := first_any a w hF
          rw [hok, ← hm] at h
          exact h
        clear hF hl hok hm hlen hsz hz
        go_enter Tryz.func159, Tryz.ntmps159
        go_wp2_with fail
        refine CF.out.mono ?_
        rintro e w1 ⟨rfl, hb⟩
        have HW := Lib.hid (hb.alloc hb.size (.cells #[.int .i64 (below m), .int .i64 (fmark m), .int .i64 m] 208))
        clear hb
        go_wp2_with fail
        go_ret2
        exact ⟨rfl, HW.out⟩
    · have hok2 := Bool.eq_false_iff.2 hok
      have hz := one_bad_f a r hok2
      rw [hz]
      have hemp : s.toList.isEmpty = false := by rw [isEmpty_iff, hl]; rfl
      have ha8 : a.toNat < 256 := a.toNat_lt
      obtain ⟨m, hm⟩ : ∃ m, m = more a.toNat := ⟨_, rfl⟩
      have CF : Hid (Calls Tryz.prog 189 #[.int .i64 (a.toNat : Int)] w fun e w' => e = .returned (.tuple #[.agg #[.int .i64 (below m), .int .i64 (fmark m), .int .i64 m], .bool false]) ∧ Below w.heap.size w w') := by
        have h := first_any a w hF
        rw [hok2, ← hm] at h
        exact h
      clear hF hl hok hok2 hm hsz hz
      go_enter Tryz.func159, Tryz.ntmps159
      go_wp2_with fail
      refine CF.out.mono ?_
      rintro e w1 ⟨rfl, hb⟩
      have HW := Lib.hid (hb.alloc hb.size (.cells #[.int .i64 (below m), .int .i64 (fmark m), .int .i64 m] 208))
      clear hb
      go_wp2_with fail
      go_ret2
      exact ⟨rfl, HW.out⟩

theorem yes_any (a b : Int) (w : World) : Calls Tryz.prog 131 #[.int .i64 a, .int .i64 b] w fun e w' => e = .returned (.bool true) ∧ w = w' := by
  go_enter Tryz.func131, Tryz.ntmps131
  go_wp2_with fail
  go_ret
  exact ⟨rfl, rfl⟩

set_option maxRecDepth 100000 in
set_option maxHeartbeats 4000000 in
theorem walk_yes (s : ByteArray) (w : World) (hF : FormsAt w) (hs : s.size ≤ 9223372036854775807) (E : Nat) (hE : (badAt 0 s.data.toList = -1 ∧ E = s.size) ∨ (badAt 0 s.data.toList = (E : Int) ∧ E < s.size)) :
    Calls Tryz.prog 130 #[.string s, .func (.func 131) #[] #[]] w fun e w' => e = .returned (.int .i64 E) ∧ Below w.heap.size w w' := by
  have HE := Lib.hid hE
  have HF := Lib.hid hF
  clear hE hF
  go_enter Tryz.func130, Tryz.ntmps130
  go_wp2_with fail
  go_loopw [5] (fun p wr => ∃ at_ : Nat, at_ ≤ s.size ∧ p = .int .i64 at_ ∧ Hid (badAt 0 s.data.toList = badAt at_ (s.data.toList.drop at_)) ∧ Hid (FormsAt wr) ∧ Hid (Below w.heap.size w wr)) (fun p _ => s.size - (intOf p).toNat)
  case atStart => exact ⟨0, by omega, rfl, Lib.hid rfl, HF, Lib.hid (Below.refl _ _)⟩
  case round =>
    clear HF
    obtain ⟨at_, hat, rfl, HA, HF, HW⟩ := hrel
    by_cases hlt : at_ < s.size
    · have hlt' : (at_ : Int) < (s.size : Int) := by omega
      obtain ⟨S, hS⟩ : ∃ S : ByteArray, S = s.extract at_ s.size := ⟨_, rfl⟩
      have hSd : S.data.toList = s.data.toList.drop at_ := by
        rw [hS, data_extract, List.take_of_length_le (by rw [List.length_drop, ← Lib.size_eq]; exact Nat.le_refl _)]
      have hSs : S.size = s.size - at_ := by rw [Lib.size_eq, hSd, List.length_drop, ← Lib.size_eq]
      obtain ⟨⟨c, n⟩, hcn⟩ : ∃ q, q = one S.data.toList := ⟨_, rfl⟩
      have hn := one_size S.data.toList
      rw [← hcn, ← Lib.size_eq] at hn
      have CN : Hid (∀ w, FormsAt w → Calls Tryz.prog 159 #[.string (s.extract at_ s.size)] w fun e w' => e = .returned (.tuple #[.int .i64 c, .int .i64 n]) ∧ Below w.heap.size w w') := fun w hF => by
        have h := next_any S w hF (by omega)
        rw [← hcn, hS] at h
        exact h
      have HSD := Lib.hid hSd
      have HCN := Lib.hid hcn
      have hn' : n ≤ s.size - at_ := by rw [← hSs]; exact hn
      clear hS hSd hSs hcn hn
      by_cases hn0 : n = 0
      · have hbad : badAt 0 s.data.toList = (at_ : Int) := by
          rw [HA.out]
          exact badAt_bad at_ _ (by intro h; have := congrArg List.length h; rw [List.length_drop, ← Lib.size_eq, List.length_nil] at this; omega) (by rw [← HSD.out, ← HCN.out]; exact hn0)
        have hEE : E = at_ := by
          rcases HE.out with ⟨h1, _⟩ | ⟨h1, _⟩ <;> omega
        subst hEE
        subst hn0
        clear hbad
        go_wp2_with fail
        refine (CN.out _ HF.out).mono ?_
        rintro e w1 ⟨rfl, hb⟩
        have HW1 := Lib.hid (HW.out.trans (hb.mono HW.out.size))
        clear hb
        go_wp2_with fail
        go_ret
        exact ⟨rfl, HW1.out⟩
      · have hn1 : ¬ (n : Int) = 0 := by omega
        have hn2 : ((n : Int) == 0) = false := by rw [beq_eq_false_iff_ne]; exact hn1
        have HA2 : Hid (badAt 0 s.data.toList = badAt (at_ + n) (s.data.toList.drop (at_ + n))) := by
          unfold Hid
          rw [HA.out, badAt_step at_ _ (by rw [← HSD.out, ← HCN.out]; exact hn0), ← HSD.out, ← HCN.out, HSD.out, List.drop_drop]
        go_wp2_with fail
        refine (CN.out _ HF.out).mono ?_
        rintro e w1 ⟨rfl, hb⟩
        have HW1 := Lib.hid (HW.out.trans (hb.mono HW.out.size))
        have HF1 := Lib.hid (HF.out.below hb)
        clear hb
        go_wp2_with fail
        refine (yes_any _ _ _).mono ?_
        rintro e w2 ⟨rfl, rfl⟩
        go_wp2_with fail
        go_roundw
        case rel => exact ⟨at_ + n, by omega, by go_num, HA2, HF1, HW1⟩
        case measure => simp [intOf]; omega
    · have hge : ¬ (at_ : Int) < (s.size : Int) := by omega
      have hEE : E = at_ := by
        have h1 : at_ = s.size := by omega
        have := HA.out
        rw [List.drop_eq_nil_of_le (by rw [← Lib.size_eq]; omega), badAt_nil] at this
        rcases HE.out with ⟨_, h2⟩ | ⟨h2, _⟩ <;> omega
      subst hEE
      go_wp2_with fail
      go_ret
      exact ⟨rfl, HW.out⟩

theorem badAt_range (l : List UInt8) : ∀ (k at_ : Nat), l.length ≤ k → badAt at_ l = -1 ∨ ∃ E : Nat, badAt at_ l = (E : Int) ∧ at_ ≤ E ∧ E < at_ + l.length := by
  intro k
  induction k generalizing l with
  | zero => intro at_ h; left; rw [List.length_eq_zero_iff.1 (show l.length = 0 by omega)]; rfl
  | succ k ih =>
    intro at_ h
    cases l with
    | nil => left; rfl
    | cons a r =>
      by_cases h0 : (one (a :: r)).2 = 0
      · right
        exact ⟨at_, badAt_bad at_ _ (by simp) h0, by omega, by simp⟩
      · rw [badAt_step at_ _ h0]
        have hs := one_size (a :: r)
        have hl : ((a :: r).drop (one (a :: r)).2).length = (a :: r).length - (one (a :: r)).2 := List.length_drop
        rcases ih ((a :: r).drop (one (a :: r)).2) (at_ + (one (a :: r)).2) (by rw [hl]; simp at h ⊢; omega) with h1 | ⟨E, h1, h2, h3⟩
        · exact .inl h1
        · right
          exact ⟨E, h1, by omega, by rw [hl] at h3; omega⟩

/-- The first place that is no text's. -/
theorem bad_any (s : ByteArray) (w : World) (hF : FormsAt w) (hs : s.size ≤ 9223372036854775807) :
    Calls Tryz.prog 105 #[.string s] w fun e w' => e = .returned (.int .i64 (badAt 0 s.data.toList)) ∧ Below w.heap.size w w' := by
  rcases badAt_range s.data.toList _ 0 (Nat.le_refl _) with h | ⟨E, h, _, h2⟩
  · rw [h]
    have C := Lib.hid (walk_yes s w hF hs s.size (.inl ⟨h, rfl⟩))
    clear h hF
    go_enter Tryz.func105, Tryz.ntmps105
    go_wp2_with fail
    refine C.out.mono ?_
    rintro e w1 ⟨rfl, hb⟩
    have HB := Lib.hid hb
    clear hb
    go_wp2_with fail
    go_ret
    exact ⟨rfl, HB.out⟩
  · rw [h]
    rw [Nat.zero_add, ← Lib.size_eq] at h2
    have C := Lib.hid (walk_yes s w hF hs E (.inr ⟨h, h2⟩))
    have hne : ((E : Int) == (s.size : Int)) = false := by rw [beq_eq_false_iff_ne]; omega
    have hne2 : ¬ E = s.size := by omega
    clear h hF h2
    go_enter Tryz.func105, Tryz.ntmps105
    go_wp2_with fail
    refine C.out.mono ?_
    rintro e w1 ⟨rfl, hb⟩
    have HB := Lib.hid hb
    clear hb
    go_wp2_with fail
    go_ret
    exact ⟨rfl, HB.out⟩

theorem valid_eq (l : List UInt8) : valid l = decide (badAt 0 l < 0) := rfl
theorem valid_any (s : ByteArray) (w : World) (hF : FormsAt w) (hs : s.size ≤ 9223372036854775807) :
    Calls Tryz.prog 57 #[.string s] w fun e w' => e = .returned (.bool (valid s.data.toList)) ∧ Below w.heap.size w w' := by
  rw [valid_eq]
  have C := Lib.hid (bad_any s w hF hs)
  obtain ⟨b, hb⟩ : ∃ b, badAt 0 s.data.toList = b := ⟨_, rfl⟩
  rw [hb] at C ⊢
  clear hF hb
  by_cases h : b < 0
  · rw [decide_eq_true h]
    go_enter Tryz.func57, Tryz.ntmps57
    go_wp2_with fail
    refine C.out.mono ?_
    rintro e w1 ⟨rfl, hb⟩
    have HB := Lib.hid hb
    clear hb
    go_wp2_with fail
    go_ret
    exact ⟨rfl, HB.out⟩
  · rw [decide_eq_false h]
    have hd : decide (b < 0) = false := decide_eq_false h
    go_enter Tryz.func57, Tryz.ntmps57
    go_wp2_with fail
    refine C.out.mono ?_
    rintro e w1 ⟨rfl, hb⟩
    have HB := Lib.hid hb
    clear hb
    go_wp2_with fail
    go_ret
    exact ⟨rfl, HB.out⟩
end Go.Proofs.YtdfihhebgllpcaaGreatDoor

/- The walk of quote.Print. -/
namespace Go.Proofs.YtdfihhebgllpcaaGreatDoor
open Go.RowKit Go.Proofs.QuotePlain Go.Proofs.UtfPlain

/-- A builder of the call's own, with what it holds. -/
def IsB (B b : Nat) (l : List UInt8) (w : World) : Prop := Lib.IsBuilder 114 5 B b (Lib.byteCells l) w
theorem isB_new (w : World) : IsB w.heap.size w.heap.size [] (w.alloc (.cells #[.pointer none, .slice none 0 0] 114)) :=
  .inl ⟨Nat.le_refl _, .slice none 0 0, heap_alloc_new w _, World.ownsRow_nil _ _ _ _, by simp [Value.ownBlock]⟩
theorem sb_byte (B b : Nat) (l : List UInt8) (c : UInt8) (w : World) (h : IsB B b l w) (hlen : l.length + 1 ≤ 140737488355328) (hBw : B ≤ w.heap.size) :
    Calls Tryz.prog 121 #[.pointer (some ⟨b, 0, none⟩), .int .u8 (c.toNat : Int)] w fun e w' => e = .returned .nilIface ∧ IsB B b (l ++ [c]) w' ∧ Below B w w' := by
  refine (bld_wbyte B b _ (c.toNat : Int) w h (by rw [Lib.byteCells_length]; exact hlen) hBw).mono ?_
  rintro e w' ⟨rfl, h1, h2⟩
  exact ⟨rfl, .inr (by rw [Lib.byteCells_append]; exact h1), h2⟩
theorem sb_string (B b : Nat) (l : List UInt8) (s : ByteArray) (w : World) (h : IsB B b l w) (hlen : l.length + s.size ≤ 140737488355328) (hBw : B ≤ w.heap.size) :
    Calls Tryz.prog 87 #[.pointer (some ⟨b, 0, none⟩), .string s] w fun e w' => e = .returned (.tuple #[.int .i64 s.size, .nilIface]) ∧ IsB B b (l ++ s.data.toList) w' ∧ Below B w w' := by
  refine (bld_wstring B b _ s w h (by rw [Lib.byteCells_length]; exact hlen) hBw).mono ?_
  rintro e w' ⟨rfl, h1, h2⟩
  exact ⟨rfl, .inr (by rw [Lib.byteCells_append]; exact h1), h2⟩
theorem sb_text (B b : Nat) (l : List UInt8) (w : World) (h : IsB B b l w) (hBw : B ≤ w.heap.size) :
    Calls Tryz.prog 90 #[.pointer (some ⟨b, 0, none⟩)] w fun e w' => e = .returned (.string ⟨l.toArray⟩) ∧ Below B w w' :=
  Tryz.Builder_String_any B b l w h hBw

def meansB : ByteArray := ⟨#[34, 92, 47, 8, 12, 10, 13, 9]⟩
theorem index_any (c : UInt8) (w : World) : Calls Tryz.prog 122 #[.string ⟨#[34, 92, 47, 8, 12, 10, 13, 9]⟩, .int .u8 (c.toNat : Int)] w fun e w' => e = .returned (.int .i64 (Lib.indexByte means c)) ∧ w = w' := by
  refine (Tryz.strings_IndexByte ⟨#[34, 92, 47, 8, 12, 10, 13, 9]⟩ (c.toNat : Int) w).mono ?_
  rintro e w' ⟨rfl, rfl⟩
  refine ⟨?_, rfl⟩
  rw [Int.toNat_natCast, show c.toNat.toUInt8 = c from by simp]
  rfl

theorem get_digit (n : Nat) (h : n < 16) : (⟨#[48, 49, 50, 51, 52, 53, 54, 55, 56, 57, 97, 98, 99, 100, 101, 102]⟩ : ByteArray)[n]'h = hexd n := by
  have : ∀ n : Fin 16, (⟨#[48, 49, 50, 51, 52, 53, 54, 55, 56, 57, 97, 98, 99, 100, 101, 102]⟩ : ByteArray)[n.1]'n.2 = hexd n.1 := by decide +kernel
  exact this ⟨n, h⟩
theorem index_lit (c : UInt8) (n k : Int) (hn : n = (c.toNat : Int)) (hk : Lib.indexByte means c = k) (w : World) : Calls Tryz.prog 122 #[.string ⟨#[34, 92, 47, 8, 12, 10, 13, 9]⟩, .int .u8 n] w fun e w' => e = .returned (.int .i64 k) ∧ w = w' := by
  subst hn
  rw [← hk]
  exact index_any c w

set_option maxRecDepth 100000 in
set_option maxHeartbeats 8000000 in
theorem qprint_any (s : ByteArray) (w : World) (hF : FormsAt w) (hs : s.size ≤ 1000000) (hv : valid s.data.toList = true) :
    Calls Tryz.prog 89 #[.string s] w fun e w' => e = .returned (.tuple #[.string ⟨(qprint s.data.toList).toArray⟩, .int .i64 0]) ∧ Below w.heap.size w w' := by
  obtain ⟨P, hP⟩ : ∃ P : ByteArray, P = ⟨(qprint s.data.toList).toArray⟩ := ⟨_, rfl⟩
  rw [← hP]
  have HP := Lib.hid hP
  have CV := Lib.hid (valid_any s w hF (by omega))
  rw [hv] at CV
  clear hP hF hv
  go_enter Tryz.func89, Tryz.ntmps89
  go_wp2_with fail
  refine CV.out.mono ?_
  rintro e w1 ⟨rfl, hb⟩
  have HW := Lib.hid (hb.alloc hb.size (.cells #[.pointer none, .slice none 0 0] 114))
  have HB := Lib.hid (isB_new w1)
  obtain ⟨b, hbb⟩ : ∃ b, w1.heap.size = b := ⟨_, rfl⟩
  have hwb : w.heap.size ≤ b := by have := hb.size; omega
  clear hb
  go_wp2_with fail
  rw [hbb] at HB
  have hsz := World.size_alloc w1 (.cells #[.pointer none, .slice none 0 0] 114)
  rw [hbb] at hsz
  have HSZ := Lib.hid hsz
  have HBB := Lib.hid hbb
  clear hsz hbb
  refine (sb_byte b b [] 34 _ HB.out (by simp) (by have := HSZ.out; omega)).mono ?_
  rintro e w2 ⟨rfl, h2, b2⟩
  have HB2 := Lib.hid h2
  have HW2 := Lib.hid (HW.out.trans (b2.mono hwb))
  have HL2 : Hid (b ≤ w2.heap.size) := by have := b2.size; have := HSZ.out; unfold Hid; omega
  clear h2 b2 HB HW HSZ
  go_wp2_with fail
  go_loopw [14] (fun i wr => ∃ j : Nat, j ≤ s.size ∧ i = .int .i64 j ∧ Hid (IsB b b (34 :: (s.data.toList.take j).flatMap esc) wr) ∧ Hid (b ≤ wr.heap.size) ∧ Hid (Below w.heap.size w wr)) (fun i _ => s.size - (intOf i).toNat)
  case atStart => exact ⟨0, by omega, rfl, HB2, HL2, HW2⟩
  case round =>
    clear HB2 HL2 HW2
    obtain ⟨j, hj, rfl, HB, HL, HW⟩ := hrel
    by_cases hlt : j < s.size
    · obtain ⟨c, hc⟩ : ∃ c, s[j] = c := ⟨_, rfl⟩
      have hc8 : c.toNat < 256 := c.toNat_lt
      have htk : s.data.toList.take (j + 1) = s.data.toList.take j ++ [c] := by
        rw [List.take_add_one, List.getElem?_eq_getElem (by rw [← Lib.size_eq]; exact hlt), ← hc]; rfl
      obtain ⟨L, hL⟩ : ∃ L, L = 34 :: (s.data.toList.take j).flatMap esc := ⟨_, rfl⟩
      have hL2 : 34 :: (s.data.toList.take (j + 1)).flatMap esc = L ++ esc c := by rw [htk, flat_snoc, hL]; rfl
      have hLl : L.length ≤ 6000001 := by
        rw [hL, List.length_cons]
        have := flat_len (s.data.toList.take j)
        have h2 : (s.data.toList.take j).length ≤ s.size := by rw [List.length_take, Lib.size_eq]; omega
        omega
      rw [← hL] at HB
      have HL2 := Lib.hid hL2
      have HLl := Lib.hid hLl
      clear hL hL2 htk hLl
      rcases kinds c with hA | ⟨k1, k2, k3, k4⟩ | ⟨k1, k2, k3, k4⟩
      · rcases hA with rfl | rfl | rfl | rfl | rfl | rfl | rfl
        · go_wp2_with fail
          refine (index_lit 34 34 0 rfl (by decide) _).mono ?_
          rintro e w3 ⟨rfl, rfl⟩
          go_wp2_with fail
          refine (sb_byte b b _ 92 _ HB.out (by have := HLl.out; simp; omega) HL.out).mono ?_
          rintro e wa ⟨rfl, h3, b3⟩
          have HB3 := Lib.hid h3
          have HW3 := Lib.hid (HW.out.trans (b3.mono hwb))
          have HL3 : Hid (b ≤ wa.heap.size) := by have := b3.size; have := HL.out; unfold Hid; omega
          clear h3 b3 HB HW HL
          go_wp2_with fail
          refine (sb_byte b b _ 34 _ HB3.out (by have := HLl.out; simp; omega) HL3.out).mono ?_
          rintro e wb ⟨rfl, h4, b4⟩
          have HB4 := Lib.hid h4
          have HW4 := Lib.hid (HW3.out.trans (b4.mono hwb))
          have HL4 : Hid (b ≤ wb.heap.size) := by have := b4.size; have := HL3.out; unfold Hid; omega
          clear h4 b4 HB3 HW3 HL3
          go_wp2_with fail
          go_roundw
          case rel => exact ⟨j + 1, by omega, by go_num, Lib.hid (by rw [HL2.out]; have := HB4.out; rw [List.append_assoc] at this; exact this), HL4, HW4⟩
          case measure => simp [intOf]; omega
        · go_wp2_with fail
          refine (index_lit 92 92 1 rfl (by decide) _).mono ?_
          rintro e w3 ⟨rfl, rfl⟩
          go_wp2_with fail
          refine (sb_byte b b _ 92 _ HB.out (by have := HLl.out; simp; omega) HL.out).mono ?_
          rintro e wa ⟨rfl, h3, b3⟩
          have HB3 := Lib.hid h3
          have HW3 := Lib.hid (HW.out.trans (b3.mono hwb))
          have HL3 : Hid (b ≤ wa.heap.size) := by have := b3.size; have := HL.out; unfold Hid; omega
          clear h3 b3 HB HW HL
          go_wp2_with fail
          refine (sb_byte b b _ 92 _ HB3.out (by have := HLl.out; simp; omega) HL3.out).mono ?_
          rintro e wb ⟨rfl, h4, b4⟩
          have HB4 := Lib.hid h4
          have HW4 := Lib.hid (HW3.out.trans (b4.mono hwb))
          have HL4 : Hid (b ≤ wb.heap.size) := by have := b4.size; have := HL3.out; unfold Hid; omega
          clear h4 b4 HB3 HW3 HL3
          go_wp2_with fail
          go_roundw
          case rel => exact ⟨j + 1, by omega, by go_num, Lib.hid (by rw [HL2.out]; have := HB4.out; rw [List.append_assoc] at this; exact this), HL4, HW4⟩
          case measure => simp [intOf]; omega
        · go_wp2_with fail
          refine (index_lit 8 8 3 rfl (by decide) _).mono ?_
          rintro e w3 ⟨rfl, rfl⟩
          go_wp2_with fail
          refine (sb_byte b b _ 92 _ HB.out (by have := HLl.out; simp; omega) HL.out).mono ?_
          rintro e wa ⟨rfl, h3, b3⟩
          have HB3 := Lib.hid h3
          have HW3 := Lib.hid (HW.out.trans (b3.mono hwb))
          have HL3 : Hid (b ≤ wa.heap.size) := by have := b3.size; have := HL.out; unfold Hid; omega
          clear h3 b3 HB HW HL
          go_wp2_with fail
          refine (sb_byte b b _ 98 _ HB3.out (by have := HLl.out; simp; omega) HL3.out).mono ?_
          rintro e wb ⟨rfl, h4, b4⟩
          have HB4 := Lib.hid h4
          have HW4 := Lib.hid (HW3.out.trans (b4.mono hwb))
          have HL4 : Hid (b ≤ wb.heap.size) := by have := b4.size; have := HL3.out; unfold Hid; omega
          clear h4 b4 HB3 HW3 HL3
          go_wp2_with fail
          go_roundw
          case rel => exact ⟨j + 1, by omega, by go_num, Lib.hid (by rw [HL2.out]; have := HB4.out; rw [List.append_assoc] at this; exact this), HL4, HW4⟩
          case measure => simp [intOf]; omega
        · go_wp2_with fail
          refine (index_lit 12 12 4 rfl (by decide) _).mono ?_
          rintro e w3 ⟨rfl, rfl⟩
          go_wp2_with fail
          refine (sb_byte b b _ 92 _ HB.out (by have := HLl.out; simp; omega) HL.out).mono ?_
          rintro e wa ⟨rfl, h3, b3⟩
          have HB3 := Lib.hid h3
          have HW3 := Lib.hid (HW.out.trans (b3.mono hwb))
          have HL3 : Hid (b ≤ wa.heap.size) := by have := b3.size; have := HL.out; unfold Hid; omega
          clear h3 b3 HB HW HL
          go_wp2_with fail
          refine (sb_byte b b _ 102 _ HB3.out (by have := HLl.out; simp; omega) HL3.out).mono ?_
          rintro e wb ⟨rfl, h4, b4⟩
          have HB4 := Lib.hid h4
          have HW4 := Lib.hid (HW3.out.trans (b4.mono hwb))
          have HL4 : Hid (b ≤ wb.heap.size) := by have := b4.size; have := HL3.out; unfold Hid; omega
          clear h4 b4 HB3 HW3 HL3
          go_wp2_with fail
          go_roundw
          case rel => exact ⟨j + 1, by omega, by go_num, Lib.hid (by rw [HL2.out]; have := HB4.out; rw [List.append_assoc] at this; exact this), HL4, HW4⟩
          case measure => simp [intOf]; omega
        · go_wp2_with fail
          refine (index_lit 10 10 5 rfl (by decide) _).mono ?_
          rintro e w3 ⟨rfl, rfl⟩
          go_wp2_with fail
          refine (sb_byte b b _ 92 _ HB.out (by have := HLl.out; simp; omega) HL.out).mono ?_
          rintro e wa ⟨rfl, h3, b3⟩
          have HB3 := Lib.hid h3
          have HW3 := Lib.hid (HW.out.trans (b3.mono hwb))
          have HL3 : Hid (b ≤ wa.heap.size) := by have := b3.size; have := HL.out; unfold Hid; omega
          clear h3 b3 HB HW HL
          go_wp2_with fail
          refine (sb_byte b b _ 110 _ HB3.out (by have := HLl.out; simp; omega) HL3.out).mono ?_
          rintro e wb ⟨rfl, h4, b4⟩
          have HB4 := Lib.hid h4
          have HW4 := Lib.hid (HW3.out.trans (b4.mono hwb))
          have HL4 : Hid (b ≤ wb.heap.size) := by have := b4.size; have := HL3.out; unfold Hid; omega
          clear h4 b4 HB3 HW3 HL3
          go_wp2_with fail
          go_roundw
          case rel => exact ⟨j + 1, by omega, by go_num, Lib.hid (by rw [HL2.out]; have := HB4.out; rw [List.append_assoc] at this; exact this), HL4, HW4⟩
          case measure => simp [intOf]; omega
        · go_wp2_with fail
          refine (index_lit 13 13 6 rfl (by decide) _).mono ?_
          rintro e w3 ⟨rfl, rfl⟩
          go_wp2_with fail
          refine (sb_byte b b _ 92 _ HB.out (by have := HLl.out; simp; omega) HL.out).mono ?_
          rintro e wa ⟨rfl, h3, b3⟩
          have HB3 := Lib.hid h3
          have HW3 := Lib.hid (HW.out.trans (b3.mono hwb))
          have HL3 : Hid (b ≤ wa.heap.size) := by have := b3.size; have := HL.out; unfold Hid; omega
          clear h3 b3 HB HW HL
          go_wp2_with fail
          refine (sb_byte b b _ 114 _ HB3.out (by have := HLl.out; simp; omega) HL3.out).mono ?_
          rintro e wb ⟨rfl, h4, b4⟩
          have HB4 := Lib.hid h4
          have HW4 := Lib.hid (HW3.out.trans (b4.mono hwb))
          have HL4 : Hid (b ≤ wb.heap.size) := by have := b4.size; have := HL3.out; unfold Hid; omega
          clear h4 b4 HB3 HW3 HL3
          go_wp2_with fail
          go_roundw
          case rel => exact ⟨j + 1, by omega, by go_num, Lib.hid (by rw [HL2.out]; have := HB4.out; rw [List.append_assoc] at this; exact this), HL4, HW4⟩
          case measure => simp [intOf]; omega
        · go_wp2_with fail
          refine (index_lit 9 9 7 rfl (by decide) _).mono ?_
          rintro e w3 ⟨rfl, rfl⟩
          go_wp2_with fail
          refine (sb_byte b b _ 92 _ HB.out (by have := HLl.out; simp; omega) HL.out).mono ?_
          rintro e wa ⟨rfl, h3, b3⟩
          have HB3 := Lib.hid h3
          have HW3 := Lib.hid (HW.out.trans (b3.mono hwb))
          have HL3 : Hid (b ≤ wa.heap.size) := by have := b3.size; have := HL.out; unfold Hid; omega
          clear h3 b3 HB HW HL
          go_wp2_with fail
          refine (sb_byte b b _ 116 _ HB3.out (by have := HLl.out; simp; omega) HL3.out).mono ?_
          rintro e wb ⟨rfl, h4, b4⟩
          have HB4 := Lib.hid h4
          have HW4 := Lib.hid (HW3.out.trans (b4.mono hwb))
          have HL4 : Hid (b ≤ wb.heap.size) := by have := b4.size; have := HL3.out; unfold Hid; omega
          clear h4 b4 HB3 HW3 HL3
          go_wp2_with fail
          go_roundw
          case rel => exact ⟨j + 1, by omega, by go_num, Lib.hid (by rw [HL2.out]; have := HB4.out; rw [List.append_assoc] at this; exact this), HL4, HW4⟩
          case measure => simp [intOf]; omega
      · obtain ⟨D1, hD1⟩ : ∃ D, D = hexd (c.toNat / 16) := ⟨_, rfl⟩
        obtain ⟨D2, hD2⟩ : ∃ D, D = hexd (c.toNat % 16) := ⟨_, rfl⟩
        rw [← hD1, ← hD2] at k2
        have hd1 : (⟨#[48, 49, 50, 51, 52, 53, 54, 55, 56, 57, 97, 98, 99, 100, 101, 102]⟩ : ByteArray)[c.toNat / 16]'(by show _ < 16; omega) = D1 := by rw [hD1]; exact get_digit _ _
        have hd2 : (⟨#[48, 49, 50, 51, 52, 53, 54, 55, 56, 57, 97, 98, 99, 100, 101, 102]⟩ : ByteArray)[c.toNat % 16]'(by show _ < 16; omega) = D2 := by rw [hD2]; exact get_digit _ _
        have K2 := Lib.hid k2
        have K4 := Lib.hid k4
        have k1' : (c.toNat : Int) < 32 := by omega
        clear k2 k3 k4 hD1 hD2
        go_wp2_with fail
        refine (index_any c _).mono ?_
        rw [K4.out]
        rintro e w3 ⟨rfl, rfl⟩
        go_wp2_with fail
        refine (sb_string b b _ ⟨#[92, 117, 48, 48]⟩ _ HB.out (by have := HLl.out; show _ + 4 ≤ _; omega) HL.out).mono ?_
        rintro e wa ⟨rfl, h3, b3⟩
        have HB3 := Lib.hid h3
        have HW3 := Lib.hid (HW.out.trans (b3.mono hwb))
        have HL3 : Hid (b ≤ wa.heap.size) := by have := b3.size; have := HL.out; unfold Hid; omega
        clear h3 b3 HB HW HL
        go_wp2_with fail
        refine (sb_byte b b _ D1 _ HB3.out (by have := HLl.out; simp; omega) HL3.out).mono ?_
        rintro e wb ⟨rfl, h4, b4⟩
        have HB4 := Lib.hid h4
        have HW4 := Lib.hid (HW3.out.trans (b4.mono hwb))
        have HL4 : Hid (b ≤ wb.heap.size) := by have := b4.size; have := HL3.out; unfold Hid; omega
        clear h4 b4 HB3 HW3 HL3
        go_wp2_with fail
        refine (sb_byte b b _ D2 _ HB4.out (by have := HLl.out; simp; omega) HL4.out).mono ?_
        rintro e wc ⟨rfl, h5, b5⟩
        have HB5 := Lib.hid h5
        have HW5 := Lib.hid (HW4.out.trans (b5.mono hwb))
        have HL5 : Hid (b ≤ wc.heap.size) := by have := b5.size; have := HL4.out; unfold Hid; omega
        clear h5 b5 HB4 HW4 HL4
        go_wp2_with fail
        go_roundw
        case rel => exact ⟨j + 1, by omega, by go_num, Lib.hid (by rw [HL2.out, K2.out]; have := HB5.out; rw [List.append_assoc, List.append_assoc] at this; exact this), HL5, HW5⟩
        case measure => simp [intOf]; omega
      · have K2 := Lib.hid k2
        have k1' : ¬ (c.toNat : Int) < 32 := by omega
        rcases k4 with ⟨rfl, k5⟩ | ⟨k5, k6⟩
        · clear k2 k3 k5
          go_wp2_with fail
          refine (index_lit 47 47 2 rfl (by decide) _).mono ?_
          rintro e w3 ⟨rfl, rfl⟩
          go_wp2_with fail
          refine (sb_byte b b _ 47 _ HB.out (by have := HLl.out; simp; omega) HL.out).mono ?_
          rintro e wa ⟨rfl, h3, b3⟩
          have HB3 := Lib.hid h3
          have HW3 := Lib.hid (HW.out.trans (b3.mono hwb))
          have HL3 : Hid (b ≤ wa.heap.size) := by have := b3.size; have := HL.out; unfold Hid; omega
          clear h3 b3 HB HW HL
          go_wp2_with fail
          go_roundw
          case rel => exact ⟨j + 1, by omega, by go_num, Lib.hid (by rw [HL2.out]; rw [K2.out]; exact HB3.out), HL3, HW3⟩
          case measure => simp [intOf]; omega
        · have K6 := Lib.hid k6
          clear k2 k3 k5 k6
          go_wp2_with fail
          refine (index_any c _).mono ?_
          rw [K6.out]
          rintro e w3 ⟨rfl, rfl⟩
          go_wp2_with fail
          refine (sb_byte b b _ c _ HB.out (by have := HLl.out; simp; omega) HL.out).mono ?_
          rintro e wa ⟨rfl, h3, b3⟩
          have HB3 := Lib.hid h3
          have HW3 := Lib.hid (HW.out.trans (b3.mono hwb))
          have HL3 : Hid (b ≤ wa.heap.size) := by have := b3.size; have := HL.out; unfold Hid; omega
          clear h3 b3 HB HW HL
          go_wp2_with fail
          go_roundw
          case rel => exact ⟨j + 1, by omega, by go_num, Lib.hid (by rw [HL2.out]; rw [K2.out]; exact HB3.out), HL3, HW3⟩
          case measure => simp [intOf]; omega
    · have hge : ¬ (j : Int) < (s.size : Int) := by omega
      have hjj : s.data.toList.take j = s.data.toList := List.take_of_length_le (by rw [← Lib.size_eq]; omega)
      rw [hjj] at HB
      have hlen : (34 :: s.data.toList.flatMap esc).length + 1 ≤ 140737488355328 := by
        rw [List.length_cons]
        have := flat_len s.data.toList
        rw [← Lib.size_eq] at this
        omega
      have HLEN := Lib.hid hlen
      clear hjj hlen
      go_wp2_with fail
      refine (sb_byte b b _ 34 _ HB.out HLEN.out HL.out).mono ?_
      rintro e w3 ⟨rfl, h3, b3⟩
      have HB3 := Lib.hid h3
      have HW3 := Lib.hid (HW.out.trans (b3.mono hwb))
      have HL3 : Hid (b ≤ w3.heap.size) := by have := b3.size; have := HL.out; unfold Hid; omega
      clear h3 b3 HB HW HL
      go_wp2_with fail
      refine (sb_text b b _ _ HB3.out HL3.out).mono ?_
      rintro e w4 ⟨rfl, b4⟩
      have HW4 := Lib.hid (HW3.out.trans (b4.mono hwb))
      clear b4
      go_wp2_with fail
      go_ret2
      exact ⟨congrArg (fun p => Ending.returned (.tuple #[.string p, .int .i64 0])) HP.out.symm, HW4.out⟩

theorem qprint_bad (s : ByteArray) (w : World) (hF : FormsAt w) (hs : s.size ≤ 1000000) (hv : valid s.data.toList = false) :
    Calls Tryz.prog 89 #[.string s] w fun e w' => e = .returned (.tuple #[.string ⟨#[]⟩, .int .i64 7]) ∧ Below w.heap.size w w' := by
  have CV := Lib.hid (valid_any s w hF (by omega))
  rw [hv] at CV
  clear hF hv
  go_enter Tryz.func89, Tryz.ntmps89
  go_wp2_with fail
  refine CV.out.mono ?_
  rintro e w1 ⟨rfl, hb⟩
  have HW := Lib.hid hb
  clear hb
  go_wp2_with fail
  go_ret2
  exact ⟨rfl, HW.out⟩
end Go.Proofs.YtdfihhebgllpcaaGreatDoor

/- quote.Scan's helpers: must. -/
namespace Go.Proofs.YtdfihhebgllpcaaGreatDoor
open Go.RowKit Go.Proofs.QuotePlain Go.Proofs.UtfPlain

theorem must_yes (n : Int) (w : World) : Calls Tryz.prog 176 #[.bool true, .int .i64 n] w fun e w' => e = .returned (.tuple #[]) ∧ w = w' := by
  go_enter Tryz.func176, Tryz.ntmps176
  go_wp2_with fail
  go_end0
  exact ⟨rfl, rfl⟩
theorem must_no (n : Int) (w : World) : Calls Tryz.prog 176 #[.bool false, .int .i64 n] w fun e w' => e = .panicked [{ v := .iface 35 (.int .i64 n), recovered := false }] ∧ w = w' := by
  go_enter Tryz.func176, Tryz.ntmps176
  go_wp2_with fail
  exact ⟨rfl, rfl, rfl⟩

/-- All that lay stands as it lay, but one block; new ones may lie behind. -/
structure Turn (g : Nat) (w w' : World) : Prop where
  os : w'.os = w.os
  tape : w'.tape = w.tape
  output : w'.output = w.output
  size : w.heap.size ≤ w'.heap.size
  block : ∀ k, k < w.heap.size → k ≠ g → w'.heap[k]? = w.heap[k]?
theorem Turn.refl (g : Nat) (w : World) : Turn g w w := ⟨rfl, rfl, rfl, Nat.le_refl _, fun _ _ _ => rfl⟩
theorem Turn.trans {g : Nat} {a b c : World} (h : Turn g a b) (k : Turn g b c) : Turn g a c :=
  ⟨k.os.trans h.os, k.tape.trans h.tape, k.output.trans h.output, Nat.le_trans h.size k.size, fun j hj hg => (k.block j (Nat.lt_of_lt_of_le hj h.size) hg).trans (h.block j hj hg)⟩
theorem Turn.of_below {g : Nat} {w w' : World} (h : Below w.heap.size w w') : Turn g w w' := ⟨h.os, h.tape, h.output, h.size, fun k hk _ => h.block k hk⟩
theorem Turn.set_ (g i : Nat) (w : World) (v : Value) : Turn g w (w.setCell ⟨g, i, none⟩ v) :=
  ⟨rfl, rfl, rfl, by simp, fun k _ hg => Below.heap_setCell w _ v k hg⟩
theorem Turn.drewN {g : Nat} {a w : World} (h : Turn g a w) (n : Nat) : Turn g a (w.drewN n) := ⟨h.os, h.tape, h.output, h.size, h.block⟩
theorem Turn.below {g B : Nat} {w w' : World} (h : Turn g w w') (hg : B ≤ g) (hB : B ≤ w.heap.size) : Below B w w' :=
  ⟨h.os, h.tape, h.output, h.size, fun k hk => h.block k (by omega) (by omega)⟩

/-- The reader: what it reads, and where it stands. -/
def Rdr (w : World) (g : Nat) (b : ByteArray) (k : Nat) : Prop := Blk w g 192 #[.string b, .int .i64 k]

set_option maxHeartbeats 2000000 in
theorem rbyte_yes (g : Nat) (b : ByteArray) (k : Nat) (w : World) (hs : b.size ≤ 1000000) (hR : Rdr w g b k) (hk : k < b.size) :
    Calls Tryz.prog 198 #[.pointer (some ⟨g, 0, none⟩)] w fun e w' => e = .returned (.int .u8 (b[k].toNat : Int)) ∧ Rdr w' g b (k + 1) ∧ Turn g w w' := by
  obtain ⟨c, hc⟩ : ∃ c, b[k] = c := ⟨_, rfl⟩
  rw [hc]
  have hc8 : c.toNat < 256 := c.toNat_lt
  have c0 : w.cell? ⟨g, 0, none⟩ = some (.string b) := hR.cell 0
  have c1 : w.cell? ⟨g, 1, none⟩ = some (.int .i64 (k : Int)) := hR.cell 1
  have f1 : w.frozen? ⟨g, 1, none⟩ = false := hR.frozen 1
  have hkk : (k : Int) < (b.size : Int) := by omega
  have HR := Lib.hid hR
  clear hR
  go_enter Tryz.func198, Tryz.ntmps198
  go_wp2_with fail
  go_quiet ((go_at_call 176; exact Calls.quiet_of_same ((must_yes 2 _).mono fun _ _ h => ⟨h.1, h.2.symm⟩)))
  go_wp2_with fail
  have hw1 : IntKind.i64.wrap (k : Int) = (k : Int) := IntWalk.i64_in _ (by omega)
  have hk0 : (0 : Int) ≤ (k : Int) := by omega
  go_quiet (fail)
  go_wp2_with fail
  go_ret
  refine ⟨rfl, ?_, ?_⟩
  · exact HR.out.set_ 1 _
  · exact ((Turn.refl g w).drewN _).trans ((Turn.set_ g 1 _ _).drewN _)

/-- It gives up, with that error. -/
abbrev gaveUp (n : Int) : Ending := .panicked [{ v := .iface 35 (.int .i64 n), recovered := false }]

set_option maxRecDepth 100000 in
set_option maxHeartbeats 2000000 in
theorem rbyte_no (g : Nat) (b : ByteArray) (k : Nat) (w : World) (hR : Rdr w g b k) (hk : b.size ≤ k) :
    Calls Tryz.prog 198 #[.pointer (some ⟨g, 0, none⟩)] w fun e w' => e = gaveUp 2 ∧ Turn g w w' := by
  have c0 : w.cell? ⟨g, 0, none⟩ = some (.string b) := hR.cell 0
  have c1 : w.cell? ⟨g, 1, none⟩ = some (.int .i64 (k : Int)) := hR.cell 1
  have hkk : ¬ (k : Int) < (b.size : Int) := by omega
  have hd : decide ((k : Int) < (b.size : Int)) = false := decide_eq_false hkk
  have hd2 : decide (k < b.size) = false := by simpa using hk
  clear hR
  go_enter Tryz.func198, Tryz.ntmps198
  go_wp2_with fail
  go_still_tail 10, (by kernel_rfl)
  go_wp2_with fail
  refine (must_no 2 _).mono ?_
  rintro e' w2 ⟨rfl, rfl⟩
  go_wp2_with fail
  exact ⟨rfl, rfl, Turn.of_below (Below.refl _ _).drew⟩

set_option maxHeartbeats 1000000 in
theorem rexact_yes (g : Nat) (b : ByteArray) (k : Nat) (c : UInt8) (w : World) (hs : b.size ≤ 1000000) (hR : Rdr w g b k) (hk : k < b.size) (hc : b[k] = c) :
    Calls Tryz.prog 175 #[.pointer (some ⟨g, 0, none⟩), .int .u8 (c.toNat : Int)] w fun e w' => e = .returned (.tuple #[]) ∧ Rdr w' g b (k + 1) ∧ Turn g w w' := by
  have C := Lib.hid (rbyte_yes g b k w hs hR hk)
  rw [hc] at C
  clear hR hc
  go_enter Tryz.func175, Tryz.ntmps175
  go_wp2_with fail
  refine C.out.mono ?_
  rintro e w1 ⟨rfl, h1, h2⟩
  have H1 := Lib.hid h1
  have H2 := Lib.hid h2
  clear h1 h2
  go_wp2_with fail
  refine (must_yes 3 _).mono ?_
  rintro e w2 ⟨rfl, rfl⟩
  go_wp2_with fail
  go_end0
  exact ⟨rfl, H1.out, H2.out⟩
set_option maxHeartbeats 1000000 in
theorem rexact_no (g : Nat) (b : ByteArray) (k : Nat) (c d : UInt8) (w : World) (hs : b.size ≤ 1000000) (hR : Rdr w g b k) (hk : k < b.size) (hc : b[k] = d) (hcd : d ≠ c) :
    Calls Tryz.prog 175 #[.pointer (some ⟨g, 0, none⟩), .int .u8 (c.toNat : Int)] w fun e w' => e = gaveUp 3 ∧ Turn g w w' := by
  have C := Lib.hid (rbyte_yes g b k w hs hR hk)
  rw [hc] at C
  have hne : (((d.toNat : Nat) : Int) == (c.toNat : Int)) = false := by
    rw [beq_eq_false_iff_ne]; intro e; exact hcd (UInt8.toNat_inj.1 (by omega))
  have hne2 : ¬ d.toNat = c.toNat := fun e => hcd (UInt8.toNat_inj.1 e)
  clear hR hc
  go_enter Tryz.func175, Tryz.ntmps175
  go_wp2_with fail
  refine C.out.mono ?_
  rintro e w1 ⟨rfl, h1, h2⟩
  have H2 := Lib.hid h2
  clear h1 h2
  go_wp2_with fail
  refine (must_no 3 _).mono ?_
  rintro e w2 ⟨rfl, rfl⟩
  go_wp2_with fail
  exact ⟨rfl, rfl, H2.out⟩
set_option maxHeartbeats 1000000 in
theorem rexact_end (g : Nat) (b : ByteArray) (k : Nat) (c : UInt8) (w : World) (hR : Rdr w g b k) (hk : b.size ≤ k) :
    Calls Tryz.prog 175 #[.pointer (some ⟨g, 0, none⟩), .int .u8 (c.toNat : Int)] w fun e w' => e = gaveUp 2 ∧ Turn g w w' := by
  have C := Lib.hid (rbyte_no g b k w hR hk)
  clear hR
  go_enter Tryz.func175, Tryz.ntmps175
  go_wp2_with fail
  refine C.out.mono ?_
  rintro e w1 ⟨rfl, h2⟩
  have H2 := Lib.hid h2
  clear h2
  go_wp2_with fail
  exact ⟨rfl, rfl, H2.out⟩
end Go.Proofs.YtdfihhebgllpcaaGreatDoor
