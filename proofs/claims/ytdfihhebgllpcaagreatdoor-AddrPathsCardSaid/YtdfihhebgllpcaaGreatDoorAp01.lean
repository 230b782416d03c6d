import Derived.Test.YtdfihhebgllpcaaGreatDoorAo18
import Derived.Test.YtdfihhebgllpcaaGreatDoorAo32

/- Plain: how long an address's parts are, and its print. -/
namespace Go.Proofs.YtdfihhebgllpcaaGreatDoor
open Go.Proofs.UtfPlain Go.Proofs.QuotePlain Go.Proofs.LexPlain Go.Proofs.AddrPlain

theorem mk_size (l : List UInt8) : (mk l).size = l.length := by simp [mk, ByteArray.size]
theorem data_size (s : ByteArray) : s.data.toList.length = s.size := Array.length_toList
theorem splitC_short (c : UInt8) (l : List UInt8) : ∀ x ∈ splitC c l, x.length ≤ l.length := by
  induction l with
  | nil => intro x hx; unfold splitC at hx; simp at hx; rw [hx]; exact Nat.le_refl _
  | cons y r ih =>
    intro x hx
    unfold splitC at hx
    split at hx
    · rcases List.mem_cons.1 hx with e | e
      · rw [e]; exact Nat.zero_le _
      · have := ih x e; rw [List.length_cons]; omega
    · cases h : splitC c r with
      | nil => rw [h] at hx; cases hx
      | cons a t =>
        rw [h] at hx ih
        rw [List.length_cons]
        rcases List.mem_cons.1 hx with e | e
        · have := ih a (List.mem_cons_self ..); rw [e, List.length_cons]; omega
        · have := ih x (List.mem_cons_of_mem _ e); omega
theorem mods_mem (l : List (List UInt8)) : (∀ x ∈ (mods l).1, x ∈ l) ∧ ∀ x ∈ (mods l).2, x ∈ l := by
  fun_induction mods l with
  | case1 x y r ih =>
    refine ⟨fun z hz => ?_, fun z hz => ?_⟩
    · rcases List.mem_cons.1 hz with e | e
      · rw [e]; simp
      · exact List.mem_cons_of_mem _ (List.mem_cons_of_mem _ (ih.1 z e))
    · exact List.mem_cons_of_mem _ (List.mem_cons_of_mem _ (ih.2 z hz))
  | case2 m x y r h => exact ⟨fun z hz => (by cases hz), fun z hz => hz⟩
  | case3 l h => exact ⟨fun z hz => (by cases hz), fun z hz => hz⟩
theorem ahead_short (c : UInt8) (l : List UInt8) : (aheadC c l).length ≤ l.length := (List.takeWhile_sublist _).length_le
theorem behind_short (c : UInt8) (l r : List UInt8) (h : behindC c l = some r) : r.length ≤ l.length := by
  rcases cutC_cases c l with ⟨_, _, h2⟩ | ⟨a, b, _, e, _, h2⟩
  · rw [h2] at h; cases h
  · rw [h2] at h; injection h with h; rw [← h, e, List.length_append, List.length_cons]; omega
theorem keyPart_short (o : Option (List UInt8)) (k : Int × Nat × List UInt8) (n : Nat) (hn : ∀ r, o = some r → r.length ≤ n) (h : keyPart o = some k) : k.2.1 < 18446744073709551616 ∧ k.2.2.length ≤ n := by
  cases o with
  | none => unfold keyPart at h; simp only at h; injection h with h; rw [← h]; exact ⟨by decide, Nat.zero_le _⟩
  | some r =>
    have hr := hn r rfl
    unfold keyPart at h
    simp only at h
    split at h
    · unfold inBrk at h
      split at h
      · rename_i v hv
        injection h with h
        rw [← h]
        exact ⟨number_lt _ _ hv, Nat.zero_le _⟩
      · split at h
        · rename_i h0
          injection h with h
          rw [← h]
          have h1 := scanQ_ok _ h0.1
          have h2 : r.dropLast.length ≤ r.length := by rw [List.length_dropLast]; omega
          refine ⟨Nat.zero_lt_succ _, ?_⟩
          show (scanQ r.dropLast).2.1.length ≤ n
          omega
        · cases h
    · cases h
/-- An address that a text of n bytes tells has no part of more than n bytes. -/
theorem parse_short (s : List UInt8) (a : Ad) (n : Nat) (hn : s.length ≤ n) (h : parseA s = some a) :
    a.path.length ≤ 20 ∧ (∀ X ∈ a.path, X.size ≤ n) ∧ a.ty.size ≤ n ∧ a.nm.size ≤ n ∧ a.word.size ≤ n ∧ a.place < 18446744073709551616 := by
  have hr := (right_parts a (parse_right s a h)).1
  refine ⟨hr, ?_⟩
  unfold parseA at h
  split at h
  · cases h
  · rename_i k hk
    have h1 := keyPart_short _ k n (fun r e => by have := behind_short 91 s r e; omega) hk
    have h2 := splitC_short 46 (aheadC 91 s)
    have h3 := ahead_short 91 s
    have h4 := mods_mem (splitC 46 (aheadC 91 s))
    unfold made at h
    split at h
    · rename_i p t m hm
      rw [hm] at h4
      split at h
      · injection h with h
        rw [← h]
        refine ⟨fun X hX => ?_, ?_, ?_, ?_, h1.1⟩
        · obtain ⟨x, hx, rfl⟩ := List.mem_map.1 hX
          have := h2 x (h4.1 x hx)
          rw [mk_size]; omega
        · have := h2 t (h4.2 t (by simp))
          show (mk t).size ≤ n
          rw [mk_size]; omega
        · have := h2 m (h4.2 m (by simp))
          show (mk m).size ≤ n
          rw [mk_size]; omega
        · show (mk k.2.2).size ≤ n
          rw [mk_size]; exact h1.2
      · cases h
    · cases h
theorem steps_short (p : List ByteArray) (n : Nat) (h : ∀ X ∈ p, X.size ≤ n) : (p.flatMap stepP).length ≤ p.length * (n + 8) := by
  induction p with
  | nil => exact Nat.zero_le _
  | cons x r ih =>
    have h1 := ih fun X hX => h X (List.mem_cons_of_mem _ hX)
    have h2 := h x (List.mem_cons_self ..)
    rw [List.flatMap_cons, List.length_append, List.length_cons, Nat.succ_mul]
    have h3 : (stepP x).length = 8 + x.size := by
      unfold stepP
      rw [List.length_append, List.length_cons, List.length_append, data_size]
      show 6 + (x.size + 1 + 1) = _
      omega
    omega
theorem print_short (a : Ad) (n : Nat) (hn : n ≤ 1000000) (hl : a.path.length ≤ 20) (hp : ∀ X ∈ a.path, X.size ≤ n) (ht : a.ty.size ≤ n) (hm : a.nm.size ≤ n) (hw : a.word.size ≤ n) (hc : a.place < 18446744073709551616) :
    (printA a).length ≤ 28 * n + 200 := by
  unfold printA
  split
  · have h1 := steps_short a.path n hp
    have h2 : a.path.length * (n + 8) ≤ 20 * (n + 8) := Nat.mul_le_mul_right _ hl
    have h3 : (headP a).length = (a.path.flatMap stepP).length + (a.ty.size + (a.nm.size + 1)) := by
      unfold headP
      rw [List.length_append, List.length_append, List.length_cons, data_size, data_size]
    have h4 : (keyP a).length ≤ 6 * n + 22 := by
      unfold keyP
      split
      · rw [List.length_cons, List.length_append, Lib.decDigits_length]
        have := Lib.nDigits_le20 a.place hc
        show _ + 1 + 1 ≤ _
        omega
      · split
        · have := flat_len a.word.data.toList
          rw [data_size] at this
          unfold qprint
          rw [List.length_cons, List.length_append, List.length_cons, List.length_append]
          show (_ + 1) + 1 + 1 ≤ _
          show _ + 1 + 1 + 1 ≤ _
          simp only [List.length_cons, List.length_nil]
          omega
        · exact Nat.zero_le _
    rw [List.length_append]
    omega
  · exact Nat.zero_le _
end Go.Proofs.YtdfihhebgllpcaaGreatDoor

/- The walk of the statement AddrParses. -/
namespace Go.Proofs.YtdfihhebgllpcaaGreatDoor
open Go.RowKit Go.Proofs.QuotePlain Go.Proofs.UtfPlain Go.Proofs.LexPlain Go.Proofs.AddrPlain

/-- What is known of what a text of at most 1000 bytes tells. -/
theorem parse_facts (l : List UInt8) (hl : l.length ≤ 1000) (a : Ad) (x : Int) (ok : Bool) (ha : (parseA l).getD Ad.zero = a) (hx : (if (parseA l).isSome then 0 else 3 : Int) = x) (hok : (parseA l).isSome = ok) :
    a.path.length ≤ 20 ∧ ((x = 0 ∧ ok = true ∧ rightA a = true ∧ AdB a ∧ (mk (printA a)).size ≤ 100000 ∧ parseA (mk (printA a)).data.toList = some a) ∨ (x = 3 ∧ ok = false)) := by
  cases h : parseA l with
  | none =>
    rw [h] at ha hx hok
    rw [← ha]
    exact ⟨Nat.zero_le _, .inr ⟨hx.symm, hok.symm⟩⟩
  | some b =>
    rw [h] at ha hx hok
    have e : b = a := ha
    subst e
    have hr := parse_right l b h
    obtain ⟨h1, h2, h3, h4, h5, h6⟩ := parse_short l b 1000 hl h
    refine ⟨h1, .inl ⟨hx.symm, hok.symm, hr, ⟨by omega, fun X hX => by have := h2 X hX; omega, by omega, by omega, by omega, h6⟩, ?_, ?_⟩⟩
    · rw [mk_size]
      have := print_short b 1000 (by decide) h1 h2 h3 h4 h5 h6
      omega
    · rw [mk_data]; exact print_back b hr h6

set_option maxRecDepth 100000 in
set_option maxHeartbeats 4000000 in
theorem addrParses_any (s : ByteArray) (w : World) (hs : s.size ≤ 9223372036854775807) (hG : AdG w) :
    Calls Tryz.prog 10 #[.string s] w fun e w' => e = .returned (.bool true) ∧ Below w.heap.size w w' := by
  have CW := Lib.hid (awakes_any w hG)
  have HG := Lib.hid hG
  clear hG
  by_cases h1 : 1000 < s.size
  · have h2 : (1000 : Int) < (s.size : Int) := by omega
    go_enter Tryz.func10, Tryz.ntmps10
    go_wp2_with fail
    refine CW.out.mono ?_
    rintro e w2 ⟨rfl, hb⟩
    have HL := Lib.hid hb
    clear hb
    go_wp2_with fail
    go_ret
    exact ⟨rfl, HL.out⟩
  have h2 : ¬ (1000 : Int) < (s.size : Int) := by omega
  have C1 : Hid (∀ W, AdG W → Calls Tryz.prog 39 #[.string s] W fun e w' => ParseEnd (parseA s.data.toList) w' e ∧ Below W.heap.size W w') := fun W h => aparse_any s W (by omega) h
  have C2 : Hid (∀ W, Calls Tryz.prog 40 #[.string s] W fun e w' => RParseEnd (parseA s.data.toList) w' e ∧ Below W.heap.size W w') := fun W => raparse_any s W (by omega)
  obtain ⟨a, ha⟩ : ∃ a, (parseA s.data.toList).getD Ad.zero = a := ⟨_, rfl⟩
  obtain ⟨x, hx⟩ : ∃ x : Int, (if (parseA s.data.toList).isSome then 0 else 3) = x := ⟨_, rfl⟩
  obtain ⟨ok, hok⟩ : ∃ ok, (parseA s.data.toList).isSome = ok := ⟨_, rfl⟩
  have hF := parse_facts s.data.toList (by rw [data_size]; omega) a x ok ha hx hok
  unfold ParseEnd at C1
  unfold RParseEnd at C2
  rw [ha, hx] at C1
  rw [ha, hok] at C2
  clear ha hx hok
  have hpl := hF.1
  have HF := Lib.hid hF.2
  clear hF
  obtain ⟨pth, ty, nm, key, place, word⟩ := a
  obtain ⟨n, hn⟩ : ∃ n, pth.length = n := ⟨_, rfl⟩
  try dsimp only at hpl
  rw [hn] at hpl
  have HN := Lib.hid hn
  clear hn
  go_enter Tryz.func10, Tryz.ntmps10
  go_wp2_with fail
  refine CW.out.mono ?_
  rintro e w2 ⟨rfl, hb⟩
  have HL := Lib.hid hb
  have HG2 := Lib.hid (HG.out.below hb)
  clear hb CW HG
  go_wp2_with fail
  refine (C1.out _ HG2.out).mono ?_
  intro e w3 hh
  obtain ⟨⟨pv, hs1, rfl⟩, hb⟩ := hh
  obtain ⟨ao, ac, hpv⟩ := hs1.len
  try dsimp only at hpv
  rw [HN.out] at hpv
  subst hpv
  have hb3 := hb.alloc hb.size (.cells (adV (.slice ao n ac) ⟨pth, ty, nm, key, place, word⟩) 29)
  have hA := Blk.new w3 29 (adV (.slice ao n ac) ⟨pth, ty, nm, key, place, word⟩)
  have hs2 := hs1.far ((Below.refl w3.heap.size w3).alloc (Nat.le_refl _) (.cells (adV (.slice ao n ac) ⟨pth, ty, nm, key, place, word⟩) 29))
  have HL3 := Lib.hid (HL.out.trans (hb3.mono HL.out.size))
  have HG3 := Lib.hid (HG2.out.below hb3)
  have HA3 := Lib.hid hA
  have HS3 := Lib.hid hs2
  clear hb hb3 hA hs1 hs2 HL HG2 C1
  unfold adV at HA3 HS3 HL3 HG3 ⊢
  try dsimp only at HA3 HS3 HL3 HG3 ⊢
  go_upto_region 6 with fail
  obtain ⟨W3, hW3⟩ : ∃ W3, w3.alloc (.cells #[.slice ao n ac, .string ty, .string nm, .int .i64 key, .int .u64 ((place : Nat) : Int), .string word] 29) = W3 := ⟨_, rfl⟩
  obtain ⟨A, hAA⟩ : ∃ A, w3.heap.size = A := ⟨_, rfl⟩
  rw [hW3] at HA3 HS3 HL3 HG3 ⊢
  rw [hAA] at HA3 ⊢
  clear hW3 hAA
  go_wp2_with fail
  refine (C2.out _).mono ?_
  intro e w4 hh
  obtain ⟨⟨qv, hs1, rfl⟩, hb⟩ := hh
  obtain ⟨bo, bc, hqv⟩ := hs1.len
  try dsimp only at hqv
  rw [HN.out] at hqv
  subst hqv
  have hl4 := (Below.refl w4.heap.size w4).alloc (Nat.le_refl _) (.cells (adV (.slice bo n bc) ⟨pth, ty, nm, key, place, word⟩) 29)
  have hb4 := hb.trans (hl4.mono hb.size)
  have HB4 := Lib.hid (Blk.new w4 29 (adV (.slice bo n bc) ⟨pth, ty, nm, key, place, word⟩))
  have HT4 := Lib.hid (hs1.far hl4)
  have HA4 := Lib.hid (HA3.out.below hb4 HA3.out.lt)
  have HS4 := Lib.hid (HS3.out.far hb4)
  have HL4 := Lib.hid (HL3.out.trans (hb4.mono HL3.out.size))
  have HG4 := Lib.hid (HG3.out.below hb4)
  clear hb hb4 hl4 hs1 HA3 HS3 HL3 HG3 C2
  unfold adV at HB4 HT4 HA4 HS4 HL4 HG4 ⊢
  try dsimp only at HB4 HT4 HA4 HS4 HL4 HG4 ⊢
  go_upto_region 7 with fail
  obtain ⟨W4, hW4⟩ : ∃ W4, w4.alloc (.cells #[.slice bo n bc, .string ty, .string nm, .int .i64 key, .int .u64 ((place : Nat) : Int), .string word] 29) = W4 := ⟨_, rfl⟩
  obtain ⟨B, hBB⟩ : ∃ B, w4.heap.size = B := ⟨_, rfl⟩
  rw [hW4] at HB4 HT4 HA4 HS4 HL4 HG4 ⊢
  rw [hBB] at HB4 ⊢
  clear hW4 hBB
  have hpl2 : pth.length ≤ 1000000000 := by rw [HN.out]; omega
  have HPL := Lib.hid hpl2
  clear hpl2
  have CS : Hid (Calls Tryz.prog 17 #[.agg #[.slice ao n ac, .string ty, .string nm, .int .i64 key, .int .u64 ((place : Nat) : Int), .string word], .agg #[.slice bo n bc, .string ty, .string nm, .int .i64 key, .int .u64 ((place : Nat) : Int), .string word]] W4 fun e w' => e = .returned (.bool true) ∧ Below W4.heap.size W4 w') := by
    have := rasame_any (.slice ao n ac) (.slice bo n bc) ⟨pth, ty, nm, key, place, word⟩ ⟨pth, ty, nm, key, place, word⟩ W4 HS4.out HT4.out HPL.out HPL.out
    rw [decide_eq_true rfl] at this
    exact this
  have a0 : W4.cell? ⟨A, 0, none⟩ = some (.slice ao n ac) := HA4.out.cell 0
  have a1 : W4.cell? ⟨A, 1, none⟩ = some (.string ty) := HA4.out.cell 1
  have a2 : W4.cell? ⟨A, 2, none⟩ = some (.string nm) := HA4.out.cell 2
  have a3 : W4.cell? ⟨A, 3, none⟩ = some (.int .i64 key) := HA4.out.cell 3
  have a4 : W4.cell? ⟨A, 4, none⟩ = some (.int .u64 ((place : Nat) : Int)) := HA4.out.cell 4
  have a5 : W4.cell? ⟨A, 5, none⟩ = some (.string word) := HA4.out.cell 5
  have b0 : W4.cell? ⟨B, 0, none⟩ = some (.slice bo n bc) := HB4.out.cell 0
  have b1 : W4.cell? ⟨B, 1, none⟩ = some (.string ty) := HB4.out.cell 1
  have b2 : W4.cell? ⟨B, 2, none⟩ = some (.string nm) := HB4.out.cell 2
  have b3 : W4.cell? ⟨B, 3, none⟩ = some (.int .i64 key) := HB4.out.cell 3
  have b4 : W4.cell? ⟨B, 4, none⟩ = some (.int .u64 ((place : Nat) : Int)) := HB4.out.cell 4
  have b5 : W4.cell? ⟨B, 5, none⟩ = some (.string word) := HB4.out.cell 5
  go_wp2_with fail
  refine CS.out.mono ?_
  rintro e w5 ⟨rfl, hb⟩
  have HA5 := Lib.hid (HA4.out.below hb HA4.out.lt)
  have HS5 := Lib.hid (HS4.out.far hb)
  have HL5 := Lib.hid (HL4.out.trans (hb.mono HL4.out.size))
  have HG5 := Lib.hid (HG4.out.below hb)
  clear hb a0 a1 a2 a3 a4 a5 b0 b1 b2 b3 b4 b5 HA4 HB4 HS4 HT4 HL4 HG4 CS
  rcases HF.out with ⟨rfl, rfl, hr, hB, hsz, hpb⟩ | ⟨rfl, rfl⟩
  · obtain ⟨T, hT⟩ : ∃ T, mk (printA ⟨pth, ty, nm, key, place, word⟩) = T := ⟨_, rfl⟩
    rw [hT] at hsz hpb
    have CP : Hid (∀ W, AdG W → StrS W W.heap.size (.slice ao n ac) pth → Calls Tryz.prog 41 #[.agg #[.slice ao n ac, .string ty, .string nm, .int .i64 key, .int .u64 ((place : Nat) : Int), .string word]] W fun e w' => e = .returned (.string T) ∧ Below W.heap.size W w') := fun W h1 h2 => by
      rw [← hT]; exact aprint_any (.slice ao n ac) ⟨pth, ty, nm, key, place, word⟩ W h1.lx h2 hB
    have C3 : Hid (∀ W, AdG W → Calls Tryz.prog 39 #[.string T] W fun e w' => ParseEnd (some ⟨pth, ty, nm, key, place, word⟩) w' e ∧ Below W.heap.size W w') := fun W h => by
      have := aparse_any T W hsz h
      rw [hpb] at this
      exact this
    have CR : Hid (∀ W, AdG W → StrS W W.heap.size (.slice ao n ac) pth → Calls Tryz.prog 42 #[.agg #[.slice ao n ac, .string ty, .string nm, .int .i64 key, .int .u64 ((place : Nat) : Int), .string word]] W fun e w' => e = .returned (.bool true) ∧ Below W.heap.size W w') := fun W h1 h2 => by
      have := aright_any (.slice ao n ac) ⟨pth, ty, nm, key, place, word⟩ W h1.lx h2 hB
      rw [hr] at this
      exact this
    clear hr hB hsz hpb hT
    have a0 : w5.cell? ⟨A, 0, none⟩ = some (.slice ao n ac) := HA5.out.cell 0
    have a1 : w5.cell? ⟨A, 1, none⟩ = some (.string ty) := HA5.out.cell 1
    have a2 : w5.cell? ⟨A, 2, none⟩ = some (.string nm) := HA5.out.cell 2
    have a3 : w5.cell? ⟨A, 3, none⟩ = some (.int .i64 key) := HA5.out.cell 3
    have a4 : w5.cell? ⟨A, 4, none⟩ = some (.int .u64 ((place : Nat) : Int)) := HA5.out.cell 4
    have a5 : w5.cell? ⟨A, 5, none⟩ = some (.string word) := HA5.out.cell 5
    go_wp2_with fail
    refine (CP.out _ HG5.out HS5.out).mono ?_
    rintro e w6 ⟨rfl, hb⟩
    have HA6 := Lib.hid (HA5.out.below hb HA5.out.lt)
    have HS6 := Lib.hid (HS5.out.far hb)
    have HL6 := Lib.hid (HL5.out.trans (hb.mono HL5.out.size))
    have HG6 := Lib.hid (HG5.out.below hb)
    clear hb a0 a1 a2 a3 a4 a5 HA5 HS5 HL5 HG5 CP
    go_wp2_with fail
    refine (C3.out _ HG6.out).mono ?_
    intro e w7 hh
    obtain ⟨⟨qv, hs1, rfl⟩, hb⟩ := hh
    obtain ⟨co, cc, hqv⟩ := hs1.len
    simp only [Option.getD_some] at hqv hs1 ⊢
    rw [HN.out] at hqv
    subst hqv
    have hl4 := (Below.refl w7.heap.size w7).alloc (Nat.le_refl _) (.cells (adV (.slice co n cc) ⟨pth, ty, nm, key, place, word⟩) 29)
    have hb4 := hb.trans (hl4.mono hb.size)
    have HB7 := Lib.hid (Blk.new w7 29 (adV (.slice co n cc) ⟨pth, ty, nm, key, place, word⟩))
    have HT7 := Lib.hid (hs1.far hl4)
    have HA7 := Lib.hid (HA6.out.below hb4 HA6.out.lt)
    have HS7 := Lib.hid (HS6.out.far hb4)
    have HL7 := Lib.hid (HL6.out.trans (hb4.mono HL6.out.size))
    have HG7 := Lib.hid (HG6.out.below hb4)
    clear hb hb4 hl4 hs1 HA6 HS6 HL6 HG6 C3
    unfold adV at HB7 HT7 HA7 HS7 HL7 HG7 ⊢
    dsimp only [Option.isSome_some] at HB7 HT7 HA7 HS7 HL7 HG7 ⊢
    go_upto_region 12 with fail
    obtain ⟨W7, hW7⟩ : ∃ W7, w7.alloc (.cells #[.slice co n cc, .string ty, .string nm, .int .i64 key, .int .u64 ((place : Nat) : Int), .string word] 29) = W7 := ⟨_, rfl⟩
    obtain ⟨B2, hBB⟩ : ∃ B2, w7.heap.size = B2 := ⟨_, rfl⟩
    rw [hW7] at HB7 HT7 HA7 HS7 HL7 HG7 ⊢
    rw [hBB] at HB7 ⊢
    clear hW7 hBB
    have a0 : W7.cell? ⟨A, 0, none⟩ = some (.slice ao n ac) := HA7.out.cell 0
    have a1 : W7.cell? ⟨A, 1, none⟩ = some (.string ty) := HA7.out.cell 1
    have a2 : W7.cell? ⟨A, 2, none⟩ = some (.string nm) := HA7.out.cell 2
    have a3 : W7.cell? ⟨A, 3, none⟩ = some (.int .i64 key) := HA7.out.cell 3
    have a4 : W7.cell? ⟨A, 4, none⟩ = some (.int .u64 ((place : Nat) : Int)) := HA7.out.cell 4
    have a5 : W7.cell? ⟨A, 5, none⟩ = some (.string word) := HA7.out.cell 5
    go_wp2_with fail
    refine (CR.out _ HG7.out HS7.out).mono ?_
    rintro e w8 ⟨rfl, hb⟩
    have HA8 := Lib.hid (HA7.out.below hb HA7.out.lt)
    have HB8 := Lib.hid (HB7.out.below hb HB7.out.lt)
    have HS8 := Lib.hid (HS7.out.far hb)
    have HT8 := Lib.hid (HT7.out.far hb)
    have HL8 := Lib.hid (HL7.out.trans (hb.mono HL7.out.size))
    clear hb a0 a1 a2 a3 a4 a5 HA7 HB7 HS7 HT7 HL7 HG7 CR
    have CS : Hid (Calls Tryz.prog 17 #[.agg #[.slice ao n ac, .string ty, .string nm, .int .i64 key, .int .u64 ((place : Nat) : Int), .string word], .agg #[.slice co n cc, .string ty, .string nm, .int .i64 key, .int .u64 ((place : Nat) : Int), .string word]] w8 fun e w' => e = .returned (.bool true) ∧ Below w8.heap.size w8 w') := by
      have := rasame_any (.slice ao n ac) (.slice co n cc) ⟨pth, ty, nm, key, place, word⟩ ⟨pth, ty, nm, key, place, word⟩ w8 HS8.out HT8.out HPL.out HPL.out
      rw [decide_eq_true rfl] at this
      exact this
    have a0 : w8.cell? ⟨A, 0, none⟩ = some (.slice ao n ac) := HA8.out.cell 0
    have a1 : w8.cell? ⟨A, 1, none⟩ = some (.string ty) := HA8.out.cell 1
    have a2 : w8.cell? ⟨A, 2, none⟩ = some (.string nm) := HA8.out.cell 2
    have a3 : w8.cell? ⟨A, 3, none⟩ = some (.int .i64 key) := HA8.out.cell 3
    have a4 : w8.cell? ⟨A, 4, none⟩ = some (.int .u64 ((place : Nat) : Int)) := HA8.out.cell 4
    have a5 : w8.cell? ⟨A, 5, none⟩ = some (.string word) := HA8.out.cell 5
    have b0 : w8.cell? ⟨B2, 0, none⟩ = some (.slice co n cc) := HB8.out.cell 0
    have b1 : w8.cell? ⟨B2, 1, none⟩ = some (.string ty) := HB8.out.cell 1
    have b2 : w8.cell? ⟨B2, 2, none⟩ = some (.string nm) := HB8.out.cell 2
    have b3 : w8.cell? ⟨B2, 3, none⟩ = some (.int .i64 key) := HB8.out.cell 3
    have b4 : w8.cell? ⟨B2, 4, none⟩ = some (.int .u64 ((place : Nat) : Int)) := HB8.out.cell 4
    have b5 : w8.cell? ⟨B2, 5, none⟩ = some (.string word) := HB8.out.cell 5
    go_wp2_with fail
    refine CS.out.mono ?_
    rintro e w9 ⟨rfl, hb⟩
    have HL9 := Lib.hid (HL8.out.trans (hb.mono HL8.out.size))
    clear hb a0 a1 a2 a3 a4 a5 b0 b1 b2 b3 b4 b5 HA8 HB8 HS8 HT8 HL8 CS
    go_wp2_with fail
    go_ret
    exact ⟨rfl, HL9.out⟩
  · go_wp2_with fail
    go_ret
    exact ⟨rfl, HL5.out⟩
end Go.Proofs.YtdfihhebgllpcaaGreatDoor
