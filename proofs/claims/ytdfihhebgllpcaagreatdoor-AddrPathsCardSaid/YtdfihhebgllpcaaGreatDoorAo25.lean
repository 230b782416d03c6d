import Derived.Test.YtdfihhebgllpcaaGreatDoorAo24
import Derived.Test.YtdfihhebgllpcaaGreatDoorAo16
import Derived.Test.YtdfihhebgllpcaaGreatDoorAo18

/- The reference's one, all ways together. -/
namespace Go.Proofs.YtdfihhebgllpcaaGreatDoor
open Go.RowKit Go.Proofs.QuotePlain Go.Proofs.UtfPlain Go.Proofs.LexPlain

theorem rone_lex (s : ByteArray) (k : Nat) (w : World) (hs : s.size ≤ 100000) (hk : k < s.size) (c : UInt8) (hc : s[k] = c) :
    Calls Tryz.prog 188 #[.string s, .int .i64 k] w (ROne s k c w) := by
  have hpre : ∀ x r, Lib.hasPrefix (c :: r) [47, x] = true → c = 47 := fun x r h => by
    obtain ⟨t, ht⟩ := List.isPrefixOf_iff_prefix.1 (show List.isPrefixOf [47, x] (c :: r) = true from h)
    injection ht with h1 _
    exact h1.symm
  by_cases h10 : c = 10
  · exact rone_line s k w hs hk c hc h10
  by_cases h : letter c = true
  · exact rone_name s k w hs hk c hc h
  have h := Bool.eq_false_iff.2 h
  by_cases hd : 48 ≤ c.toNat ∧ c.toNat ≤ 57
  · exact rone_num s k w hs hk c hc h hd.1 hd.2
  by_cases hq : c = 34
  · exact rone_quot s k w hs hk c hc h hq
  by_cases hh : c = 35
  · exact rone_hash s k w hs hk c hc h hh
  by_cases hp : Lib.hasPrefix (c :: s.data.toList.drop (k + 1)) [47, 47] = true
  · exact rone_slash s k w hs hk c hc h (hpre _ _ hp) hp
  have hp := Bool.eq_false_iff.2 hp
  by_cases hp3 : Lib.hasPrefix (c :: s.data.toList.drop (k + 1)) [47, 42] = true
  · exact rone_star s k w hs hk c hc h (hpre _ _ hp3) hp hp3
  exact rone_sign s k w hs hk c hc h h10 hd hq hh hp (Bool.eq_false_iff.2 hp3)
end Go.Proofs.YtdfihhebgllpcaaGreatDoor

/- The walk of the reference's lexer. -/
namespace Go.Proofs.YtdfihhebgllpcaaGreatDoor
open Go.RowKit Go.Proofs.QuotePlain Go.Proofs.UtfPlain Go.Proofs.LexPlain

theorem rlex_res (B : Nat) (v : Value) (a x : Int) (W : World) (tmps : Array Value) (hB : Blk W B 178 (rtoldA v a x)) (h : tmps[2]? = some (.pointer (some ⟨B, 0, none⟩))) :
    (results Tryz.f154 tmps).run Tryz.prog W = .ok (.agg (rtoldA v a x)) W := by
  have c0 : W.cell? ⟨B, 0, none⟩ = some v := hB.cell 0
  have c1 : W.cell? ⟨B, 1, none⟩ = some (.int .i64 a) := hB.cell 1
  have c2 : W.cell? ⟨B, 2, none⟩ = some (.int .i64 x) := hB.cell 2
  simp [results, Tryz.results154, go_sem, h, c0, c1, c2]
/-- What the reference's lexer tells. -/
def RLexed (s : ByteArray) (w : World) (e : Ending) (w' : World) : Prop :=
  (∃ (ao : Option Addr) (n cap : Nat) (a x : Int) (P : List TokP), e = .returned (.agg (rtoldA (.slice ao n cap) a x)) ∧ (x = 0 → Toks s.data.toList (tks P) ∧ w'.ownsRow (w.heap.size + 1) 127 3 (.slice ao n cap) P.length (tcs P)) ∧ (isName s.data.toList = true → x = 0)) ∧ Below w.heap.size w w'
theorem own_shape {w : World} {B n : Nat} {v : Value} {xs : List Value} (h : w.ownsRow B 127 3 v n xs) : ∃ ao cap, v = .slice ao n cap := by
  rcases h.2 with ⟨hv, h0⟩ | ⟨g, cap, cur, hv, _⟩
  · exact ⟨_, _, by rw [hv, h0]⟩
  · exact ⟨_, _, hv⟩

theorem own_snoc (P : List TokP) (K : Nat) (T : ByteArray) (k : Int) {w : World} {B : Nat} (v : Value) (h : Hid (w.ownsRow B 127 3 v (P.length + 1) (tcs P ++ tokC K T k))) : Hid (w.ownsRow B 127 3 v (P ++ [(K, T.data.toList, k)]).length (tcs (P ++ [(K, T.data.toList, k)]))) := by
  rw [tcs_snoc, List.length_append, List.length_singleton]
  exact h

theorem lex_meas {n k N m : Nat} (h : Hid (wrap64 ((k : Int) + (N : Int)) = (m : Int))) (h1 : k < m) (h2 : m ≤ n) : n - (intOf (.int .i64 (wrap64 ((k : Int) + (N : Int))))).toNat < n - (intOf (.int .i64 (k : Int))).toNat := by
  rw [h.out]
  show n - (m : Int).toNat < n - (k : Int).toNat
  omega
set_option maxRecDepth 100000 in
set_option maxHeartbeats 8000000 in
theorem rlexparse_any (s : ByteArray) (w : World) (hs : s.size ≤ 100000) :
    Calls Tryz.prog 154 #[.string s] w fun e w' => RLexed s w e w' := by
  obtain ⟨i0, hi, hz0, hz1, hz2⟩ := info_parts tok_info
  go_enter Tryz.func154, Tryz.ntmps154
  go_upto_region 1 with fail
  have hB0 := Blk.new w 178 (rtoldA (.slice none 0 0) 0 0)
  have hl0 : Below w.heap.size w (w.alloc (.cells (rtoldA (.slice none 0 0) 0 0) 178)) := (Below.refl _ _).alloc (Nat.le_refl _) _
  obtain ⟨W, hW⟩ : ∃ W, w.alloc (.cells (rtoldA (.slice none 0 0) 0 0) 178) = W := ⟨_, rfl⟩
  obtain ⟨B, hB⟩ : ∃ B, w.heap.size = B := ⟨_, rfl⟩
  rw [hW] at hB0 hl0 ⊢
  rw [hB] at hB0 hl0 ⊢
  have HB0 := Lib.hid hB0
  have HL0 := Lib.hid hl0
  have HBB := Lib.hid hB
  clear hW hB0 hl0 hB
  go_wp2_with fail
  go_loopw [3, 4] (fun v a wr => ∃ (k : Nat) (P : List TokP), k ≤ s.size ∧ P.length ≤ k ∧ a = .int .i64 k ∧ Hid (∀ t, Toks (s.data.toList.drop k) t → Toks s.data.toList (tks P ++ t)) ∧ Hid (isName s.data.toList = true → k = 0 ∨ k = s.size) ∧ Hid (wr.ownsRow (B + 1) 127 3 v P.length (tcs P)) ∧ Hid (Blk wr B 178 (rtoldA (.slice none 0 0) 0 0)) ∧ Hid (Below B w wr)) (fun _ a _ => s.size - (intOf a).toNat)
  case atStart => exact ⟨0, [], by omega, by simp, rfl, Lib.hid (fun t h => h), Lib.hid (fun _ => .inl rfl), Lib.hid (World.ownsRow_nil _ _ _ _), HB0, HL0⟩
  case round =>
    clear HB0 HL0
    obtain ⟨k, P, hk, hP, rfl, HK, HNM, HO, HB, HL⟩ := hrel
    obtain ⟨ao, cap, hv⟩ := own_shape HO.out
    subst hv
    have c0 : wr.cell? ⟨B, 0, none⟩ = some (.slice none 0 0) := HB.out.cell 0
    have c1 : wr.cell? ⟨B, 1, none⟩ = some (.int .i64 0) := HB.out.cell 1
    have c2 : wr.cell? ⟨B, 2, none⟩ = some (.int .i64 0) := HB.out.cell 2
    have f0 : wr.frozen? ⟨B, 0, none⟩ = false := HB.out.frozen 0
    have f1 : wr.frozen? ⟨B, 1, none⟩ = false := HB.out.frozen 1
    have f2 : wr.frozen? ⟨B, 2, none⟩ = false := HB.out.frozen 2
    by_cases hlt : k < s.size
    case neg => as_aux_lemma =>
      have hlt' : ¬ (k : Int) < (s.size : Int) := by omega
      have hfin : Hid (Toks s.data.toList (tks P)) := by
        unfold Hid
        have := HK.out [] (by rw [List.drop_eq_nil_of_le (by rw [← Lib.size_eq]; omega)]; exact .nil)
        rw [List.append_nil] at this
        exact this
      clear HK
      go_wp2_with fail
      refine bodyPost_ret (rlex_res B _ (-1) 0 _ _ (((HB.out.set_ 0 _).set_ 1 _).set_ 2 _) rfl) rfl ⟨⟨_, _, _, -1, 0, P, rfl, fun _ => ⟨hfin.out, ?_⟩, fun _ => rfl⟩, ?_⟩
      · rw [HBB.out]
        have k1 : ∀ (W : World) (i : Nat) (u : Value), W.ownsRow (B + 1) 127 3 (.slice ao P.length cap) P.length (tcs P) → (W.setCell ⟨B, i, none⟩ u).ownsRow (B + 1) 127 3 (.slice ao P.length cap) P.length (tcs P) := fun W i u h => by
          have hg : W.grownBy (W.setCell ⟨B, i, none⟩ u) (some B) := ⟨rfl, rfl, rfl, by simp, fun g _ hne => Below.heap_setCell W _ u g (fun e => hne (by rw [e]))⟩
          refine h.kept hg ?_
          cases hv : (Value.slice ao P.length cap).ownBlock with
          | none => exact .inl rfl
          | some g => exact .inr (by intro e; have e' := Option.some.inj e; have := (h.lt g hv).1; omega)
        exact k1 _ 2 _ (k1 _ 1 _ (k1 _ 0 _ HO.out))
      · rw [HBB.out]
        exact ((HL.out.setCell (p := ⟨B, 0, none⟩) (Nat.le_refl _) _).setCell (p := ⟨B, 1, none⟩) (Nat.le_refl _) _).setCell (p := ⟨B, 2, none⟩) (Nat.le_refl _) _
    have hlt' : (k : Int) < (s.size : Int) := by omega
    obtain ⟨c, hc⟩ : ∃ c, s[k] = c := ⟨_, rfl⟩
    have hc8 : c.toNat < 256 := c.toNat_lt
    have hdr : s.data.toList.drop k = c :: s.data.toList.drop (k + 1) := by
      rw [List.drop_eq_getElem_cons (by rw [← Lib.size_eq]; exact hlt), ← hc]; rfl
    have CB := Lib.hid (fun w => rblank_any c w)
    by_cases hbl : LexPlain.blank c = true
    · as_aux_lemma =>
      rw [hbl] at CB
      have HK2 : Hid (∀ t, Toks (s.data.toList.drop (k + 1)) t → Toks s.data.toList (tks P ++ t)) := fun t ht => HK.out t (by rw [hdr]; exact .blank c _ t hbl ht)
      have HN2 : Hid (isName s.data.toList = true → k + 1 = 0 ∨ k + 1 = s.size) := fun hnm => by
        rcases HNM.out hnm with h | h
        · subst h
          rw [List.drop_zero] at hdr
          rw [hdr] at hnm
          have := letter_blank c (isName_head c _ hnm)
          rw [this] at hbl; cases hbl
        · omega
      clear hdr HK hbl HNM c0 c1 c2 f0 f1 f2
      go_wp2_with fail
      refine (CB.out _).mono ?_
      rintro e w2 ⟨rfl, rfl⟩
      go_wp2_with fail
      go_roundw
      case rel => exact ⟨k + 1, P, by omega, by omega, by go_num, HK2, HN2, HO, HB, HL⟩
      case measure => simp [intOf]; omega
    · have hbl := Bool.eq_false_iff.2 hbl
      rw [hbl] at CB
      have CN := Lib.hid (fun w => rone_lex s k w hs hlt c hc)
      have HLT : Hid (isName s.data.toList = true → letter c = true ∧ k = 0) := fun hnm => by
        rcases HNM.out hnm with h | h
        · refine ⟨?_, h⟩
          subst h
          rw [List.drop_zero] at hdr
          rw [hdr] at hnm
          exact isName_head c _ hnm
        · omega
      have HDR := Lib.hid hdr
      have HBL := Lib.hid hbl
      clear hdr hbl c0 c1 c2 f0 f1 f2
      go_wp2_with fail
      refine (CB.out _).mono ?_
      rintro e w2 ⟨rfl, rfl⟩
      go_wp2_with fail
      refine (CN.out _).mono ?_
      rintro e w3 ⟨hor, hb⟩
      have HB3 := Lib.hid (HB.out.below hb HB.out.lt)
      have HL3 := Lib.hid (HL.out.trans (hb.mono (by have := HB.out.lt; omega)))
      have HO3 := Lib.hid (HO.out.kept (grown_of_below hb) (by cases (Value.slice ao P.length cap).ownBlock <;> simp))
      have HOL := Lib.hid (fun g h => (HO.out.lt g h).2)
      have HSZ : Hid (wr.heap.size ≤ w3.heap.size) := hb.size
      clear hb
      have c0 : w3.cell? ⟨B, 0, none⟩ = some (.slice none 0 0) := HB3.out.cell 0
      have c1 : w3.cell? ⟨B, 1, none⟩ = some (.int .i64 0) := HB3.out.cell 1
      have c2 : w3.cell? ⟨B, 2, none⟩ = some (.int .i64 0) := HB3.out.cell 2
      have f0 : w3.frozen? ⟨B, 0, none⟩ = false := HB3.out.frozen 0
      have f1 : w3.frozen? ⟨B, 1, none⟩ = false := HB3.out.frozen 1
      have f2 : w3.frozen? ⟨B, 2, none⟩ = false := HB3.out.frozen 2
      have hBl3 := HB3.out.lt
      have hBn3 : ¬ B = w3.heap.size := by omega
      rcases hor with ⟨a, x, rfl, hx, hlet⟩ | ⟨K, N, htk, g, rfl, hge, hg⟩
      · as_aux_lemma =>
        have hx1 : (x != 0) = true := by rw [bne_iff_ne]; exact hx
        have HNX : Hid (isName s.data.toList = true → x = 0) := fun hnm => by
          rw [(HLT.out hnm).1] at hlet; cases hlet
        have HX := Lib.hid hx
        clear hlet hx
        go_wp2_with fail
        refine bodyPost_ret (rlex_res B _ a x _ _ ((((HB3.out.set_ 0 _).set_ 1 _).set_ 2 _).alloc _) rfl) rfl ⟨⟨_, _, _, a, x, P, rfl, fun h => absurd h HX.out, HNX.out⟩, ?_⟩
        rw [HBB.out]
        exact (((HL3.out.setCell (p := ⟨B, 0, none⟩) (Nat.le_refl _) _).setCell (p := ⟨B, 1, none⟩) (Nat.le_refl _) _).setCell (p := ⟨B, 2, none⟩) (Nat.le_refl _) _).alloc (by simp; omega) _
      · as_aux_lemma =>
        clear c0 c1 c2 f0 f1 f2
        obtain ⟨T, hT⟩ : ∃ T : ByteArray, (⟨((s.data.toList.drop k).take N).toArray⟩ : ByteArray) = T := ⟨_, rfl⟩
        rw [hT] at hg
        have hTd : T.data.toList = (s.data.toList.drop k).take N := by rw [← hT]
        have hN1 := htk.1
        have hN2 := htk.2.1
        rw [List.length_drop, ← Lib.size_eq] at hN2
        have hTs : T.size = N := by
          rw [Lib.size_eq, hTd, List.length_take, List.length_drop, ← Lib.size_eq]; omega
        obtain ⟨m, hm⟩ : ∃ m : Nat, m = k + N := ⟨_, rfl⟩
        have hmi : (k : Int) + (T.size : Int) = (m : Int) := by omega
        have hm2 : m ≤ s.size := by omega
        have hkm2 : k < m := by omega
        have HK2 : Hid (∀ t, Toks (s.data.toList.drop m) t → Toks s.data.toList (tks (P ++ [(K, T.data.toList, (k : Int))]) ++ t)) := fun t ht => by
          have hdr := HDR.out
          rw [tks_snoc, List.append_assoc]
          refine HK.out _ ?_
          rw [List.singleton_append, hdr]
          have h1 := Toks.tok c (s.data.toList.drop (k + 1)) K N t HBL.out (by rw [← hdr]; exact htk) (by rw [← hdr, List.drop_drop, ← hm]; exact ht)
          rw [← hdr] at h1
          show Toks (c :: s.data.toList.drop (k + 1)) ((K, T.data.toList) :: t)
          rw [hTd, ← hdr]
          exact h1
        have HN2 : Hid (isName s.data.toList = true → m = 0 ∨ m = s.size) := fun hnm => by
          have hdr := HDR.out
          obtain ⟨h1, h2⟩ := HLT.out hnm
          subst h2
          rw [hdr] at htk
          have h3 := (htk.2.2 c _ rfl).1 h1
          rw [List.drop_zero] at hdr
          rw [hdr, isName_iff c _ h1, ← h3.2, ← hdr, ← Lib.size_eq] at hnm
          right; omega
        have hP2 : (P ++ [(K, T.data.toList, (k : Int))]).length ≤ m := by rw [List.length_append, List.length_singleton]; omega
        have HP2 := Lib.hid hP2
        have hw1 : IntKind.i64.wrap ((k : Int) + (T.size : Int)) = (m : Int) := by rw [hmi]; exact IntWalk.i64_in _ (by omega)
        have hw3 : Hid (wrap64 ((k : Int) + (N : Int)) = (m : Int)) := by unfold Hid; rw [← hTs, hmi]; exact IntWalk.wrap64_in _ (by omega)
        have hw2 : IntKind.i64.wrap (m : Int) = (m : Int) := IntWalk.i64_in _ (by omega)
        have hm5 : (m : Int) ≤ 1000000 := by omega
        have htne : ∀ v, (Value.slice ao P.length cap).ownBlock = some v → v < w3.heap.size := fun v hv => by have := HOL.out v hv; have := HSZ.out; omega
        have htng : (Value.slice ao P.length cap).ownBlock ≠ some g := fun e => by have := HOL.out g e; omega
        have HGB : g ≠ B := blk_ne hg HB3.out
        have HGL := hg.lt
        have hgx : g ≠ w3.heap.size := by omega
        have hBt := Blk.new w3 178 (rtoldA (.slice (some ⟨g, 0, none⟩) 1 1) 0 0)
        have hg4 := hg.alloc (.cells (rtoldA (.slice (some ⟨g, 0, none⟩) 1 1) 0 0) 178)
        have hB4 := HB3.out.alloc (.cells (rtoldA (.slice (some ⟨g, 0, none⟩) 1 1) 0 0) 178)
        have hO4 := HO3.out.alloc (.cells (rtoldA (.slice (some ⟨g, 0, none⟩) 1 1) 0 0) 178)
        have hL4 := HL3.out.alloc (by omega) (.cells (rtoldA (.slice (some ⟨g, 0, none⟩) 1 1) 0 0) 178)
        have hnx : (Value.slice ao P.length cap).ownBlock ≠ some w3.heap.size := fun e => by have := htne _ e; omega
        clear htk hN1 hN2 hm hmi hTd HK HDR HBL HLT HNM hT hge hg
        as_aux_lemma =>
        go_upto_region 7 with fail
        obtain ⟨W, hW⟩ : ∃ W, w3.alloc (.cells (rtoldA (.slice (some ⟨g, 0, none⟩) 1 1) 0 0) 178) = W := ⟨_, rfl⟩
        rw [hW] at hBt hg4 hB4 hO4 hL4 ⊢
        obtain ⟨Bx, hBx⟩ : ∃ Bx, w3.heap.size = Bx := ⟨_, rfl⟩
        rw [hBx] at hBt hgx hnx hBl3 hBn3 ⊢
        have HW := Lib.hid hW
        have HBX := Lib.hid hBx
        have HBt := Lib.hid hBt
        have Hg4 := Lib.hid hg4
        have HB4 := Lib.hid hB4
        have HO4 := Lib.hid hO4
        have HL4 := Lib.hid hL4
        have HNX := Lib.hid hnx
        have HNG := Lib.hid htng
        have hBxl := hBt.lt
        have hgl := hg4.lt
        have hgn : ¬ g = W.heap.size := by omega
        have hBxn : ¬ Bx = W.heap.size := by omega
        have hBW : B ≤ W.heap.size := by omega
        have hgx' : ¬ Bx = g := fun e => hgx e.symm
        have b0 : W.cell? ⟨Bx, 0, none⟩ = some (.slice (some ⟨g, 0, none⟩) 1 1) := hBt.cell 0
        have b2 : W.cell? ⟨Bx, 2, none⟩ = some (.int .i64 0) := hBt.cell 2
        have g0 : W.cell? ⟨g, 0, none⟩ = some (.int .i64 K) := hg4.cell 0
        have g1 : W.cell? ⟨g, 1, none⟩ = some (.string T) := hg4.cell 1
        have g2 : W.cell? ⟨g, 2, none⟩ = some (.int .i64 k) := hg4.cell 2
        clear hW hBx hBt hg4 hB4 hO4 hL4 hnx htng htne HB3 HL3 HO3 HOL HSZ HO HB HL HGL hP2 hgl hBxl
        as_aux_lemma =>
        go_wp2_with (at_builtin; refine wpList_append_own _ rfl _ _ 128 rfl (B + 1) 127 i0 (.agg #[.int .i64 0, .string ⟨#[]⟩, .int .i64 0]) 3 32 Tryz.underlying128 hi hz0 hz1 hz2 rfl (by decide) _ _ _ rfl (HO4.out.alloc _) ⟨W.heap.size, 0, none⟩ 1 1 (tokC K T k) rfl rfl ?c1 ?c2 ?c3 ?c4 ?c5 ?_)
        case c1 =>
          have hN := Blk.new W 127 #[.int .i64 K, .string T, .int .i64 k]
          intro j u hj
          have hadd : (⟨W.heap.size, 0, none⟩ : Addr).add j = ⟨W.heap.size, j, none⟩ := by unfold Addr.add; split <;> simp_all
          rw [hadd, hN.cell j]
          simpa using hj
        case c2 =>
          intro u hu
          simp only [List.mem_cons, List.not_mem_nil, or_false] at hu
          rcases hu with rfl | rfl | rfl <;> rfl
        case c3 => unfold maxLen; omega
        case c4 => omega
        case c5 => simp; omega
        intro v' w6 hown' hgrow _
        have hown2 : w6.ownsRow (B + 1) 127 3 v' (P.length + 1) (tcs P ++ tokC K T k) := hown'
        obtain ⟨gv, cap', rfl⟩ : ∃ g cap, v' = .slice (some ⟨g, 0, none⟩) (P.length + 1) cap := by
          rcases hown2.2 with ⟨_, h0⟩ | ⟨g, cap, cur, hv, _⟩
          · omega
          · exact ⟨g, cap, hv⟩
        have HO6 := Lib.hid hown2
        have HL6 : Hid (Below B w w6) := (HL4.out.alloc (by omega) _).grown hgrow (by simp; omega) (fun j hj => by have := (HO4.out.lt j hj).1; omega)
        have hBt6 : Blk w6 Bx 178 (rtoldA (.slice (some ⟨g, 0, none⟩) 1 1) 0 0) := by
          have h1 := HBt.out.alloc (.cells #[.int .i64 K, .string T, .int .i64 k] 127)
          exact (hgrow.block Bx h1.lt (fun e => HNX.out e.symm)).trans h1
        have hg6 : Blk w6 g 127 #[.int .i64 K, .string T, .int .i64 k] := by
          have h1 := Hg4.out.alloc (.cells #[.int .i64 K, .string T, .int .i64 k] 127)
          exact (hgrow.block g h1.lt (fun e => HNG.out e.symm)).trans h1
        have HB6 : Hid (Blk w6 B 178 (rtoldA (.slice none 0 0) 0 0)) := by
          have h1 := HB4.out.alloc (.cells #[.int .i64 K, .string T, .int .i64 k] 127)
          exact (hgrow.block B h1.lt (fun e => by have := (HO4.out.lt B e.symm).1; omega)).trans h1
        have e0 : w6.cell? ⟨Bx, 0, none⟩ = some (.slice (some ⟨g, 0, none⟩) 1 1) := hBt6.cell 0
        have e1 : w6.cell? ⟨g, 1, none⟩ = some (.string T) := hg6.cell 1
        clear b0 b2 g0 g1 g2 hown2 hown' hgrow hBt6 hg6
        as_aux_lemma =>
        go_wp2_with fail
        go_roundw
        case rel =>
          refine ⟨m, P ++ [(K, T.data.toList, (k : Int))], hm2, HP2.out, by rw [hw3.out], HK2, HN2, ?_, HB6, HL6⟩
          exact own_snoc P K T k _ HO6
        case measure =>
          exact lex_meas hw3 hkm2 hm2
end Go.Proofs.YtdfihhebgllpcaaGreatDoor

/- The reference's names: one token alone. -/
namespace Go.Proofs.YtdfihhebgllpcaaGreatDoor
open Go.RowKit Go.Proofs.QuotePlain Go.Proofs.UtfPlain Go.Proofs.LexPlain

set_option maxRecDepth 100000 in
set_option maxHeartbeats 4000000 in
/-- It tells whether a text is a name. -/
theorem ralone_any (s : ByteArray) (w : World) (hs : s.size ≤ 100000) :
    Calls Tryz.prog 126 #[.string s, .int .i64 1] w fun e w' => e = .returned (.bool (isName s.data.toList)) ∧ Below w.heap.size w w' := by
  have C := Lib.hid (rlexparse_any s w hs)
  obtain ⟨r, hr⟩ : ∃ r, isName s.data.toList = r := ⟨_, rfl⟩
  rw [hr]
  have HR := Lib.hid hr
  have hle : ¬ (1048576 : Int) < (s.size : Int) := by omega
  clear hr
  go_enter Tryz.func126, Tryz.ntmps126
  go_wp2_with fail
  refine C.out.mono ?_
  intro e w2 hl
  obtain ⟨⟨ao, n', cap, a, x, P, rfl, h1, h3⟩, h2⟩ := hl
  have HL : Hid (Below w.heap.size w (w2.alloc (.cells (rtoldA (.slice ao n' cap) a x) 178))) := h2.alloc h2.size _
  have hB := Blk.new w2 178 (rtoldA (.slice ao n' cap) a x)
  have b0 : (w2.alloc (.cells (rtoldA (.slice ao n' cap) a x) 178)).cell? ⟨w2.heap.size, 0, none⟩ = some (.slice ao n' cap) := hB.cell 0
  have b2 : (w2.alloc (.cells (rtoldA (.slice ao n' cap) a x) 178)).cell? ⟨w2.heap.size, 2, none⟩ = some (.int .i64 x) := hB.cell 2
  have ho' : x = 0 → (w2.alloc (.cells (rtoldA (.slice ao n' cap) a x) 178)).ownsRow (w.heap.size + 1) 127 3 (.slice ao n' cap) P.length (tcs P) := fun hx => (h1 hx).2.alloc _
  have ht' : x = 0 → Toks s.data.toList (tks P) := fun hx => (h1 hx).1
  go_upto_region 4 with fail
  obtain ⟨W, hW⟩ : ∃ W, w2.alloc (.cells (rtoldA (.slice ao n' cap) a x) 178) = W := ⟨_, rfl⟩
  rw [hW] at b0 b2 HL ho' ⊢
  obtain ⟨B, hBB⟩ : ∃ B, w2.heap.size = B := ⟨_, rfl⟩
  rw [hBB] at b0 b2 ⊢
  clear hW hBB hB h1 h2 C
  by_cases hx : x = 0
  case neg =>
    have hr : r = false := by
      rw [← HR.out, ← Bool.not_eq_true]; exact fun h => hx (h3 h)
    subst hr
    have hx1 : (x == 0) = false := by rw [beq_eq_false_iff_ne]; exact hx
    clear h3 HR ho' ht'
    go_wp2_with fail
    go_ret
    exact ⟨rfl, HL.out⟩
  have ho := ho' hx
  have ht := ht' hx
  have hN := toks_name _ _ ht
  subst hx
  have hn' : n' = P.length := by
    rcases ho.2 with ⟨hv, h0⟩ | ⟨g, cap, cur, hv, _⟩
    · injection hv with _ h _; omega
    · injection hv
  by_cases h1n : n' = 1
  case neg =>
    have hr : r = false := by
      rw [← HR.out, ← Bool.not_eq_true, ← hN]
      intro h
      have := congrArg List.length h
      unfold tks at this
      rw [List.length_map, List.length_singleton] at this
      omega
    subst hr
    have hx1 : ((n' : Int) == 1) = false := by rw [beq_eq_false_iff_ne]; omega
    clear h3 HR hN ht ho hn' ho' ht'
    go_wp2_with fail
    go_ret
    exact ⟨rfl, HL.out⟩
  subst h1n
  obtain ⟨p, hp⟩ : ∃ p, P = [p] := by
    match P, hn' with
    | [p], _ => exact ⟨p, rfl⟩
  subst hp
  obtain ⟨k, t, a2⟩ := p
  obtain ⟨g, rfl⟩ : ∃ g, ao = some ⟨g, 0, none⟩ := by
    rcases ho.2 with ⟨_, h0⟩ | ⟨g, cap, cur, hv, _⟩
    · simp at h0
    · injection hv with h _ _; exact ⟨g, h⟩
  obtain ⟨T, hT⟩ : ∃ T : ByteArray, T = ⟨t.toArray⟩ := ⟨_, rfl⟩
  have c0 : W.cell? ⟨g, 0, none⟩ = some (.int .i64 (k : Int)) := ho.cells rfl 0 _ rfl
  have c1 : W.cell? ⟨g, 1, none⟩ = some (.string T) := by rw [hT]; exact ho.cells rfl 1 _ rfl
  have hNM : isName s.data.toList = true ↔ k = 1 ∧ T = s := by
    rw [← hN]
    show [(k, t)] = [(1, s.data.toList)] ↔ _
    rw [hT, bytes_eq]
    simp
  clear h3 hN ht ho hn' hT ho' ht'
  by_cases hk : k = 1
  case neg =>
    have hr : r = false := by
      rw [← HR.out, ← Bool.not_eq_true, hNM]
      exact fun h => hk h.1
    subst hr
    have hx1 : ((k : Int) == 1) = false := by rw [beq_eq_false_iff_ne]; omega
    clear hNM HR
    go_wp2_with fail
    go_ret
    exact ⟨rfl, HL.out⟩
  subst hk
  by_cases hTs : T = s
  · have hr : r = true := by
      rw [← HR.out, hNM]
      exact ⟨rfl, hTs⟩
    subst hr
    subst hTs
    clear hNM HR
    go_wp2_with fail
    go_ret
    exact ⟨rfl, HL.out⟩
  · have hr : r = false := by
      rw [← HR.out, ← Bool.not_eq_true, hNM]
      exact fun h => hTs h.2
    subst hr
    have hne : (T.toList == s.toList) = false := by
      rw [beq_eq_false_iff_ne]
      intro h
      rw [Lib.toList_data, Lib.toList_data] at h
      exact hTs ((bytes_eta T _ h).trans (bytes_eta s _ rfl).symm)
    clear hNM HR hTs
    go_wp2_with fail
    go_ret
    exact ⟨rfl, HL.out⟩

set_option maxRecDepth 100000 in
set_option maxHeartbeats 4000000 in
theorem rAlone_any (s : ByteArray) (g : Nat) (w : World) (hs : s.size ≤ 100000) (_hg : g < w.heap.size) (h0 : w.cell? ⟨g, 0, none⟩ = some (.int .i64 1)) (h1 : w.cell? ⟨g, 1, none⟩ = some (.string s)) :
    Calls Tryz.prog 94 #[.slice (some ⟨g, 0, none⟩) 1 1] w fun e w' => e = .returned (.bool (isName s.data.toList)) ∧ Below w.heap.size w w' := by
  have C := Lib.hid (fun w => ralone_any s w hs)
  obtain ⟨r, hr⟩ : ∃ r, isName s.data.toList = r := ⟨_, rfl⟩
  rw [hr] at C ⊢
  clear hr
  have hgn : ∀ n, (w.drewN n).cell? ⟨g, 0, none⟩ = some (.int .i64 1) := fun _ => h0
  go_enter Tryz.func94, Tryz.ntmps94
  go_wp2_with fail
  refine wp_loop_rounds 2 ?_
  rw [rounds_succ]
  go_wp2_with fail
  cases r with
  | true =>
    go_region_with (first | (go_at_call 126; refine (C.out _).mono ?_; rintro e w2 ⟨rfl, hb⟩))
    all_goals
      have HL := Lib.hid ((Below.refl _ _).drew.trans hb)
      clear hb
      go_wp2_with fail
      rw [rounds_succ]
      go_wp2_with fail
      go_ret
      exact ⟨rfl, HL.out⟩
  | false =>
    go_region_with (first | (go_at_call 126; refine (C.out _).mono ?_; rintro e w2 ⟨rfl, hb⟩))
    all_goals
      have HL := Lib.hid ((Below.refl _ _).drew.trans hb)
      clear hb
      go_wp2_with fail
      go_ret
      exact ⟨rfl, HL.out⟩

set_option maxHeartbeats 1000000 in
/-- Is a text a name? -/
theorem rname_any (s : ByteArray) (w : World) (hs : s.size ≤ 100000) :
    Calls Tryz.prog 44 #[.string s] w fun e w' => e = .returned (.bool (isName s.data.toList)) ∧ Below w.heap.size w w' := by
  have hB := Blk.new w 127 #[.int .i64 1, .string s, .int .i64 0]
  have hl : Below w.heap.size w (w.alloc (.cells #[.int .i64 1, .string s, .int .i64 0] 127)) := (Below.refl _ _).alloc (Nat.le_refl _) _
  have C := Lib.hid (rAlone_any s w.heap.size _ hs (by simp) (hB.cell 0) (hB.cell 1))
  have HL := Lib.hid hl
  clear hB hl
  go_enter Tryz.func44, Tryz.ntmps44
  go_wp2_with fail
  refine C.out.mono ?_
  rintro e w2 ⟨rfl, hb⟩
  have HL2 := Lib.hid (HL.out.trans (hb.mono HL.out.size))
  clear hb C
  go_wp2_with fail
  go_ret
  exact ⟨rfl, HL2.out⟩
end Go.Proofs.YtdfihhebgllpcaaGreatDoor

/- The walk of the reference's Right of addresses. -/
namespace Go.Proofs.YtdfihhebgllpcaaGreatDoor
open Go.RowKit Go.Proofs.QuotePlain Go.Proofs.UtfPlain Go.Proofs.LexPlain Go.Proofs.AddrPlain

theorem str_empty (wd : ByteArray) : wd.toList = [] ↔ wd.data.toList = [] := by rw [Lib.toList_data]
theorem keyOk_ref (k : Int) (p : Nat) (wd : ByteArray) : keyOk k p wd = (!(decide (k < 0) || decide (2 < k) || (decide (k ≠ 1) && decide (p ≠ 0)) || (decide (k ≠ 2) && decide (wd.data.toList ≠ []))) && valid wd.data.toList) := by
  have hv : valid ([] : List UInt8) = true := by decide
  have he : wd.data.toList.isEmpty = decide (wd.data.toList = []) := by cases wd.data.toList <;> rfl
  unfold keyOk
  rw [he]
  by_cases h : wd.data.toList = []
  · rw [h, hv]
    by_cases h0 : k = 0
    · subst h0; by_cases hp : p = 0 <;> simp [hp]
    · by_cases h1 : k = 1
      · subst h1; simp
      · by_cases h2 : k = 2
        · subst h2; by_cases hp : p = 0 <;> simp [hp]
        · have : k < 0 ∨ 2 < k := by omega
          rcases this with h | h <;> simp [h0, h1, h2, h]
  · by_cases h2 : k = 2
    · subst h2; by_cases hp : p = 0 <;> simp [hp]
    · simp [h, h2]

set_option maxRecDepth 100000 in
set_option maxHeartbeats 8000000 in
theorem raright_any (pv : Value) (a : Ad) (w : World) (hP : StrS w w.heap.size pv a.path) (hA : AdB a) :
    Calls Tryz.prog 43 #[.agg (adV pv a)] w fun e w' => e = .returned (.bool (rightA a)) ∧ Below w.heap.size w w' := by
  obtain ⟨R, hR⟩ : ∃ R, rightA a = R := ⟨_, rfl⟩
  rw [hR]
  have hl := (Below.refl w.heap.size w).alloc (Nat.le_refl _) (.cells (adV pv a) 29)
  have hB0 := Blk.new w 29 (adV pv a)
  have hp0 := hP.far hl
  obtain ⟨ao, cap, hpv⟩ := hP.len
  have hpl := hA.pl
  have CT : Hid (∀ W, Calls Tryz.prog 44 #[.string a.ty] W fun e w' => e = .returned (.bool (isName a.ty.data.toList)) ∧ Below W.heap.size W w') := fun W => rname_any a.ty W hA.ty
  have CN : Hid (∀ W, Calls Tryz.prog 44 #[.string a.nm] W fun e w' => e = .returned (.bool (isName a.nm.data.toList)) ∧ Below W.heap.size W w') := fun W => rname_any a.nm W hA.nm
  have CX : Hid (∀ X ∈ a.path, ∀ W, Calls Tryz.prog 44 #[.string X] W fun e w' => e = .returned (.bool (isName X.data.toList)) ∧ Below W.heap.size W w') := fun X hX W => rname_any X W (hA.ps X hX)
  have CV : Hid (∀ W, Calls Tryz.prog 55 #[.string a.word] W fun e w' => e = .returned (.bool (valid a.word.data.toList)) ∧ Below W.heap.size W w') := fun W => rvalid_any a.word W (by have := hA.wd; omega)
  have HR : Hid (R = (decide (a.path.length ≤ 20) && isName a.ty.data.toList && isName a.nm.data.toList && decide (a.ty.data.toList ≠ modL) && allNames a.path && (!(decide (a.key < 0) || decide (2 < a.key) || (decide (a.key ≠ 1) && decide (a.place ≠ 0)) || (decide (a.key ≠ 2) && decide (a.word.data.toList ≠ []))) && valid a.word.data.toList))) := by
    unfold Hid
    rw [← hR, ← keyOk_ref]
    unfold rightA
    rw [names_eq]
    cases decide (a.path.length ≤ 20) <;> cases AddrPlain.names a.path <;> cases isName a.ty.data.toList <;> cases isName a.nm.data.toList <;> cases decide (a.ty.data.toList ≠ modL) <;> rfl
  have HM : Hid (a.ty.toList = [109, 111, 100, 117, 108, 101] ↔ a.ty.data.toList = modL) := modB_eq _
  have HE : Hid (a.word.toList = [] ↔ a.word.data.toList = []) := str_empty _
  obtain ⟨pth, ty, nm, key, place, word⟩ := a
  dsimp only at *
  obtain ⟨m, hm⟩ : ∃ m, pth.length = m := ⟨_, rfl⟩
  rw [hm] at hpv hpl HR
  subst hpv
  have HPL := Lib.hid hm
  unfold adV at hl hB0 hp0 ⊢
  dsimp only at hl hB0 hp0 ⊢
  clear hR hm hA hP
  obtain ⟨W, hW⟩ : ∃ W, w.alloc (.cells #[.slice ao m cap, .string ty, .string nm, .int .i64 key, .int .u64 ((place : Nat) : Int), .string word] 29) = W := ⟨_, rfl⟩
  obtain ⟨B, hBB⟩ : ∃ B, w.heap.size = B := ⟨_, rfl⟩
  have hBW : B ≤ W.heap.size := by rw [← hW, ← hBB]; simp
  rw [hW] at hl hB0 hp0
  rw [hBB] at hl hB0 ⊢
  have HL := Lib.hid hl
  have HB := Lib.hid hB0
  have HP := Lib.hid hp0
  clear hl hB0 hp0
  go_enter Tryz.func43, Tryz.ntmps43
  go_upto_region 1 with fail
  clear hW hBB
  obtain ⟨a0, a1, a2, a3, a4, a5⟩ := ad_cells (a := ⟨pth, ty, nm, key, place, word⟩) HB.out
  dsimp only at a0 a1 a2 a3 a4 a5
  by_cases h20 : m ≤ 20
  case neg =>
    have HR2 : Hid (false = R) := by unfold Hid; rw [HR.out, decide_eq_false h20]; rfl
    have d20 : (m : Int) > 20 := by omega
    clear HR h20
    go_wp2_with fail
    go_ret
    exact ⟨congrArg (fun b => Ending.returned (.bool b)) HR2.out, HL.out⟩
  have d20 : ¬ (m : Int) > 20 := by omega
  have HR2 := Lib.hid (HR.out.trans (by rw [decide_eq_true h20, Bool.true_and]))
  clear HR
  obtain ⟨T, hT⟩ : ∃ T, isName ty.data.toList = T := ⟨_, rfl⟩
  rw [hT] at CT HR2
  clear hT h20
  cases T with
  | false =>
    have HR3 : Hid (false = R) := by unfold Hid; rw [HR2.out]; rfl
    clear HR2
    go_wp2_with fail
    refine (CT.out _).mono ?_
    rintro e w2 ⟨rfl, hb⟩
    have HL2 := Lib.hid (HL.out.trans (hb.mono hBW))
    clear hb
    go_wp2_with fail
    go_ret
    exact ⟨congrArg (fun b => Ending.returned (.bool b)) HR3.out, HL2.out⟩
  | true =>
    go_wp2_with fail
    refine (CT.out _).mono ?_
    rintro e w2 ⟨rfl, hb⟩
    have HL2 := Lib.hid (HL.out.trans (hb.mono hBW))
    have HB2 := Lib.hid (HB.out.below hb HB.out.lt)
    have HP2 := Lib.hid (HP.out.far hb)
    have hBW2 : B ≤ w2.heap.size := Nat.le_trans hBW hb.size
    clear hb a0 a1 a2 a3 a4 a5 HL HB HP CT hBW
    obtain ⟨a0, a1, a2, a3, a4, a5⟩ := ad_cells (a := ⟨pth, ty, nm, key, place, word⟩) HB2.out
    dsimp only at a0 a1 a2 a3 a4 a5
    obtain ⟨T, hT⟩ : ∃ T, isName nm.data.toList = T := ⟨_, rfl⟩
    rw [hT] at CN HR2
    clear hT
    cases T with
    | false =>
      have HR3 : Hid (false = R) := by unfold Hid; rw [HR2.out]; rfl
      clear HR2
      go_wp2_with fail
      refine (CN.out _).mono ?_
      rintro e w3 ⟨rfl, hb⟩
      have HL3 := Lib.hid (HL2.out.trans (hb.mono hBW2))
      clear hb
      go_wp2_with fail
      go_ret
      exact ⟨congrArg (fun b => Ending.returned (.bool b)) HR3.out, HL3.out⟩
    | true =>
      go_wp2_with fail
      refine (CN.out _).mono ?_
      rintro e w3 ⟨rfl, hb⟩
      have HL3 := Lib.hid (HL2.out.trans (hb.mono hBW2))
      have HB3 := Lib.hid (HB2.out.below hb HB2.out.lt)
      have HP3 := Lib.hid (HP2.out.far hb)
      have hBW3 : B ≤ w3.heap.size := Nat.le_trans hBW2 hb.size
      clear hb a0 a1 a2 a3 a4 a5 HL2 HB2 HP2 CN hBW2
      obtain ⟨a0, a1, a2, a3, a4, a5⟩ := ad_cells (a := ⟨pth, ty, nm, key, place, word⟩) HB3.out
      dsimp only at a0 a1 a2 a3 a4 a5
      by_cases hM : ty.toList = [109, 111, 100, 117, 108, 101]
      · have HR3 : Hid (false = R) := by
          unfold Hid; rw [HR2.out, show decide (ty.data.toList ≠ modL) = false from decide_eq_false (fun h => h (HM.out.1 hM))]; rfl
        clear HR2
        go_wp2_with fail
        go_ret
        exact ⟨congrArg (fun b => Ending.returned (.bool b)) HR3.out, HL3.out⟩
      · have HR3 : Hid (R = (allNames pth && (!(decide (key < 0) || decide (2 < key) || (decide (key ≠ 1) && decide (place ≠ 0)) || (decide (key ≠ 2) && decide (word.data.toList ≠ []))) && valid word.data.toList))) := by
          have hne : ty.data.toList ≠ modL := fun h => hM (HM.out.2 h)
          unfold Hid; rw [HR2.out, show decide (ty.data.toList ≠ modL) = true from decide_eq_true hne]; rfl
        have hMb : (ty.toList == [109, 111, 100, 117, 108, 101]) = false := by rw [beq_eq_false_iff_ne]; exact hM
        clear HR2 HM
        go_wp2_with fail
        go_loopw [3] (fun i wr => ∃ j : Nat, j ≤ m ∧ i = .int .i64 j ∧ Hid (allNames (pth.take j) = true) ∧ Hid (Below w3.heap.size w3 wr)) (fun i _ => m - (intOf i).toNat)
        case atStart => exact ⟨0, Nat.zero_le _, rfl, Lib.hid (by simp [allNames]), Lib.hid (Below.refl _ _)⟩
        case round =>
          clear a0 a1 a2 a3 a4 a5 hM hMb
          obtain ⟨j, hj, rfl, HA, HW⟩ := hrel
          obtain ⟨a0, a1, a2, a3, a4, a5⟩ := ad_cells (a := ⟨pth, ty, nm, key, place, word⟩) (HB3.out.below HW.out HB3.out.lt)
          dsimp only at a0 a1 a2 a3 a4 a5
          have HLr := Lib.hid (HL3.out.trans (HW.out.mono hBW3))
          by_cases hlt : j < m
          · have hlt' : (j : Int) < (m : Int) := by omega
            obtain ⟨X, hX⟩ : ∃ X, pth[j]? = some X := ⟨_, List.getElem?_eq_getElem (by rw [HPL.out]; exact hlt)⟩
            have hsn := allNames_snoc pth j X hX
            rw [HA.out, Bool.true_and] at hsn
            have CXX := Lib.hid (CX.out X (List.mem_of_getElem? hX))
            obtain ⟨ao', cap', hv', h2⟩ := HP3.out.below HW.out
            rw [HPL.out] at hv'
            injection hv' with h3 _ h3c
            subst h3c
            obtain ⟨ad, h4, h5, h6⟩ := h2 j X hX
            rw [← h3] at h4
            subst h4
            have HX := Lib.hid hX
            have hsz : Hid (w3.heap.size ≤ wr.heap.size) := HW.out.size
            clear h2 h3 h5 hX
            obtain ⟨T, hT⟩ : ∃ T, isName X.data.toList = T := ⟨_, rfl⟩
            rw [hT] at CXX hsn
            have HSN := Lib.hid hsn
            clear hT hsn
            cases T with
            | true =>
              go_wp2_with fail
              refine (CXX.out _).mono ?_
              rintro e w5 ⟨rfl, hb⟩
              have HW5 := Lib.hid (HW.out.trans (hb.mono hsz.out))
              clear hb
              go_wp2_with fail
              go_roundw
              case rel => exact ⟨j + 1, by omega, by go_num, HSN, HW5⟩
              case measure => simp [intOf]; omega
            | false =>
              have HR4 : Hid (false = R) := by
                unfold Hid
                have : allNames pth = false := by
                  rw [← Bool.not_eq_true]
                  intro h
                  have : allNames (pth.take (j + 1)) = true := by
                    unfold allNames at h ⊢
                    rw [List.all_eq_true] at h ⊢
                    exact fun x hx => h x (List.mem_of_mem_take hx)
                  rw [HSN.out] at this; cases this
                rw [HR3.out, this]; rfl
              go_wp2_with fail
              refine (CXX.out _).mono ?_
              rintro e w5 ⟨rfl, hb⟩
              have HL5 := Lib.hid (HLr.out.trans (hb.mono (Nat.le_trans hBW3 hsz.out)))
              clear hb
              go_wp2_with fail
              go_ret
              exact ⟨congrArg (fun b => Ending.returned (.bool b)) HR4.out, HL5.out⟩
          · have hlt' : ¬ (j : Int) < (m : Int) := by omega
            have hall : allNames pth = true := by
              have := HA.out
              rw [List.take_of_length_le (by rw [HPL.out]; omega)] at this
              exact this
            have HR4 := Lib.hid (HR3.out.trans (by rw [hall, Bool.true_and]))
            have hsz : Hid (w3.heap.size ≤ wr.heap.size) := HW.out.size
            clear hall HR3 HA
            have HE1 : Hid (word.toList.isEmpty = false ↔ ¬ word.data.toList = []) := by unfold Hid; rw [isEmpty_iff]; cases word.data.toList <;> simp
            by_cases hk0 : key < 0
            · have HRF : Hid (false = R) := by unfold Hid; rw [HR4.out, decide_eq_true hk0]; rfl
              clear HR4
              go_wp2_with fail
              go_ret
              exact ⟨congrArg (fun b => Ending.returned (.bool b)) HRF.out, HLr.out⟩
            by_cases hk2 : 2 < key
            · have HRF : Hid (false = R) := by unfold Hid; rw [HR4.out, decide_eq_false hk0, decide_eq_true hk2]; rfl
              clear HR4
              go_wp2_with fail
              go_ret
              exact ⟨congrArg (fun b => Ending.returned (.bool b)) HRF.out, HLr.out⟩
            have HR5 := Lib.hid (HR4.out.trans (by rw [decide_eq_false hk0, decide_eq_false hk2, Bool.false_or, Bool.false_or]))
            clear HR4
            have hk3 : key = 0 ∨ key = 1 ∨ key = 2 := by omega
            rcases hk3 with rfl | rfl | rfl
            · by_cases hp : place = 0
              · subst hp
                by_cases hw : word.data.toList = []
                · have hw1 := HE.out.2 hw
                  have HRT : Hid (valid word.data.toList = R) := by unfold Hid; rw [HR5.out]; simp [hw]
                  clear HR5 hw
                  go_wp2_with fail
                  refine (CV.out _).mono ?_
                  rintro e w5 ⟨rfl, hb⟩
                  have HL5 := Lib.hid (HLr.out.trans (hb.mono (Nat.le_trans hBW3 hsz.out)))
                  clear hb
                  go_wp2_with fail
                  go_ret
                  exact ⟨congrArg (fun b => Ending.returned (.bool b)) HRT.out, HL5.out⟩
                · have hw1 : ¬ word.toList = [] := fun h => hw (HE.out.1 h)
                  have hw2 := HE1.out.2 hw
                  have HRF : Hid (false = R) := by unfold Hid; rw [HR5.out]; simp [hw]
                  clear HR5 hw
                  go_wp2_with fail
                  go_ret
                  exact ⟨congrArg (fun b => Ending.returned (.bool b)) HRF.out, HLr.out⟩
              · have hp1 : (((place : Nat) : Int) == 0) = false := by rw [beq_eq_false_iff_ne]; omega
                have hp2 : (((place : Nat) : Int) != 0) = true := by rw [bne_iff_ne]; omega
                have HRF : Hid (false = R) := by unfold Hid; rw [HR5.out]; simp [hp]
                clear HR5
                go_wp2_with fail
                go_ret
                exact ⟨congrArg (fun b => Ending.returned (.bool b)) HRF.out, HLr.out⟩
            · by_cases hw : word.data.toList = []
              · have hw1 := HE.out.2 hw
                have HRT : Hid (valid word.data.toList = R) := by unfold Hid; rw [HR5.out]; simp [hw]
                clear HR5 hw
                go_wp2_with fail
                refine (CV.out _).mono ?_
                rintro e w5 ⟨rfl, hb⟩
                have HL5 := Lib.hid (HLr.out.trans (hb.mono (Nat.le_trans hBW3 hsz.out)))
                clear hb
                go_wp2_with fail
                go_ret
                exact ⟨congrArg (fun b => Ending.returned (.bool b)) HRT.out, HL5.out⟩
              · have hw1 : ¬ word.toList = [] := fun h => hw (HE.out.1 h)
                have hw2 := HE1.out.2 hw
                have HRF : Hid (false = R) := by unfold Hid; rw [HR5.out]; simp [hw]
                clear HR5 hw
                go_wp2_with fail
                go_ret
                exact ⟨congrArg (fun b => Ending.returned (.bool b)) HRF.out, HLr.out⟩
            · by_cases hp : place = 0
              · subst hp
                have HRT : Hid (valid word.data.toList = R) := by unfold Hid; rw [HR5.out]; simp
                clear HR5
                go_wp2_with fail
                refine (CV.out _).mono ?_
                rintro e w5 ⟨rfl, hb⟩
                have HL5 := Lib.hid (HLr.out.trans (hb.mono (Nat.le_trans hBW3 hsz.out)))
                clear hb
                go_wp2_with fail
                go_ret
                exact ⟨congrArg (fun b => Ending.returned (.bool b)) HRT.out, HL5.out⟩
              · have hp1 : (((place : Nat) : Int) == 0) = false := by rw [beq_eq_false_iff_ne]; omega
                have hp2 : (((place : Nat) : Int) != 0) = true := by rw [bne_iff_ne]; omega
                have HRF : Hid (false = R) := by unfold Hid; rw [HR5.out]; simp [hp]
                clear HR5
                go_wp2_with fail
                go_ret
                exact ⟨congrArg (fun b => Ending.returned (.bool b)) HRF.out, HLr.out⟩
end Go.Proofs.YtdfihhebgllpcaaGreatDoor
