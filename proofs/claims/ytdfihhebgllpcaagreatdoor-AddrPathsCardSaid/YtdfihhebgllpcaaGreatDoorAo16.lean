import Derived.Test.YtdfihhebgllpcaaGreatDoorAo15
import Derived.Test.YtdfihhebgllpcaaGreatDoorAo03
import Derived.Test.YtdfihhebgllpcaaGreatDoorAo05

/- lex.next, all ways together. -/
namespace Go.Proofs.YtdfihhebgllpcaaGreatDoor
open Go.RowKit Go.Proofs.QuotePlain Go.Proofs.UtfPlain Go.Proofs.LexPlain

/-- The token that a text begins with. -/
theorem next_lex (s : ByteArray) (w : World) (hG : Glob w) (hF : FormsAt w) (hS : SignsAt w) (hs : s.size ≤ 100000) (c : UInt8) (r : List UInt8) (hl : s.data.toList = c :: r) :
    Calls Tryz.prog 186 #[.string s] w (NEnd (c :: r) w) := by
  have hpre : ∀ x, Lib.hasPrefix (c :: r) [47, x] = true → c = 47 := fun x h => by
    obtain ⟨t, ht⟩ := List.isPrefixOf_iff_prefix.1 (show List.isPrefixOf [47, x] (c :: r) = true from h)
    injection ht with h1 _
    exact h1.symm
  by_cases h10 : c = 10
  · exact next_line s w hG hs c r hl h10
  by_cases h : letter c = true
  · exact next_name s w hG hs c r hl h
  have h := Bool.eq_false_iff.2 h
  by_cases hd : 48 ≤ c.toNat ∧ c.toNat ≤ 57
  · exact next_num s w hG hs c r hl h hd.1 hd.2
  by_cases hq : c = 34
  · exact next_quot s w hG hs c r hl hF h hq
  by_cases hh : c = 35
  · exact next_hash s w hG hs c r hl hF h hh
  by_cases hp : Lib.hasPrefix (c :: r) [47, 47] = true
  · exact next_slash s w hG hs c r hl hF h (hpre _ hp) hp
  have hp := Bool.eq_false_iff.2 hp
  by_cases hp3 : Lib.hasPrefix (c :: r) [47, 42] = true
  · exact next_star s w hG hs c r hl hF h (hpre _ hp3) hp hp3
  exact next_sign s w hG hs c r hl hS h h10 hd hq hh hp (Bool.eq_false_iff.2 hp3)
end Go.Proofs.YtdfihhebgllpcaaGreatDoor

/- The walks of lex.Parse's function, lex.walk, lex.Parse. -/
namespace Go.Proofs.YtdfihhebgllpcaaGreatDoor
open Go.RowKit Go.Proofs.QuotePlain Go.Proofs.UtfPlain Go.Proofs.LexPlain

theorem Glob.low {w w' : World} {B : Nat} (h : Glob w) (hB : 11 ≤ B) (hb : Below B w w') : Glob w' := by
  have hs := h.size
  refine ⟨fun q k hq hk => ?_, ?_, ?_, Nat.le_trans hs hb.size⟩
  · rw [hb.cell (by show 10 < _; omega)]; exact h.next q k hq hk
  · obtain ⟨m, hm⟩ := h.maxLen
    exact ⟨m, by rw [hb.cell (by show 0 < _; omega)]; exact hm⟩
  · have hp := h.pow
    unfold Lib.TabIs World.var? at *
    rw [show Tryz.prog.globalNamed "internal/strconv.uint64pow10" = some 1 from by kernel_rfl] at *
    simp only [Option.bind_some] at *
    rw [hb.block _ (by omega)]; exact hp
theorem tok_info : (Tryz.prog.info? 127).map (fun i => (i.zero, i.size, i.bytes)) = some (some (.agg #[.int .i64 0, .string ⟨#[]⟩, .int .i64 0]), 3, 32) := by kernel_rfl
/-- A token's cells. -/
abbrev tokC (k : Int) (S : ByteArray) (a : Int) : List Value := [.int .i64 k, .string S, .int .i64 a]

set_option maxRecDepth 100000 in
set_option maxHeartbeats 4000000 in
theorem tok_push (Bl : Nat) (k : Int) (S : ByteArray) (a : Int) (n : Nat) (xs : List Value) (v : Value) (w : World) (hb : Blk w Bl 128 #[v]) (hown : w.ownsRow (Bl + 1) 127 3 v n xs) (hn : n ≤ 1000000) :
    Calls Tryz.prog 153 #[.agg #[.int .i64 k, .string S, .int .i64 a], .pointer (some ⟨Bl, 0, none⟩)] w fun e w' => e = .returned (.bool true) ∧ (∃ v', Blk w' Bl 128 #[v'] ∧ w'.ownsRow (Bl + 1) 127 3 v' (n + 1) (xs ++ tokC k S a)) ∧ Below Bl w w' ∧ (∀ g, g < w.heap.size → g ≠ Bl → v.ownBlock ≠ some g → w'.heap[g]? = w.heap[g]?) := by
  obtain ⟨i0, hi, hz0, hz1, hz2⟩ := info_parts tok_info
  have c0 : w.cell? ⟨Bl, 0, none⟩ = some v := hb.cell 0
  have f0 : w.frozen? ⟨Bl, 0, none⟩ = false := hb.frozen 0
  have hlt := hb.lt
  have HB := Lib.hid hb
  clear hb
  go_enter Tryz.func153, Tryz.ntmps153
  go_wp2_with (at_builtin; refine wpList_append_own _ rfl _ _ 128 rfl (Bl + 1) 127 i0 (.agg #[.int .i64 0, .string ⟨#[]⟩, .int .i64 0]) 3 32 Tryz.underlying128 hi hz0 hz1 hz2 rfl (by decide) _ _ _ rfl ((hown.alloc _).alloc _) ⟨w.heap.size + 1, 0, none⟩ 1 1 (tokC k S a) rfl rfl ?c1 ?c2 ?c3 ?c4 ?c5 ?_)
  case c1 =>
    have hN := Blk.new (w.alloc (.cells #[.int .i64 k, .string S, .int .i64 a] 127)) 127 #[.int .i64 k, .string S, .int .i64 a]
    rw [World.size_alloc] at hN
    intro j u hj
    have hadd : (⟨w.heap.size + 1, 0, none⟩ : Addr).add j = ⟨w.heap.size + 1, j, none⟩ := by unfold Addr.add; split <;> simp_all
    rw [hadd, hN.cell j]
    simpa using hj
  case c2 =>
    intro u hu
    simp only [List.mem_cons, List.not_mem_nil, or_false] at hu
    rcases hu with rfl | rfl | rfl <;> rfl
  case c3 => unfold maxLen; omega
  case c4 => omega
  case c5 => simp; omega
  intro v' w2 hown' hgrow _
  have hlt2 : Bl < w2.heap.size := by have := hgrow.size; simp at this; omega
  have hne : ∀ g, v.ownBlock = some g → Bl + 1 ≤ g := fun g hg => (hown.lt g hg).1
  have hB2 : Blk w2 Bl 128 #[v] := by
    have h1 := (HB.out.alloc (.cells #[.int .i64 k, .string S, .int .i64 a] 127)).alloc (.cells #[.int .i64 k, .string S, .int .i64 a] 127)
    refine (hgrow.block Bl h1.lt (fun e => ?_)).trans h1
    have := hne Bl e.symm
    omega
  have hL2 : Below Bl w w2 := ((Below.refl Bl w).alloc (by omega) _ |>.alloc (by simp; omega) _).grown hgrow (by simp; omega) (fun g hg => by have := hne g hg; omega)
  have hO2 : ∀ g, g < w.heap.size → v.ownBlock ≠ some g → w2.heap[g]? = w.heap[g]? := fun g hg hn => by
    rw [hgrow.block g (by simp; omega) (fun e => hn e.symm)]
    rw [Below.heap_alloc _ _ g (by simp; omega), Below.heap_alloc _ _ g hg]
  have hown2 : w2.ownsRow (Bl + 1) 127 3 v' (n + 1) (xs ++ tokC k S a) := hown'
  obtain ⟨gv, cap, rfl⟩ : ∃ g cap, v' = .slice (some ⟨g, 0, none⟩) (n + 1) cap := by
    rcases hown2.2 with ⟨_, h0⟩ | ⟨g, cap, cur, hv, _⟩
    · omega
    · exact ⟨g, cap, hv⟩
  have d0 : w2.cell? ⟨Bl, 0, none⟩ = some v := hB2.cell 0
  have e0 : w2.frozen? ⟨Bl, 0, none⟩ = false := hB2.frozen 0
  have HO := Lib.hid hown2
  have HB2 := Lib.hid hB2
  have HL2 := Lib.hid hL2
  have HO2 := Lib.hid hO2
  have hgv : Bl + 1 ≤ gv := (hown2.lt gv rfl).1
  clear hown' hgrow hB2 hL2 hO2 hown2 c0 f0
  go_wp2_with fail
  go_ret
  refine ⟨rfl, ⟨_, HB2.out.set_ 0 _, ?_⟩, HL2.out.setCell (p := ⟨Bl, 0, none⟩) (Nat.le_refl _) _, ?_⟩
  · have hg : w2.grownBy (w2.setCell ⟨Bl, 0, none⟩ (.slice (some ⟨gv, 0, none⟩) (n + 1) cap)) (some Bl) := grownBy_setCell' w2 Bl _
    exact HO.out.kept hg (.inr (by intro e; have e' : some gv = some Bl := e; have := Option.some.inj e'; omega))
  · intro g hg hne2 hne3
    rw [Below.heap_setCell w2 _ _ g hne2]
    exact HO2.out g hg hne3

theorem blank_ix (c : UInt8) : LexPlain.blank c = decide (0 ≤ Lib.indexByte [32, 9, 13] c) := by
  have := all_u8 (fun c => LexPlain.blank c == decide (0 ≤ Lib.indexByte [32, 9, 13] c)) (by decide +kernel) c
  simpa using this
theorem index_blank (c : UInt8) (n k : Int) (hn : n = (c.toNat : Int)) (hk : Lib.indexByte [32, 9, 13] c = k) (w : World) : Calls Tryz.prog 122 #[.string ⟨#[32, 9, 13]⟩, .int .u8 n] w fun e w' => e = .returned (.int .i64 k) ∧ w = w' := by
  subst hn
  refine (Tryz.strings_IndexByte ⟨#[32, 9, 13]⟩ (c.toNat : Int) w).mono ?_
  rintro e w' ⟨rfl, rfl⟩
  refine ⟨?_, rfl⟩
  rw [Int.toNat_natCast, show c.toNat.toUInt8 = c from by simp, ← hk]
/-- Tokens: a kind, a text, and a place. -/
abbrev TokP := Nat × List UInt8 × Int
def tcs (P : List TokP) : List Value := P.flatMap fun p => tokC p.1 ⟨p.2.1.toArray⟩ p.2.2
def tks (P : List TokP) : List (Nat × List UInt8) := P.map fun p => (p.1, p.2.1)
/-- The tokens' list, as it lies in its variable. -/
def TokL (w : World) (Bl : Nat) (P : List TokP) : Prop := ∃ v, Blk w Bl 128 #[v] ∧ w.ownsRow (Bl + 1) 127 3 v P.length (tcs P)
theorem TokL.below {w w' : World} {Bl : Nat} {P : List TokP} (h : TokL w Bl P) (hb : Below w.heap.size w w') : TokL w' Bl P := by
  obtain ⟨v, h1, h2⟩ := h
  exact ⟨v, h1.below hb h1.lt, h2.kept (grown_of_below hb) (by cases v.ownBlock <;> simp)⟩
theorem tcs_snoc (P : List TokP) (p : TokP) : tcs (P ++ [p]) = tcs P ++ tokC p.1 ⟨p.2.1.toArray⟩ p.2.2 := by
  unfold tcs; rw [List.flatMap_append]; simp
theorem tks_snoc (P : List TokP) (p : TokP) : tks (P ++ [p]) = tks P ++ [(p.1, p.2.1)] := by
  unfold tks; rw [List.map_append]; rfl
theorem push_any (Bl : Nat) (p : TokP) (P : List TokP) (S : ByteArray) (hS : S = ⟨p.2.1.toArray⟩) (w : World) (h : TokL w Bl P) (hn : P.length ≤ 1000000) (Bt : Nat) (cs : Array Value) (t : TypeId) (ht : Blk w Bt t cs) (hne : Bt ≠ Bl) (hown : ∀ v, Blk w Bl 128 #[v] → v.ownBlock ≠ some Bt) :
    Calls Tryz.prog 153 #[.agg #[.int .i64 p.1, .string S, .int .i64 p.2.2], .pointer (some ⟨Bl, 0, none⟩)] w fun e w' => e = .returned (.bool true) ∧ TokL w' Bl (P ++ [p]) ∧ Below Bl w w' ∧ Blk w' Bt t cs := by
  obtain ⟨v, h1, h2⟩ := h
  refine (tok_push Bl p.1 S p.2.2 P.length (tcs P) v w h1 h2 hn).mono ?_
  rintro e w' ⟨rfl, ⟨v', h3, h4⟩, h5, h6⟩
  refine ⟨rfl, ⟨v', h3, ?_⟩, h5, (h6 Bt ht.lt hne (hown v h1)).trans ht⟩
  rw [tcs_snoc, ← hS, List.length_append]
  exact h4

set_option maxRecDepth 100000 in
set_option maxHeartbeats 8000000 in
theorem lexwalk_any (s : ByteArray) (w : World) (hG : Glob w) (hF : FormsAt w) (hS : SignsAt w) (hs : s.size ≤ 100000) (Bl : Nat) (hB : 11 ≤ Bl) (hT : TokL w Bl []) :
    Calls Tryz.prog 152 #[.string s, .func (.func 153) #[] #[.pointer (some ⟨Bl, 0, none⟩)]] w fun e w' => (∃ a x : Int, e = .returned (.tuple #[.int .i64 a, .int .i64 x]) ∧ ∃ P, TokL w' Bl P ∧ (x = 0 → Toks s.data.toList (tks P)) ∧ (isName s.data.toList = true → x = 0)) ∧ Below Bl w w' := by
  have HG := Lib.hid hG
  have HF := Lib.hid hF
  have HS := Lib.hid hS
  have HT := Lib.hid hT
  clear hG hF hS hT
  have hbig : ¬ (1048576 : Int) < (s.size : Int) := by omega
  have hbig2 : ¬ 1048576 < s.size := by omega
  go_enter Tryz.func152, Tryz.ntmps152
  go_wp2_with fail
  go_step3
  go_wp2_with fail
  go_step3
  go_wp2_with fail
  go_loopw [6] (fun a wr => ∃ (k : Nat) (P : List TokP), k ≤ s.size ∧ P.length ≤ k ∧ a = .int .i64 k ∧ Hid (∀ t, Toks (s.data.toList.drop k) t → Toks s.data.toList (tks P ++ t)) ∧ Hid (isName s.data.toList = true → k = 0 ∨ k = s.size) ∧ Hid (TokL wr Bl P) ∧ Hid (Below Bl w wr) ∧ Hid (Glob wr) ∧ Hid (FormsAt wr) ∧ Hid (SignsAt wr)) (fun a _ => s.size - (intOf a).toNat)
  case atStart => exact ⟨0, [], by omega, by simp, rfl, Lib.hid (fun t h => h), Lib.hid (fun _ => .inl rfl), HT, Lib.hid (Below.refl _ _), HG, HF, HS⟩
  case round =>
    clear HG HF HS HT
    obtain ⟨k, P, hk, hP, rfl, HK, HNM, HT, HL, HG, HF, HS⟩ := hrel
    by_cases hlt : k < s.size
    case neg =>
      have hlt' : ¬ (k : Int) < (s.size : Int) := by omega
      have hfin : Hid (Toks s.data.toList (tks P)) := by
        unfold Hid
        have := HK.out [] (by rw [List.drop_eq_nil_of_le (by rw [← Lib.size_eq]; omega)]; exact .nil)
        rw [List.append_nil] at this
        exact this
      clear HK
      go_wp2_with fail
      go_ret2
      exact ⟨⟨_, _, rfl, P, HT.out, fun _ => hfin.out, fun _ => rfl⟩, HL.out⟩
    have hlt' : (k : Int) < (s.size : Int) := by omega
    obtain ⟨c, hc⟩ : ∃ c, s[k] = c := ⟨_, rfl⟩
    obtain ⟨n, hn⟩ : ∃ n : Int, n = (c.toNat : Int) := ⟨_, rfl⟩
    have hnd : ((s[k].toNat : Nat) : Int) = n := by rw [hc, hn]
    have hdr : s.data.toList.drop k = c :: s.data.toList.drop (k + 1) := by
      rw [List.drop_eq_getElem_cons (by rw [← Lib.size_eq]; exact hlt), ← hc]; rfl
    obtain ⟨ix, hix⟩ : ∃ ix, Lib.indexByte [32, 9, 13] c = ix := ⟨_, rfl⟩
    have CI := Lib.hid (fun w => index_blank c n ix hn hix w)
    have hbl := blank_ix c
    rw [hix] at hbl
    by_cases h0 : 0 ≤ ix
    · rw [decide_eq_true h0] at hbl
      have HK2 : Hid (∀ t, Toks (s.data.toList.drop (k + 1)) t → Toks s.data.toList (tks P ++ t)) := fun t ht => HK.out t (by rw [hdr]; exact .blank c _ t hbl ht)
      have HN2 : Hid (isName s.data.toList = true → k + 1 = 0 ∨ k + 1 = s.size) := fun hnm => by
        rcases HNM.out hnm with h | h
        · subst h
          rw [List.drop_zero] at hdr
          rw [hdr] at hnm
          have := letter_blank c (isName_head c _ hnm)
          rw [this] at hbl; cases hbl
        · omega
      clear hdr HK hbl hix hn hc
      go_wp2_with fail
      refine (CI.out _).mono ?_
      rintro e w2 ⟨rfl, rfl⟩
      go_wp2_with fail
      go_roundw
      case rel => exact ⟨k + 1, P, by omega, by omega, by go_num, HK2, HN2, HT, HL, HG, HF, HS⟩
      case measure => simp [intOf]; omega
    · rw [decide_eq_false h0] at hbl
      obtain ⟨S, hS⟩ : ∃ S : ByteArray, s.extract k s.size = S := ⟨_, rfl⟩
      have hSd : S.data.toList = c :: s.data.toList.drop (k + 1) := by
        rw [← hS, data_extract, List.take_of_length_le (by rw [List.length_drop, ← Lib.size_eq]; exact Nat.le_refl _), hdr]
      have hSs : S.size ≤ 100000 := by rw [← hS, ByteArray.size_extract]; omega
      have CN := Lib.hid (fun w hG hF hS => next_lex S w hG hF hS hSs c _ hSd)
      clear hix hn hc hSs
      go_wp2_with fail
      refine (CI.out _).mono ?_
      rintro e w2 ⟨rfl, rfl⟩
      go_wp2_with fail
      refine (CN.out _ HG.out HF.out HS.out).mono ?_
      rintro e w3 ⟨⟨kd, sz, bd, x, rfl, htok, hltr⟩, hb⟩
      have HLT : Hid (isName s.data.toList = true → letter c = true ∧ k = 0) := fun hnm => by
        rcases HNM.out hnm with h | h
        · refine ⟨?_, h⟩
          subst h
          rw [List.drop_zero] at hdr
          rw [hdr] at hnm
          exact isName_head c _ hnm
        · omega
      have HX0 : Hid (isName s.data.toList = true → x = 0) := fun hnm => hltr c _ rfl (HLT.out hnm).1
      have HT3 := Lib.hid (HT.out.below hb)
      have HL3 := Lib.hid (HL.out.trans (hb.mono (by have := HL.out.size; obtain ⟨v, h1, _⟩ := HT.out; have := h1.lt; omega)))
      have HG3 := Lib.hid (HG.out.below hb)
      have HF3 := Lib.hid (HF.out.below hb)
      have HS3 := Lib.hid (HS.out.below hb)
      have HX := Lib.hid htok
      clear hb htok hltr HT HL HG HF HS
      have hBt := Blk.new w3 202 (toldA kd sz bd x)
      have hHT4 : TokL (w3.alloc (.cells (toldA kd sz bd x) 202)) Bl P := HT3.out.below ((Below.refl _ _).alloc (Nat.le_refl _) _)
      have hBl3 : Bl < w3.heap.size := by obtain ⟨v, h1, _⟩ := HT3.out; exact h1.lt
      have hHL4 : Below Bl w (w3.alloc (.cells (toldA kd sz bd x) 202)) := HL3.out.alloc (by omega) _
      have hGb : Below w3.heap.size w3 (w3.alloc (.cells (toldA kd sz bd x) 202)) := (Below.refl _ _).alloc (Nat.le_refl _) _
      have hG4 := HG3.out.below hGb
      have hF4 := HF3.out.below hGb
      have hS4 := HS3.out.below hGb
      have hno : ∀ v, Blk (w3.alloc (.cells (toldA kd sz bd x) 202)) Bl 128 #[v] → v.ownBlock ≠ some w3.heap.size := fun v hv e => by
        obtain ⟨v0, h1, h2⟩ := HT3.out
        have h3 := (h1.alloc (.cells (toldA kd sz bd x) 202)).symm.trans hv
        injection h3 with h3
        injection h3 with h3
        have h4 : v0 = v := by simpa using h3
        rw [← h4] at e
        have := (h2.lt _ e).2
        omega
      have HNO := Lib.hid hno
      obtain ⟨W, hW⟩ : ∃ W, w3.alloc (.cells (toldA kd sz bd x) 202) = W := ⟨_, rfl⟩
      obtain ⟨Bt, hBt'⟩ : ∃ Bt, w3.heap.size = Bt := ⟨_, rfl⟩
      have HWW := Lib.hid hW
      have HBT := Lib.hid hBt'
      rw [hW] at hBt hHT4 hHL4 hG4 hF4 hS4
      rw [hBt'] at hBt hBl3
      have HBt := Lib.hid hBt
      have HT4 := Lib.hid hHT4
      have HL4 := Lib.hid hHL4
      have HG4 := Lib.hid hG4
      have HF4 := Lib.hid hF4
      have HS4 := Lib.hid hS4
      have hBlt : Bl ≠ Bt := by omega
      have hBtl : Bt ≠ Bl := by omega
      clear hW hBt' hBt hHT4 hHL4 hG4 hF4 hS4 hno hGb HT3 HL3 HG3 HF3 HS3
      by_cases hx : x = 0
      case neg =>
        have hx1 : (x != 0) = true := by rw [bne_iff_ne]; exact hx
        go_wp2_with fail
        rw [HWW.out, HBT.out]
        have c2 : W.cell? ⟨Bt, 2, none⟩ = some (.int .i64 bd) := HBt.out.cell 2
        have c3 : W.cell? ⟨Bt, 3, none⟩ = some (.int .i64 x) := HBt.out.cell 3
        go_quiet (fail)
        go_wp2_with fail
        simp only [Exit.noGoto]
        go_ret2
        exact ⟨⟨_, _, rfl, P, HT4.out, fun h => absurd h hx, HX0.out⟩, below_drewN HL4.out _⟩
      obtain ⟨Kn, N, hkd, hsz, htk⟩ := HX.out hx
      subst hx
      subst hkd
      subst hsz
      have hN1 := htk.1
      have hN2 := htk.2.1
      rw [← hdr, List.length_drop, ← Lib.size_eq] at hN2
      obtain ⟨m, hm⟩ : ∃ m : Nat, m = k + N := ⟨_, rfl⟩
      have hmi : (k : Int) + (N : Int) = (m : Int) := by omega
      have hm2 : m ≤ s.size := by omega
      have hkm : k ≤ m := by omega
      have hkm2 : k < m := by omega
      obtain ⟨T, hT⟩ : ∃ T : ByteArray, s.extract k m = T := ⟨_, rfl⟩
      have hTd : T.data.toList = (s.data.toList.drop k).take N := by rw [← hT, data_extract, hm, Nat.add_sub_cancel_left]
      have HK2 : Hid (∀ t, Toks (s.data.toList.drop m) t → Toks s.data.toList (tks (P ++ [(Kn, T.data.toList, (k : Int))]) ++ t)) := fun t ht => by
        rw [tks_snoc, List.append_assoc]
        refine HK.out _ ?_
        rw [List.singleton_append, hdr]
        have h1 := Toks.tok c (s.data.toList.drop (k + 1)) Kn N t hbl htk (by rw [← hdr, List.drop_drop, ← hm]; exact ht)
        rw [← hdr] at h1
        show Toks (c :: s.data.toList.drop (k + 1)) ((Kn, T.data.toList) :: t)
        rw [hTd, ← hdr]
        exact h1
      have hkmi : (k : Int) ≤ (m : Int) := by omega
      have hm2i : (m : Int) ≤ (s.size : Int) := by omega
      have hsl : ∀ W, (Instr.slice 9 (.string s) (some (.int .i64 (k : Int))) (some (.int .i64 (m : Int))) none).run Tryz.prog W = .ok (.string T) W := fun W => by
        have := run_slice_string (P := Tryz.prog) W 9 s .i64 .i64 (k : Int) (m : Int) (by kernel_rfl) (by omega) (by omega) (by omega)
        rw [← hT]
        simpa using this
      have hw1 : IntKind.i64.wrap ((k : Int) + (N : Int)) = (m : Int) := by rw [hmi]; exact IntWalk.i64_in _ (by omega)
      have hw2 : IntKind.i64.wrap (m : Int) = (m : Int) := IntWalk.i64_in _ (by omega)
      have hm5 : (m : Int) ≤ 1000000 := by omega
      have HN2 : Hid (isName s.data.toList = true → m = 0 ∨ m = s.size) := fun hnm => by
        obtain ⟨h1, h2⟩ := HLT.out hnm
        subst h2
        have h3 := (htk.2.2 c _ rfl).1 h1
        rw [List.drop_zero] at hdr
        rw [hdr, isName_iff c _ h1, ← h3.2, ← hdr, ← Lib.size_eq] at hnm
        right; omega
      have hP2 : (P ++ [(Kn, T.data.toList, (k : Int))]).length ≤ m := by rw [List.length_append, List.length_singleton]; omega
      have HP2 := Lib.hid hP2
      clear hdr hbl htk hN1 hN2 hm hTd HK HX hP2 hSd
      go_wp2_with fail
      rw [HWW.out, HBT.out]
      have c0 : W.cell? ⟨Bt, 0, none⟩ = some (.int .i64 (Kn : Int)) := HBt.out.cell 0
      have c1 : W.cell? ⟨Bt, 1, none⟩ = some (.int .i64 (N : Int)) := HBt.out.cell 1
      go_still_tail 12, (by kernel_rfl)
      go_wp2_with fail
      refine (push_any Bl (Kn, T.data.toList, (k : Int)) P T rfl W.drew HT4.out (by omega) Bt _ 202 HBt.out hBtl (fun v hv => ?_)).mono ?_
      · rw [← HBT.out]
        exact HNO.out v (by rw [HWW.out]; exact hv)
      rintro e w6 ⟨rfl, h1, h2, h3⟩
      have HT6 := Lib.hid h1
      have HL6 := Lib.hid ((below_drewN HL4.out 1).trans h2)
      have h2' : Below Bl W w6 := ⟨h2.os, h2.tape, h2.output, h2.size, h2.block⟩
      have c6 : w6.cell? ⟨Bt, 1, none⟩ = some (.int .i64 (N : Int)) := h3.cell 1
      have HG6 : Hid (Glob w6) := HG4.out.low hB h2'
      have HF6 : Hid (FormsAt w6) := Blk.below HF4.out h2' (by omega)
      have HS6 : Hid (SignsAt w6) := Blk.below HS4.out h2' (by omega)
      clear h1 h2 h2' h3 c0 c1 hsl
      go_wp2_with fail
      go_roundw
      case rel => exact ⟨m, P ++ [(Kn, T.data.toList, (k : Int))], hm2, HP2.out, rfl, HK2, HN2, HT6, HL6, HG6, HF6, HS6⟩
      case measure => simp [intOf]; omega
end Go.Proofs.YtdfihhebgllpcaaGreatDoor

/- The walk of lex.Parse. -/
namespace Go.Proofs.YtdfihhebgllpcaaGreatDoor
open Go.RowKit Go.Proofs.QuotePlain Go.Proofs.UtfPlain Go.Proofs.LexPlain

theorem lexparse_res (B : Nat) (v : Value) (a x : Int) (W : World) (tmps : Array Value) (hB : Blk W B 128 #[v]) (h2 : tmps[2]? = some (.pointer (some ⟨B, 0, none⟩))) (h3 : tmps[3]? = some (.int .i64 a)) (h4 : tmps[4]? = some (.int .i64 x)) :
    (results Tryz.f125 tmps).run Tryz.prog W = .ok (.tuple #[v, .int .i64 a, .int .i64 x]) W := by
  have c0 : W.cell? ⟨B, 0, none⟩ = some v := hB.cell 0
  simp [results, Tryz.results125, go_sem, h2, h3, h4, c0]

set_option maxRecDepth 100000 in
set_option maxHeartbeats 4000000 in
theorem lexparse_any (s : ByteArray) (w : World) (hG : Glob w) (hF : FormsAt w) (hS : SignsAt w) (hs : s.size ≤ 100000) :
    Calls Tryz.prog 125 #[.string s] w fun e w' => (∃ (v : Value) (a x : Int) (P : List TokP), e = .returned (.tuple #[v, .int .i64 a, .int .i64 x]) ∧ (x = 0 → Toks s.data.toList (tks P) ∧ w'.ownsRow (w.heap.size + 1) 127 3 v P.length (tcs P)) ∧ (isName s.data.toList = true → x = 0)) ∧ Below w.heap.size w w' := by
  have hmf : ∀ (fn : Fn) (first cap : Array Value) (w : World), (Instr.makeFunc fn first cap).run Tryz.prog w = .ok (.func fn first cap) w := fun _ _ _ _ => rfl
  have hb0 := Blk.new w 128 #[.slice none 0 0]
  have hl0 : Below w.heap.size w (w.alloc (.cells #[.slice none 0 0] 128)) := (Below.refl _ _).alloc (Nat.le_refl _) _
  have hT : TokL (w.alloc (.cells #[.slice none 0 0] 128)) w.heap.size [] := ⟨_, hb0, World.ownsRow_nil _ _ _ _⟩
  have C := Lib.hid (lexwalk_any s _ (hG.below hl0) (hF.below hl0) (hS.below hl0) hs w.heap.size hG.size hT)
  have HL0 := Lib.hid hl0
  clear hG hF hS hb0 hT hl0
  go_enter Tryz.func125, Tryz.ntmps125
  go_wp2_with fail
  refine C.out.mono ?_
  rintro e w2 ⟨⟨a, x, rfl, P, ⟨v, h1, h2⟩, h3, h5⟩, h4⟩
  have HB := Lib.hid h1
  have HO := Lib.hid h2
  have HT := Lib.hid h3
  have HN := Lib.hid h5
  have HL := Lib.hid (HL0.out.trans h4)
  have c0 : w2.cell? ⟨w.heap.size, 0, none⟩ = some v := h1.cell 0
  have f0 : w2.frozen? ⟨w.heap.size, 0, none⟩ = false := h1.frozen 0
  obtain ⟨B, hBB⟩ : ∃ B, w.heap.size = B := ⟨_, rfl⟩
  rw [hBB] at c0 f0 HB HO HL ⊢
  have HBB := Lib.hid hBB
  clear h1 h2 h3 h4 h5 C HL0 hBB
  obtain ⟨ao, n', cap, rfl⟩ : ∃ ao n' cap, v = .slice ao n' cap := by
    rcases HO.out.2 with ⟨hv, _⟩ | ⟨g, cap, cur, hv, _⟩
    · exact ⟨_, _, _, hv⟩
    · exact ⟨_, _, _, hv⟩
  by_cases hx : x = 0
  · subst hx
    go_wp2_with fail
    refine bodyPost_ret (lexparse_res B (.slice ao n' cap) a 0 _ _ (HB.out.set_ 0 _) rfl rfl rfl) rfl ⟨⟨_, a, 0, P, rfl, fun _ => ⟨HT.out (by trivial), ?_⟩, fun _ => rfl⟩, ?_⟩
    · rw [HBB.out]
      have hg : w2.grownBy (w2.setCell ⟨B, 0, none⟩ (.slice ao n' cap)) (some B) := grownBy_setCell' w2 B _
      exact HO.out.kept hg (by
        cases hv : (Value.slice ao n' cap).ownBlock with
        | none => exact .inl rfl
        | some g => exact .inr (by intro e; have e' := Option.some.inj e; have := (HO.out.lt g hv).1; omega))
    · rw [HBB.out]
      exact HL.out.setCell (p := ⟨B, 0, none⟩) (Nat.le_refl _) _
  · have hx1 : (x != 0) = true := by rw [bne_iff_ne]; exact hx
    go_wp2_with fail
    refine bodyPost_ret (lexparse_res B (.slice none 0 0) a x _ _ (HB.out.set_ 0 _) rfl rfl rfl) rfl ⟨⟨_, a, x, P, rfl, fun h => absurd h hx, HN.out⟩, ?_⟩
    rw [HBB.out]
    exact HL.out.setCell (p := ⟨B, 0, none⟩) (Nat.le_refl _) _
end Go.Proofs.YtdfihhebgllpcaaGreatDoor

/- addr.names' function: is a text a name? -/
namespace Go.Proofs.YtdfihhebgllpcaaGreatDoor
open Go.RowKit Go.Proofs.QuotePlain Go.Proofs.UtfPlain Go.Proofs.LexPlain

theorem bytes_eq (a : ByteArray) (b : List UInt8) : ((⟨b.toArray⟩ : ByteArray) = a) ↔ b = a.data.toList := by
  constructor
  · intro h; rw [← h]
  · intro h; exact (bytes_eta a b h.symm).symm
set_option maxRecDepth 100000 in
set_option maxHeartbeats 4000000 in
/-- It tells whether a text is no name. -/
theorem noname_any (s : ByteArray) (w : World) (hG : Glob w) (hF : FormsAt w) (hS : SignsAt w) (hs : s.size ≤ 100000) :
    Calls Tryz.prog 124 #[.string s] w fun e w' => e = .returned (.bool (!isName s.data.toList)) ∧ Below w.heap.size w w' := by
  have C := Lib.hid (lexparse_any s w hG hF hS hs)
  obtain ⟨r, hr⟩ : ∃ r, (!isName s.data.toList) = r := ⟨_, rfl⟩
  rw [hr]
  have HR := Lib.hid hr
  clear hG hF hS hr
  go_enter Tryz.func124, Tryz.ntmps124
  go_wp2_with fail
  refine C.out.mono ?_
  rintro e w2 ⟨⟨v, a, x, P, rfl, h1, h3⟩, h2⟩
  have HL := Lib.hid h2
  have HB : Hid (w.heap.size ≤ w2.heap.size) := h2.size
  by_cases hx : x = 0
  case neg =>
    have hr : r = true := by
      rw [← HR.out, Bool.not_eq_true']
      rw [← Bool.not_eq_true]; exact fun h => hx (h3 h)
    subst hr
    have hx1 : (x != 0) = true := by rw [bne_iff_ne]; exact hx
    clear h1 h2 h3 C HR
    go_wp2_with fail
    go_ret
    exact ⟨rfl, HL.out⟩
  obtain ⟨ht, ho⟩ := h1 hx
  have hN := toks_name _ _ ht
  subst hx
  obtain ⟨ao, n', cap, rfl⟩ : ∃ ao n' cap, v = .slice ao n' cap := by
    rcases ho.2 with ⟨hv, _⟩ | ⟨g, cap, cur, hv, _⟩
    · exact ⟨_, _, _, hv⟩
    · exact ⟨_, _, _, hv⟩
  have hn' : n' = P.length := by
    rcases ho.2 with ⟨hv, h0⟩ | ⟨g, cap, cur, hv, _⟩
    · injection hv with _ h _; omega
    · injection hv
  by_cases h1n : n' = 1
  case neg =>
    have hr : r = true := by
      rw [← HR.out, Bool.not_eq_true', ← Bool.not_eq_true, ← hN]
      intro h
      have := congrArg List.length h
      unfold tks at this
      rw [List.length_map, List.length_singleton] at this
      omega
    subst hr
    have hx1 : ((n' : Int) != 1) = true := by rw [bne_iff_ne]; omega
    clear h1 h2 h3 C HR hN ht ho hn'
    go_wp2_with fail
    go_ret
    exact ⟨rfl, HL.out⟩
  subst h1n
  obtain ⟨p, hp⟩ : ∃ p, P = [p] := by
    match P, hn' with
    | [p], _ => exact ⟨p, rfl⟩
  subst hp
  obtain ⟨k, t, a2⟩ := p
  obtain ⟨g, rfl⟩ : ∃ g, ao = some ⟨g, 0, none⟩ := by
    rcases ho.2 with ⟨_, h0⟩ | ⟨g, cap, cur, hv, _⟩
    · simp at h0
    · injection hv with h _ _; exact ⟨g, h⟩
  obtain ⟨T, hT⟩ : ∃ T : ByteArray, T = ⟨t.toArray⟩ := ⟨_, rfl⟩
  have c0 : w2.cell? ⟨g, 0, none⟩ = some (.int .i64 (k : Int)) := ho.cells rfl 0 _ rfl
  have c1 : w2.cell? ⟨g, 1, none⟩ = some (.string T) := by rw [hT]; exact ho.cells rfl 1 _ rfl
  have hNM : isName s.data.toList = true ↔ k = 1 ∧ T = s := by
    rw [← hN]
    show [(k, t)] = [(1, s.data.toList)] ↔ _
    rw [hT, bytes_eq]
    simp
  clear h1 h2 h3 C hN ht ho hn' hT
  by_cases hk : k = 1
  case neg =>
    have hr : r = true := by
      rw [← HR.out, Bool.not_eq_true', ← Bool.not_eq_true, hNM]
      exact fun h => hk h.1
    subst hr
    have hx1 : ((k : Int) != 1) = true := by rw [bne_iff_ne]; omega
    clear hNM HR
    go_wp2_with fail
    go_ret
    exact ⟨rfl, HL.out⟩
  subst hk
  by_cases hTs : T = s
  · have hr : r = false := by
      rw [← HR.out, Bool.not_eq_false', hNM]
      exact ⟨rfl, hTs⟩
    subst hr
    subst hTs
    clear hNM HR
    go_wp2_with fail
    go_ret
    exact ⟨rfl, HL.out⟩
  · have hr : r = true := by
      rw [← HR.out, Bool.not_eq_true', ← Bool.not_eq_true, hNM]
      exact fun h => hTs h.2
    subst hr
    have hne : (T.toList == s.toList) = false := by
      rw [beq_eq_false_iff_ne]
      intro h
      rw [Lib.toList_data, Lib.toList_data] at h
      exact hTs ((bytes_eta T _ h).trans (bytes_eta s _ rfl).symm)
    clear hNM HR hTs
    go_wp2_with fail
    go_ret
    exact ⟨rfl, HL.out⟩
end Go.Proofs.YtdfihhebgllpcaaGreatDoor

/- addr.names: are texts names? -/
namespace Go.Proofs.YtdfihhebgllpcaaGreatDoor
open Go.RowKit Go.Proofs.QuotePlain Go.Proofs.UtfPlain Go.Proofs.LexPlain

/-- A slice of texts in memory below a block. -/
def StrS (w : World) (B : Nat) (v : Value) (xs : List ByteArray) : Prop :=
  ∃ ao cap, v = .slice ao xs.length cap ∧ ∀ j X, xs[j]? = some X → ∃ ad, ao = some ad ∧ ad.block < B ∧ w.cell? (ad.add j) = some (.string X)
theorem add_block (ad : Addr) (j : Nat) : (ad.add j).block = ad.block := by unfold Addr.add; split <;> rfl
theorem StrS.below {w w' : World} {B : Nat} {v : Value} {xs : List ByteArray} (h : StrS w B v xs) (hb : Below B w w') : StrS w' B v xs := by
  obtain ⟨ao, cap, rfl, h2⟩ := h
  refine ⟨ao, cap, rfl, fun j X hj => ?_⟩
  obtain ⟨ad, h3, h4, h5⟩ := h2 j X hj
  exact ⟨ad, h3, h4, (hb.cell (p := ad.add j) (by rw [add_block]; exact h4)).trans h5⟩
/-- All are names. -/
def allNames (xs : List ByteArray) : Bool := xs.all fun X => isName X.data.toList
theorem allNames_snoc (xs : List ByteArray) (j : Nat) (X : ByteArray) (h : xs[j]? = some X) : allNames (xs.take (j + 1)) = (allNames (xs.take j) && isName X.data.toList) := by
  unfold allNames
  rw [List.take_add_one, h]
  simp

/-- What names need of memory. -/
structure LexG (w : World) : Prop where
  gl : Glob w
  fm : FormsAt w
  sg : SignsAt w
theorem LexG.below {w w' : World} (h : LexG w) (hb : Below w.heap.size w w') : LexG w' := ⟨h.gl.below hb, h.fm.below hb, h.sg.below hb⟩

set_option maxRecDepth 100000 in
set_option maxHeartbeats 4000000 in
theorem ixnames_any (v : Value) (xs : List ByteArray) (w : World) (hG : LexG w) (hV : StrS w w.heap.size v xs) (hs : ∀ X ∈ xs, X.size ≤ 100000) (hn : xs.length ≤ 1000000) :
    Calls Tryz.prog 151 #[v, .func (.func 124) #[] #[]] w fun e w' => (∃ i : Int, e = .returned (.int .i64 i) ∧ decide (0 ≤ i) = !allNames xs) ∧ Below w.heap.size w w' := by
  have HV := Lib.hid hV
  obtain ⟨ao, cap, hv, _⟩ := hV
  subst hv
  have HG := Lib.hid hG
  have HS := Lib.hid hs
  obtain ⟨N, hN⟩ : ∃ N, xs.length = N := ⟨_, rfl⟩
  rw [hN] at HV hn ⊢
  have HN := Lib.hid hN
  clear hG hs hN
  go_enter Tryz.func151, Tryz.ntmps151
  go_wp2_with fail
  go_loopw [8] (fun i wr => ∃ j : Nat, j ≤ N ∧ i = .int .i64 j ∧ Hid (allNames (xs.take j) = true) ∧ Hid (LexG wr) ∧ Hid (Below w.heap.size w wr)) (fun i _ => N - (intOf i).toNat)
  case atStart => exact ⟨0, by omega, rfl, Lib.hid (by simp [allNames]), HG, Lib.hid (Below.refl _ _)⟩
  case round =>
    clear HG
    obtain ⟨j, hj, rfl, HA, HG, HL⟩ := hrel
    by_cases hlt : j < N
    · have hlt' : (j : Int) < (N : Int) := by omega
      have hlt2 : j < xs.length := by rw [HN.out]; exact hlt
      obtain ⟨X, hX⟩ : ∃ X, xs[j]? = some X := ⟨_, List.getElem?_eq_getElem hlt2⟩
      obtain ⟨ao', cap', hv', h2⟩ := HV.out.below HL.out
      rw [HN.out] at hv'
      injection hv' with h3 _ h3c
      subst h3c
      obtain ⟨ad, h4, h5, h6⟩ := h2 j X hX
      rw [← h3] at h4
      subst h4
      have CX := Lib.hid (fun w hG => noname_any X w (LexG.gl hG) (LexG.fm hG) (LexG.sg hG) (HS.out X (List.mem_of_getElem? hX)))
      have hsn := allNames_snoc xs j X hX
      rw [HA.out, Bool.true_and] at hsn
      have h7 : wr.cell? (ad.add j) = some (.string X) := h6
      clear h2 h3 h5 h6 hX hlt2
      by_cases hnm : isName X.data.toList = true
      · rw [hnm] at CX hsn
        have HA2 := Lib.hid hsn
        clear hsn hnm HA
        go_wp2_with fail
        refine (CX.out _ HG.out).mono ?_
        rintro e w2 ⟨rfl, hb⟩
        have HG2 := Lib.hid (HG.out.below hb)
        have HL2 := Lib.hid (HL.out.trans (hb.mono HL.out.size))
        clear hb
        go_wp2_with fail
        go_roundw
        case rel => exact ⟨j + 1, by omega, by go_num, HA2, HG2, HL2⟩
        case measure => simp [intOf]; omega
      · rw [Bool.eq_false_iff.2 hnm] at CX hsn
        have hall : Hid (decide (0 ≤ (j : Int)) = !allNames xs) := by
          unfold Hid
          have : allNames xs = false := by
            rw [← Bool.not_eq_true]
            intro h
            have : allNames (xs.take (j + 1)) = true := by
              unfold allNames at h ⊢
              rw [List.all_eq_true] at h ⊢
              exact fun x hx => h x (List.mem_of_mem_take hx)
            rw [hsn] at this; cases this
          rw [this]; simp
        clear hsn hnm HA
        go_wp2_with fail
        refine (CX.out _ HG.out).mono ?_
        rintro e w2 ⟨rfl, hb⟩
        have HL2 := Lib.hid (HL.out.trans (hb.mono HL.out.size))
        clear hb
        go_wp2_with fail
        go_ret
        exact ⟨⟨_, rfl, hall.out⟩, HL2.out⟩
    · have hlt' : ¬ (j : Int) < (N : Int) := by omega
      have hall : Hid (decide (0 ≤ (-1 : Int)) = !allNames xs) := by
        unfold Hid
        have := HA.out
        rw [List.take_of_length_le (by rw [HN.out]; omega)] at this
        rw [this]; rfl
      clear HA
      go_wp2_with fail
      go_ret
      exact ⟨⟨_, rfl, hall.out⟩, HL.out⟩

set_option maxHeartbeats 1000000 in
theorem names_any (v : Value) (xs : List ByteArray) (w : World) (hG : LexG w) (hV : StrS w w.heap.size v xs) (hs : ∀ X ∈ xs, X.size ≤ 100000) (hn : xs.length ≤ 1000000) :
    Calls Tryz.prog 91 #[v] w fun e w' => e = .returned (.bool (allNames xs)) ∧ Below w.heap.size w w' := by
  have C : Hid (Calls Tryz.prog 123 #[v, .func (.func 124) #[] #[]] w fun e w' => e = .returned (.bool (!allNames xs)) ∧ Below w.heap.size w w') := by
    have C1 := Lib.hid (ixnames_any v xs w hG hV hs hn)
    clear hG hV hs hn
    unfold Hid
    go_enter Tryz.func123, Tryz.ntmps123
    go_wp2_with fail
    refine C1.out.mono ?_
    rintro e w2 ⟨⟨i, rfl, hi⟩, hb⟩
    have HB := Lib.hid hb
    have HI := Lib.hid hi
    clear hb hi C1
    go_wp2_with fail
    go_ret
    exact ⟨congrArg (fun z => Ending.returned (.bool z)) HI.out, HB.out⟩
  obtain ⟨r, hr⟩ : ∃ r, allNames xs = r := ⟨_, rfl⟩
  rw [hr] at C ⊢
  clear hG hV hs hn hr
  go_enter Tryz.func91, Tryz.ntmps91
  go_wp2_with fail
  refine C.out.mono ?_
  rintro e w2 ⟨rfl, hb⟩
  have HB := Lib.hid hb
  clear hb C
  go_wp2_with fail
  go_ret
  exact ⟨by simp, HB.out⟩
end Go.Proofs.YtdfihhebgllpcaaGreatDoor

/- Plain: what is printed between quotes is read back. -/
namespace Go.Proofs.QuotePlain
open Go.Proofs.UtfPlain

theorem one_take (l x : List UInt8) (h : (one l).2 ≠ 0) : one (l.take (one l).2 ++ x) = one l := by
  cases l with
  | nil => exact absurd rfl h
  | cons a r =>
    have h1 := one_cons a r
    by_cases hc : (okF a.toNat && decide (more a.toNat ≤ r.length) && (r.take (more a.toNat)).all cont && decide (low (more a.toNat) ≤ val a r) && scalar (val a r)) = true
    · rw [if_pos hc] at h1
      rw [h1]
      show one ((a :: r).take (more a.toNat + 1) ++ x) = _
      rw [List.take_succ_cons, List.cons_append, one_cons]
      have hlen : more a.toNat ≤ r.length := by
        simp only [Bool.and_eq_true, decide_eq_true_eq] at hc; exact hc.1.1.1.2
      have ht : (r.take (more a.toNat) ++ x).take (more a.toNat) = r.take (more a.toNat) := by
        rw [List.take_append_of_le_length (by rw [List.length_take]; omega), List.take_take, Nat.min_self]
      have hv : val a (r.take (more a.toNat) ++ x) = val a r := by unfold val; rw [ht]
      rw [ht, hv]
      have hl2 : decide (more a.toNat ≤ (r.take (more a.toNat) ++ x).length) = decide (more a.toNat ≤ r.length) := by
        rw [decide_eq_true hlen]; apply decide_eq_true
        rw [List.length_append, List.length_take]; omega
      rw [hl2, if_pos hc]
    · rw [if_neg hc] at h1; rw [h1] at h; exact absurd rfl h
theorem one_ascii (c : UInt8) (r : List UInt8) (h : c.toNat < 128) : one (c :: r) = (c.toNat, 1) := by
  obtain ⟨m1, m2⟩ := more0 _ h
  have e := val0 c r m1
  have := one_good c r m2 (by omega) (by rw [m1]; simp) (by rw [m1]; intro j hj; omega) (by rw [e]; exact scalar_small _ (by omega))
  rw [this, e, m1]
theorem one_great (c : UInt8) (r : List UInt8) (h : ¬ c.toNat < 128) (h0 : (one (c :: r)).2 ≠ 0) : ∀ b ∈ (c :: r).take (one (c :: r)).2, 128 ≤ b.toNat := by
  have h1 := one_cons c r
  by_cases hc : (okF c.toNat && decide (more c.toNat ≤ r.length) && (r.take (more c.toNat)).all cont && decide (low (more c.toNat) ≤ val c r) && scalar (val c r)) = true
  · rw [if_pos hc] at h1
    rw [h1]
    intro b hb
    rw [show ((val c r, more c.toNat + 1) : Nat × Nat).2 = more c.toNat + 1 from rfl, List.take_succ_cons] at hb
    simp only [Bool.and_eq_true, decide_eq_true_eq] at hc
    rcases List.mem_cons.1 hb with e | e
    · rw [e]; omega
    · exact (cont_bd b (List.all_eq_true.1 hc.1.1.2 b e)).1
  · rw [if_neg hc] at h1; rw [h1] at h0; exact absurd rfl h0
theorem esc_great (c : UInt8) (h : 128 ≤ c.toNat) : esc c = [c] := by
  have := all_u8 (fun c => decide (c.toNat < 128) || decide (esc c = [c])) (by decide +kernel) c
  simp at this
  rcases this with h1 | h1
  · omega
  · exact h1
theorem flat_great (l : List UInt8) (h : ∀ b ∈ l, 128 ≤ b.toNat) : l.flatMap esc = l := by
  induction l with
  | nil => rfl
  | cons c r ih =>
    rw [List.flatMap_cons, esc_great c (h c (by simp)), ih (fun b hb => h b (by simp [hb]))]; rfl
theorem hexv_hexd (k : Nat) (h : k < 16) : hexv (hexd k) = k := by
  have : ∀ k : Fin 16, hexv (hexd k.val) = k.val := by decide +kernel
  exact this ⟨k, h⟩
/-- A small sign, printed, is read. -/
theorem part_esc (c : UInt8) (h : c.toNat < 128) (R : List UInt8) : partF (esc c ++ R) = (0, [c], (esc c).length) ∧ (esc c).head? ≠ some 34 ∧ esc c ≠ [] := by
  rcases kinds c with hk | ⟨h32, he, _, _⟩ | ⟨h32, he, hs, _⟩
  · rcases hk with rfl | rfl | rfl | rfl | rfl | rfl | rfl <;> exact ⟨rfl, by decide, by decide⟩
  · rw [he]
    refine ⟨?_, by simp, by simp⟩
    have h1 : c.toNat / 16 < 16 := by omega
    have h2 : c.toNat % 16 < 16 := by omega
    have hu : unitF 4 0 (48 :: 48 :: hexd (c.toNat / 16) :: hexd (c.toNat % 16) :: R) = (0, c.toNat) := by
      have e0 : hexv 48 = 0 := by decide
      unfold unitF
      rw [e0, if_pos (by decide)]
      unfold unitF
      rw [e0, if_pos (by decide)]
      unfold unitF
      rw [hexv_hexd _ h1, if_pos h1]
      unfold unitF
      rw [hexv_hexd _ h2, if_pos h2]
      unfold unitF
      congr 1; omega
    have hp : put (c.toNat : Int) = [c] := by
      unfold put
      rw [if_neg (by omega), if_pos (by omega), (byte_eq _ (by omega) (by omega) c).2 rfl]
    show escF (117 :: 48 :: 48 :: hexd (c.toNat / 16) :: hexd (c.toNat % 16) :: R) = _
    have hcd : codedF (48 :: 48 :: hexd (c.toNat / 16) :: hexd (c.toNat % 16) :: R) = (0, [c], 6) := by
      unfold codedF
      rw [hu, if_neg (by simp), if_neg (by simp; omega), if_pos (by left; show c.toNat < 55296; omega)]
      show ((0 : Nat), put (c.toNat : Int), 6) = _
      rw [hp]
    unfold escF
    show (if unshort 117 ≠ [] then _ else _) = _
    rw [if_neg (by decide), if_pos rfl, hcd]; rfl
  · rw [he]
    have h34 : c ≠ 34 := fun e => by subst e; revert he; decide
    have h92 : c ≠ 92 := fun e => by subst e; revert he; decide
    refine ⟨?_, by simpa using h34, by simp⟩
    show partF (c :: R) = _
    unfold partF
    simp only
    rw [if_neg h32, if_neg h92, one_ascii c R h, if_neg (by simp)]
    rfl
theorem scan_esc (c : UInt8) (h : c.toNat < 128) (R acc : List UInt8) (at_ : Nat) : scanAt at_ acc (esc c ++ R) = scanAt (at_ + (esc c).length) (acc ++ [c]) R := by
  obtain ⟨h1, h2, h3⟩ := part_esc c h R
  obtain ⟨x, t, hx⟩ : ∃ x t, esc c = x :: t := by
    cases he : esc c with
    | nil => exact absurd he h3
    | cons x t => exact ⟨x, t, rfl⟩
  have hx34 : x ≠ 34 := by rw [hx] at h2; simpa using h2
  have hd : (esc c ++ R).drop (esc c).length = R := by simp
  rw [hx] at h1 hd ⊢
  rw [List.cons_append] at h1 hd ⊢
  rw [scanAt_step at_ acc (t ++ R) x hx34 (by rw [h1]), h1]
  show scanAt (at_ + (x :: t).length) (acc ++ [c]) (List.drop (x :: t).length (x :: (t ++ R))) = _
  rw [hd]
theorem scan_great (l R acc : List UInt8) (at_ : Nat) (c : UInt8) (r : List UInt8) (hl : l = c :: r) (hc : ¬ c.toNat < 128) (h0 : (one l).2 ≠ 0) :
    scanAt at_ acc (l.take (one l).2 ++ R) = scanAt (at_ + (one l).2) (acc ++ l.take (one l).2) R := by
  have ho := one_take l R h0
  have hlen : (l.take (one l).2).length = (one l).2 := by rw [List.length_take]; have := one_size l; omega
  obtain ⟨n, hn⟩ : ∃ n, (one l).2 = n + 1 := ⟨(one l).2 - 1, by omega⟩
  have hcons : l.take (one l).2 ++ R = c :: (r.take n ++ R) := by rw [hn, hl, List.take_succ_cons]; rfl
  have hp : partF (l.take (one l).2 ++ R) = (0, l.take (one l).2, (one l).2) := by
    rw [hcons]
    unfold partF
    simp only
    have h92 : c ≠ 92 := fun e => by subst e; exact hc (by decide)
    rw [if_neg (by omega), if_neg h92, ← hcons, ho, if_neg h0]
    congr 2
    rw [List.take_append_of_le_length (by omega), List.take_take, Nat.min_self]
  have hd : (l.take (one l).2 ++ R).drop (one l).2 = R := by rw [List.drop_append_of_le_length (by omega), List.drop_of_length_le (by omega)]; rfl
  have h34 : c ≠ 34 := fun e => by subst e; exact hc (by decide)
  rw [hcons] at hp hd ⊢
  rw [scanAt_step at_ acc _ c h34 (by rw [hp]), hp]
  show scanAt (at_ + (one l).2) (acc ++ l.take (one l).2) (List.drop (one l).2 (c :: (r.take n ++ R))) = _
  rw [hd]
theorem badAt_neg (k : Nat) : ∀ (l : List UInt8) (x y : Nat), l.length ≤ k → badAt x l < 0 → badAt y l < 0 := by
  induction k with
  | zero =>
    intro l x y hl _
    obtain rfl := List.length_eq_zero_iff.1 (by omega : l.length = 0)
    rw [badAt_nil]; decide
  | succ k ih =>
    intro l x y hl h
    by_cases hn : l = []
    · rw [hn, badAt_nil]; decide
    · by_cases h0 : (one l).2 = 0
      · rw [badAt_bad x l hn h0] at h; omega
      · rw [badAt_step x l h0] at h
        rw [badAt_step y l h0]
        exact ih _ _ _ (by rw [List.length_drop]; omega) h
theorem valid_step (l : List UInt8) (hn : l ≠ []) (h : valid l = true) : (one l).2 ≠ 0 ∧ valid (l.drop (one l).2) = true := by
  have hb : badAt 0 l < 0 := by unfold valid at h; exact of_decide_eq_true h
  have h0 : (one l).2 ≠ 0 := fun e => by rw [badAt_bad 0 l hn e] at hb; omega
  refine ⟨h0, ?_⟩
  rw [badAt_step 0 l h0] at hb
  exact decide_eq_true (badAt_neg _ _ _ 0 (Nat.le_refl _) hb)
theorem scan_back (k : Nat) : ∀ (l R acc : List UInt8) (at_ : Nat), l.length ≤ k → valid l = true → scanAt at_ acc (l.flatMap esc ++ 34 :: R) = (0, acc ++ l, at_ + (l.flatMap esc).length + 1) := by
  induction k with
  | zero =>
    intro l R acc at_ hl _
    obtain rfl := List.length_eq_zero_iff.1 (by omega : l.length = 0)
    rw [List.flatMap_nil, List.nil_append, scanAt_quote, List.append_nil]; rfl
  | succ k ih =>
    intro l R acc at_ hl hv
    cases l with
    | nil => rw [List.flatMap_nil, List.nil_append, scanAt_quote, List.append_nil]; rfl
    | cons c r =>
      obtain ⟨h0, hv2⟩ := valid_step (c :: r) (by simp) hv
      by_cases hc : c.toNat < 128
      · rw [one_ascii c r hc] at hv2
        have hv3 : valid r = true := hv2
        rw [List.flatMap_cons, List.append_assoc, scan_esc c hc, ih r R _ _ (by simpa using hl) hv3, List.append_assoc, List.singleton_append, List.length_append, Nat.add_assoc at_]
      · have hsz := one_size (c :: r)
        have e1 : (c :: r).flatMap esc = (c :: r).take (one (c :: r)).2 ++ ((c :: r).drop (one (c :: r)).2).flatMap esc := by
          conv => lhs; rw [← List.take_append_drop (one (c :: r)).2 (c :: r), List.flatMap_append, flat_great _ (one_great c r hc h0)]
        rw [e1, List.append_assoc, scan_great (c :: r) _ acc at_ c r rfl hc h0, ih _ R _ _ (by rw [List.length_drop]; omega) hv2, List.append_assoc, List.take_append_drop, List.length_append, List.length_take, Nat.min_eq_left hsz, Nat.add_assoc at_]
theorem scan_print (l : List UInt8) (h : valid l = true) : scanQ (qprint l) = (0, l, (qprint l).length) := by
  unfold qprint
  rw [scanQ_yes, scan_back l.length l [] [] 1 (Nat.le_refl _) h, List.nil_append]
  simp; omega
end Go.Proofs.QuotePlain
