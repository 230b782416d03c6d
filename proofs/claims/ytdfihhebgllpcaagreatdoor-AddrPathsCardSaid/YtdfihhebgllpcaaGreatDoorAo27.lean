import Derived.Test.YtdfihhebgllpcaaGreatDoorAo26
import Derived.Lib.AtoiErrMem
import Derived.Shelf.Pu.ParseUintPublic10
import Derived.Deep.RegionLaw

/- The walks of addr.place, quote.Parse, addr.bracketed. -/
namespace Go.Proofs.YtdfihhebgllpcaaGreatDoor
open Go.RowKit Go.Proofs.QuotePlain Go.Proofs.UtfPlain Go.Proofs.LexPlain Go.Proofs.AddrPlain

/-- A variable of the library's holds an error. -/
def ErrCell (g : Nat) (w : World) : Prop := g < w.heap.size ∧ ∃ te pe, w.cell? ⟨g, 0, none⟩ = some (.iface te pe)
theorem ErrCell.below {g : Nat} {w w' : World} (h : ErrCell g w) (hb : Below w.heap.size w w') : ErrCell g w' := by
  obtain ⟨h1, te, pe, h2⟩ := h
  exact ⟨Nat.lt_of_lt_of_le h1 hb.size, te, pe, by rw [hb.cell (p := ⟨g, 0, none⟩) h1]; exact h2⟩
/-- What addresses need of memory. -/
structure AdG (w : World) : Prop where
  lx : LexG w
  es : ErrCell 3 w
  er : ErrCell 4 w
theorem AdG.below {w w' : World} (h : AdG w) (hb : Below w.heap.size w w') : AdG w' := ⟨h.lx.below hb, h.es.below hb, h.er.below hb⟩

/-- What ParseUint tells. -/
def PuEnd (l : List UInt8) (e : Ending) : Prop :=
  (∃ u : Nat, u < 18446744073709551616 ∧ Lib.parseUintB 64 l = .ok u ∧ e = .returned (.tuple #[.int .u64 u, .nilIface])) ∨
  (∃ (m : Int) (T : TypeId) (v : Value), number l = none ∧ e = .returned (.tuple #[.int .u64 m, .iface T v]))
theorem pu_any (s : ByteArray) (w : World) (hs : s.size ≤ 100000) (hG : AdG w) :
    Calls Tryz.prog 114 #[.string s, .int .i64 10, .int .i64 64] w fun e w' => PuEnd s.data.toList e ∧ Below w.heap.size w w' := by
  cases h : Lib.parseUintB 64 s.data.toList with
  | ok u =>
    refine (Tryz.strconv_ParseUint_10_at64_ok s (by omega) u h w).mono ?_
    have hu : u < 18446744073709551616 := by
      unfold Lib.parseUintB at h
      split at h
      · cases h
      · have := Lib.parseUintM_le _ _ 0 u (by omega) h
        have e : (2 : Nat) ^ 64 - 1 = 18446744073709551615 := by decide
        omega
    rintro e w' ⟨rfl, rfl | rfl⟩
    · exact ⟨.inl ⟨u, hu, h, rfl⟩, Below.refl _ _⟩
    · exact ⟨.inl ⟨u, hu, h, rfl⟩, Lib.bytesWorld_below _ _ _⟩
  | range =>
    obtain ⟨_, te, pe, hc⟩ := hG.er
    refine (Tryz.strconv_ParseUint_10_at64_range s (by omega) h _ w hc (.inr ⟨te, pe, rfl⟩)).mono ?_
    rintro e w' ⟨N, rfl, _, _, hb⟩
    exact ⟨.inr ⟨_, _, _, by unfold number; rw [h], rfl⟩, hb⟩
  | _ =>
    obtain ⟨_, te, pe, hc⟩ := hG.es
    refine (Any.strconv_ParseUint_10_at64_syntax Tryz.laysPu14 s (by omega) h _ w hc (.inr ⟨te, pe, rfl⟩)).mono ?_
    rintro e w' ⟨N, rfl, _, _, hb⟩
    exact ⟨.inr ⟨_, _, _, by unfold number; rw [h], rfl⟩, hb⟩
theorem number_ok (l : List UInt8) (u : Nat) (h : Lib.parseUintB 64 l = .ok u) : number l = if Lib.decDigits u = l then some u else none := by
  unfold number; rw [h]

/-- What place tells. -/
def PlaceEnd (l : List UInt8) (e : Ending) : Prop := ∃ m : Int, e = .returned (.tuple #[.int .u64 m, .bool (number l).isSome]) ∧ ∀ v, number l = some v → m = ((v : Nat) : Int)
set_option maxRecDepth 100000 in
set_option maxHeartbeats 2000000 in
theorem place_any (s : ByteArray) (w : World) (hs : s.size ≤ 100000) (hG : AdG w) :
    Calls Tryz.prog 80 #[.string s] w fun e w' => PlaceEnd s.data.toList e ∧ Below w.heap.size w w' := by
  have C := Lib.hid (pu_any s w hs hG)
  have HG := Lib.hid hG
  clear hs hG
  go_enter Tryz.func80, Tryz.ntmps80
  go_wp2_with fail
  refine C.out.mono ?_
  intro e w2 hl
  obtain ⟨h1, hb⟩ := hl
  have HL := Lib.hid hb
  have HG2 := Lib.hid (HG.out.below hb)
  clear hb HG
  rcases h1 with ⟨u, hu, h1, rfl⟩ | ⟨m, T, v, h1, rfl⟩
  · have CF := Lib.hid (format_any u w2 hu HG2.out.lx.gl)
    obtain ⟨D, hD⟩ : ∃ D : ByteArray, D = ⟨(Lib.decDigits u).toArray⟩ := ⟨_, rfl⟩
    rw [← hD] at CF
    have hDd : D.data.toList = Lib.decDigits u := by rw [hD]
    have hn := number_ok _ u h1
    have HN : Hid (number s.data.toList = if D.data.toList = s.data.toList then some u else none) := by unfold Hid; rw [hDd]; exact hn
    clear hD hDd hn h1 C
    go_wp2_with fail
    refine CF.out.mono ?_
    rintro e w3 ⟨rfl, hb⟩
    have HL3 := Lib.hid (HL.out.trans (hb.mono HL.out.size))
    clear hb CF
    by_cases h : D.data.toList = s.data.toList
    · have hs2 : D = s := by rw [← mk_eta D, h, mk_eta]
      subst hs2
      have hn2 := HN.out
      rw [if_pos rfl] at hn2
      have HN2 := Lib.hid hn2
      clear hn2 HN h
      go_wp2_with fail
      go_ret2
      exact ⟨⟨_, by rw [HN2.out]; rfl, fun v hv => by rw [HN2.out] at hv; injection hv with hv; rw [hv]⟩, HL3.out⟩
    · have hn2 := HN.out
      rw [if_neg h] at hn2
      have HN2 := Lib.hid hn2
      have hne : ¬ D.toList = s.toList := by rw [Lib.toList_data, Lib.toList_data]; exact h
      have hne2 : (D.toList == s.toList) = false := by rw [beq_eq_false_iff_ne]; exact hne
      clear hn2 HN h
      go_wp2_with fail
      go_ret2
      exact ⟨⟨_, by rw [HN2.out]; rfl, fun v hv => by rw [HN2.out] at hv; cases hv⟩, HL3.out⟩
  · have HN := Lib.hid h1
    clear h1 C
    go_wp2_with fail
    go_ret2
    exact ⟨⟨_, by rw [HN.out]; rfl, fun v hv => by rw [HN.out] at hv; cases hv⟩, HL.out⟩

/-- What quote.Parse tells. -/
def QuoteEnd (l : List UInt8) (e : Ending) : Prop := ∃ (T : ByteArray) (x : Int), e = .returned (.tuple #[.string T, .int .i64 x]) ∧ ((scanQ l).1 = 0 ∧ (scanQ l).2.2 = l.length → T = mk (scanQ l).2.1 ∧ x = 0) ∧ (¬ ((scanQ l).1 = 0 ∧ (scanQ l).2.2 = l.length) → x ≠ 0)
set_option maxRecDepth 100000 in
set_option maxHeartbeats 2000000 in
theorem qparse_any (s : ByteArray) (w : World) (hs : s.size ≤ 1000000) (hF : FormsAt w) :
    Calls Tryz.prog 117 #[.string s] w fun e w' => QuoteEnd s.data.toList e ∧ Below w.heap.size w w' := by
  obtain ⟨E, hE⟩ : ∃ E, scanQ s.data.toList = E := ⟨_, rfl⟩
  have C := Lib.hid (scan_any_q s w hs hF E hE)
  have hok := scanQ_ok s.data.toList
  rw [hE] at hok
  obtain ⟨e1, t, n⟩ := E
  dsimp only at C hok
  have HE := Lib.hid hE
  have hsz := Lib.size_eq s
  have HSZ := Lib.hid hsz
  clear hE hF hsz
  obtain ⟨T, hT⟩ : ∃ T : ByteArray, T = ⟨t.toArray⟩ := ⟨_, rfl⟩
  rw [← hT] at C
  have HT : Hid (T = mk t) := hT
  clear hT
  by_cases h0 : e1 = 0
  · subst h0
    obtain ⟨h2, h3, _⟩ := hok rfl
    rw [← HSZ.out] at h3
    by_cases hn : n = s.size
    · subst hn
      clear h2 h3 hok
      go_enter Tryz.func117, Tryz.ntmps117
      go_wp2_with fail
      refine C.out.mono ?_
      rintro e w2 ⟨rfl, hb⟩
      have HL := Lib.hid hb
      clear hb
      go_wp2_with fail
      go_ret2
      exact ⟨⟨T, 0, rfl, fun _ => ⟨by rw [HE.out]; exact HT.out, rfl⟩, fun h => absurd (by rw [HE.out]; exact ⟨rfl, HSZ.out⟩) h⟩, HL.out⟩
    · have hlt : (n : Int) < (s.size : Int) := by omega
      clear h2 h3 hok
      have HN := Lib.hid hn
      clear hn
      go_enter Tryz.func117, Tryz.ntmps117
      go_wp2_with fail
      refine C.out.mono ?_
      rintro e w2 ⟨rfl, hb⟩
      have HL := Lib.hid hb
      clear hb
      go_wp2_with fail
      go_ret2
      exact ⟨⟨_, 14, rfl, fun h => absurd h.2 (by rw [HE.out]; show ¬ n = _; rw [← HSZ.out]; exact HN.out), fun _ => by decide⟩, HL.out⟩
  · have hx1 : ((e1 : Int) != 0) = true := by rw [bne_iff_ne]; omega
    have hx2 : ((e1 : Int) == 0) = false := by rw [beq_eq_false_iff_ne]; omega
    have H0 := Lib.hid h0
    clear h0 hok
    go_enter Tryz.func117, Tryz.ntmps117
    go_wp2_with fail
    refine C.out.mono ?_
    rintro e w2 ⟨rfl, hb⟩
    have HL := Lib.hid hb
    clear hb
    go_wp2_with fail
    go_ret2
    exact ⟨⟨_, (e1 : Int), rfl, fun h => absurd h.1 (by rw [HE.out]; exact H0.out), fun _ => by have := H0.out; omega⟩, HL.out⟩

/-- What bracketed tells. -/
def KeyEnd (l : List UInt8) (e : Ending) : Prop := ∃ (k m : Int) (T : ByteArray), e = .returned (.tuple #[.agg #[.int .i64 k, .int .u64 m, .string T], .bool (inBrk l).isSome]) ∧ ∀ x, inBrk l = some x → k = x.1 ∧ m = ((x.2.1 : Nat) : Int) ∧ T = mk x.2.2
theorem brk_res (B : Nat) (k m : Int) (T : ByteArray) (b : Bool) (W : World) (tmps : Array Value) (hB : Blk W B 105 #[.int .i64 k, .int .u64 m, .string T]) (h : tmps[2]? = some (.pointer (some ⟨B, 0, none⟩))) (h3 : tmps[3]? = some (.bool b)) :
    (results Tryz.f85 tmps).run Tryz.prog W = .ok (.tuple #[.agg #[.int .i64 k, .int .u64 m, .string T], .bool b]) W := by
  have c0 : W.cell? ⟨B, 0, none⟩ = some (.int .i64 k) := hB.cell 0
  have c1 : W.cell? ⟨B, 1, none⟩ = some (.int .u64 m) := hB.cell 1
  have c2 : W.cell? ⟨B, 2, none⟩ = some (.string T) := hB.cell 2
  simp [results, Tryz.results85, go_sem, h, h3, c0, c1, c2]
set_option maxRecDepth 100000 in
set_option maxHeartbeats 2000000 in
theorem brk_any (s : ByteArray) (w : World) (hs : s.size ≤ 100000) (hG : AdG w) :
    Calls Tryz.prog 85 #[.string s] w fun e w' => KeyEnd s.data.toList e ∧ Below w.heap.size w w' := by
  have hl := (Below.refl w.heap.size w).alloc (Nat.le_refl _) (.cells #[.int .i64 0, .int .u64 0, .string ⟨#[]⟩] 105)
  have hB := Blk.new w 105 #[.int .i64 0, .int .u64 0, .string ⟨#[]⟩]
  have C := Lib.hid (place_any s _ hs (hG.below hl))
  have CQ : Hid (∀ W, FormsAt W → Calls Tryz.prog 117 #[.string s] W fun e w' => QuoteEnd s.data.toList e ∧ Below W.heap.size W w') := fun W hF => qparse_any s W (by omega) hF
  have HB := Lib.hid hB
  have HL := Lib.hid hl
  have HG := Lib.hid (hG.below hl)
  clear hs hG hB hl
  go_enter Tryz.func85, Tryz.ntmps85
  go_wp2_with fail
  refine C.out.mono ?_
  intro e w2 hh
  obtain ⟨⟨m, rfl, h1⟩, hb⟩ := hh
  have HB2 := Lib.hid (HB.out.below hb HB.out.lt)
  have HL2 := Lib.hid (HL.out.trans (hb.mono HL.out.size))
  have HG2 := Lib.hid (HG.out.below hb)
  have c0 : w2.cell? ⟨w.heap.size, 0, none⟩ = some (.int .i64 0) := HB2.out.cell 0
  have c1 : w2.cell? ⟨w.heap.size, 1, none⟩ = some (.int .u64 0) := HB2.out.cell 1
  have c2 : w2.cell? ⟨w.heap.size, 2, none⟩ = some (.string ⟨#[]⟩) := HB2.out.cell 2
  have f0 := HB2.out.frozen 0
  have f1 := HB2.out.frozen 1
  have f2 := HB2.out.frozen 2
  have hsz : w.heap.size < w2.heap.size := HB2.out.lt
  obtain ⟨B, hBB⟩ : ∃ B, w.heap.size = B := ⟨_, rfl⟩
  rw [hBB] at c0 c1 c2 f0 f1 f2 HB2 HL2 hsz ⊢
  have HBB := Lib.hid hBB
  clear hb HB HL HG C hBB
  cases hn : number s.data.toList with
  | some v =>
    have hm := h1 v hn
    subst hm
    have HK : Hid (inBrk s.data.toList = some (1, v, [])) := by unfold Hid inBrk; rw [hn]
    clear h1 hn
    go_wp2_with fail
    refine bodyPost_ret (brk_res B 1 ((v : Nat) : Int) ⟨#[]⟩ true _ _ (((HB2.out.set_ 0 _).set_ 1 _).set_ 2 _) rfl rfl) rfl ⟨⟨1, ((v : Nat) : Int), ⟨#[]⟩, by rw [HK.out]; rfl, fun x hx => ?_⟩, ?_⟩
    · rw [HK.out] at hx; injection hx with hx; rw [← hx]; exact ⟨rfl, rfl, rfl⟩
    · rw [HBB.out]
      exact ((HL2.out.setCell (p := ⟨B, 0, none⟩) (Nat.le_refl _) _).setCell (p := ⟨B, 1, none⟩) (Nat.le_refl _) _).setCell (p := ⟨B, 2, none⟩) (Nat.le_refl _) _
  | none =>
    have HK : Hid (inBrk s.data.toList = if (scanQ s.data.toList).1 = 0 ∧ (scanQ s.data.toList).2.2 = s.data.toList.length then some (2, 0, (scanQ s.data.toList).2.1) else none) := by unfold Hid inBrk; rw [hn]
    clear h1 hn
    go_wp2_with fail
    refine (CQ.out _ HG2.out.lx.fm).mono ?_
    intro e w3 hh
    obtain ⟨⟨T, x, rfl, h1, h2⟩, hb⟩ := hh
    have HB3 := Lib.hid (HB2.out.below hb hsz)
    have HL3 := Lib.hid (HL2.out.trans (hb.mono (by omega)))
    have c0 : w3.cell? ⟨B, 0, none⟩ = some (.int .i64 0) := HB3.out.cell 0
    have c1 : w3.cell? ⟨B, 1, none⟩ = some (.int .u64 0) := HB3.out.cell 1
    have c2 : w3.cell? ⟨B, 2, none⟩ = some (.string ⟨#[]⟩) := HB3.out.cell 2
    have f0 := HB3.out.frozen 0
    have f1 := HB3.out.frozen 1
    have f2 := HB3.out.frozen 2
    clear hb
    by_cases hq : (scanQ s.data.toList).1 = 0 ∧ (scanQ s.data.toList).2.2 = s.data.toList.length
    · obtain ⟨hT, rfl⟩ := h1 hq
      have hk := HK.out
      rw [if_pos hq] at hk
      have HK2 := Lib.hid hk
      have HT := Lib.hid hT
      clear h1 h2 hq hk HK hT
      go_wp2_with fail
      refine bodyPost_ret (brk_res B 2 0 T true _ _ (((HB3.out.set_ 0 _).set_ 1 _).set_ 2 _) rfl rfl) rfl ⟨⟨2, 0, T, by rw [HK2.out]; rfl, fun x hx => ?_⟩, ?_⟩
      · rw [HK2.out] at hx; injection hx with hx; rw [← hx]; exact ⟨rfl, rfl, HT.out⟩
      · rw [HBB.out]
        exact ((HL3.out.setCell (p := ⟨B, 0, none⟩) (Nat.le_refl _) _).setCell (p := ⟨B, 1, none⟩) (Nat.le_refl _) _).setCell (p := ⟨B, 2, none⟩) (Nat.le_refl _) _
    · have hx : (x == 0) = false := by rw [beq_eq_false_iff_ne]; exact h2 hq
      have hk := HK.out
      rw [if_neg hq] at hk
      have HK2 := Lib.hid hk
      clear h1 h2 hq hk HK
      go_wp2_with fail
      refine bodyPost_ret (brk_res B 2 0 T false _ _ (((HB3.out.set_ 0 _).set_ 1 _).set_ 2 _) rfl rfl) rfl ⟨⟨2, 0, T, by rw [HK2.out]; rfl, fun x hx => ?_⟩, ?_⟩
      · rw [HK2.out] at hx; cases hx
      · rw [HBB.out]
        exact ((HL3.out.setCell (p := ⟨B, 0, none⟩) (Nat.le_refl _) _).setCell (p := ⟨B, 1, none⟩) (Nat.le_refl _) _).setCell (p := ⟨B, 2, none⟩) (Nat.le_refl _) _
end Go.Proofs.YtdfihhebgllpcaaGreatDoor

/- The walk of addr.Parse. -/
namespace Go.Proofs.YtdfihhebgllpcaaGreatDoor
open Go.RowKit Go.Proofs.QuotePlain Go.Proofs.UtfPlain Go.Proofs.LexPlain Go.Proofs.AddrPlain

/-- An append to what the call owns, as a step of a region that draws its order. -/
theorem step_append_own {P : Program} {ops : Array Oper} {o : Oper} {a : Act} {w : World} {K : Act → World → Prop} {Q : Exit → Act → World → Prop} {E : Prop}
    (hg : o.guard = none) (s x : Operand) (t : TypeId) (hop : o.op = Op.call { callee := Callee.builtin Builtin.append, args := #[s, x], argTypes := #[t, t] })
    (base : Nat) (e : TypeId) (i : TypeInfo) (z : Value) (size bytes : Nat) (h1 : P.underlying t = some (.slice e)) (h2 : P.info? e = some i) (h3 : i.zero = some z) (h4 : i.size = size) (h5 : i.bytes = bytes) (h6 : z.cells.size = size) (h7 : 0 < size)
    (v : Value) (n : Nat) (xs : List Value) (hs : a.eval s = v) (hown : w.ownsRow base e size v n xs)
    (ad : Addr) (m c : Nat) (news : List Value) (hx : a.eval x = .slice (some ad) m c) (hn : news.length = m * size) (hc : ∀ j u, news[j]? = some u → w.cell? (ad.add j) = some u) (h1c : ∀ u ∈ news, u.oneCell' = true)
    (b1 : n + m ≤ maxLen) (b2 : (n + m) * bytes ≤ 140737488355328) (hb : base ≤ w.heap.size)
    (hK : ∀ v' w', w'.ownsRow base e size v' (n + m) (xs ++ news) → w.grownBy w' v.ownBlock → K (a.put o.dst v') w') :
    if Region.wanted o (yielded ops a.tmps) = true then Oper.wp P o a w K Q else E := by
  have hw : Region.wanted o (yielded ops a.tmps) = true := by simp [Region.wanted, hg]
  rw [if_pos hw]
  obtain ⟨v', w', hrun, r1, r2, _⟩ := run_append_own (P := P) w base t o.type e i z size bytes h1 h2 h3 h4 h5 h6 h7 v n xs hown ad m c news hn hc h1c b1 b2 hb
  unfold Oper.wp
  simp [execOp, hop, resolve, invoke, builtin, hs, hx, hrun, Result.andThen]
  exact hK v' w' r1 r2

def adZ : Array Value := #[.slice none 0 0, .string ⟨#[]⟩, .string ⟨#[]⟩, .int .i64 0, .int .u64 0, .string ⟨#[]⟩]
theorem adZ_eq : adZ = adV (.slice none 0 0) Ad.zero := rfl
theorem strS_nil (w : World) (B : Nat) : StrS w B (.slice none 0 0) [] := ⟨none, 0, rfl, fun j X h => by simp at h⟩
/-- What Parse and Old tell. -/
def ParseEnd (r : Option Ad) (w' : World) (e : Ending) : Prop :=
  ∃ pv, StrS w' w'.heap.size pv (r.getD Ad.zero).path ∧ e = .returned (.tuple #[.agg (adV pv (r.getD Ad.zero)), .int .i64 (if r.isSome then 0 else 3)])
theorem split_lays (l : List (List UInt8)) (w : World) (j : Nat) (x : List UInt8) (h : l[j]? = some x) : (w.alloc (.cells ((l.map mk).map Value.string).toArray 9)).cell? ⟨w.heap.size, j, none⟩ = some (.string (mk x)) := by
  rw [(Blk.new w 9 _).cell j]
  simp [h]
theorem split_any (s : ByteArray) (w : World) (hG : Glob w) (hs : s.size ≤ 100000) :
    Calls Tryz.prog 79 #[.string s, .string ⟨#[46]⟩] w fun e w' =>
      e = .returned (.slice (some ⟨w.heap.size, 0, none⟩) (splitC 46 s.data.toList).length (splitC 46 s.data.toList).length) ∧ w' = w.alloc (.cells (((splitC 46 s.data.toList).map mk).map Value.string).toArray 9) := by
  obtain ⟨m, hm⟩ := hG.maxLen
  have h := Tryz.strings_Split s ⟨#[46]⟩ m w (by omega) hm (Nat.le_refl 1)
  rw [count_split, split_eq 46 _ s rfl] at h
  exact h
theorem cut91_any (s : ByteArray) (w : World) (hG : Glob w) (hs : s.size ≤ 100000) :
    Calls Tryz.prog 83 #[.string s, .string ⟨#[91]⟩] w fun e w' =>
      e = .returned (.tuple #[.string (mk (aheadC 91 s.data.toList)), .string (mk ((behindC 91 s.data.toList).getD [])), .bool (behindC 91 s.data.toList).isSome]) ∧ ∃ n, w' = w.drewN n := by
  obtain ⟨m, hm⟩ := hG.maxLen
  have h := Tryz.strings_Cut s ⟨#[91]⟩ m w (by omega) hm
  have e : Lib.cut s.data.toList (⟨#[91]⟩ : ByteArray).data.toList = _ := cut_eq 91 s.data.toList
  rw [e] at h
  exact h
theorem splitC_bd (c : UInt8) (l : List UInt8) : (splitC c l).length ≤ l.length + 1 ∧ ∀ x ∈ splitC c l, x.length ≤ l.length := by
  induction l with
  | nil => simp [splitC]
  | cons y r ih =>
    unfold splitC
    split
    · refine ⟨by rw [List.length_cons, List.length_cons]; have := ih.1; omega, fun x hx => ?_⟩
      rcases List.mem_cons.1 hx with rfl | hx
      · simp
      · have := ih.2 x hx; rw [List.length_cons]; omega
    · cases h : splitC c r with
      | nil => exact absurd h (splitC_ne c r)
      | cons a t =>
        rw [h] at ih
        refine ⟨by have := ih.1; simp at this ⊢; omega, fun x hx => ?_⟩
        simp at hx
        rcases hx with rfl | hx
        · have := ih.2 a (by simp); simp; omega
        · have := ih.2 x (by simp [hx]); simp; omega

theorem mods_cons3 (m x y : List UInt8) (r : List (List UInt8)) : mods (m :: x :: y :: r) = if m = modL then (x :: (mods (y :: r)).1, (mods (y :: r)).2) else ([], m :: x :: y :: r) := by rw [mods]
theorem mods_step (L : List (List UInt8)) (i : Nat) (h : i + 2 < L.length) (x0 x1 : List UInt8) (h0 : L[i]? = some x0) (h1 : L[i + 1]? = some x1) (hm : x0 = modL) :
    mods (L.drop i) = (x1 :: (mods (L.drop (i + 2))).1, (mods (L.drop (i + 2))).2) := by
  rw [List.getElem?_eq_getElem (by omega)] at h0 h1
  have e0 : L[i] = x0 := Option.some.inj h0
  have e1 : L[i + 1] = x1 := Option.some.inj h1
  have e2 : L.drop (i + 2) = L[i + 2] :: L.drop (i + 2 + 1) := List.drop_eq_getElem_cons (by omega)
  rw [List.drop_eq_getElem_cons (by omega : i < L.length), List.drop_eq_getElem_cons (by omega : i + 1 < L.length), e0, e1]
  show mods (x0 :: x1 :: L.drop (i + 2)) = _
  rw [e2, mods_cons3, if_pos hm]
theorem mods_short (l : List (List UInt8)) (h : l.length ≤ 2) : mods l = ([], l) := by
  match l, h with
  | [], _ => unfold mods; rfl
  | [_], _ => unfold mods; rfl
  | [_, _], _ => unfold mods; rfl
theorem mods_other (l : List (List UInt8)) (h : ∀ x, l[0]? = some x → x ≠ modL) : mods l = ([], l) := by
  match l, h with
  | [], _ => unfold mods; rfl
  | [_], _ => unfold mods; rfl
  | [_, _], _ => unfold mods; rfl
  | m :: x :: y :: r, h =>
    unfold mods
    rw [if_neg (h m rfl)]
theorem inBrk_bd (l : List UInt8) (x : Int × Nat × List UInt8) (h : inBrk l = some x) : x.2.1 < 18446744073709551616 ∧ x.2.2.length ≤ l.length := by
  unfold inBrk at h
  split at h
  · rename_i n hn
    injection h with h
    rw [← h]
    exact ⟨number_lt l n hn, by simp⟩
  · split at h
    · rename_i hq
      injection h with h
      rw [← h]
      have := scanQ_ok l hq.1
      exact ⟨(by omega : (0 : Nat) < 18446744073709551616), by show (scanQ l).2.1.length ≤ _; omega⟩
    · cases h
/-- What Parse makes of parts that are left. -/
def tailM (k : Int × Nat × List UInt8) (p : List (List UInt8)) (l : List (List UInt8)) : Option Ad := match l with
  | [t, n] => if rightA ⟨p.map mk, mk t, mk n, k.1, k.2.1, mk k.2.2⟩ then some ⟨p.map mk, mk t, mk n, k.1, k.2.1, mk k.2.2⟩ else none
  | _ => none
theorem made_tail (k : Int × Nat × List UInt8) (l : List (List UInt8)) : made k l = tailM k (mods l).1 (mods l).2 := by
  unfold made tailM
  obtain ⟨p, q⟩ := mods l
  match q with
  | [] => rfl
  | [_] => rfl
  | [_, _] => rfl
  | _ :: _ :: _ :: _ => rfl
theorem strS_own {w : World} {base n : Nat} {v : Value} {xs : List ByteArray} (h : w.ownsRow base 9 1 v n (xs.map Value.string)) (hn : xs.length = n) : StrS w w.heap.size v xs := by
  rcases h.2 with ⟨hv, h0⟩ | ⟨g, cap, cur, hv, _⟩
  · subst h0
    have : xs = [] := List.length_eq_zero_iff.1 hn
    subst this
    rw [hv]
    exact strS_nil _ _
  · refine ⟨some ⟨g, 0, none⟩, cap, by rw [hv, hn], fun j X hj => ?_⟩
    have hb : v.ownBlock = some g := by rw [hv]; rfl
    exact ⟨_, rfl, (h.lt g hb).2, h.cells hb j _ (by simp [hj])⟩
theorem str_info : (Tryz.prog.info? 9).map (fun i => (i.zero, i.size, i.bytes)) = some (some (.string ByteArray.empty), 1, 16) := by kernel_rfl
end Go.Proofs.YtdfihhebgllpcaaGreatDoor

/- The walks of the reference's number and Parts. -/
namespace Go.Proofs.YtdfihhebgllpcaaGreatDoor
open Go.RowKit Go.Proofs.QuotePlain Go.Proofs.UtfPlain Go.Proofs.LexPlain Go.Proofs.AddrPlain
open Go.Proofs.NumPlain (dig isD run64 run64_cons)

theorem ra_room_of (acc dn : Nat) (A Dn : Int) (hA : A = acc) (hD : Dn = dn) : acc * 10 + dn < 18446744073709551616 ↔ A ≤ (18446744073709551615 - Dn) / 10 := by
  omega
theorem ra_room_le (acc dn : Nat) (A Dn : Int) (hA : A = acc) (hD : Dn = dn) (h : acc * 10 + dn < 18446744073709551616) : IntKind.u64.wrap (A * 10) = A * 10 ∧ IntKind.u64.wrap (A * 10 + Dn) = ((acc * 10 + dn : Nat) : Int) := by
  constructor <;> rw [u64_w _ (by omega) (by omega)] <;> omega
/-- What the reference's number tells. -/
def NumEndA (l : List UInt8) (e : Ending) : Prop := ∃ m : Int, e = .returned (.tuple #[.int .u64 m, .bool (number l).isSome]) ∧ ∀ v, number l = some v → m = ((v : Nat) : Int)
theorem numEnd_no {l : List UInt8} (h : number l = none) : NumEndA l (.returned (.tuple #[.int .u64 0, .bool false])) := ⟨0, by rw [h]; rfl, fun v hv => by rw [h] at hv; cases hv⟩
theorem canon_no (l : List UInt8) (h : canon l = false) : number l = none := by rw [number_ref, h]; rfl

set_option maxRecDepth 100000 in
set_option maxHeartbeats 8000000 in
theorem ranumber_any (s : ByteArray) (w : World) (hs : s.size ≤ 100000) :
    Calls Tryz.prog 82 #[.string s] w fun e w' => NumEndA s.data.toList e ∧ w = w' := by
  have hsz := Lib.size_eq s
  by_cases h0 : s.size = 0
  · have hn : number s.data.toList = none := canon_no _ (by
      have : s.data.toList = [] := List.length_eq_zero_iff.1 (by omega)
      rw [this]; rfl)
    have HN := Lib.hid (numEnd_no hn)
    have e0 : ((s.size : Int) == 0) = true := by rw [beq_iff_eq]; omega
    clear hn hsz h0
    go_enter Tryz.func82, Tryz.ntmps82
    go_wp2_with fail
    go_ret2
    exact ⟨HN.out, rfl⟩
  have e0 : ((s.size : Int) == 0) = false := by rw [beq_eq_false_iff_ne]; omega
  by_cases h20 : 20 < s.size
  · have hn : number s.data.toList = none := canon_no _ (by
      unfold canon
      rw [← hsz, decide_eq_false (by omega : ¬ s.size ≤ 20)]; simp)
    have HN := Lib.hid (numEnd_no hn)
    have e1 : (20 : Int) < (s.size : Int) := by omega
    clear hn hsz
    go_enter Tryz.func82, Tryz.ntmps82
    go_wp2_with fail
    go_ret2
    exact ⟨HN.out, rfl⟩
  have e1 : ¬ (20 : Int) < (s.size : Int) := by omega
  have hpos : 0 < s.size := by omega
  obtain ⟨C0, hC0⟩ : ∃ C : Int, ((s[0].toNat : Nat) : Int) = C := ⟨_, rfl⟩
  have hhead : s.data.toList.head? = some s[0] := by
    rw [List.head?_eq_getElem?, List.getElem?_eq_getElem (by rw [← hsz]; exact hpos)]; rfl
  by_cases hz : s[0] = 48 ∧ 1 < s.size
  · have hn : number s.data.toList = none := canon_no _ (by
      unfold canon
      rw [hhead, hz.1, ← hsz, decide_eq_true hz.2]; simp)
    have HN := Lib.hid (numEnd_no hn)
    have e2 : (C0 == 48) = true := by rw [beq_iff_eq, ← hC0, hz.1]; rfl
    have e3 : (1 : Int) < (s.size : Int) := by omega
    clear hn hsz hhead hz
    go_enter Tryz.func82, Tryz.ntmps82
    go_wp2_with fail
    go_ret2
    exact ⟨HN.out, rfl⟩
  have HCA : Hid (s.data.toList.all isD = true → canon s.data.toList = true) := fun ha => by
    unfold canon
    rw [ha, hhead, ← hsz, decide_eq_true (by omega : s.size ≤ 20)]
    have hne : s.data.toList.isEmpty = false := by
      cases hh : s.data.toList with
      | nil => rw [hh] at hhead; cases hhead
      | cons _ _ => rfl
    rw [hne]
    by_cases h48 : s[0] = 48
    · rw [h48, decide_eq_false (fun h => hz ⟨h48, h⟩)]; rfl
    · have : decide (some s[0] = some (48 : UInt8)) = false := decide_eq_false (fun e => h48 (Option.some.inj e))
      rw [this]; rfl
  have HCN : Hid (s.data.toList.all isD = false → canon s.data.toList = false) := fun ha => by
    unfold canon; rw [ha, Bool.and_false]
  have HSZ := Lib.hid hsz
  have HZ : Hid (((C0 == 48) = true → ¬ (1 : Int) < (s.size : Int))) := fun h => by
    have h1 : C0 = 48 := by simpa using h
    have h2 : s[0] = 48 := UInt8.toNat_inj.1 (by rw [show (48 : UInt8).toNat = 48 from rfl]; omega)
    have : ¬ 1 < s.size := fun h3 => hz ⟨h2, h3⟩
    omega
  have ez : (C0 == 48) = false ∨ ((C0 == 48) = true ∧ ¬ (1 : Int) < (s.size : Int)) := by
    cases h : (C0 == 48) with
    | false => exact .inl rfl
    | true => exact .inr ⟨rfl, HZ.out h⟩
  clear hsz hhead hz h20 h0 HZ
  go_enter Tryz.func82, Tryz.ntmps82
  go_upto_region 1 with fail
  go_cut [24] (fun v wx => v = .bool false ∧ w = wx)
  case first =>
    rcases ez with ez | ⟨ez, ez2⟩
    · go_wp2_with fail
      go_meet
      exact ⟨rfl, rfl⟩
    · go_wp2_with fail
      go_meet
      exact ⟨rfl, rfl⟩
  case rest =>
    obtain ⟨rfl, rfl⟩ := hcut
    clear ez hC0 e0 e1
    go_wp2_with fail
    go_loop [4, 5] (fun a p => ∃ (j acc : Nat) (A : Int), j ≤ s.size ∧ p = .int .i64 j ∧ a = .int .u64 A ∧ Hid (A = acc) ∧ Hid (acc < 18446744073709551616) ∧ Hid (run64 0 s.data.toList = run64 acc (s.data.toList.drop j)) ∧ Hid ((s.data.toList.take j).all isD = true)) (fun _ p => s.size - (intOf p).toNat)
    case atStart => exact ⟨0, 0, 0, Nat.zero_le _, rfl, rfl, rfl, Lib.hid (by omega), Lib.hid rfl, Lib.hid rfl⟩
    case round =>
      obtain ⟨j, acc, A, hj, rfl, rfl, HAA, HA, HJ, HD⟩ := hrel
      by_cases hlt : j < s.size
      · have hlt' : (j : Int) < (s.size : Int) := by omega
        obtain ⟨c, hc⟩ : ∃ c, s[j] = c := ⟨_, rfl⟩
        obtain ⟨C, hC⟩ : ∃ C : Int, ((s[j].toNat : Nat) : Int) = C := ⟨_, rfl⟩
        have hCc : C = ((c.toNat : Nat) : Int) := by rw [← hC, hc]
        have hdrop : s.data.toList.drop j = c :: s.data.toList.drop (j + 1) := by
          rw [List.drop_eq_getElem_cons (by rw [← HSZ.out]; exact hlt), ← hc]; rfl
        have htk : (s.data.toList.take (j + 1)).all isD = isD c := by
          have he : s.data.toList[j]? = some c := by
            have := congrArg (·[0]?) hdrop
            simpa using this
          rw [List.take_add_one, he, List.all_append, HD.out]; simp
        have hcb := c.toNat_lt
        by_cases h48 : C < 48
        · have hid : isD c = false := by
            have := all_u8 (fun c => !(isD c) || decide (48 ≤ c.toNat)) (by decide +kernel) c
            cases h : isD c with
            | false => rfl
            | true => rw [h] at this; simp at this; omega
          have hall : s.data.toList.all isD = false := by
            rw [← Bool.not_eq_true]; intro h
            rw [hid] at htk
            rw [← Bool.not_eq_true] at htk
            apply htk
            rw [List.all_eq_true] at h ⊢
            exact fun x hx => h x (List.mem_of_mem_take hx)
          have HN := Lib.hid (numEnd_no (canon_no _ (HCN.out hall)))
          clear hall hid htk hdrop hCc hc hcb
          go_wp2_with fail
          go_ret2
          exact ⟨HN.out, rfl⟩
        by_cases h57 : 57 < C
        · have hid : isD c = false := by
            have := all_u8 (fun c => !(isD c) || decide (c.toNat ≤ 57)) (by decide +kernel) c
            cases h : isD c with
            | false => rfl
            | true => rw [h] at this; simp at this; omega
          have hall : s.data.toList.all isD = false := by
            rw [← Bool.not_eq_true]; intro h
            rw [hid] at htk
            rw [← Bool.not_eq_true] at htk
            apply htk
            rw [List.all_eq_true] at h ⊢
            exact fun x hx => h x (List.mem_of_mem_take hx)
          have HN := Lib.hid (numEnd_no (canon_no _ (HCN.out hall)))
          clear hall hid htk hdrop hCc hc hcb
          go_wp2_with fail
          go_ret2
          exact ⟨HN.out, rfl⟩
        have hid : isD c = true := by
          have := all_u8 (fun c => isD c || decide (c.toNat < 48) || decide (57 < c.toNat)) (by decide +kernel) c
          cases h : isD c with
          | true => rfl
          | false => rw [h] at this; simp at this; omega
        obtain ⟨dn, hdn⟩ : ∃ dn : Nat, c.toNat = 48 + dn := ⟨c.toNat - 48, by omega⟩
        obtain ⟨Dn, hDn⟩ : ∃ Dn : Int, Dn = dn := ⟨_, rfl⟩
        have f0 : (C - 48) % 256 = Dn := by omega
        have f3 : C - 48 = Dn := by omega
        have f1 : 0 ≤ Dn := by omega
        have f2 : Dn ≤ 9 := by omega
        rw [hid] at htk
        have HTK := Lib.hid htk
        have hrun : run64 0 s.data.toList = if acc * 10 + dn < 18446744073709551616 then run64 (acc * 10 + dn) (s.data.toList.drop (j + 1)) else none := by
          rw [HJ.out, hdrop, run64_cons, hdn, Nat.add_sub_cancel_left]
        have hf : IntKind.u64.wrap Dn = Dn := u64_w _ (by omega) (by omega)
        by_cases hroom : acc * 10 + dn < 18446744073709551616
        · have hq := (ra_room_of acc dn A Dn HAA.out hDn).1 hroom
          obtain ⟨g1, g2⟩ := ra_room_le acc dn A Dn HAA.out hDn hroom
          obtain ⟨AN, hAN⟩ : ∃ AN : Int, AN = ((acc * 10 + dn : Nat) : Int) := ⟨_, rfl⟩
          rw [← hAN] at g2
          have hrun2 := hrun
          rw [if_pos hroom] at hrun2
          have HRUN2 := Lib.hid hrun2
          have HROOM := Lib.hid hroom
          have HAN := Lib.hid hAN
          clear hrun hrun2 hroom hAN hdrop hc hdn hDn HA HJ HAA htk hid hCc hcb
          go_wp2_with fail
          go_round
          case rel => exact ⟨j + 1, acc * 10 + dn, AN, by omega, by go_num, rfl, HAN, HROOM, HRUN2, HTK⟩
          case measure => simp [intOf]; omega
        · have hq : (18446744073709551615 - Dn) / 10 < A := Int.not_le.1 fun h => hroom ((ra_room_of acc dn A Dn HAA.out hDn).2 h)
          rw [if_neg hroom] at hrun
          have hnn : number s.data.toList = none := by rw [number_ref, hrun]; split <;> rfl
          have HN := Lib.hid (numEnd_no hnn)
          clear hrun hroom hdrop hc hdn hDn HA HJ HAA htk hid hCc hcb hnn
          go_wp2_with fail
          go_ret2
          exact ⟨HN.out, rfl⟩
      · have hlt' : ¬ (j : Int) < (s.size : Int) := by omega
        have hjl : s.data.toList.length ≤ j := by rw [← HSZ.out]; omega
        have hrun := HJ.out
        rw [List.drop_eq_nil_of_le hjl, show run64 acc [] = some acc from rfl] at hrun
        have hall := HD.out
        rw [List.take_of_length_le hjl] at hall
        have hnn : number s.data.toList = some acc := by rw [number_ref, HCA.out hall, if_pos rfl, hrun]
        have HN : Hid (NumEndA s.data.toList (.returned (.tuple #[.int .u64 A, .bool true]))) := ⟨A, by rw [hnn]; rfl, fun v hv => by rw [hnn] at hv; injection hv with hv; rw [← hv]; exact HAA.out⟩
        clear hrun hall hnn hjl HA HJ HD
        go_wp2_with fail
        go_ret2
        exact ⟨HN.out, rfl⟩
end Go.Proofs.YtdfihhebgllpcaaGreatDoor
