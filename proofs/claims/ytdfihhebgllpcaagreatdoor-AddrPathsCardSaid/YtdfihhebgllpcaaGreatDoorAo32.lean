import Derived.Test.YtdfihhebgllpcaaGreatDoorAo31
import Derived.Test.YtdfihhebgllpcaaGreatDoorRows
import Derived.OpenShut
import Derived.LaidSub
import Derived.MakeChecks
import Derived.Lib.LaidTab
import Derived.Shelf.Vars
import Derived.ChangeArms

/- The walks of the statements AddrOld and AddrParses. -/
namespace Go.Proofs.YtdfihhebgllpcaaGreatDoor
open Go.RowKit Go.Proofs.QuotePlain Go.Proofs.UtfPlain Go.Proofs.LexPlain Go.Proofs.AddrPlain

/-- What is told: an address, and an error's number. -/
theorem parse_out (r : Option Ad) : ((r.getD Ad.zero) = r.getD Ad.zero) ∧ ((∃ a, r = some a ∧ r.getD Ad.zero = a ∧ r.isSome = true) ∨ (r = none ∧ r.getD Ad.zero = Ad.zero ∧ r.isSome = false)) := by
  refine ⟨rfl, ?_⟩
  cases r with
  | none => exact .inr ⟨rfl, rfl, rfl⟩
  | some a => exact .inl ⟨a, rfl, rfl, rfl⟩

set_option maxRecDepth 100000 in
set_option maxHeartbeats 4000000 in
theorem addrOld_any (s : ByteArray) (w : World) (hs : s.size ≤ 9223372036854775807) (hG : AdG w) :
    Calls Tryz.prog 9 #[.string s] w fun e w' => e = .returned (.bool true) ∧ Below w.heap.size w w' := by
  have CW := Lib.hid (awakes_any w hG)
  have HG := Lib.hid hG
  clear hG
  by_cases h1 : 1000 < s.size
  · have h2 : (1000 : Int) < (s.size : Int) := by omega
    go_enter Tryz.func9, Tryz.ntmps9
    go_wp2_with fail
    refine CW.out.mono ?_
    rintro e w2 ⟨rfl, hb⟩
    have HL := Lib.hid hb
    clear hb
    go_wp2_with fail
    go_ret
    exact ⟨rfl, HL.out⟩
  have h2 : ¬ (1000 : Int) < (s.size : Int) := by omega
  have C1 : Hid (∀ W, AdG W → Calls Tryz.prog 37 #[.string s] W fun e w' => ParseEnd (oldA s.data.toList) w' e ∧ Below W.heap.size W w') := fun W h => aold_any s W (by omega) h
  have C2 : Hid (∀ W, Calls Tryz.prog 38 #[.string s] W fun e w' => RParseEnd (oldA s.data.toList) w' e ∧ Below W.heap.size W w') := fun W => raold_any s W (by omega)
  obtain ⟨PR, hPR⟩ : ∃ PR, oldA s.data.toList = PR := ⟨_, rfl⟩
  rw [hPR] at C1 C2
  unfold ParseEnd at C1
  unfold RParseEnd at C2
  obtain ⟨a, ha⟩ : ∃ a, PR.getD Ad.zero = a := ⟨_, rfl⟩
  obtain ⟨x, hx⟩ : ∃ x : Int, (if PR.isSome then 0 else 3) = x := ⟨_, rfl⟩
  obtain ⟨ok, hok⟩ : ∃ ok, PR.isSome = ok := ⟨_, rfl⟩
  rw [ha, hx] at C1
  rw [ha, hok] at C2
  have hflat : a.path = [] ∧ a.key ≠ 2 := by
    cases PR with
    | none => rw [← ha]; exact ⟨rfl, by decide⟩
    | some b => have := old_flat _ _ hPR; rw [← ha]; exact this
  have hxk : (x = 0 ∧ ok = true) ∨ (x = 3 ∧ ok = false) := by
    rw [← hx, ← hok]
    cases PR with
    | none => exact .inr ⟨rfl, rfl⟩
    | some b => exact .inl ⟨rfl, rfl⟩
  obtain ⟨hp, hk⟩ := hflat
  obtain ⟨pth, ty, nm, key, place, word⟩ := a
  dsimp only at hp hk
  subst hp
  have hk2 : (key != 2) = true := by rw [bne_iff_ne]; exact hk
  clear hPR ha hx hok h1 hk
  go_enter Tryz.func9, Tryz.ntmps9
  go_wp2_with fail
  refine CW.out.mono ?_
  rintro e w2 ⟨rfl, hb⟩
  have HL := Lib.hid hb
  have HG2 := Lib.hid (HG.out.below hb)
  clear hb CW HG
  go_wp2_with fail
  refine (C1.out _ HG2.out).mono ?_
  intro e w3 hh
  obtain ⟨⟨pv, hs1, rfl⟩, hb⟩ := hh
  obtain ⟨ao, ac, rfl⟩ := hs1.len
  have hb3 := hb.alloc hb.size (.cells (adV (.slice ao ([] : List ByteArray).length ac) ⟨[], ty, nm, key, place, word⟩) 29)
  have hA := Blk.new w3 29 (adV (.slice ao ([] : List ByteArray).length ac) ⟨[], ty, nm, key, place, word⟩)
  have hs2 := hs1.far ((Below.refl w3.heap.size w3).alloc (Nat.le_refl _) (.cells (adV (.slice ao ([] : List ByteArray).length ac) ⟨[], ty, nm, key, place, word⟩) 29))
  have HL3 := Lib.hid (HL.out.trans (hb3.mono HL.out.size))
  have HA3 := Lib.hid hA
  have HS3 := Lib.hid hs2
  clear hb hb3 hA hs1 hs2 HL HG2 C1
  unfold adV at HA3 HS3 HL3 ⊢
  dsimp only [List.length_nil] at HA3 HS3 HL3 ⊢
  go_upto_region 6 with fail
  obtain ⟨W3, hW3⟩ : ∃ W3, w3.alloc (.cells #[.slice ao 0 ac, .string ty, .string nm, .int .i64 key, .int .u64 ((place : Nat) : Int), .string word] 29) = W3 := ⟨_, rfl⟩
  obtain ⟨A, hAA⟩ : ∃ A, w3.heap.size = A := ⟨_, rfl⟩
  rw [hW3] at HA3 HS3 HL3 ⊢
  rw [hAA] at HA3 ⊢
  clear hW3 hAA
  go_wp2_with fail
  refine (C2.out _).mono ?_
  intro e w4 hh
  obtain ⟨⟨qv, hs1, rfl⟩, hb⟩ := hh
  obtain ⟨bo, bc, rfl⟩ := hs1.len
  have hl4 := (Below.refl w4.heap.size w4).alloc (Nat.le_refl _) (.cells (adV (.slice bo ([] : List ByteArray).length bc) ⟨[], ty, nm, key, place, word⟩) 29)
  have hb4 := hb.trans (hl4.mono hb.size)
  have HB4 := Lib.hid (Blk.new w4 29 (adV (.slice bo ([] : List ByteArray).length bc) ⟨[], ty, nm, key, place, word⟩))
  have HT4 := Lib.hid (hs1.far hl4)
  have HA4 := Lib.hid (HA3.out.below hb4 HA3.out.lt)
  have HS4 := Lib.hid (HS3.out.far hb4)
  have HL4 := Lib.hid (HL3.out.trans (hb4.mono HL3.out.size))
  clear hb hb4 hl4 hs1 HA3 HS3 HL3 C2
  unfold adV at HB4 HT4 HA4 HS4 HL4 ⊢
  dsimp only [List.length_nil] at HB4 HT4 HA4 HS4 HL4 ⊢
  go_upto_region 7 with fail
  obtain ⟨W4, hW4⟩ : ∃ W4, w4.alloc (.cells #[.slice bo 0 bc, .string ty, .string nm, .int .i64 key, .int .u64 ((place : Nat) : Int), .string word] 29) = W4 := ⟨_, rfl⟩
  obtain ⟨B, hBB⟩ : ∃ B, w4.heap.size = B := ⟨_, rfl⟩
  rw [hW4] at HB4 HT4 HA4 HS4 HL4 ⊢
  rw [hBB] at HB4 ⊢
  clear hW4 hBB
  have CS : Hid (Calls Tryz.prog 17 #[.agg #[.slice ao 0 ac, .string ty, .string nm, .int .i64 key, .int .u64 ((place : Nat) : Int), .string word], .agg #[.slice bo 0 bc, .string ty, .string nm, .int .i64 key, .int .u64 ((place : Nat) : Int), .string word]] W4 fun e w' => e = .returned (.bool true) ∧ Below W4.heap.size W4 w') := by
    have := rasame_any (.slice ao 0 ac) (.slice bo 0 bc) ⟨[], ty, nm, key, place, word⟩ ⟨[], ty, nm, key, place, word⟩ W4 HS4.out HT4.out (by simp) (by simp)
    rw [decide_eq_true rfl] at this
    exact this
  have a0 : W4.cell? ⟨A, 0, none⟩ = some (.slice ao 0 ac) := HA4.out.cell 0
  have a1 : W4.cell? ⟨A, 1, none⟩ = some (.string ty) := HA4.out.cell 1
  have a2 : W4.cell? ⟨A, 2, none⟩ = some (.string nm) := HA4.out.cell 2
  have a3 : W4.cell? ⟨A, 3, none⟩ = some (.int .i64 key) := HA4.out.cell 3
  have a4 : W4.cell? ⟨A, 4, none⟩ = some (.int .u64 ((place : Nat) : Int)) := HA4.out.cell 4
  have a5 : W4.cell? ⟨A, 5, none⟩ = some (.string word) := HA4.out.cell 5
  have b0 : W4.cell? ⟨B, 0, none⟩ = some (.slice bo 0 bc) := HB4.out.cell 0
  have b1 : W4.cell? ⟨B, 1, none⟩ = some (.string ty) := HB4.out.cell 1
  have b2 : W4.cell? ⟨B, 2, none⟩ = some (.string nm) := HB4.out.cell 2
  have b3 : W4.cell? ⟨B, 3, none⟩ = some (.int .i64 key) := HB4.out.cell 3
  have b4 : W4.cell? ⟨B, 4, none⟩ = some (.int .u64 ((place : Nat) : Int)) := HB4.out.cell 4
  have b5 : W4.cell? ⟨B, 5, none⟩ = some (.string word) := HB4.out.cell 5
  go_wp2_with fail
  refine CS.out.mono ?_
  rintro e w5 ⟨rfl, hb⟩
  have HA5 := Lib.hid (HA4.out.below hb HA4.out.lt)
  have HL5 := Lib.hid (HL4.out.trans (hb.mono HL4.out.size))
  clear hb a0 a1 a2 a3 a4 a5 b0 b1 b2 b3 b4 b5 HA4 HB4 HS4 HT4 HL4 CS
  have a0 : w5.cell? ⟨A, 0, none⟩ = some (.slice ao 0 ac) := HA5.out.cell 0
  have a3 : w5.cell? ⟨A, 3, none⟩ = some (.int .i64 key) := HA5.out.cell 3
  rcases hxk with ⟨rfl, rfl⟩ | ⟨rfl, rfl⟩
  · go_wp2_with fail
    go_ret
    exact ⟨rfl, HL5.out⟩
  · go_wp2_with fail
    go_ret
    exact ⟨rfl, HL5.out⟩
end Go.Proofs.YtdfihhebgllpcaaGreatDoor

/- From what a row lists (the tables), and from the world's shape, to the fact that the walks ask for: 'AdG'. -/
namespace Go.Proofs.YtdfihhebgllpcaaGreatDoor
open Go.RowKit

theorem laid_pow {W : World} {l : List (String × DataW Unit)} (hL : laidMetH Tryz.prog l W)
    (h1 : l.filter (fun x => x.1 == "internal/strconv.uint64pow10") = [("internal/strconv.uint64pow10", Rows.laid_internal_strconv_uint64pow10)]) :
    Lib.TabIs Tryz.prog W "internal/strconv.uint64pow10" .u64 Lib.pow10Tab := by
  have h := hL.filter (fun x => x.1 == "internal/strconv.uint64pow10")
  rw [h1] at h
  rw [MakeChecks.laidMetH_plain _ _ _ (by kernel_rfl)] at h
  exact Lib.tabIs_of_head (k := .u64) (zs := Lib.pow10Tab) (rest := []) (g := 1) (t := 196) (e := 24) (n := 20) (by kernel_rfl) (by kernel_rfl) (by kernel_rfl) (by kernel_rfl) (by kernel_rfl) (by kernel_rfl) h

theorem cells_six {H : Type} {enc : TypeId × Value → H} {P : Program} {w : World} {base : Nat} {sp : Nat → Bool} {held : Bool} {fuel : Nat} {t e : TypeId} {cs : List Value} {d : DataW H} {p : List MemPlace}
    (ht : P.underlying t = some (.array 6 e)) (he : P.underlying e = some (.int .i64)) (hce : P.cellsOf e = 1)
    (h : DataW.trod enc P w base sp held fuel t cs = some (d, p)) (zs : List Int) (hd : d = Lib.tabData .i64 zs) (k : Nat) (hk : k < 6) : cs[k]? = some (.int .i64 (zs.getD k 0)) := by
  obtain ⟨xs, m, _, ex, _, hl, hel⟩ := DataW.trod_array ht h
  have hE := hel k hk
  rw [hce, Nat.mul_one, List.getElem?_eq_getElem (by omega)] at hE
  obtain ⟨z, e1, e2, _⟩ := DataW.trod_int he hE
  have e3 : (xs.map (·.1)) = zs.map fun n => .lit (.int .i64 n) := by
    have := (Prod.mk.inj ex).1
    rw [hd] at this
    exact (DataW.agg.inj this).symm
  have hz : zs.length = 6 := by have := congrArg List.length e3; simp at this; omega
  have e4 : (xs.map (·.1))[k]? = (zs.map fun n => (DataW.lit (.int .i64 n) : DataW H))[k]? := by rw [e3]
  rw [List.getElem?_map, List.getElem?_map, List.getElem?_eq_getElem (by omega : k < xs.length), List.getElem?_eq_getElem (by omega : k < zs.length), e2] at e4
  have hzz : z = zs.getD k 0 := by
    simp only [Option.map_some, Option.some.injEq, DataW.lit.injEq, Lit.int.injEq, true_and] at e4
    rw [e4, List.getD, List.getElem?_eq_getElem (by omega : k < zs.length)]; rfl
  have : cs[k]? = some (.int .i64 z) := by
    have h0 : ((cs.drop k).take 1)[0]? = some (.int .i64 z) := by rw [e1]; rfl
    simpa using h0
  rw [this, hzz]

theorem laid_next {W : World} {l : List (String × DataW Unit)} (hL : laidMetH Tryz.prog l W)
    (h1 : l.filter (fun x => x.1 == "tabularium/num.next") = [("tabularium/num.next", Rows.laid_tabularium_num_next)]) :
    ∀ q k, q < 9 → k < 6 → W.cell? ⟨10, q * 6 + k, none⟩ = some (.int .i64 (NumPlain.nxt q k)) := by
  have h := hL.filter (fun x => x.1 == "tabularium/num.next")
  rw [h1] at h
  rw [MakeChecks.laidMetH_plain _ _ _ (by kernel_rfl)] at h
  obtain ⟨ps, ⟨g, t, cs, fuel, p, q', hg, ht, hv, hd, _, _⟩, _, _⟩ := h
  obtain rfl := Option.some.inj ((show Tryz.prog.globalNamed "tabularium/num.next" = some 10 by kernel_rfl).symm.trans hg)
  obtain rfl := Option.some.inj ((show (Tryz.prog.globals[10]?).map (·.type) = some 248 by kernel_rfl).symm.trans ht)
  obtain ⟨xs, m, _, ex, _, hl, hel⟩ := DataW.trod_array (show Tryz.prog.underlying 248 = some (.array 9 247) by kernel_rfl) hd
  intro q k hq hk
  have hE := hel q hq
  rw [show Tryz.prog.cellsOf 247 = 6 by kernel_rfl, List.getElem?_eq_getElem (by omega)] at hE
  have e3 : xs.map (·.1) = (NumPlain.table.map fun r => Lib.tabData .i64 (r.map Int.ofNat)) := by
    have := (DataW.agg.inj (Prod.mk.inj ex).1).symm
    exact this
  have hq2 : q < NumPlain.table.length := hq
  have e4 : (xs[q]).1 = Lib.tabData .i64 (NumPlain.table[q].map Int.ofNat) := by
    have := congrArg (·[q]?) e3
    simp only [List.getElem?_map, List.getElem?_eq_getElem (by omega : q < xs.length), List.getElem?_eq_getElem hq2, Option.map_some, Option.some.injEq] at this
    exact this
  have hc := cells_six (cs := (cs.toList.drop (q * 6)).take 6) (fuel := m) (d := (xs[q]).1) (p := (xs[q]).2) (show Tryz.prog.underlying 247 = some (.array 6 3) by kernel_rfl) (by kernel_rfl) (by kernel_rfl) (by rw [hE]) _ e4 k hk
  rw [World.var?_cell hg hv (q * 6 + k)]
  have h6 : cs.toList[q * 6 + k]? = ((cs.toList.drop (q * 6)).take 6)[k]? := by
    rw [List.getElem?_take, if_pos hk, List.getElem?_drop]
  rw [← Array.getElem?_toList, h6, hc]
  have hz : (NumPlain.table[q].map Int.ofNat).getD k 0 = ((NumPlain.nxt q k : Nat) : Int) := by
    have : ∀ q : Fin 9, ∀ k : Fin 6, ((NumPlain.table.getD q []).map Int.ofNat).getD k 0 = ((NumPlain.nxt q k : Nat) : Int) := by decide
    have h := this ⟨q, hq⟩ ⟨k, hk⟩
    simpa [List.getD, List.getElem?_eq_getElem hq2] using h
  rw [hz]

theorem shaped_max {W : World} (h : W.ShapedOpen Tryz.prog) : ∃ m, W.cell? ⟨0, 0, none⟩ = some (.int .i64 m) :=
  cell_of_shapedOpen_int (zero := #[.int .i64 0]) (t := 3) h (of_decide_eq_true (by kernel_rfl)) (by kernel_rfl) rfl (by kernel_rfl) (by kernel_rfl) Tryz.underlying3

theorem shaped_size {W : World} (h : W.ShapedOpen Tryz.prog) : 11 ≤ W.heap.size := by
  obtain ⟨cs, hh, _⟩ := h.1 10 ((((begin Tryz.prog (fun _ _ => 0) default).world.heap[10]?).bind Obj.row?).getD (#[], 0)).1 ((((begin Tryz.prog (fun _ _ => 0) default).world.heap[10]?).bind Obj.row?).getD (#[], 0)).2 (of_decide_eq_true (by kernel_rfl)) (by kernel_rfl)
  rcases Nat.lt_or_ge 10 W.heap.size with h | h
  · exact h
  · rw [Array.getElem?_eq_none h] at hh; cases hh

theorem glob_of {W : World} {l : List (String × DataW Unit)} (hL : laidMetH Tryz.prog l W) (hS : W.ShapedOpen Tryz.prog)
    (h1 : l.filter (fun x => x.1 == "internal/strconv.uint64pow10") = [("internal/strconv.uint64pow10", Rows.laid_internal_strconv_uint64pow10)])
    (h2 : l.filter (fun x => x.1 == "tabularium/num.next") = [("tabularium/num.next", Rows.laid_tabularium_num_next)]) : Glob W :=
  ⟨laid_next hL h2, shaped_max hS, laid_pow hL h1, shaped_size hS⟩

/-- A global's block, whole. -/
theorem blk_of {W : World} (hS : W.ShapedOpen Tryz.prog) (name : String) (g : Nat) (t : TypeId) (zero : Array Value) (hg : Tryz.prog.globalNamed name = some g) (hlt : g < Tryz.prog.globals.size)
    (hz : ((begin Tryz.prog (fun _ _ => 0) default).world.heap[g]?).bind Obj.row? = some (zero, t)) (cs : Array Value) (hv : W.var? Tryz.prog name = some cs) : Blk W g t cs := by
  obtain ⟨cs0, hh, _⟩ := hS.1 g zero t hlt hz
  unfold World.var? at hv
  rw [hg] at hv
  simp only [Option.bind_some, hh] at hv
  injection hv with hv
  rw [← hv]
  exact hh
theorem list_one {l : List Value} {i : Nat} {v : Value} (h : (l.drop i).take 1 = [v]) : l[i]? = some v := by
  have : ((l.drop i).take 1)[0]? = some v := by rw [h]; rfl
  simpa using this
theorem cells_str {H : Type} {enc : TypeId × Value → H} {P : Program} {w : World} {base : Nat} {sp : Nat → Bool} {held : Bool} {fuel : Nat} {t e : TypeId} {cs : List Value} {d : DataW H} {p : List MemPlace} {n : Nat}
    (ht : P.underlying t = some (.array n e)) (he : P.underlying e = some .string) (hce : P.cellsOf e = 1) (hct : P.cellsOf t = n)
    (h : DataW.trod enc P w base sp held fuel t cs = some (d, p)) (L : List (List UInt8)) (hL : L.length = n) (hd : d = .agg (L.map fun x => .lit (.string x))) : cs = L.map fun x => .string (AddrPlain.mk x) := by
  obtain ⟨xs, m, _, ex, hcl, hl, hel⟩ := DataW.trod_array ht h
  have e3 : (xs.map (·.1)) = L.map fun x => .lit (.string x) := by
    have := (Prod.mk.inj ex).1
    rw [hd] at this
    exact (DataW.agg.inj this).symm
  apply List.ext_getElem?
  intro i
  rcases Nat.lt_or_ge i n with hi | hi
  · have hE := hel i hi
    rw [hce, Nat.mul_one, List.getElem?_eq_getElem (by omega)] at hE
    obtain ⟨s, e1, e2, _⟩ := DataW.trod_string he hE
    have e4 := congrArg (·[i]?) e3
    simp only [List.getElem?_map, List.getElem?_eq_getElem (by omega : i < xs.length), List.getElem?_eq_getElem (by omega : i < L.length), Option.map_some, Option.some.injEq, e2, DataW.lit.injEq, Lit.string.injEq] at e4
    rw [list_one e1, List.getElem?_map, List.getElem?_eq_getElem (by omega : i < L.length), Option.map_some, ← e4, AddrPlain.mk_eta]
  · rw [List.getElem?_eq_none (by omega), List.getElem?_eq_none (by rw [List.length_map]; omega)]
set_option maxRecDepth 100000 in
theorem cells_form {H : Type} {enc : TypeId × Value → H} {w : World} {base : Nat} {sp : Nat → Bool} {held : Bool} {fuel : Nat} {cs : List Value} {d : DataW H} {p : List MemPlace}
    (h : DataW.trod enc Tryz.prog w base sp held fuel 208 cs = some (d, p)) (a b c : Int) (hd : d = .agg [.lit (.int .i64 a), .lit (.int .i64 b), .lit (.int .i64 c)]) : cs = [.int .i64 a, .int .i64 b, .int .i64 c] := by
  obtain ⟨xs, n, _, ex, hl, hxl, hfs⟩ := DataW.trod_struct Tryz.underlying208 h
  have hc : Tryz.prog.cellsOf 208 = 3 := by kernel_rfl
  rw [hc] at hl
  have e3 : (xs.map (·.1)) = [.lit (.int .i64 a), .lit (.int .i64 b), .lit (.int .i64 c)] := by
    have := (Prod.mk.inj ex).1
    rw [hd] at this
    exact (DataW.agg.inj this).symm
  match cs, hl with
  | [v0, v1, v2], _ =>
    have h0 := hfs 0 _ rfl
    have h1 := hfs 1 _ rfl
    have h2 := hfs 2 _ rfl
    match xs, e3 with
    | [x0, x1, x2], e3 =>
      simp only [List.map_cons, List.map_nil, List.cons.injEq, and_true] at e3
      obtain ⟨f0, f1, f2⟩ := e3
      obtain ⟨z0, g0, k0, _⟩ := DataW.trod_int (k := .i64) (by kernel_rfl) h0
      obtain ⟨z1, g1, k1, _⟩ := DataW.trod_int (k := .i64) (by kernel_rfl) h1
      obtain ⟨z2, g2, k2, _⟩ := DataW.trod_int (k := .i64) (by kernel_rfl) h2
      have q0 : ([v0] : List Value) = [.int .i64 z0] := g0
      have q1 : ([v1] : List Value) = [.int .i64 z1] := g1
      have q2 : ([v2] : List Value) = [.int .i64 z2] := g2
      rw [k0] at f0
      rw [k1] at f1
      rw [k2] at f2
      simp only [DataW.lit.injEq, Lit.int.injEq, true_and] at f0 f1 f2
      rw [(List.cons.inj q0).1, (List.cons.inj q1).1, (List.cons.inj q2).1, f0, f1, f2]
set_option maxRecDepth 100000 in
theorem forms_of {W : World} {l : List (String × DataW Unit)} (hL : laidMetH Tryz.prog l W) (hS : W.ShapedOpen Tryz.prog)
    (h1 : l.filter (fun x => x.1 == "tabularium/utf.forms") = [("tabularium/utf.forms", Rows.laid_tabularium_utf_forms)]) : FormsAt W := by
  have h := hL.filter (fun x => x.1 == "tabularium/utf.forms")
  rw [h1] at h
  rw [MakeChecks.laidMetH_plain _ _ _ (by kernel_rfl)] at h
  obtain ⟨ps, ⟨g, t, cs, fuel, p, q', hg, ht, hv, hd, _, _⟩, _, _⟩ := h
  have hg0 := hg
  obtain rfl := Option.some.inj ((show Tryz.prog.globalNamed "tabularium/utf.forms" = some 2 by kernel_rfl).symm.trans hg)
  obtain rfl := Option.some.inj ((show (Tryz.prog.globals[2]?).map (·.type) = some 212 by kernel_rfl).symm.trans ht)
  have hb := blk_of hS "tabularium/utf.forms" 2 212 ((((begin Tryz.prog (fun _ _ => 0) default).world.heap[2]?).bind Obj.row?).getD (#[], 0)).1 hg0 (of_decide_eq_true (by kernel_rfl)) (by kernel_rfl) cs hv
  obtain ⟨xs, m, _, ex, hcl, hl, hel⟩ := DataW.trod_array (show Tryz.prog.underlying 212 = some (.array 4 208) by kernel_rfl) hd
  rw [show Tryz.prog.cellsOf 212 = 12 by kernel_rfl] at hcl
  have e3 : xs.map (·.1) = [.agg [.lit (.int .i64 128), .lit (.int .i64 0), .lit (.int .i64 0)], .agg [.lit (.int .i64 2048), .lit (.int .i64 192), .lit (.int .i64 1)], .agg [.lit (.int .i64 65536), .lit (.int .i64 224), .lit (.int .i64 2)], .agg [.lit (.int .i64 1114112), .lit (.int .i64 240), .lit (.int .i64 3)]] := (DataW.agg.inj (Prod.mk.inj ex).1).symm
  have hc3 : Tryz.prog.cellsOf 208 = 3 := by kernel_rfl
  match xs, e3 with
  | [x0, x1, x2, x3], e3 =>
    simp only [List.map_cons, List.map_nil, List.cons.injEq, and_true] at e3
    obtain ⟨f0, f1, f2, f3⟩ := e3
    have h0 := hel 0 (by omega)
    have h1 := hel 1 (by omega)
    have h2 := hel 2 (by omega)
    have h3 := hel 3 (by omega)
    rw [hc3] at h0 h1 h2 h3
    have c0 := cells_form (d := x0.1) (p := x0.2) h0 128 0 0 f0
    have c1 := cells_form (d := x1.1) (p := x1.2) h1 2048 192 1 f1
    have c2 := cells_form (d := x2.1) (p := x2.2) h2 65536 224 2 f2
    have c3 := cells_form (d := x3.1) (p := x3.2) h3 1114112 240 3 f3
    have hcs : cs = #[.int .i64 128, .int .i64 0, .int .i64 0, .int .i64 2048, .int .i64 192, .int .i64 1, .int .i64 65536, .int .i64 224, .int .i64 2, .int .i64 1114112, .int .i64 240, .int .i64 3] := by
      obtain ⟨c⟩ := cs
      match c, hcl with
      | [v0, v1, v2, v3, v4, v5, v6, v7, v8, v9, v10, v11], _ =>
        have d0 : [v0, v1, v2] = [.int .i64 128, .int .i64 0, .int .i64 0] := c0
        have d1 : [v3, v4, v5] = [.int .i64 2048, .int .i64 192, .int .i64 1] := c1
        have d2 : [v6, v7, v8] = [.int .i64 65536, .int .i64 224, .int .i64 2] := c2
        have d3 : [v9, v10, v11] = [.int .i64 1114112, .int .i64 240, .int .i64 3] := c3
        simp only [List.cons.injEq, and_true] at d0 d1 d2 d3
        obtain ⟨rfl, rfl, rfl⟩ := d0
        obtain ⟨rfl, rfl, rfl⟩ := d1
        obtain ⟨rfl, rfl, rfl⟩ := d2
        obtain ⟨rfl, rfl, rfl⟩ := d3
        rfl
    rw [hcs] at hb
    exact hb
set_option maxRecDepth 100000 in
theorem signs_of {W : World} {l : List (String × DataW Unit)} (hL : laidMetH Tryz.prog l W) (hS : W.ShapedOpen Tryz.prog)
    (h1 : l.filter (fun x => x.1 == "tabularium/lex.signs") = [("tabularium/lex.signs", Rows.laid_tabularium_lex_signs)]) : SignsAt W := by
  have h := hL.filter (fun x => x.1 == "tabularium/lex.signs")
  rw [h1] at h
  rw [MakeChecks.laidMetH_plain _ _ _ (by kernel_rfl)] at h
  obtain ⟨ps, ⟨g, t, cs, fuel, p, q', hg, ht, hv, hd, _, _⟩, _, _⟩ := h
  have hg0 := hg
  obtain rfl := Option.some.inj ((show Tryz.prog.globalNamed "tabularium/lex.signs" = some 5 by kernel_rfl).symm.trans hg)
  obtain rfl := Option.some.inj ((show (Tryz.prog.globals[5]?).map (·.type) = some 232 by kernel_rfl).symm.trans ht)
  have hb := blk_of hS "tabularium/lex.signs" 5 232 ((((begin Tryz.prog (fun _ _ => 0) default).world.heap[5]?).bind Obj.row?).getD (#[], 0)).1 hg0 (of_decide_eq_true (by kernel_rfl)) (by kernel_rfl) cs hv
  have hcs := cells_str (show Tryz.prog.underlying 232 = some (.array 25 9) by kernel_rfl) Tryz.underlying9 (by kernel_rfl) (by kernel_rfl) hd [[61, 61], [33, 61], [60, 61], [62, 61], [38, 38], [124, 124], [61], [60], [62], [43], [45], [42], [47], [37], [33], [63], [58], [44], [46], [40], [41], [91], [93], [123], [125]] rfl rfl
  have hcs2 : cs = signA := by
    obtain ⟨c⟩ := cs
    have : c = signA.toList := hcs
    rw [this]
  rw [hcs2] at hb
  exact hb
theorem errCell_of {W : World} {l : List (String × DataW Unit)} (hL : laidMetH Tryz.prog l W) (hS : W.ShapedOpen Tryz.prog)
    (h1 : l.filter (fun x => x.1 == "strconv.ErrRange") = [("strconv.ErrRange", Rows.laid_strconv_ErrRange)]) : ErrCell 4 W := by
  have h := hL.filter (fun x => x.1 == "strconv.ErrRange")
  rw [h1] at h
  rw [MakeChecks.laidMetH_plain _ _ _ (by kernel_rfl)] at h
  obtain ⟨ps, ⟨g, t, cs, fuel, p, q', hg, ht, hv, hd, _, _⟩, _, _⟩ := h
  have hg0 := hg
  obtain rfl := Option.some.inj ((show Tryz.prog.globalNamed "strconv.ErrRange" = some 4 by kernel_rfl).symm.trans hg)
  obtain rfl := Option.some.inj ((show (Tryz.prog.globals[4]?).map (·.type) = some 116 by kernel_rfl).symm.trans ht)
  obtain ⟨f1, u, v, hcs, _, _⟩ := iface_of_trod Tryz.underlying116 hd
  have h9 := shaped_size hS
  refine ⟨Nat.lt_of_lt_of_le (by decide) h9, u, v, ?_⟩
  rw [World.var?_cell hg0 hv 0, ← Array.getElem?_toList, hcs]
  rfl
theorem synCell_of {W : World} {l : List (String × DataW Unit)} (hL : laidMetH Tryz.prog l W) (hS : W.ShapedOpen Tryz.prog)
    (h1 : l.filter (fun x => x.1 == "strconv.ErrSyntax") = [("strconv.ErrSyntax", Rows.laid_strconv_ErrSyntax)]) : ErrCell 3 W := by
  have h := hL.filter (fun x => x.1 == "strconv.ErrSyntax")
  rw [h1] at h
  rw [MakeChecks.laidMetH_plain _ _ _ (by kernel_rfl)] at h
  obtain ⟨ps, ⟨g, t, cs, fuel, p, q', hg, ht, hv, hd, _, _⟩, _, _⟩ := h
  have hg0 := hg
  obtain rfl := Option.some.inj ((show Tryz.prog.globalNamed "strconv.ErrSyntax" = some 3 by kernel_rfl).symm.trans hg)
  obtain rfl := Option.some.inj ((show (Tryz.prog.globals[3]?).map (·.type) = some 116 by kernel_rfl).symm.trans ht)
  obtain ⟨f1, u, v, hcs, _, _⟩ := iface_of_trod Tryz.underlying116 hd
  have h9 := shaped_size hS
  refine ⟨Nat.lt_of_lt_of_le (by decide) h9, u, v, ?_⟩
  rw [World.var?_cell hg0 hv 0, ← Array.getElem?_toList, hcs]
  rfl
set_option maxRecDepth 100000 in
/-- What addresses need, out of a row's tables. -/
theorem adG_of {W : World} {l : List (String × DataW Unit)} (hL : laidMetH Tryz.prog l W) (hS : W.ShapedOpen Tryz.prog)
    (h1 : l.filter (fun x => x.1 == "internal/strconv.uint64pow10") = [("internal/strconv.uint64pow10", Rows.laid_internal_strconv_uint64pow10)])
    (h2 : l.filter (fun x => x.1 == "tabularium/num.next") = [("tabularium/num.next", Rows.laid_tabularium_num_next)])
    (h3 : l.filter (fun x => x.1 == "tabularium/utf.forms") = [("tabularium/utf.forms", Rows.laid_tabularium_utf_forms)])
    (h4 : l.filter (fun x => x.1 == "tabularium/lex.signs") = [("tabularium/lex.signs", Rows.laid_tabularium_lex_signs)])
    (h5 : l.filter (fun x => x.1 == "strconv.ErrSyntax") = [("strconv.ErrSyntax", Rows.laid_strconv_ErrSyntax)])
    (h6 : l.filter (fun x => x.1 == "strconv.ErrRange") = [("strconv.ErrRange", Rows.laid_strconv_ErrRange)]) : AdG W :=
  ⟨⟨glob_of hL hS h1 h2, forms_of hL hS h3, signs_of hL hS h4⟩, synCell_of hL hS h5, errCell_of hL hS h6⟩
end Go.Proofs.YtdfihhebgllpcaaGreatDoor
