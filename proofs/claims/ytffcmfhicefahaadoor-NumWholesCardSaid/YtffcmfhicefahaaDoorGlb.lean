/- From what a row lists (the tables), and from the world's shape, to the fact that the walks ask for: 'Glob'. -/
import Derived.Test.YtffcmfhicefahaaDoorLaw2
import Derived.Test.YtffcmfhicefahaaDoorRows
import Derived.OpenShut
import Derived.LaidSub
import Derived.MakeChecks
import Derived.Lib.LaidTab
import Derived.Shelf.Vars
namespace Go.Proofs.YtffcmfhicefahaaDoor
open Go.RowKit

theorem laid_pow {W : World} {l : List (String × DataW Unit)} (hL : laidMetH Tryd.prog l W)
    (h1 : l.filter (fun x => x.1 == "internal/strconv.uint64pow10") = [("internal/strconv.uint64pow10", Rows.laid_internal_strconv_uint64pow10)]) :
    Lib.TabIs Tryd.prog W "internal/strconv.uint64pow10" .u64 Lib.pow10Tab := by
  have h := hL.filter (fun x => x.1 == "internal/strconv.uint64pow10")
  rw [h1] at h
  rw [MakeChecks.laidMetH_plain _ _ _ (by kernel_rfl)] at h
  exact Lib.tabIs_of_head (k := .u64) (zs := Lib.pow10Tab) (rest := []) (g := 4) (t := 118) (e := 40) (n := 20) (by kernel_rfl) (by kernel_rfl) (by kernel_rfl) (by kernel_rfl) (by kernel_rfl) (by kernel_rfl) h

theorem cells_six {H : Type} {enc : TypeId × Value → H} {P : Program} {w : World} {base : Nat} {sp : Nat → Bool} {held : Bool} {fuel : Nat} {t e : TypeId} {cs : List Value} {d : DataW H} {p : List MemPlace}
    (ht : P.underlying t = some (.array 6 e)) (he : P.underlying e = some (.int .i64)) (hce : P.cellsOf e = 1)
    (h : DataW.trod enc P w base sp held fuel t cs = some (d, p)) (zs : List Int) (hd : d = Lib.tabData .i64 zs) (k : Nat) (hk : k < 6) : cs[k]? = some (.int .i64 (zs.getD k 0)) := by
  obtain ⟨xs, m, _, ex, _, hl, hel⟩ := DataW.trod_array ht h
  have hE := hel k hk
  rw [hce, Nat.mul_one, List.getElem?_eq_getElem (by omega)] at hE
  obtain ⟨z, e1, e2, _⟩ := DataW.trod_int he hE
  have e3 : (xs.map (·.1)) = zs.map fun n => .lit (.int .i64 n) := by
    have := (Prod.mk.inj ex).1
    rw [hd] at this
    exact (DataW.agg.inj this).symm
  have hz : zs.length = 6 := by have := congrArg List.length e3; simp at this; omega
  have e4 : (xs.map (·.1))[k]? = (zs.map fun n => (DataW.lit (.int .i64 n) : DataW H))[k]? := by rw [e3]
  rw [List.getElem?_map, List.getElem?_map, List.getElem?_eq_getElem (by omega : k < xs.length), List.getElem?_eq_getElem (by omega : k < zs.length), e2] at e4
  have hzz : z = zs.getD k 0 := by
    simp only [Option.map_some, Option.some.injEq, DataW.lit.injEq, Lit.int.injEq, true_and] at e4
    rw [e4, List.getD, List.getElem?_eq_getElem (by omega : k < zs.length)]; rfl
  have : cs[k]? = some (.int .i64 z) := by
    have h0 : ((cs.drop k).take 1)[0]? = some (.int .i64 z) := by rw [e1]; rfl
    simpa using h0
  rw [this, hzz]

theorem laid_next {W : World} {l : List (String × DataW Unit)} (hL : laidMetH Tryd.prog l W)
    (h1 : l.filter (fun x => x.1 == "tabularium/num.next") = [("tabularium/num.next", Rows.laid_tabularium_num_next)]) :
    ∀ q k, q < 9 → k < 6 → W.cell? ⟨0, q * 6 + k, none⟩ = some (.int .i64 (NumPlain.nxt q k)) := by
  have h := hL.filter (fun x => x.1 == "tabularium/num.next")
  rw [h1] at h
  rw [MakeChecks.laidMetH_plain _ _ _ (by kernel_rfl)] at h
  obtain ⟨ps, ⟨g, t, cs, fuel, p, q', hg, ht, hv, hd, _, _⟩, _, _⟩ := h
  obtain rfl := Option.some.inj ((show Tryd.prog.globalNamed "tabularium/num.next" = some 0 by kernel_rfl).symm.trans hg)
  obtain rfl := Option.some.inj ((show (Tryd.prog.globals[0]?).map (·.type) = some 55 by kernel_rfl).symm.trans ht)
  obtain ⟨xs, m, _, ex, _, hl, hel⟩ := DataW.trod_array (show Tryd.prog.underlying 55 = some (.array 9 54) by kernel_rfl) hd
  intro q k hq hk
  have hE := hel q hq
  rw [show Tryd.prog.cellsOf 54 = 6 by kernel_rfl, List.getElem?_eq_getElem (by omega)] at hE
  have e3 : xs.map (·.1) = (NumPlain.table.map fun r => Lib.tabData .i64 (r.map Int.ofNat)) := by
    have := (DataW.agg.inj (Prod.mk.inj ex).1).symm
    exact this
  have hq2 : q < NumPlain.table.length := hq
  have e4 : (xs[q]).1 = Lib.tabData .i64 (NumPlain.table[q].map Int.ofNat) := by
    have := congrArg (·[q]?) e3
    simp only [List.getElem?_map, List.getElem?_eq_getElem (by omega : q < xs.length), List.getElem?_eq_getElem hq2, Option.map_some, Option.some.injEq] at this
    exact this
  have hc := cells_six (cs := (cs.toList.drop (q * 6)).take 6) (fuel := m) (d := (xs[q]).1) (p := (xs[q]).2) (show Tryd.prog.underlying 54 = some (.array 6 3) by kernel_rfl) (by kernel_rfl) (by kernel_rfl) (by rw [hE]) _ e4 k hk
  rw [World.var?_cell hg hv (q * 6 + k)]
  have h6 : cs.toList[q * 6 + k]? = ((cs.toList.drop (q * 6)).take 6)[k]? := by
    rw [List.getElem?_take, if_pos hk, List.getElem?_drop]
  rw [← Array.getElem?_toList, h6, hc]
  have hz : (NumPlain.table[q].map Int.ofNat).getD k 0 = ((NumPlain.nxt q k : Nat) : Int) := by
    have : ∀ q : Fin 9, ∀ k : Fin 6, ((NumPlain.table.getD q []).map Int.ofNat).getD k 0 = ((NumPlain.nxt q k : Nat) : Int) := by decide
    have h := this ⟨q, hq⟩ ⟨k, hk⟩
    simpa [List.getD, List.getElem?_eq_getElem hq2] using h
  rw [hz]

theorem shaped_max {W : World} (h : W.ShapedOpen Tryd.prog) : ∃ m, W.cell? ⟨1, 0, none⟩ = some (.int .i64 m) :=
  cell_of_shapedOpen_int (zero := #[.int .i64 0]) (t := 3) h (of_decide_eq_true (by kernel_rfl)) (by kernel_rfl) rfl (by kernel_rfl) (by kernel_rfl) Tryd.underlying3

theorem shaped_size {W : World} (h : W.ShapedOpen Tryd.prog) : 9 ≤ W.heap.size := by
  obtain ⟨cs, hh, _⟩ := h.1 8 ((((begin Tryd.prog (fun _ _ => 0) default).world.heap[8]?).bind Obj.row?).getD (#[], 0)).1 ((((begin Tryd.prog (fun _ _ => 0) default).world.heap[8]?).bind Obj.row?).getD (#[], 0)).2 (of_decide_eq_true (by kernel_rfl)) (by kernel_rfl)
  rcases Nat.lt_or_ge 8 W.heap.size with h | h
  · exact h
  · rw [Array.getElem?_eq_none h] at hh; cases hh

theorem glob_of {W : World} {l : List (String × DataW Unit)} (hL : laidMetH Tryd.prog l W) (hS : W.ShapedOpen Tryd.prog)
    (h1 : l.filter (fun x => x.1 == "internal/strconv.uint64pow10") = [("internal/strconv.uint64pow10", Rows.laid_internal_strconv_uint64pow10)])
    (h2 : l.filter (fun x => x.1 == "tabularium/num.next") = [("tabularium/num.next", Rows.laid_tabularium_num_next)]) : Glob W :=
  ⟨laid_next hL h2, shaped_max hS, laid_pow hL h1, shaped_size hS⟩
end Go.Proofs.YtffcmfhicefahaaDoor
