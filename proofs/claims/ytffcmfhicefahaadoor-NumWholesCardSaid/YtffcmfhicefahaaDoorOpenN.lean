/- A number that came in: its three cells. -/
import Derived.Test.YtffcmfhicefahaaDoorGlb
import Derived.WideShapes
import Derived.ChangeArms
namespace Go.Proofs.YtffcmfhicefahaaDoor
open Go.RowKit Go.WideShapes

set_option maxRecDepth 100000 in
theorem open_number {H : Type} {enc : TypeId × Value → H} {W : World} {r : Reach} {b0 base : Nat} {sp : Nat → Bool} {held : Bool} {v : Value} {d : DataW H} {ps : List MemPlace}
    (hval : Value.okWide Tryd.prog W r b0 24 v) (hd : DataW.Trod enc Tryd.prog W base sp held 24 v d ps) :
    ∃ (neg : Bool) (s : ByteArray) (x : Int), v = .agg #[.bool neg, .string s, .int .i64 x] ∧ s.size ≤ maxLen := by
  obtain ⟨cs, rfl, hsz⟩ := okWide_struct Tryd.underlying24 hval
  obtain ⟨fuel, hf⟩ := hd
  obtain ⟨xs, n, _, _, hl, hxl, hfs⟩ := DataW.trod_struct Tryd.underlying24 hf
  have hc : Tryd.prog.cellsOf 24 = 3 := by kernel_rfl
  rw [hc] at hsz hl
  obtain ⟨c⟩ := cs
  match c, hsz with
  | [v0, v1, v2], _ =>
    have h0 := hfs 0 _ rfl
    have h1 := hfs 1 _ rfl
    have h2 := hfs 2 _ rfl
    have hx0 : 0 < xs.length := by rw [hxl]; decide
    have hx1 : 1 < xs.length := by rw [hxl]; decide
    have hx2 : 2 < xs.length := by rw [hxl]; decide
    rw [List.getElem?_eq_getElem hx0] at h0
    rw [List.getElem?_eq_getElem hx1] at h1
    rw [List.getElem?_eq_getElem hx2] at h2
    obtain ⟨neg, e0, _⟩ := DataW.trod_bool (by kernel_rfl) h0
    obtain ⟨s, e1, _, hs⟩ := DataW.trod_string (by kernel_rfl) h1
    obtain ⟨x, e2, _, _⟩ := DataW.trod_int (k := .i64) (by kernel_rfl) h2
    have g0 : v0 = .bool neg := by
      have : ([v0] : List Value) = [.bool neg] := e0
      exact (List.cons.inj this).1
    have g1 : v1 = .string s := by
      have : ([v1] : List Value) = [.string s] := e1
      exact (List.cons.inj this).1
    have g2 : v2 = .int .i64 x := by
      have : ([v2] : List Value) = [.int .i64 x] := e2
      exact (List.cons.inj this).1
    subst g0
    subst g1
    subst g2
    exact ⟨neg, s, x, rfl, hs⟩
end Go.Proofs.YtffcmfhicefahaaDoor
