/- The walk of the statement NumOrder. -/
import Derived.Test.YtffcmfhicefahaaDoorLaw1
import Derived.Test.YtffcmfhicefahaaDoorCmp1
namespace Go.Proofs.YtffcmfhicefahaaDoor
open Go.RowKit Go.Proofs.NumPlain

theorem three_boxes (w : World) (ca cb cc : Array Value) (t : TypeId) : Blk (((w.alloc (.cells ca t)).alloc (.cells cb t)).alloc (.cells cc t)) w.heap.size t ca ∧ Blk (((w.alloc (.cells ca t)).alloc (.cells cb t)).alloc (.cells cc t)) (w.heap.size + 1) t cb ∧ Blk (((w.alloc (.cells ca t)).alloc (.cells cb t)).alloc (.cells cc t)) (w.heap.size + 2) t cc ∧ Below w.heap.size w (((w.alloc (.cells ca t)).alloc (.cells cb t)).alloc (.cells cc t)) := by
  obtain ⟨h1, h2, h3⟩ := two_boxes w ca cb t
  refine ⟨h1.alloc _, h2.alloc _, ?_, h3.alloc (by simp; omega) _⟩
  have := Blk.new ((w.alloc (.cells ca t)).alloc (.cells cb t)) t cc
  simpa only [World.size_alloc, Nat.add_assoc] using this


set_option maxHeartbeats 2000000 in
theorem numOrder_long0 (n0 n1 n2 : Bool) (s0 s1 s2 : ByteArray) (x0 x1 x2 : Int) (w : World) (hl : 1200 < s0.size) (hG : Glob w) : Calls Tryd.prog 7 #[.agg #[.bool n0, .string s0, .int .i64 x0], .agg #[.bool n1, .string s1, .int .i64 x1], .agg #[.bool n2, .string s2, .int .i64 x2]] w fun e w' => e = .returned (.bool true) ∧ Below w.heap.size w w' := by
  have g0 : (1200 : Int) < (s0.size : Int) := by omega
  obtain ⟨h0, h1, h2, hW⟩ := three_boxes w #[.bool n0, .string s0, .int .i64 x0] #[.bool n1, .string s1, .int .i64 x1] #[.bool n2, .string s2, .int .i64 x2] 24
  have H0 := Lib.hid h0
  have H1 := Lib.hid h1
  have H2 := Lib.hid h2
  have HW := Lib.hid hW
  have HGw := Lib.hid hG
  have HG := Lib.hid (hG.below hW)
  clear hG hW h0 h1 h2
  have a00 := H0.out.cell 0
  have a01 := H0.out.cell 1
  have a02 := H0.out.cell 2
  have a10 := H1.out.cell 0
  have a11 := H1.out.cell 1
  have a12 := H1.out.cell 2
  have a20 := H2.out.cell 0
  have a21 := H2.out.cell 1
  have a22 := H2.out.cell 2
  go_enter Tryd.func7, Tryd.ntmps7
  go_wp2_with fail
  refine (wakes_any _ HG.out).mono ?_
  rintro e w1 ⟨rfl, hb⟩
  have K0 := Lib.hid (H0.out.below hb H0.out.lt)
  have K1 := Lib.hid (H1.out.below hb H1.out.lt)
  have K2 := Lib.hid (H2.out.below hb H2.out.lt)
  have KW := Lib.hid (HW.out.trans (hb.mono HW.out.size))
  clear hb HW H0 H1 H2 a00 a01 a02 a10 a11 a12 a20 a21 a22
  have H0 := K0
  have H1 := K1
  have H2 := K2
  have HW := KW
  clear KW K0 K1 K2
  have a00 := H0.out.cell 0
  have a01 := H0.out.cell 1
  have a02 := H0.out.cell 2
  have a10 := H1.out.cell 0
  have a11 := H1.out.cell 1
  have a12 := H1.out.cell 2
  have a20 := H2.out.cell 0
  have a21 := H2.out.cell 1
  have a22 := H2.out.cell 2
  go_wp2_with fail
  go_ret
  exact ⟨rfl, HW.out⟩


set_option maxHeartbeats 2000000 in
theorem numOrder_long1 (n0 n1 n2 : Bool) (s0 s1 s2 : ByteArray) (x0 x1 x2 : Int) (w : World) (hs0 : s0.size ≤ 1200) (hl : 1200 < s1.size) (hG : Glob w) : Calls Tryd.prog 7 #[.agg #[.bool n0, .string s0, .int .i64 x0], .agg #[.bool n1, .string s1, .int .i64 x1], .agg #[.bool n2, .string s2, .int .i64 x2]] w fun e w' => e = .returned (.bool true) ∧ Below w.heap.size w w' := by
  have g0 : ¬ (1200 : Int) < (s0.size : Int) := by omega
  have g1 : (1200 : Int) < (s1.size : Int) := by omega
  obtain ⟨h0, h1, h2, hW⟩ := three_boxes w #[.bool n0, .string s0, .int .i64 x0] #[.bool n1, .string s1, .int .i64 x1] #[.bool n2, .string s2, .int .i64 x2] 24
  have H0 := Lib.hid h0
  have H1 := Lib.hid h1
  have H2 := Lib.hid h2
  have HW := Lib.hid hW
  have HGw := Lib.hid hG
  have HG := Lib.hid (hG.below hW)
  clear hG hW h0 h1 h2
  have a00 := H0.out.cell 0
  have a01 := H0.out.cell 1
  have a02 := H0.out.cell 2
  have a10 := H1.out.cell 0
  have a11 := H1.out.cell 1
  have a12 := H1.out.cell 2
  have a20 := H2.out.cell 0
  have a21 := H2.out.cell 1
  have a22 := H2.out.cell 2
  go_enter Tryd.func7, Tryd.ntmps7
  go_wp2_with fail
  refine (wakes_any _ HG.out).mono ?_
  rintro e w1 ⟨rfl, hb⟩
  have K0 := Lib.hid (H0.out.below hb H0.out.lt)
  have K1 := Lib.hid (H1.out.below hb H1.out.lt)
  have K2 := Lib.hid (H2.out.below hb H2.out.lt)
  have KW := Lib.hid (HW.out.trans (hb.mono HW.out.size))
  clear hb HW H0 H1 H2 a00 a01 a02 a10 a11 a12 a20 a21 a22
  have H0 := K0
  have H1 := K1
  have H2 := K2
  have HW := KW
  clear KW K0 K1 K2
  have a00 := H0.out.cell 0
  have a01 := H0.out.cell 1
  have a02 := H0.out.cell 2
  have a10 := H1.out.cell 0
  have a11 := H1.out.cell 1
  have a12 := H1.out.cell 2
  have a20 := H2.out.cell 0
  have a21 := H2.out.cell 1
  have a22 := H2.out.cell 2
  go_wp2_with fail
  go_ret
  exact ⟨rfl, HW.out⟩


set_option maxHeartbeats 2000000 in
theorem numOrder_long2 (n0 n1 n2 : Bool) (s0 s1 s2 : ByteArray) (x0 x1 x2 : Int) (w : World) (hs0 : s0.size ≤ 1200) (hs1 : s1.size ≤ 1200) (hl : 1200 < s2.size) (hG : Glob w) : Calls Tryd.prog 7 #[.agg #[.bool n0, .string s0, .int .i64 x0], .agg #[.bool n1, .string s1, .int .i64 x1], .agg #[.bool n2, .string s2, .int .i64 x2]] w fun e w' => e = .returned (.bool true) ∧ Below w.heap.size w w' := by
  have g0 : ¬ (1200 : Int) < (s0.size : Int) := by omega
  have g1 : ¬ (1200 : Int) < (s1.size : Int) := by omega
  have g2 : (1200 : Int) < (s2.size : Int) := by omega
  obtain ⟨h0, h1, h2, hW⟩ := three_boxes w #[.bool n0, .string s0, .int .i64 x0] #[.bool n1, .string s1, .int .i64 x1] #[.bool n2, .string s2, .int .i64 x2] 24
  have H0 := Lib.hid h0
  have H1 := Lib.hid h1
  have H2 := Lib.hid h2
  have HW := Lib.hid hW
  have HGw := Lib.hid hG
  have HG := Lib.hid (hG.below hW)
  clear hG hW h0 h1 h2
  have a00 := H0.out.cell 0
  have a01 := H0.out.cell 1
  have a02 := H0.out.cell 2
  have a10 := H1.out.cell 0
  have a11 := H1.out.cell 1
  have a12 := H1.out.cell 2
  have a20 := H2.out.cell 0
  have a21 := H2.out.cell 1
  have a22 := H2.out.cell 2
  go_enter Tryd.func7, Tryd.ntmps7
  go_wp2_with fail
  refine (wakes_any _ HG.out).mono ?_
  rintro e w1 ⟨rfl, hb⟩
  have K0 := Lib.hid (H0.out.below hb H0.out.lt)
  have K1 := Lib.hid (H1.out.below hb H1.out.lt)
  have K2 := Lib.hid (H2.out.below hb H2.out.lt)
  have KW := Lib.hid (HW.out.trans (hb.mono HW.out.size))
  clear hb HW H0 H1 H2 a00 a01 a02 a10 a11 a12 a20 a21 a22
  have H0 := K0
  have H1 := K1
  have H2 := K2
  have HW := KW
  clear KW K0 K1 K2
  have a00 := H0.out.cell 0
  have a01 := H0.out.cell 1
  have a02 := H0.out.cell 2
  have a10 := H1.out.cell 0
  have a11 := H1.out.cell 1
  have a12 := H1.out.cell 2
  have a20 := H2.out.cell 0
  have a21 := H2.out.cell 1
  have a22 := H2.out.cell 2
  go_wp2_with fail
  go_ret
  exact ⟨rfl, HW.out⟩


set_option maxHeartbeats 2000000 in
theorem numOrder_wrong0 (n0 n1 n2 : Bool) (s0 s1 s2 : ByteArray) (x0 x1 x2 : Int) (w : World) (hs0 : s0.size ≤ 1200) (hs1 : s1.size ≤ 1200) (hs2 : s2.size ≤ 1200)  (hf : right ⟨n0, s0.data.toList, x0⟩ = false) (hG : Glob w) : Calls Tryd.prog 7 #[.agg #[.bool n0, .string s0, .int .i64 x0], .agg #[.bool n1, .string s1, .int .i64 x1], .agg #[.bool n2, .string s2, .int .i64 x2]] w fun e w' => e = .returned (.bool true) ∧ Below w.heap.size w w' := by
  have g0 : ¬ (1200 : Int) < (s0.size : Int) := by omega
  have g1 : ¬ (1200 : Int) < (s1.size : Int) := by omega
  have g2 : ¬ (1200 : Int) < (s2.size : Int) := by omega
  have R0 : Hid (∀ w, Calls Tryd.prog 16 #[.agg #[.bool n0, .string s0, .int .i64 x0]] w fun e w' => e = .returned (.bool false) ∧ Below w.heap.size w w') := fun w => by rw [← hf]; exact rright_any n0 s0 x0 w (by omega)
  clear hf hs0 hs1 hs2 
  obtain ⟨h0, h1, h2, hW⟩ := three_boxes w #[.bool n0, .string s0, .int .i64 x0] #[.bool n1, .string s1, .int .i64 x1] #[.bool n2, .string s2, .int .i64 x2] 24
  have H0 := Lib.hid h0
  have H1 := Lib.hid h1
  have H2 := Lib.hid h2
  have HW := Lib.hid hW
  have HGw := Lib.hid hG
  have HG := Lib.hid (hG.below hW)
  clear hG hW h0 h1 h2
  have a00 := H0.out.cell 0
  have a01 := H0.out.cell 1
  have a02 := H0.out.cell 2
  have a10 := H1.out.cell 0
  have a11 := H1.out.cell 1
  have a12 := H1.out.cell 2
  have a20 := H2.out.cell 0
  have a21 := H2.out.cell 1
  have a22 := H2.out.cell 2
  go_enter Tryd.func7, Tryd.ntmps7
  go_wp2_with fail
  refine (wakes_any _ HG.out).mono ?_
  rintro e w1 ⟨rfl, hb⟩
  have K0 := Lib.hid (H0.out.below hb H0.out.lt)
  have K1 := Lib.hid (H1.out.below hb H1.out.lt)
  have K2 := Lib.hid (H2.out.below hb H2.out.lt)
  have KW := Lib.hid (HW.out.trans (hb.mono HW.out.size))
  clear hb HW H0 H1 H2 a00 a01 a02 a10 a11 a12 a20 a21 a22
  have H0 := K0
  have H1 := K1
  have H2 := K2
  have HW := KW
  clear KW K0 K1 K2
  have a00 := H0.out.cell 0
  have a01 := H0.out.cell 1
  have a02 := H0.out.cell 2
  have a10 := H1.out.cell 0
  have a11 := H1.out.cell 1
  have a12 := H1.out.cell 2
  have a20 := H2.out.cell 0
  have a21 := H2.out.cell 1
  have a22 := H2.out.cell 2
  go_wp2_with fail
  refine (R0.out _).mono ?_
  rintro e v0 ⟨rfl, hb⟩
  have K0 := Lib.hid (H0.out.below hb H0.out.lt)
  have K1 := Lib.hid (H1.out.below hb H1.out.lt)
  have K2 := Lib.hid (H2.out.below hb H2.out.lt)
  have KW := Lib.hid (HW.out.trans (hb.mono HW.out.size))
  clear hb HW H0 H1 H2 a00 a01 a02 a10 a11 a12 a20 a21 a22
  have H0 := K0
  have H1 := K1
  have H2 := K2
  have HW := KW
  clear KW K0 K1 K2
  have a00 := H0.out.cell 0
  have a01 := H0.out.cell 1
  have a02 := H0.out.cell 2
  have a10 := H1.out.cell 0
  have a11 := H1.out.cell 1
  have a12 := H1.out.cell 2
  have a20 := H2.out.cell 0
  have a21 := H2.out.cell 1
  have a22 := H2.out.cell 2
  go_wp2_with fail
  go_ret
  exact ⟨rfl, HW.out⟩


set_option maxHeartbeats 2000000 in
theorem numOrder_wrong1 (n0 n1 n2 : Bool) (s0 s1 s2 : ByteArray) (x0 x1 x2 : Int) (w : World) (hs0 : s0.size ≤ 1200) (hs1 : s1.size ≤ 1200) (hs2 : s2.size ≤ 1200) (hr0 : right ⟨n0, s0.data.toList, x0⟩ = true) (hf : right ⟨n1, s1.data.toList, x1⟩ = false) (hG : Glob w) : Calls Tryd.prog 7 #[.agg #[.bool n0, .string s0, .int .i64 x0], .agg #[.bool n1, .string s1, .int .i64 x1], .agg #[.bool n2, .string s2, .int .i64 x2]] w fun e w' => e = .returned (.bool true) ∧ Below w.heap.size w w' := by
  have g0 : ¬ (1200 : Int) < (s0.size : Int) := by omega
  have g1 : ¬ (1200 : Int) < (s1.size : Int) := by omega
  have g2 : ¬ (1200 : Int) < (s2.size : Int) := by omega
  have R0 : Hid (∀ w, Calls Tryd.prog 16 #[.agg #[.bool n0, .string s0, .int .i64 x0]] w fun e w' => e = .returned (.bool true) ∧ Below w.heap.size w w') := fun w => by rw [← hr0]; exact rright_any n0 s0 x0 w (by omega)
  have R1 : Hid (∀ w, Calls Tryd.prog 16 #[.agg #[.bool n1, .string s1, .int .i64 x1]] w fun e w' => e = .returned (.bool false) ∧ Below w.heap.size w w') := fun w => by rw [← hf]; exact rright_any n1 s1 x1 w (by omega)
  clear hf hs0 hs1 hs2 hr0
  obtain ⟨h0, h1, h2, hW⟩ := three_boxes w #[.bool n0, .string s0, .int .i64 x0] #[.bool n1, .string s1, .int .i64 x1] #[.bool n2, .string s2, .int .i64 x2] 24
  have H0 := Lib.hid h0
  have H1 := Lib.hid h1
  have H2 := Lib.hid h2
  have HW := Lib.hid hW
  have HGw := Lib.hid hG
  have HG := Lib.hid (hG.below hW)
  clear hG hW h0 h1 h2
  have a00 := H0.out.cell 0
  have a01 := H0.out.cell 1
  have a02 := H0.out.cell 2
  have a10 := H1.out.cell 0
  have a11 := H1.out.cell 1
  have a12 := H1.out.cell 2
  have a20 := H2.out.cell 0
  have a21 := H2.out.cell 1
  have a22 := H2.out.cell 2
  go_enter Tryd.func7, Tryd.ntmps7
  go_wp2_with fail
  refine (wakes_any _ HG.out).mono ?_
  rintro e w1 ⟨rfl, hb⟩
  have K0 := Lib.hid (H0.out.below hb H0.out.lt)
  have K1 := Lib.hid (H1.out.below hb H1.out.lt)
  have K2 := Lib.hid (H2.out.below hb H2.out.lt)
  have KW := Lib.hid (HW.out.trans (hb.mono HW.out.size))
  clear hb HW H0 H1 H2 a00 a01 a02 a10 a11 a12 a20 a21 a22
  have H0 := K0
  have H1 := K1
  have H2 := K2
  have HW := KW
  clear KW K0 K1 K2
  have a00 := H0.out.cell 0
  have a01 := H0.out.cell 1
  have a02 := H0.out.cell 2
  have a10 := H1.out.cell 0
  have a11 := H1.out.cell 1
  have a12 := H1.out.cell 2
  have a20 := H2.out.cell 0
  have a21 := H2.out.cell 1
  have a22 := H2.out.cell 2
  go_wp2_with fail
  refine (R0.out _).mono ?_
  rintro e v0 ⟨rfl, hb⟩
  have K0 := Lib.hid (H0.out.below hb H0.out.lt)
  have K1 := Lib.hid (H1.out.below hb H1.out.lt)
  have K2 := Lib.hid (H2.out.below hb H2.out.lt)
  have KW := Lib.hid (HW.out.trans (hb.mono HW.out.size))
  clear hb HW H0 H1 H2 a00 a01 a02 a10 a11 a12 a20 a21 a22
  have H0 := K0
  have H1 := K1
  have H2 := K2
  have HW := KW
  clear KW K0 K1 K2
  have a00 := H0.out.cell 0
  have a01 := H0.out.cell 1
  have a02 := H0.out.cell 2
  have a10 := H1.out.cell 0
  have a11 := H1.out.cell 1
  have a12 := H1.out.cell 2
  have a20 := H2.out.cell 0
  have a21 := H2.out.cell 1
  have a22 := H2.out.cell 2
  go_wp2_with fail
  refine (R1.out _).mono ?_
  rintro e v1 ⟨rfl, hb⟩
  have K0 := Lib.hid (H0.out.below hb H0.out.lt)
  have K1 := Lib.hid (H1.out.below hb H1.out.lt)
  have K2 := Lib.hid (H2.out.below hb H2.out.lt)
  have KW := Lib.hid (HW.out.trans (hb.mono HW.out.size))
  clear hb HW H0 H1 H2 a00 a01 a02 a10 a11 a12 a20 a21 a22
  have H0 := K0
  have H1 := K1
  have H2 := K2
  have HW := KW
  clear KW K0 K1 K2
  have a00 := H0.out.cell 0
  have a01 := H0.out.cell 1
  have a02 := H0.out.cell 2
  have a10 := H1.out.cell 0
  have a11 := H1.out.cell 1
  have a12 := H1.out.cell 2
  have a20 := H2.out.cell 0
  have a21 := H2.out.cell 1
  have a22 := H2.out.cell 2
  go_wp2_with fail
  go_ret
  exact ⟨rfl, HW.out⟩


set_option maxHeartbeats 2000000 in
theorem numOrder_wrong2 (n0 n1 n2 : Bool) (s0 s1 s2 : ByteArray) (x0 x1 x2 : Int) (w : World) (hs0 : s0.size ≤ 1200) (hs1 : s1.size ≤ 1200) (hs2 : s2.size ≤ 1200) (hr0 : right ⟨n0, s0.data.toList, x0⟩ = true) (hr1 : right ⟨n1, s1.data.toList, x1⟩ = true) (hf : right ⟨n2, s2.data.toList, x2⟩ = false) (hG : Glob w) : Calls Tryd.prog 7 #[.agg #[.bool n0, .string s0, .int .i64 x0], .agg #[.bool n1, .string s1, .int .i64 x1], .agg #[.bool n2, .string s2, .int .i64 x2]] w fun e w' => e = .returned (.bool true) ∧ Below w.heap.size w w' := by
  have g0 : ¬ (1200 : Int) < (s0.size : Int) := by omega
  have g1 : ¬ (1200 : Int) < (s1.size : Int) := by omega
  have g2 : ¬ (1200 : Int) < (s2.size : Int) := by omega
  have R0 : Hid (∀ w, Calls Tryd.prog 16 #[.agg #[.bool n0, .string s0, .int .i64 x0]] w fun e w' => e = .returned (.bool true) ∧ Below w.heap.size w w') := fun w => by rw [← hr0]; exact rright_any n0 s0 x0 w (by omega)
  have R1 : Hid (∀ w, Calls Tryd.prog 16 #[.agg #[.bool n1, .string s1, .int .i64 x1]] w fun e w' => e = .returned (.bool true) ∧ Below w.heap.size w w') := fun w => by rw [← hr1]; exact rright_any n1 s1 x1 w (by omega)
  have R2 : Hid (∀ w, Calls Tryd.prog 16 #[.agg #[.bool n2, .string s2, .int .i64 x2]] w fun e w' => e = .returned (.bool false) ∧ Below w.heap.size w w') := fun w => by rw [← hf]; exact rright_any n2 s2 x2 w (by omega)
  clear hf hs0 hs1 hs2 hr0 hr1
  obtain ⟨h0, h1, h2, hW⟩ := three_boxes w #[.bool n0, .string s0, .int .i64 x0] #[.bool n1, .string s1, .int .i64 x1] #[.bool n2, .string s2, .int .i64 x2] 24
  have H0 := Lib.hid h0
  have H1 := Lib.hid h1
  have H2 := Lib.hid h2
  have HW := Lib.hid hW
  have HGw := Lib.hid hG
  have HG := Lib.hid (hG.below hW)
  clear hG hW h0 h1 h2
  have a00 := H0.out.cell 0
  have a01 := H0.out.cell 1
  have a02 := H0.out.cell 2
  have a10 := H1.out.cell 0
  have a11 := H1.out.cell 1
  have a12 := H1.out.cell 2
  have a20 := H2.out.cell 0
  have a21 := H2.out.cell 1
  have a22 := H2.out.cell 2
  go_enter Tryd.func7, Tryd.ntmps7
  go_wp2_with fail
  refine (wakes_any _ HG.out).mono ?_
  rintro e w1 ⟨rfl, hb⟩
  have K0 := Lib.hid (H0.out.below hb H0.out.lt)
  have K1 := Lib.hid (H1.out.below hb H1.out.lt)
  have K2 := Lib.hid (H2.out.below hb H2.out.lt)
  have KW := Lib.hid (HW.out.trans (hb.mono HW.out.size))
  clear hb HW H0 H1 H2 a00 a01 a02 a10 a11 a12 a20 a21 a22
  have H0 := K0
  have H1 := K1
  have H2 := K2
  have HW := KW
  clear KW K0 K1 K2
  have a00 := H0.out.cell 0
  have a01 := H0.out.cell 1
  have a02 := H0.out.cell 2
  have a10 := H1.out.cell 0
  have a11 := H1.out.cell 1
  have a12 := H1.out.cell 2
  have a20 := H2.out.cell 0
  have a21 := H2.out.cell 1
  have a22 := H2.out.cell 2
  go_wp2_with fail
  refine (R0.out _).mono ?_
  rintro e v0 ⟨rfl, hb⟩
  have K0 := Lib.hid (H0.out.below hb H0.out.lt)
  have K1 := Lib.hid (H1.out.below hb H1.out.lt)
  have K2 := Lib.hid (H2.out.below hb H2.out.lt)
  have KW := Lib.hid (HW.out.trans (hb.mono HW.out.size))
  clear hb HW H0 H1 H2 a00 a01 a02 a10 a11 a12 a20 a21 a22
  have H0 := K0
  have H1 := K1
  have H2 := K2
  have HW := KW
  clear KW K0 K1 K2
  have a00 := H0.out.cell 0
  have a01 := H0.out.cell 1
  have a02 := H0.out.cell 2
  have a10 := H1.out.cell 0
  have a11 := H1.out.cell 1
  have a12 := H1.out.cell 2
  have a20 := H2.out.cell 0
  have a21 := H2.out.cell 1
  have a22 := H2.out.cell 2
  go_wp2_with fail
  refine (R1.out _).mono ?_
  rintro e v1 ⟨rfl, hb⟩
  have K0 := Lib.hid (H0.out.below hb H0.out.lt)
  have K1 := Lib.hid (H1.out.below hb H1.out.lt)
  have K2 := Lib.hid (H2.out.below hb H2.out.lt)
  have KW := Lib.hid (HW.out.trans (hb.mono HW.out.size))
  clear hb HW H0 H1 H2 a00 a01 a02 a10 a11 a12 a20 a21 a22
  have H0 := K0
  have H1 := K1
  have H2 := K2
  have HW := KW
  clear KW K0 K1 K2
  have a00 := H0.out.cell 0
  have a01 := H0.out.cell 1
  have a02 := H0.out.cell 2
  have a10 := H1.out.cell 0
  have a11 := H1.out.cell 1
  have a12 := H1.out.cell 2
  have a20 := H2.out.cell 0
  have a21 := H2.out.cell 1
  have a22 := H2.out.cell 2
  go_wp2_with fail
  refine (R2.out _).mono ?_
  rintro e v2 ⟨rfl, hb⟩
  have K0 := Lib.hid (H0.out.below hb H0.out.lt)
  have K1 := Lib.hid (H1.out.below hb H1.out.lt)
  have K2 := Lib.hid (H2.out.below hb H2.out.lt)
  have KW := Lib.hid (HW.out.trans (hb.mono HW.out.size))
  clear hb HW H0 H1 H2 a00 a01 a02 a10 a11 a12 a20 a21 a22
  have H0 := K0
  have H1 := K1
  have H2 := K2
  have HW := KW
  clear KW K0 K1 K2
  have a00 := H0.out.cell 0
  have a01 := H0.out.cell 1
  have a02 := H0.out.cell 2
  have a10 := H1.out.cell 0
  have a11 := H1.out.cell 1
  have a12 := H1.out.cell 2
  have a20 := H2.out.cell 0
  have a21 := H2.out.cell 1
  have a22 := H2.out.cell 2
  go_wp2_with fail
  go_ret
  exact ⟨rfl, HW.out⟩


set_option maxHeartbeats 2000000 in
theorem numOrder_right (n0 n1 n2 : Bool) (s0 s1 s2 : ByteArray) (x0 x1 x2 : Int) (w : World) (hs0 : s0.size ≤ 1200) (hs1 : s1.size ≤ 1200) (hs2 : s2.size ≤ 1200) (hr0 : right ⟨n0, s0.data.toList, x0⟩ = true) (hr1 : right ⟨n1, s1.data.toList, x1⟩ = true) (hr2 : right ⟨n2, s2.data.toList, x2⟩ = true) (hG : Glob w) : Calls Tryd.prog 7 #[.agg #[.bool n0, .string s0, .int .i64 x0], .agg #[.bool n1, .string s1, .int .i64 x1], .agg #[.bool n2, .string s2, .int .i64 x2]] w fun e w' => e = .returned (.bool true) ∧ Below w.heap.size w w' := by
  have g0 : ¬ (1200 : Int) < (s0.size : Int) := by omega
  have g1 : ¬ (1200 : Int) < (s1.size : Int) := by omega
  have g2 : ¬ (1200 : Int) < (s2.size : Int) := by omega
  have R0 : Hid (∀ w, Calls Tryd.prog 16 #[.agg #[.bool n0, .string s0, .int .i64 x0]] w fun e w' => e = .returned (.bool true) ∧ Below w.heap.size w w') := fun w => by rw [← hr0]; exact rright_any n0 s0 x0 w (by omega)
  have R1 : Hid (∀ w, Calls Tryd.prog 16 #[.agg #[.bool n1, .string s1, .int .i64 x1]] w fun e w' => e = .returned (.bool true) ∧ Below w.heap.size w w') := fun w => by rw [← hr1]; exact rright_any n1 s1 x1 w (by omega)
  have R2 : Hid (∀ w, Calls Tryd.prog 16 #[.agg #[.bool n2, .string s2, .int .i64 x2]] w fun e w' => e = .returned (.bool true) ∧ Below w.heap.size w w') := fun w => by rw [← hr2]; exact rright_any n2 s2 x2 w (by omega)
  obtain ⟨P, hP⟩ : ∃ c, c = NumPlain.cmpP ⟨n0, s0.data.toList, x0⟩ ⟨n1, s1.data.toList, x1⟩ := ⟨_, rfl⟩
  have C01 : Hid (∀ w, Calls Tryd.prog 19 #[.agg #[.bool n0, .string s0, .int .i64 x0], .agg #[.bool n1, .string s1, .int .i64 x1]] w fun e w' => e = .returned (.int .i64 P) ∧ Below w.heap.size w w') := fun w => by rw [hP]; exact compare_any n0 n1 s0 s1 x0 x1 w hs0 hs1
  obtain ⟨Q, hQ⟩ : ∃ c, c = NumPlain.cmpP ⟨n1, s1.data.toList, x1⟩ ⟨n2, s2.data.toList, x2⟩ := ⟨_, rfl⟩
  have C12 : Hid (∀ w, Calls Tryd.prog 19 #[.agg #[.bool n1, .string s1, .int .i64 x1], .agg #[.bool n2, .string s2, .int .i64 x2]] w fun e w' => e = .returned (.int .i64 Q) ∧ Below w.heap.size w w') := fun w => by rw [hQ]; exact compare_any n1 n2 s1 s2 x1 x2 w hs1 hs2
  obtain ⟨T, hT0⟩ : ∃ c, c = NumPlain.cmpP ⟨n0, s0.data.toList, x0⟩ ⟨n2, s2.data.toList, x2⟩ := ⟨_, rfl⟩
  have C02 : Hid (∀ w, Calls Tryd.prog 19 #[.agg #[.bool n0, .string s0, .int .i64 x0], .agg #[.bool n2, .string s2, .int .i64 x2]] w fun e w' => e = .returned (.int .i64 T) ∧ Below w.heap.size w w') := fun w => by rw [hT0]; exact compare_any n0 n2 s0 s2 x0 x2 w hs0 hs2
  have hT : P ≤ 0 → Q ≤ 0 → T ≤ 0 := fun h1 h2 => by
    rw [hP, cmp_same] at h1
    rw [hQ, cmp_same] at h2
    rw [hT0, cmp_same]
    exact cmpR_trans _ _ _ hr0 hr1 hr2 h1 h2
  have HT : Hid (P ≤ 0 → Q ≤ 0 → T ≤ 0) := hT
  clear hT hT0 hP hQ hs0 hs1 hs2 hr0 hr1 hr2
  obtain ⟨h0, h1, h2, hW⟩ := three_boxes w #[.bool n0, .string s0, .int .i64 x0] #[.bool n1, .string s1, .int .i64 x1] #[.bool n2, .string s2, .int .i64 x2] 24
  have H0 := Lib.hid h0
  have H1 := Lib.hid h1
  have H2 := Lib.hid h2
  have HW := Lib.hid hW
  have HGw := Lib.hid hG
  have HG := Lib.hid (hG.below hW)
  clear hG hW h0 h1 h2
  have a00 := H0.out.cell 0
  have a01 := H0.out.cell 1
  have a02 := H0.out.cell 2
  have a10 := H1.out.cell 0
  have a11 := H1.out.cell 1
  have a12 := H1.out.cell 2
  have a20 := H2.out.cell 0
  have a21 := H2.out.cell 1
  have a22 := H2.out.cell 2
  go_enter Tryd.func7, Tryd.ntmps7
  go_wp2_with fail
  refine (wakes_any _ HG.out).mono ?_
  rintro e w1 ⟨rfl, hb⟩
  have K0 := Lib.hid (H0.out.below hb H0.out.lt)
  have K1 := Lib.hid (H1.out.below hb H1.out.lt)
  have K2 := Lib.hid (H2.out.below hb H2.out.lt)
  have KW := Lib.hid (HW.out.trans (hb.mono HW.out.size))
  clear hb HW H0 H1 H2 a00 a01 a02 a10 a11 a12 a20 a21 a22
  have H0 := K0
  have H1 := K1
  have H2 := K2
  have HW := KW
  clear KW K0 K1 K2
  have a00 := H0.out.cell 0
  have a01 := H0.out.cell 1
  have a02 := H0.out.cell 2
  have a10 := H1.out.cell 0
  have a11 := H1.out.cell 1
  have a12 := H1.out.cell 2
  have a20 := H2.out.cell 0
  have a21 := H2.out.cell 1
  have a22 := H2.out.cell 2
  go_wp2_with fail
  refine (R0.out _).mono ?_
  rintro e v0 ⟨rfl, hb⟩
  have K0 := Lib.hid (H0.out.below hb H0.out.lt)
  have K1 := Lib.hid (H1.out.below hb H1.out.lt)
  have K2 := Lib.hid (H2.out.below hb H2.out.lt)
  have KW := Lib.hid (HW.out.trans (hb.mono HW.out.size))
  clear hb HW H0 H1 H2 a00 a01 a02 a10 a11 a12 a20 a21 a22
  have H0 := K0
  have H1 := K1
  have H2 := K2
  have HW := KW
  clear KW K0 K1 K2
  have a00 := H0.out.cell 0
  have a01 := H0.out.cell 1
  have a02 := H0.out.cell 2
  have a10 := H1.out.cell 0
  have a11 := H1.out.cell 1
  have a12 := H1.out.cell 2
  have a20 := H2.out.cell 0
  have a21 := H2.out.cell 1
  have a22 := H2.out.cell 2
  go_wp2_with fail
  refine (R1.out _).mono ?_
  rintro e v1 ⟨rfl, hb⟩
  have K0 := Lib.hid (H0.out.below hb H0.out.lt)
  have K1 := Lib.hid (H1.out.below hb H1.out.lt)
  have K2 := Lib.hid (H2.out.below hb H2.out.lt)
  have KW := Lib.hid (HW.out.trans (hb.mono HW.out.size))
  clear hb HW H0 H1 H2 a00 a01 a02 a10 a11 a12 a20 a21 a22
  have H0 := K0
  have H1 := K1
  have H2 := K2
  have HW := KW
  clear KW K0 K1 K2
  have a00 := H0.out.cell 0
  have a01 := H0.out.cell 1
  have a02 := H0.out.cell 2
  have a10 := H1.out.cell 0
  have a11 := H1.out.cell 1
  have a12 := H1.out.cell 2
  have a20 := H2.out.cell 0
  have a21 := H2.out.cell 1
  have a22 := H2.out.cell 2
  go_wp2_with fail
  refine (R2.out _).mono ?_
  rintro e v2 ⟨rfl, hb⟩
  have K0 := Lib.hid (H0.out.below hb H0.out.lt)
  have K1 := Lib.hid (H1.out.below hb H1.out.lt)
  have K2 := Lib.hid (H2.out.below hb H2.out.lt)
  have KW := Lib.hid (HW.out.trans (hb.mono HW.out.size))
  clear hb HW H0 H1 H2 a00 a01 a02 a10 a11 a12 a20 a21 a22
  have H0 := K0
  have H1 := K1
  have H2 := K2
  have HW := KW
  clear KW K0 K1 K2
  have a00 := H0.out.cell 0
  have a01 := H0.out.cell 1
  have a02 := H0.out.cell 2
  have a10 := H1.out.cell 0
  have a11 := H1.out.cell 1
  have a12 := H1.out.cell 2
  have a20 := H2.out.cell 0
  have a21 := H2.out.cell 1
  have a22 := H2.out.cell 2
  go_wp2_with fail
  refine (C01.out _).mono ?_
  rintro e y1 ⟨rfl, hb⟩
  have K0 := Lib.hid (H0.out.below hb H0.out.lt)
  have K1 := Lib.hid (H1.out.below hb H1.out.lt)
  have K2 := Lib.hid (H2.out.below hb H2.out.lt)
  have KW := Lib.hid (HW.out.trans (hb.mono HW.out.size))
  clear hb HW H0 H1 H2 a00 a01 a02 a10 a11 a12 a20 a21 a22
  have H0 := K0
  have H1 := K1
  have H2 := K2
  have HW := KW
  clear KW K0 K1 K2
  have a00 := H0.out.cell 0
  have a01 := H0.out.cell 1
  have a02 := H0.out.cell 2
  have a10 := H1.out.cell 0
  have a11 := H1.out.cell 1
  have a12 := H1.out.cell 2
  have a20 := H2.out.cell 0
  have a21 := H2.out.cell 1
  have a22 := H2.out.cell 2
  by_cases hP : 0 < P
  · go_wp2_with fail
    go_ret
    exact ⟨rfl, HW.out⟩
  · go_wp2_with fail
    refine (C12.out _).mono ?_
    rintro e y2 ⟨rfl, hb⟩
    have K0 := Lib.hid (H0.out.below hb H0.out.lt)
    have K1 := Lib.hid (H1.out.below hb H1.out.lt)
    have K2 := Lib.hid (H2.out.below hb H2.out.lt)
    have KW := Lib.hid (HW.out.trans (hb.mono HW.out.size))
    clear hb HW H0 H1 H2 a00 a01 a02 a10 a11 a12 a20 a21 a22
    have H0 := K0
    have H1 := K1
    have H2 := K2
    have HW := KW
    clear KW K0 K1 K2
    have a00 := H0.out.cell 0
    have a01 := H0.out.cell 1
    have a02 := H0.out.cell 2
    have a10 := H1.out.cell 0
    have a11 := H1.out.cell 1
    have a12 := H1.out.cell 2
    have a20 := H2.out.cell 0
    have a21 := H2.out.cell 1
    have a22 := H2.out.cell 2
    by_cases hQ : 0 < Q
    · go_wp2_with fail
      go_ret
      exact ⟨rfl, HW.out⟩
    · have hT := HT.out (by omega) (by omega)
      go_wp2_with fail
      refine (C02.out _).mono ?_
      rintro e y3 ⟨rfl, hb⟩
      have K0 := Lib.hid (H0.out.below hb H0.out.lt)
      have K1 := Lib.hid (H1.out.below hb H1.out.lt)
      have K2 := Lib.hid (H2.out.below hb H2.out.lt)
      have KW := Lib.hid (HW.out.trans (hb.mono HW.out.size))
      clear hb HW H0 H1 H2 a00 a01 a02 a10 a11 a12 a20 a21 a22
      have H0 := K0
      have H1 := K1
      have H2 := K2
      have HW := KW
      clear KW K0 K1 K2
      have a00 := H0.out.cell 0
      have a01 := H0.out.cell 1
      have a02 := H0.out.cell 2
      have a10 := H1.out.cell 0
      have a11 := H1.out.cell 1
      have a12 := H1.out.cell 2
      have a20 := H2.out.cell 0
      have a21 := H2.out.cell 1
      have a22 := H2.out.cell 2
      go_wp2_with fail
      go_ret
      exact ⟨rfl, HW.out⟩


theorem numOrder_any (n0 n1 n2 : Bool) (s0 s1 s2 : ByteArray) (x0 x1 x2 : Int) (w : World) (hs0 : s0.size ≤ 9223372036854775807) (hs1 : s1.size ≤ 9223372036854775807) (hs2 : s2.size ≤ 9223372036854775807) (hG : Glob w) : Calls Tryd.prog 7 #[.agg #[.bool n0, .string s0, .int .i64 x0], .agg #[.bool n1, .string s1, .int .i64 x1], .agg #[.bool n2, .string s2, .int .i64 x2]] w fun e w' => e = .returned (.bool true) ∧ Below w.heap.size w w' := by
  by_cases h0 : 1200 < s0.size
  · exact numOrder_long0 n0 n1 n2 s0 s1 s2 x0 x1 x2 w h0 hG
  · by_cases h1 : 1200 < s1.size
    · exact numOrder_long1 n0 n1 n2 s0 s1 s2 x0 x1 x2 w (by omega) h1 hG
    · by_cases h2 : 1200 < s2.size
      · exact numOrder_long2 n0 n1 n2 s0 s1 s2 x0 x1 x2 w (by omega) (by omega) h2 hG
      · cases r0 : right ⟨n0, s0.data.toList, x0⟩ with
        | false => exact numOrder_wrong0 n0 n1 n2 s0 s1 s2 x0 x1 x2 w (by omega) (by omega) (by omega) r0 hG
        | true =>
          cases r1 : right ⟨n1, s1.data.toList, x1⟩ with
          | false => exact numOrder_wrong1 n0 n1 n2 s0 s1 s2 x0 x1 x2 w (by omega) (by omega) (by omega) r0 r1 hG
          | true =>
            cases r2 : right ⟨n2, s2.data.toList, x2⟩ with
            | false => exact numOrder_wrong2 n0 n1 n2 s0 s1 s2 x0 x1 x2 w (by omega) (by omega) (by omega) r0 r1 r2 hG
            | true => exact numOrder_right n0 n1 n2 s0 s1 s2 x0 x1 x2 w (by omega) (by omega) (by omega) r0 r1 r2 hG

end Go.Proofs.YtffcmfhicefahaaDoor
