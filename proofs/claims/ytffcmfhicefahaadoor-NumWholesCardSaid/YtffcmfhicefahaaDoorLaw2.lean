/- The walk of the statement NumParses. -/
import Derived.Test.YtffcmfhicefahaaDoorLaw1
namespace Go.Proofs.YtffcmfhicefahaaDoor
open Go.RowKit Go.Proofs.NumPlain

set_option maxHeartbeats 2000000 in
theorem numParses_any (s : ByteArray) (w : World) (hs : s.size ≤ 9223372036854775807) (hG : Glob w) : Calls Tryd.prog 3 #[.string s] w fun e w' => e = .returned (.bool true) ∧ Below w.heap.size w w' := by
  have HG := Lib.hid hG
  clear hG
  by_cases hlen : 1200 < s.size
  · have hlen2 : (1200 : Int) < (s.size : Int) := by omega
    go_enter Tryd.func3, Tryd.ntmps3
    go_wp2_with fail
    refine (wakes_any w HG.out).mono ?_
    rintro e w1 ⟨rfl, hb⟩
    go_wp2_with fail
    go_ret
    exact ⟨rfl, hb⟩
  · have hlen2 : ¬ (1200 : Int) < (s.size : Int) := by omega
    obtain ⟨r, hr⟩ := parsed_ex s.data.toList
    have HR := Lib.hid hr
    have hs5 : s.size ≤ 100000 := by omega
    have HS := Lib.hid hs5
    obtain ⟨L, hL⟩ : ∃ L : Nat, L = NumPlain.scan s.data.toList := ⟨_, rfl⟩
    have HL := Lib.hid hL
    obtain ⟨⟨neg, D, x⟩, er⟩ := r
    obtain ⟨d, hd⟩ : ∃ d : ByteArray, d = ⟨D.toArray⟩ := ⟨_, rfl⟩
    have hnv : Hid (nv (⟨neg, D, x⟩ : Nm) = .agg #[.bool neg, .string d, .int .i64 x]) := by rw [hd]; exact rfl
    have hsz : s.size ≤ 9223372036854775800 := by omega
    have HSZ := Lib.hid hsz
    clear hr hs5 hL hd hs hlen hsz
    go_enter Tryd.func3, Tryd.ntmps3
    go_wp2_with fail
    refine (wakes_any w HG.out).mono ?_
    rintro e w1 ⟨rfl, hb1⟩
    have HG1 := Lib.hid (HG.out.below hb1)
    have HB1 := Lib.hid hb1
    clear hb1 HG
    go_wp2_with fail
    refine (parse_all s _ _ HR.out HS.out HG1.out).mono ?_
    simp only [hnv.out]
    rintro e w2 ⟨rfl, hb2⟩
    have hB2 := Blk.new w2 24 #[.bool neg, .string d, .int .i64 x]
    have hW2 : Below w.heap.size w (w2.alloc (.cells #[.bool neg, .string d, .int .i64 x] 24)) := (HB1.out.trans (hb2.mono HB1.out.size)).alloc (Nat.le_trans HB1.out.size hb2.size) _
    have hG2 : Glob (w2.alloc (.cells #[.bool neg, .string d, .int .i64 x] 24)) := HG1.out.below (hb2.alloc hb2.size _)
    have HW2 := Lib.hid hW2
    have HG2 := Lib.hid hG2
    have HB2 := Lib.hid hB2
    clear hb2 hW2 hG2 HG1 HB1 hB2
    go_wp2_with fail
    refine (rparse_all s _ _ HR.out HS.out).mono ?_
    simp only [hnv.out]
    rintro e w3 ⟨rfl, hb3⟩
    have hB3 := (HB2.out.below hb3 HB2.out.lt).alloc (.cells #[.bool neg, .string d, .int .i64 x] 24)
    have hB4 := Blk.new w3 24 #[.bool neg, .string d, .int .i64 x]
    have hW3 : Below w.heap.size w (w3.alloc (.cells #[.bool neg, .string d, .int .i64 x] 24)) := (HW2.out.trans (hb3.mono HW2.out.size)).alloc (Nat.le_trans HW2.out.size hb3.size) _
    have hG3 : Glob (w3.alloc (.cells #[.bool neg, .string d, .int .i64 x] 24)) := HG2.out.below (hb3.alloc hb3.size _)
    have HW3 := Lib.hid hW3
    have HG3 := Lib.hid hG3
    clear hb3 hW3 hG3 HG2 HW2 HB2
    have c0 := hB3.cell 0
    have c1 := hB3.cell 1
    have c2 := hB3.cell 2
    have d0 := hB4.cell 0
    have d1 := hB4.cell 1
    have d2 := hB4.cell 2
    clear hB3 hB4
    go_wp2_with fail
    refine (scan_any s _ (by omega) HG3.out).mono ?_
    rw [← HL.out]
    rintro e w4 ⟨rfl, rfl⟩
    go_wp2_with fail
    refine (rscan_any s _ HSZ.out).mono ?_
    rw [← HL.out]
    rintro e w4 ⟨rfl, rfl⟩
    go_wp2_with fail
    go_ret
    exact ⟨rfl, HW3.out⟩
end Go.Proofs.YtffcmfhicefahaaDoor
