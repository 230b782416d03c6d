/- The walk of the statement NumWholes. -/
import Derived.Test.YtffcmfhicefahaaDoorWhole2
import Derived.Test.YtffcmfhicefahaaDoorGlb
import Derived.LaidLaws
namespace Go.Proofs.YtffcmfhicefahaaDoor
open Go.RowKit Go.Proofs.NumPlain

theorem ofN_told (v : Nat) (hv : v < 18446744073709551616) : wv (ofN v) = v ∧ wb (ofN v) = true := by
  obtain ⟨h1, h2⟩ := of_whole v hv
  unfold wv wb whole
  rw [if_pos h1, h2]
  exact ⟨rfl, rfl⟩

set_option maxRecDepth 100000 in
set_option maxHeartbeats 8000000 in
theorem numWholes_any (n0 : Bool) (s0 : ByteArray) (x0 : Int) (v : Int) (w : World) (hs : s0.size ≤ 9223372036854775807) (hv : (Lit.int .u64 v).wf = true) (hG : Glob w) (hE : ErrW w) :
    Calls Tryd.prog 8 #[.agg #[.bool n0, .string s0, .int .i64 x0], .int .u64 v] w fun e w' => e = .returned (.bool true) ∧ Below w.heap.size w w' := by
  obtain ⟨v, rfl⟩ : ∃ k : Nat, v = k := ⟨v.toNat, by simp [Lit.wf, IntKind.min, IntKind.max, IntKind.signed, IntKind.bits] at hv; omega⟩
  have hv2 : v < 18446744073709551616 := by simp [Lit.wf, IntKind.min, IntKind.max, IntKind.signed, IntKind.bits] at hv; omega
  clear hv
  obtain ⟨t1, t2⟩ := ofN_told v hv2
  obtain ⟨⟨neg, D, x⟩, hn⟩ : ∃ n, n = ofN v := ⟨_, rfl⟩
  obtain ⟨d, hd⟩ : ∃ d : ByteArray, d = ⟨D.toArray⟩ := ⟨_, rfl⟩
  have CO : Hid (∀ w, Glob w → Calls Tryd.prog 23 #[.int .u64 v] w fun e w' => e = .returned (.agg #[.bool neg, .string d, .int .i64 x]) ∧ Below w.heap.size w w') := fun w hG => by
    have h := of_any v hv2 w hG
    rw [← hn] at h
    unfold nv at h
    simp only [← hd] at h
    exact h
  have CR : Hid (∀ w, Calls Tryd.prog 24 #[.int .u64 v] w fun e w' => e = .returned (.agg #[.bool neg, .string d, .int .i64 x]) ∧ Below w.heap.size w w') := fun w => by
    have h := rof_any v hv2 w
    rw [← hn] at h
    unfold nv at h
    simp only [← hd] at h
    exact h
  have hds : d.data.toList = D := by rw [hd]
  have hdz : d.size ≤ 9223372036854775806 := by
    rw [Lib.size_eq, hds]
    have hr := (of_whole v hv2).1
    rw [← hn, fits_parts] at hr
    simp only [Bool.and_eq_true] at hr
    by_cases h0 : D = []
    · rw [h0]; simp
    · have := (right_bd _ _ _ h0 hr.1.1.1).1
      omega
  rw [← hn] at t1 t2
  have CW : Hid (∀ w, Glob w → ErrW w → Calls Tryd.prog 21 #[.agg #[.bool neg, .string d, .int .i64 x]] w fun e w' => e = .returned (.tuple #[.int .u64 v, .bool true]) ∧ Below w.heap.size w w') := fun w hG hE => by
    have h := whole_any neg d x w (by omega) hG hE
    rw [hds, t1, t2] at h
    exact h
  obtain ⟨V, hV⟩ : ∃ V, V = wv ⟨n0, s0.data.toList, x0⟩ := ⟨_, rfl⟩
  obtain ⟨B, hB⟩ : ∃ B, B = wb ⟨n0, s0.data.toList, x0⟩ := ⟨_, rfl⟩
  have CA : Hid (s0.size ≤ 1200 → ∀ w, Glob w → ErrW w → Calls Tryd.prog 21 #[.agg #[.bool n0, .string s0, .int .i64 x0]] w fun e w' => e = .returned (.tuple #[.int .u64 V, .bool B]) ∧ Below w.heap.size w w') := fun h12 w hG hE => by
    rw [hV, hB]; exact whole_any n0 s0 x0 w (by omega) hG hE
  have CB : Hid (s0.size ≤ 1200 → ∀ w, Calls Tryd.prog 22 #[.agg #[.bool n0, .string s0, .int .i64 x0]] w fun e w' => e = .returned (.tuple #[.int .u64 V, .bool B]) ∧ Below w.heap.size w w') := fun h12 w => by
    rw [hV, hB]; exact rwhole_any n0 s0 x0 w (by omega)
  have HG := Lib.hid (hG.below ((Below.refl w.heap.size w).alloc (Nat.le_refl _) (.cells #[.bool n0, .string s0, .int .i64 x0] 24)))
  have HE := Lib.hid (hE.below ((Below.refl w.heap.size w).alloc (Nat.le_refl _) (.cells #[.bool n0, .string s0, .int .i64 x0] 24)))
  have HB := Lib.hid (Blk.new w 24 #[.bool n0, .string s0, .int .i64 x0])
  have HW := Lib.hid ((Below.refl w.heap.size w).alloc (Nat.le_refl _) (.cells #[.bool n0, .string s0, .int .i64 x0] 24))
  clear hG hE hV hB t1 t2 hn hd hds hdz hv2 hs
  go_enter Tryd.func8, Tryd.ntmps8
  go_wp2_with fail
  refine (wakes_any _ HG.out).mono ?_
  rintro e w1 ⟨rfl, hb⟩
  have HB1 := Lib.hid (HB.out.below hb HB.out.lt)
  have HW1 := Lib.hid (HW.out.trans (hb.mono HW.out.size))
  have HG1 := Lib.hid (HG.out.below hb)
  have HE1 := Lib.hid (HE.out.below hb)
  clear hb HB HW HG HE
  have c0 := HB1.out.cell 0
  have c1 := HB1.out.cell 1
  have c2 := HB1.out.cell 2
  by_cases hlen : 1200 < s0.size
  · have hlen2 : (1200 : Int) < (s0.size : Int) := by omega
    clear hlen
    go_wp2_with fail
    go_ret
    exact ⟨rfl, HW1.out⟩
  · have hlen2 : ¬ (1200 : Int) < (s0.size : Int) := by omega
    have CA' := Lib.hid (CA.out (by omega))
    have CB' := Lib.hid (CB.out (by omega))
    clear hlen CA CB
    go_wp2_with fail
    refine (CA'.out _ HG1.out HE1.out).mono ?_
    rintro e w2 ⟨rfl, hb⟩
    have HB2 := Lib.hid (HB1.out.below hb HB1.out.lt)
    have HW2 := Lib.hid (HW1.out.trans (hb.mono HW1.out.size))
    have HG2 := Lib.hid (HG1.out.below hb)
    have HE2 := Lib.hid (HE1.out.below hb)
    clear hb HB1 HW1 HG1 HE1 c0 c1 c2 hlen2
    have c0 := HB2.out.cell 0
    have c1 := HB2.out.cell 1
    have c2 := HB2.out.cell 2
    go_wp2_with fail
    refine (CB'.out _).mono ?_
    rintro e w3 ⟨rfl, hb⟩
    have HW3 := Lib.hid (HW2.out.trans (hb.mono HW2.out.size))
    have HG3 := Lib.hid (HG2.out.below hb)
    have HE3 := Lib.hid (HE2.out.below hb)
    clear hb HB2 HW2 HG2 HE2 c0 c1 c2
    go_wp2_with fail
    refine (CO.out _ HG3.out).mono ?_
    rintro e w4 ⟨rfl, hb⟩
    have HW4 := Lib.hid (HW3.out.trans (hb.mono HW3.out.size))
    have HG4 := Lib.hid (HG3.out.below hb)
    have HE4 := Lib.hid (HE3.out.below hb)
    clear hb HW3 HG3 HE3
    go_wp2_with fail
    refine (CW.out _ HG4.out HE4.out).mono ?_
    rintro e w5 ⟨rfl, hb⟩
    have HW5 := Lib.hid (HW4.out.trans (hb.mono HW4.out.size))
    have HG5 := Lib.hid (HG4.out.below hb)
    clear hb HW4 HG4 HE4
    go_wp2_with fail
    refine (CO.out _ HG5.out).mono ?_
    rintro e w6 ⟨rfl, hb⟩
    have HW6 := Lib.hid (HW5.out.trans (hb.mono HW5.out.size))
    clear hb HW5 HG5
    go_wp2_with fail
    refine (CR.out _).mono ?_
    rintro e w7 ⟨rfl, hb⟩
    have HW7 := Lib.hid (HW6.out.trans (hb.mono HW6.out.size))
    clear hb HW6
    go_wp2_with fail
    go_ret
    exact ⟨rfl, HW7.out⟩

theorem errW_of {W : World} {l : List (String × DataW Unit)} (hL : laidMetH Tryd.prog l W) (hS : W.ShapedOpen Tryd.prog)
    (h1 : l.filter (fun x => x.1 == "strconv.ErrRange") = [("strconv.ErrRange", Rows.laid_strconv_ErrRange)]) : ErrW W := by
  have h := hL.filter (fun x => x.1 == "strconv.ErrRange")
  rw [h1] at h
  rw [MakeChecks.laidMetH_plain _ _ _ (by kernel_rfl)] at h
  obtain ⟨ps, ⟨g, t, cs, fuel, p, q', hg, ht, hv, hd, _, _⟩, _, _⟩ := h
  have hg0 := hg
  obtain rfl := Option.some.inj ((show Tryd.prog.globalNamed "strconv.ErrRange" = some 3 by kernel_rfl).symm.trans hg)
  obtain rfl := Option.some.inj ((show (Tryd.prog.globals[3]?).map (·.type) = some 61 by kernel_rfl).symm.trans ht)
  obtain ⟨f1, u, v, hcs, _, _⟩ := iface_of_trod Tryd.underlying61 hd
  have h9 := shaped_size hS
  refine ⟨Nat.lt_of_lt_of_le (by decide) h9, u, v, ?_⟩
  rw [World.var?_cell hg0 hv 0, ← Array.getElem?_toList, hcs]
  rfl
end Go.Proofs.YtffcmfhicefahaaDoor
