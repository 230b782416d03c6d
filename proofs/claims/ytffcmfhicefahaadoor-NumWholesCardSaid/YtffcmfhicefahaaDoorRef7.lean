/- The reference's at, size. -/
import Derived.Test.YtffcmfhicefahaaDoorRef6
import Derived.Test.YtffcmfhicefahaaDoorNumOrd
import Derived.Deep.DeepCutAuto
import Derived.Deep.CutBlock
namespace Go.Proofs.YtffcmfhicefahaaDoor
open Go.RowKit Go.Proofs.NumPlain

theorem at_out (neg : Bool) (l : List UInt8) (x p : Int) (h : (l.length : Int) - 1 - (p - x) < 0 ∨ (l.length : Int) ≤ (l.length : Int) - 1 - (p - x)) : NumPlain.at' ⟨neg, l, x⟩ p = 48 := by
  unfold NumPlain.at'; rw [if_pos h]
theorem at_in (neg : Bool) (d : ByteArray) (x p : Int) (k : Nat) (hk : k < d.size) (h : (k : Int) = (d.size : Int) - 1 - (p - x)) : NumPlain.at' ⟨neg, d.data.toList, x⟩ p = d[k] := by
  unfold NumPlain.at'
  have hs : d.size = d.data.toList.length := Lib.size_eq d
  simp only
  rw [if_neg (by omega), show ((d.data.toList.length : Int) - 1 - (p - x)).toNat = k by omega]
  have hk' : k < d.data.toList.length := by omega
  simp only [List.getD, List.getElem?_eq_getElem hk', Option.getD_some]
  rfl

set_option maxHeartbeats 2000000 in
theorem at_any (neg : Bool) (d : ByteArray) (x p : Int) (w : World) (hd : d.size ≤ 1000) (hx : x ≤ 10000 ∧ -10000 ≤ x) (hp : p ≤ 11001 ∧ -10001 ≤ p) :
    Calls Tryd.prog 42 #[.agg #[.bool neg, .string d, .int .i64 x], .int .i64 p] w fun e w' => e = .returned (.int .u8 ((NumPlain.at' ⟨neg, d.data.toList, x⟩ p).toNat : Nat)) ∧ Below w.heap.size w w' := by
  obtain ⟨hx1, hx2⟩ := hx
  obtain ⟨hp1, hp2⟩ := hp
  have hs : d.size = d.data.toList.length := Lib.size_eq d
  have e1 : IntKind.i64.wrap ((d.size : Int) - 1) = (d.size : Int) - 1 := IntWalk.i64_in _ (by omega)
  have e2 : IntKind.i64.wrap (p - x) = p - x := IntWalk.i64_in _ (by omega)
  obtain ⟨K, hK⟩ : ∃ K : Int, K = (d.size : Int) - 1 - (p - x) := ⟨_, rfl⟩
  have e3 : IntKind.i64.wrap ((d.size : Int) - 1 - (p - x)) = K := by rw [hK]; exact IntWalk.i64_in _ (by omega)
  by_cases c1 : K < 0
  · rw [at_out neg d.data.toList x p (by left; omega)]
    clear hs hx1 hx2 hp1 hp2 hd hK
    go_enter Tryd.func42, Tryd.ntmps42
    go_wp2_with fail
    go_ret
    exact ⟨rfl, (Below.refl _ _).alloc (Nat.le_refl _) _⟩
  · by_cases c2 : (d.size : Int) ≤ K
    · rw [at_out neg d.data.toList x p (by right; omega)]
      clear hs hx1 hx2 hp1 hp2 hd hK
      go_enter Tryd.func42, Tryd.ntmps42
      go_wp2_with fail
      go_ret
      exact ⟨rfl, (Below.refl _ _).alloc (Nat.le_refl _) _⟩
    · obtain ⟨k, rfl⟩ : ∃ k : Nat, K = k := ⟨K.toNat, by omega⟩
      have hk : k < d.size := by omega
      have hge : ¬ (d.size : Int) ≤ (k : Int) := by omega
      rw [at_in neg d x p k hk hK]
      clear hs hx1 hx2 hp1 hp2 hd hK c1 c2
      go_enter Tryd.func42, Tryd.ntmps42
      go_wp2_with fail
      go_ret
      exact ⟨rfl, (Below.refl _ _).alloc (Nat.le_refl _) _⟩

theorem map_drop (f : Nat → UInt8) (m j : Nat) (h : j < m) : ((List.range m).map f).drop j = f j :: ((List.range m).map f).drop (j + 1) := by
  rw [List.drop_eq_getElem_cons (by simpa using h)]
  simp
theorem row_drop (n : Nm) (j : Nat) (h : j < 21002) : (NumPlain.row n).drop j = NumPlain.at' n (11001 - (j : Int)) :: (NumPlain.row n).drop (j + 1) := by
  unfold NumPlain.row
  exact map_drop (fun (j : Nat) => NumPlain.at' n (11001 - (j : Int))) 21002 j h

set_option maxHeartbeats 4000000 in
theorem size_any (na nb : Bool) (da db : ByteArray) (xa xb : Int) (w : World) (ha : da.size ≤ 1000) (hb : db.size ≤ 1000) (hxa : xa ≤ 10000 ∧ -10000 ≤ xa) (hxb : xb ≤ 10000 ∧ -10000 ≤ xb) :
    Calls Tryd.prog 40 #[.agg #[.bool na, .string da, .int .i64 xa], .agg #[.bool nb, .string db, .int .i64 xb]] w fun e w' => e = .returned (.int .i64 (NumPlain.sizeR ⟨na, da.data.toList, xa⟩ ⟨nb, db.data.toList, xb⟩)) ∧ Below w.heap.size w w' := by
  have CA : Hid (∀ (p : Int) (w : World), p ≤ 11001 ∧ -10001 ≤ p → Calls Tryd.prog 42 #[.agg #[.bool na, .string da, .int .i64 xa], .int .i64 p] w fun e w' => e = .returned (.int .u8 ((NumPlain.at' ⟨na, da.data.toList, xa⟩ p).toNat : Nat)) ∧ Below w.heap.size w w') := fun p w hp => at_any na da xa p w ha hxa hp
  have CB : Hid (∀ (p : Int) (w : World), p ≤ 11001 ∧ -10001 ≤ p → Calls Tryd.prog 42 #[.agg #[.bool nb, .string db, .int .i64 xb], .int .i64 p] w fun e w' => e = .returned (.int .u8 ((NumPlain.at' ⟨nb, db.data.toList, xb⟩ p).toNat : Nat)) ∧ Below w.heap.size w w') := fun p w hp => at_any nb db xb p w hb hxb hp
  obtain ⟨RA, hRA⟩ : ∃ RA : Nm, RA = ⟨na, da.data.toList, xa⟩ := ⟨_, rfl⟩
  obtain ⟨RB, hRB⟩ : ∃ RB : Nm, RB = ⟨nb, db.data.toList, xb⟩ := ⟨_, rfl⟩
  rw [← hRA] at CA ⊢
  rw [← hRB] at CB ⊢
  obtain ⟨Z, hZ⟩ : ∃ Z, Z = NumPlain.sizeR RA RB := ⟨_, rfl⟩
  rw [← hZ]
  have HZ : Hid (Z = lex (NumPlain.row RA) (NumPlain.row RB)) := hZ
  clear hZ hRA hRB ha hb hxa hxb
  go_enter Tryd.func40, Tryd.ntmps40
  go_wp2_with fail
  have hA0 := (Blk.new w 24 #[.bool na, .string da, .int .i64 xa]).alloc (.cells #[.bool nb, .string db, .int .i64 xb] 24)
  have hB0 := Blk.new (w.alloc (.cells #[.bool na, .string da, .int .i64 xa] 24)) 24 #[.bool nb, .string db, .int .i64 xb]
  simp only [World.size_alloc] at hB0
  have hW0 : Below w.heap.size w ((w.alloc (.cells #[.bool na, .string da, .int .i64 xa] 24)).alloc (.cells #[.bool nb, .string db, .int .i64 xb] 24)) := ((Below.refl _ _).alloc (Nat.le_refl _) _).alloc (by simp) _
  have HA0 := Lib.hid hA0
  have HB0 := Lib.hid hB0
  have HW0 := Lib.hid hW0
  clear hA0 hB0 hW0
  go_loopw [5] (fun p wr => ∃ (j : Nat) (P : Int), j ≤ 21002 ∧ Hid (P = 11001 - (j : Int)) ∧ P ≤ 11001 ∧ -10001 ≤ P ∧ p = .int .i64 P ∧ Hid (Z = lex ((NumPlain.row RA).drop j) ((NumPlain.row RB).drop j)) ∧ Hid (Blk wr w.heap.size 24 #[.bool na, .string da, .int .i64 xa]) ∧ Hid (Blk wr (w.heap.size + 1) 24 #[.bool nb, .string db, .int .i64 xb]) ∧ Hid (Below w.heap.size w wr)) (fun p _ => (intOf p + 10001).toNat)
  case atStart => exact ⟨0, 11001, by omega, rfl, by omega, by omega, rfl, HZ, HA0, HB0, HW0⟩
  case round =>
    clear HA0 HB0 HW0
    obtain ⟨j, P, hj, HP, hp1, hp2, rfl, HJ, HA, HB, HW⟩ := hrel
    have HJJ := Lib.hid hj
    clear hj
    have a0 := HA.out.cell 0
    have a1 := HA.out.cell 1
    have a2 := HA.out.cell 2
    have b0 := HB.out.cell 0
    have b1 := HB.out.cell 1
    have b2 := HB.out.cell 2
    by_cases hP : -10000 ≤ P
    · have hjl : j < 21002 := by have := HP.out; omega
      obtain ⟨c, hc⟩ : ∃ c, c = NumPlain.at' RA P := ⟨_, rfl⟩
      obtain ⟨d, hd⟩ : ∃ d, d = NumPlain.at' RB P := ⟨_, rfl⟩
      have HS : Hid (Z = lex (c :: (NumPlain.row RA).drop (j + 1)) (d :: (NumPlain.row RB).drop (j + 1))) := by
        unfold Hid
        rw [HJ.out, row_drop RA j hjl, row_drop RB j hjl, ← HP.out, ← hc, ← hd]
      have CA2 : Hid (∀ (w : World), Calls Tryd.prog 42 #[.agg #[.bool na, .string da, .int .i64 xa], .int .i64 P] w fun e w' => e = .returned (.int .u8 (c.toNat : Nat)) ∧ Below w.heap.size w w') := fun w => by rw [hc]; exact CA.out P w ⟨hp1, hp2⟩
      have CB2 : Hid (∀ (w : World), Calls Tryd.prog 42 #[.agg #[.bool nb, .string db, .int .i64 xb], .int .i64 P] w fun e w' => e = .returned (.int .u8 (d.toNat : Nat)) ∧ Below w.heap.size w w') := fun w => by rw [hd]; exact CB.out P w ⟨hp1, hp2⟩
      have HJL := Lib.hid hjl
      clear hc hd hjl HJ CA CB
      go_upto_region 4 with fail
      go_cut [6, 7] (fun x y wx => x = .int .u8 (c.toNat : Nat) ∧ y = .int .u8 (d.toNat : Nat) ∧ Hid (Blk wx w.heap.size 24 #[.bool na, .string da, .int .i64 xa]) ∧ Hid (Blk wx (w.heap.size + 1) 24 #[.bool nb, .string db, .int .i64 xb]) ∧ Hid (Below w.heap.size w wx))
      case first =>
        go_region_with (first
          | (go_at_call_of 42 (Value.string da); refine (CA2.out _).mono ?_; rintro e' w2 ⟨rfl, hb2⟩; have hA2 : Blk w2 w.heap.size 24 #[.bool na, .string da, .int .i64 xa] := Blk.below (by first | exact HA.out.drew | assumption) hb2 (by first | exact HA.out.lt | exact Blk.lt (by assumption)); have hB2 : Blk w2 (w.heap.size + 1) 24 #[.bool nb, .string db, .int .i64 xb] := Blk.below (by first | exact HB.out.drew | assumption) hb2 (by first | exact HB.out.lt | exact Blk.lt (by assumption)); have hW2 : Below w.heap.size w w2 := Below.trans (by first | exact HW.out.drew | assumption) (hb2.mono (by first | exact HW.out.size | exact Below.size (by assumption))); have a0' := hA2.cell 0; have a1' := hA2.cell 1; have a2' := hA2.cell 2; have b0' := hB2.cell 0; have b1' := hB2.cell 1; have b2' := hB2.cell 2; clear hb2)
          | (go_at_call_of 42 (Value.string db); refine (CB2.out _).mono ?_; rintro e' w2 ⟨rfl, hb2⟩; have hA2 : Blk w2 w.heap.size 24 #[.bool na, .string da, .int .i64 xa] := Blk.below (by first | exact HA.out.drew | assumption) hb2 (by first | exact HA.out.lt | exact Blk.lt (by assumption)); have hB2 : Blk w2 (w.heap.size + 1) 24 #[.bool nb, .string db, .int .i64 xb] := Blk.below (by first | exact HB.out.drew | assumption) hb2 (by first | exact HB.out.lt | exact Blk.lt (by assumption)); have hW2 : Below w.heap.size w w2 := Below.trans (by first | exact HW.out.drew | assumption) (hb2.mono (by first | exact HW.out.size | exact Below.size (by assumption))); have a0' := hA2.cell 0; have a1' := hA2.cell 1; have a2' := hA2.cell 2; have b0' := hB2.cell 0; have b1' := hB2.cell 1; have b2' := hB2.cell 2; clear hb2))
        all_goals (go_wp2_with fail; go_meet; exact ⟨rfl, rfl, hA2, hB2, hW2⟩)
      case rest =>
        obtain ⟨rfl, rfl, HA', HB', HW'⟩ := hcut
        clear HA HB HW a0 a1 a2 b0 b1 b2
        by_cases k1 : c < d
        · have k1' : (c.toNat : Int) < (d.toNat : Int) := by have := UInt8.lt_iff_toNat_lt.1 k1; omega
          have hz : Hid (Z = -1) := by unfold Hid; rw [HS.out, lex, if_pos k1]
          go_wp2_with fail
          go_ret
          exact ⟨congrArg (fun z => Ending.returned (.int .i64 z)) hz.out.symm, HW'.out⟩
        · have k1' : ¬ (c.toNat : Int) < (d.toNat : Int) := by have := mt UInt8.lt_iff_toNat_lt.2 k1; omega
          by_cases k2 : d < c
          · have k2' : (d.toNat : Int) < (c.toNat : Int) := by have := UInt8.lt_iff_toNat_lt.1 k2; omega
            have hz : Hid (Z = 1) := by unfold Hid; rw [HS.out, lex, if_neg k1, if_pos k2]
            go_wp2_with fail
            go_ret
            exact ⟨congrArg (fun z => Ending.returned (.int .i64 z)) hz.out.symm, HW'.out⟩
          · have k2' : ¬ (d.toNat : Int) < (c.toNat : Int) := by have := mt UInt8.lt_iff_toNat_lt.2 k2; omega
            have hz : Hid (Z = lex ((NumPlain.row RA).drop (j + 1)) ((NumPlain.row RB).drop (j + 1))) := by unfold Hid; rw [HS.out, lex, if_neg k1, if_neg k2]
            go_wp2_with fail
            go_roundw
            case rel => exact ⟨j + 1, P - 1, HJL.out, by have := HP.out; unfold Hid; omega, by omega, by omega, by go_num, hz, HA', HB', HW'⟩
            case measure => simp [intOf]; omega
    · have hz : Hid (Z = 0) := by
        unfold Hid
        have := HP.out
        rw [HJ.out, List.drop_eq_nil_of_le (by rw [row_length]; omega)]
        rfl
      clear CA CB
      go_wp2_with fail
      go_ret
      exact ⟨congrArg (fun z => Ending.returned (.int .i64 z)) hz.out.symm, HW.out⟩
end Go.Proofs.YtffcmfhicefahaaDoor
