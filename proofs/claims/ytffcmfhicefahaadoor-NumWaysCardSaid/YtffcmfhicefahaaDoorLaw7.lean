/- The statement NumWays, whatever it is called with. -/
import Derived.Test.YtffcmfhicefahaaDoorLaw6
import Derived.Test.YtffcmfhicefahaaDoorNumWhole
namespace Go.Proofs.YtffcmfhicefahaaDoor
open Go.RowKit Go.Proofs.NumPlain

set_option maxRecDepth 100000 in
set_option maxHeartbeats 8000000 in
theorem numWays_none (U K N lz a : Nat) (s Z E1 E2 E3 : ByteArray) (w : World) (hG : Glob w) (hU : U ≤ 4294967295) (hK : K ≤ 255) (hN : N ≤ 255)
    (hlz : lz = N % 9) (ha : a = K % (s.size + 1)) (hs0 : 1 ≤ s.size) (hs : s.size ≤ 20) (hZ : Z.data.toList = List.replicate lz 48) (h1 : E1.size ≤ 20) (h2 : E2.size ≤ 20) (h3 : E3.size ≤ 20)
    (D0 : ∀ w, Calls Tryd.prog 18 #[.int .i64 U] w fun e w' => e = .returned (.string s) ∧ Below w.heap.size w w')
    (D1 : ∀ w, Calls Tryd.prog 18 #[.int .i64 ((s.size : Int) + (Z.size : Int))] w fun e w' => e = .returned (.string E1) ∧ Below w.heap.size w w')
    (D2 : ∀ w, Calls Tryd.prog 18 #[.int .i64 (Z.size : Int)] w fun e w' => e = .returned (.string E2) ∧ Below w.heap.size w w')
    (D3 : 0 < a → a < s.size → ∀ w, Calls Tryd.prog 18 #[.int .i64 ((s.size : Int) - (a : Int))] w fun e w' => e = .returned (.string E3) ∧ Below w.heap.size w w')
    (P0 : ∀ w, Glob w → Calls Tryd.prog 10 #[.string s] w fun e w' => e = .returned (.tuple #[.agg #[.bool false, .string ⟨#[]⟩, .int .i64 0], .int .i64 0]) ∧ Below w.heap.size w w')
    (P1 : ∀ w, Glob w → Calls Tryd.prog 10 #[.string (⟨#[48, 46]⟩ ++ Z ++ s ++ Z ++ ⟨#[101]⟩ ++ E1)] w fun e w' => e = .returned (.tuple #[.agg #[.bool false, .string ⟨#[]⟩, .int .i64 0], .int .i64 0]) ∧ Below w.heap.size w w')
    (P2 : ∀ w, Glob w → Calls Tryd.prog 10 #[.string (s ++ Z ++ ⟨#[69, 45]⟩ ++ E2)] w fun e w' => e = .returned (.tuple #[.agg #[.bool false, .string ⟨#[]⟩, .int .i64 0], .int .i64 3]) ∧ Below w.heap.size w w')
    (P3 : 0 < a → a < s.size → ∀ w, Glob w → Calls Tryd.prog 10 #[.string (s.extract 0 a ++ ⟨#[46]⟩ ++ s.extract a s.size ++ ⟨#[101, 43]⟩ ++ E3)] w fun e w' => e = .returned (.tuple #[.agg #[.bool false, .string ⟨#[]⟩, .int .i64 0], .int .i64 0]) ∧ Below w.heap.size w w')
    (hs48 : s = ⟨#[48]⟩) (hZ0 : 1 ≤ lz) :
    Calls Tryd.prog 5 #[.int .u32 U, .int .u8 K, .int .u8 N] w fun e w' => e = .returned (.bool true) ∧ Below w.heap.size w w' := by
  have hZs : Z.size = lz := by rw [Lib.size_eq, hZ, List.length_replicate]
  have hlz8 : lz ≤ 8 := by omega
  have hal : a ≤ s.size := by have := Nat.mod_lt K (show 0 < s.size + 1 by omega); omega
  have hzne : Z.toList.isEmpty = false := by
    rw [isEmpty_of Z _ hZ]
    obtain ⟨j, rfl⟩ : ∃ j, lz = j + 1 := ⟨lz - 1, by omega⟩
    rfl
  have hse : (s.toList == (⟨#[48]⟩ : ByteArray).toList) = true := by rw [hs48]; simp
  have hse2 : (s == (⟨#[48]⟩ : ByteArray)) = true := by rw [hs48]; decide
  have hse3 : s.toList = (⟨#[48]⟩ : ByteArray).toList := by rw [hs48]
  have q0 : IntKind.i64.wrap (U : Int) = (U : Int) := IntWalk.i64_in _ (by omega)
  have q1 : IntKind.i64.wrap (K : Int) = (K : Int) := IntWalk.i64_in _ (by omega)
  have q2 : IntKind.i64.wrap (N : Int) = (N : Int) := IntWalk.i64_in _ (by omega)
  have q3 : (N : Int).tmod 9 = (lz : Int) := by rw [Int.tmod_eq_emod_of_nonneg (by omega)]; omega
  have q4 : IntKind.i64.wrap (lz : Int) = (lz : Int) := IntWalk.i64_in _ (by omega)
  have q5 : IntKind.i64.wrap ((s.size : Int) + 1) = (s.size : Int) + 1 := IntWalk.i64_in _ (by omega)
  have q6 : ((s.size : Int) + 1 == 0) = false := by rw [beq_eq_false_iff_ne]; omega
  have q7 : (K : Int).tmod ((s.size : Int) + 1) = (a : Int) := by rw [Int.tmod_eq_emod_of_nonneg (by omega), ha]; push_cast; rfl
  have q8 : IntKind.i64.wrap (a : Int) = (a : Int) := IntWalk.i64_in _ (by omega)
  have q9 : IntKind.i64.wrap ((s.size : Int) + (Z.size : Int)) = (s.size : Int) + (Z.size : Int) := IntWalk.i64_in _ (by omega)
  have r0 : ¬ 9223372036854775807 < 2 + Z.size := by omega
  have r1 : ¬ 9223372036854775807 < 2 + Z.size + s.size := by omega
  have r2 : ¬ 9223372036854775807 < 2 + Z.size + s.size + Z.size := by omega
  have r3 : ¬ 9223372036854775807 < 2 + Z.size + s.size + Z.size + 1 := by omega
  have r4 : ¬ 9223372036854775807 < 2 + Z.size + s.size + Z.size + 1 + E1.size := by omega
  have r5 : ¬ 9223372036854775807 < s.size + Z.size := by omega
  have r6 : ¬ 9223372036854775807 < s.size + Z.size + 2 := by omega
  have r7 : ¬ 9223372036854775807 < s.size + Z.size + 2 + E2.size := by omega
  have HD0 := Lib.hid D0
  have HD1 := Lib.hid D1
  have HD2 := Lib.hid D2
  have HD3 := Lib.hid D3
  have HP0 := Lib.hid P0
  have HP1 := Lib.hid P1
  have HP2 := Lib.hid P2
  have HP3 := Lib.hid P3
  have HG := Lib.hid hG
  have HW := Lib.hid (Below.refl w.heap.size w)
  have HZ := Lib.hid hZ
  have HA := Lib.hid hal
  have HE3 := Lib.hid h3
  have HSS := Lib.hid hs
  clear D0 D1 D2 D3 P0 P1 P2 P3 hG hZ hlz ha hU hK hN h1 h2 h3 hZs hal hs hs48 hZ0
  go_enter Tryd.func5, Tryd.ntmps5
  go_wp2_with fail
  refine (wakes_any _ HG.out).mono ?_
  rintro e w1 ⟨rfl, hb⟩
  have KW := Lib.hid (HW.out.trans (hb.mono HW.out.size))
  have KG := Lib.hid (HG.out.below hb)
  clear hb HW HG  
  have HW := KW
  have HG := KG
  clear KW KG 
  go_wp2_with fail
  refine (HD0.out _).mono ?_
  rintro e w2 ⟨rfl, hb⟩
  have KW := Lib.hid (HW.out.trans (hb.mono HW.out.size))
  have KG := Lib.hid (HG.out.below hb)
  clear hb HW HG  
  have HW := KW
  have HG := KG
  clear KW KG 
  go_wp2_with fail
  go_loop [8, 26] (fun zs i => ∃ (j : Nat) (z : ByteArray), j ≤ lz ∧ z.size = j ∧ zs = .string z ∧ i = .int .i64 j ∧ Hid (z.data.toList = List.replicate j 48)) (fun _ i => lz - (intOf i).toNat)
  case atStart => exact ⟨0, ⟨#[]⟩, by omega, rfl, rfl, rfl, rfl⟩
  case round =>
    obtain ⟨j, z, hj, hz, rfl, rfl, hl⟩ := hrel
    by_cases hlt : j < lz
    · have hlt2 : (j : Int) < (lz : Int) := by omega
      have hcat : ¬ 9223372036854775807 < z.size + 1 := by omega
      go_wp2_with fail
      go_round
      case rel =>
        refine ⟨j + 1, z ++ ⟨#[48]⟩, by omega, by rw [ByteArray.size_append, hz]; rfl, rfl, by go_num, ?_⟩
        unfold Hid
        rw [data_append, hl.out, List.replicate_succ']
      case measure => simp [intOf]; omega
    · have hge : ¬ (j : Int) < (lz : Int) := by omega
      have hjk : j = lz := by omega
      have hzz : z = Z := by rw [bytes_eta z _ hl.out, bytes_eta Z _ HZ.out, hjk]
      clear hl hjk hz hj hlt
      subst hzz
      clear HZ
      go_wp2_with fail
      refine (HP0.out _ HG.out).mono ?_
      rintro e w3 ⟨rfl, hb⟩
      have KW := Lib.hid (HW.out.trans (hb.mono HW.out.size))
      have KG := Lib.hid (HG.out.below hb)
      clear hb HW HG  
      have HW := KW
      have HG := KG
      clear KW KG 
      have KN := Lib.hid (Blk.new w3 24 #[.bool false, .string ⟨#[]⟩, .int .i64 0])
      have KW := Lib.hid (HW.out.alloc HW.out.size (.cells #[.bool false, .string ⟨#[]⟩, .int .i64 0] 24))
      have KG := Lib.hid (HG.out.below ((Below.refl w3.heap.size w3).alloc (Nat.le_refl _) (.cells #[.bool false, .string ⟨#[]⟩, .int .i64 0] 24)))
      clear  HW HG  
      have HW := KW
      have HG := KG
      clear KW KG 
      have HBa := KN
      clear KN
      go_wp2_with fail
      refine (HD1.out _).mono ?_
      rintro e w4 ⟨rfl, hb⟩
      have KHBa := Lib.hid (HBa.out.below hb HBa.out.lt)
      have KW := Lib.hid (HW.out.trans (hb.mono HW.out.size))
      have KG := Lib.hid (HG.out.below hb)
      clear hb HW HG HBa 
      have HBa := KHBa
      have HW := KW
      have HG := KG
      clear KW KG KHBa
      go_wp2_with fail
      refine (HP1.out _ HG.out).mono ?_
      rintro e w5 ⟨rfl, hb⟩
      have KHBa := Lib.hid (HBa.out.below hb HBa.out.lt)
      have KW := Lib.hid (HW.out.trans (hb.mono HW.out.size))
      have KG := Lib.hid (HG.out.below hb)
      clear hb HW HG HBa 
      have HBa := KHBa
      have HW := KW
      have HG := KG
      clear KW KG KHBa
      have KHBa := Lib.hid (HBa.out.alloc (.cells #[.bool false, .string ⟨#[]⟩, .int .i64 0] 24))
      have KN := Lib.hid (Blk.new w5 24 #[.bool false, .string ⟨#[]⟩, .int .i64 0])
      have KW := Lib.hid (HW.out.alloc HW.out.size (.cells #[.bool false, .string ⟨#[]⟩, .int .i64 0] 24))
      have KG := Lib.hid (HG.out.below ((Below.refl w5.heap.size w5).alloc (Nat.le_refl _) (.cells #[.bool false, .string ⟨#[]⟩, .int .i64 0] 24)))
      clear  HW HG HBa 
      have HBa := KHBa
      have HW := KW
      have HG := KG
      clear KW KG KHBa
      have HBb := KN
      clear KN
      go_wp2_with fail
      refine (HD2.out _).mono ?_
      rintro e w6 ⟨rfl, hb⟩
      have KHBa := Lib.hid (HBa.out.below hb HBa.out.lt)
      have KHBb := Lib.hid (HBb.out.below hb HBb.out.lt)
      have KW := Lib.hid (HW.out.trans (hb.mono HW.out.size))
      have KG := Lib.hid (HG.out.below hb)
      clear hb HW HG HBa HBb 
      have HBa := KHBa
      have HBb := KHBb
      have HW := KW
      have HG := KG
      clear KW KG KHBa KHBb
      go_wp2_with fail
      refine (HP2.out _ HG.out).mono ?_
      rintro e w7 ⟨rfl, hb⟩
      have KHBa := Lib.hid (HBa.out.below hb HBa.out.lt)
      have KHBb := Lib.hid (HBb.out.below hb HBb.out.lt)
      have KW := Lib.hid (HW.out.trans (hb.mono HW.out.size))
      have KG := Lib.hid (HG.out.below hb)
      clear hb HW HG HBa HBb 
      have HBa := KHBa
      have HBb := KHBb
      have HW := KW
      have HG := KG
      clear KW KG KHBa KHBb
      have KHBa := Lib.hid (HBa.out.alloc (.cells #[.bool false, .string ⟨#[]⟩, .int .i64 0] 24))
      have KHBb := Lib.hid (HBb.out.alloc (.cells #[.bool false, .string ⟨#[]⟩, .int .i64 0] 24))
      have KN := Lib.hid (Blk.new w7 24 #[.bool false, .string ⟨#[]⟩, .int .i64 0])
      have KW := Lib.hid (HW.out.alloc HW.out.size (.cells #[.bool false, .string ⟨#[]⟩, .int .i64 0] 24))
      have KG := Lib.hid (HG.out.below ((Below.refl w7.heap.size w7).alloc (Nat.le_refl _) (.cells #[.bool false, .string ⟨#[]⟩, .int .i64 0] 24)))
      clear  HW HG HBa HBb 
      have HBa := KHBa
      have HBb := KHBb
      have HW := KW
      have HG := KG
      clear KW KG KHBa KHBb
      have HBc := KN
      clear KN
      have cHBa0 := HBa.out.cell 0
      have cHBa1 := HBa.out.cell 1
      have cHBa2 := HBa.out.cell 2
      have HBd : Hid (Blk ((w7.alloc (.cells #[.bool false, .string ⟨#[]⟩, .int .i64 0] 24)).alloc (.cells #[.bool false, .string ⟨#[]⟩, .int .i64 0] 24)) (w7.heap.size + 1) 24 #[.bool false, .string ⟨#[]⟩, .int .i64 0]) := by
        have := Blk.new (w7.alloc (.cells #[.bool false, .string ⟨#[]⟩, .int .i64 0] 24)) 24 #[.bool false, .string ⟨#[]⟩, .int .i64 0]
        simp only [World.size_alloc] at this
        exact Lib.hid this
      have KHBa := Lib.hid (HBa.out.alloc (.cells #[.bool false, .string ⟨#[]⟩, .int .i64 0] 24))
      have KHBb := Lib.hid (HBb.out.alloc (.cells #[.bool false, .string ⟨#[]⟩, .int .i64 0] 24))
      have KHBc := Lib.hid (HBc.out.alloc (.cells #[.bool false, .string ⟨#[]⟩, .int .i64 0] 24))
      have KW := Lib.hid (HW.out.alloc HW.out.size (.cells #[.bool false, .string ⟨#[]⟩, .int .i64 0] 24))
      have KG := Lib.hid (HG.out.below ((Below.refl _ _).alloc (Nat.le_refl _) (.cells #[.bool false, .string ⟨#[]⟩, .int .i64 0] 24)))
      have La : w3.heap.size < w7.heap.size + 1 := by have := HBa.out.lt; rw [World.size_alloc] at this; exact this
      have Lb : w5.heap.size < w7.heap.size + 1 := by have := HBb.out.lt; rw [World.size_alloc] at this; exact this
      have Lc : w7.heap.size < w7.heap.size + 1 := Nat.lt_succ_self _
      have Lw : w.heap.size ≤ w7.heap.size + 1 := by have := HW.out.size; rw [World.size_alloc] at this; exact this
      clear HBa HBb HBc HW HG HD0 HD1 HD2 HP0 HP1 HP2
      obtain ⟨bb, hbb⟩ : ∃ bb : Bool, bb = decide (0 < a ∧ a < s.size) := ⟨_, rfl⟩
      have HBB := Lib.hid hbb
      clear hbb
      go_upto_region 14 with fail
      go_cut [81] (fun v wx => v = .bool bb ∧ wx = (w7.alloc (.cells #[.bool false, .string ⟨#[]⟩, .int .i64 0] 24)).alloc (.cells #[.bool false, .string ⟨#[]⟩, .int .i64 0] 24))
      case first =>
        by_cases g0 : 0 < a
        · have k0 : (0 : Int) < (a : Int) := by omega
          by_cases g1 : a < s.size
          · have k1 : (a : Int) < (s.size : Int) := by omega
            go_wp2_with fail
            go_meet
            exact ⟨by rw [HBB.out]; simp [g0, g1], rfl⟩
          · have k1 : ¬ (a : Int) < (s.size : Int) := by omega
            go_wp2_with fail
            go_meet
            exact ⟨by rw [HBB.out]; simp [g1], rfl⟩
        · have k0 : ¬ (0 : Int) < (a : Int) := by omega
          go_wp2_with fail
          go_meet
          exact ⟨by rw [HBB.out]; simp [g0], rfl⟩
      case rest =>
       obtain ⟨rfl, rfl⟩ := hcut
       go_upto_if 81 with fail
       go_cut [17] (fun h wx => h = .int .i64 0 ∧ Hid (Blk wx w3.heap.size 24 #[.bool false, .string ⟨#[]⟩, .int .i64 0]) ∧ Hid (Blk wx w5.heap.size 24 #[.bool false, .string ⟨#[]⟩, .int .i64 0]) ∧ Hid (Blk wx w7.heap.size 24 #[.bool false, .string ⟨#[]⟩, .int .i64 0]) ∧ Hid (Blk wx (w7.heap.size + 1) 24 #[.bool false, .string ⟨#[]⟩, .int .i64 0]) ∧ Hid (Below w.heap.size w wx))
       case first =>
        cases bb with
        | true =>
          have hin : 0 < a ∧ a < s.size := of_decide_eq_true HBB.out.symm
          obtain ⟨g0, g1⟩ := hin
          have k1' : (a : Int) ≤ (s.size : Int) := by omega
          have k0 : (0 : Int) ≤ (a : Int) := by omega
          have k2 : IntKind.i64.wrap ((s.size : Int) - (a : Int)) = (s.size : Int) - (a : Int) := IntWalk.i64_in _ (by have := HSS.out; omega)
          have k3 : (s.extract 0 a).size = a := by rw [ByteArray.size_extract]; omega
          have k4 : (s.extract a s.size).size = s.size - a := by rw [ByteArray.size_extract]; omega
          have HD := Lib.hid (HD3.out g0 g1)
          have HP := Lib.hid (HP3.out g0 g1)
          have e1 : ¬ 9223372036854775807 < (s.extract 0 a).size + 1 := by have := HSS.out; omega
          have e2 : ¬ 9223372036854775807 < (s.extract 0 a).size + 1 + (s.extract a s.size).size := by have := HSS.out; omega
          have e3 : ¬ 9223372036854775807 < (s.extract 0 a).size + 1 + (s.extract a s.size).size + 2 := by have := HSS.out; omega
          have e4 : ¬ 9223372036854775807 < (s.extract 0 a).size + 1 + (s.extract a s.size).size + 2 + E3.size := by have := HSS.out; have := HE3.out; omega
          have b1 : s.size ≤ 20 := HSS.out
          have b2 : E3.size ≤ 20 := HE3.out
          have b3 : a ≤ 20 := by omega
          clear HD3 HP3 e1 e2 e3 e4
          go_wp2_with fail
          go_region_with (first
            | (go_at_call 18; refine (HD.out _).mono ?_; rintro e' w8 ⟨rfl, hb8⟩; have hB8 := HBd.out.drew.below hb8 HBd.out.lt)
            | (go_at_call 10; refine (HP.out _ (KG.out.drew.below hb8)).mono ?_; rintro e' w9 ⟨rfl, hb9⟩; have hB9 := hB8.below hb9 hB8.lt; have c0 := hB9.cell 0; have c1 := hB9.cell 1; have c2 := hB9.cell 2; have f0 := hB9.frozen 0; have f1 := hB9.frozen 1; have f2 := hB9.frozen 2))
          all_goals (go_wp2_with fail; go_meet; exact ⟨rfl, ways_end La Lb Lc Lw KHBa KHBb KHBc HBd KW hb8 hb9⟩)
        | false =>
          go_wp2_with fail
          go_meet
          exact ⟨rfl, KHBa, KHBb, KHBc, HBd, KW⟩
       case rest =>
        clear KHBa KHBb KHBc HBd KW KG HD3 HP3
        obtain ⟨rfl, HBa, HBb, HBc, HBd, HW⟩ := hcut
        have cHBa0 := HBa.out.cell 0
        have cHBa1 := HBa.out.cell 1
        have cHBa2 := HBa.out.cell 2
        have cHBb0 := HBb.out.cell 0
        have cHBb1 := HBb.out.cell 1
        have cHBb2 := HBb.out.cell 2
        have cHBc0 := HBc.out.cell 0
        have cHBc1 := HBc.out.cell 1
        have cHBc2 := HBc.out.cell 2
        have cHBd0 := HBd.out.cell 0
        have cHBd1 := HBd.out.cell 1
        have cHBd2 := HBd.out.cell 2
        go_wp2_with fail
        go_ret
        exact ⟨rfl, HW.out⟩

theorem wf_u32 (u : Int) (h : (Lit.int .u32 u).wf = true) : 0 ≤ u ∧ u ≤ 4294967295 := by
  simp [Lit.wf, IntKind.min, IntKind.max, IntKind.signed, IntKind.bits] at h; exact h
theorem wf_u8 (u : Int) (h : (Lit.int .u8 u).wf = true) : 0 ≤ u ∧ u ≤ 255 := by
  simp [Lit.wf, IntKind.min, IntKind.max, IntKind.signed, IntKind.bits] at h; exact h
theorem dec_size (v : Nat) (h : v < 18446744073709551616) : (Lib.decDigits v).length ≤ 20 := by rw [Lib.decDigits_length]; exact Lib.nDigits_le20 v h
theorem bs_size (l : List UInt8) : (⟨l.toArray⟩ : ByteArray).size = l.length := by rw [Lib.size_eq]
theorem numWays_any (u k z : Int) (w : World) (w0 : (Lit.int .u32 u).wf = true) (w1 : (Lit.int .u8 k).wf = true) (w2 : (Lit.int .u8 z).wf = true) (hG : Glob w) :
    Calls Tryd.prog 5 #[.int .u32 u, .int .u8 k, .int .u8 z] w fun e w' => e = .returned (.bool true) ∧ Below w.heap.size w w' := by
  obtain ⟨a0, a1⟩ := wf_u32 u w0
  obtain ⟨b0, b1⟩ := wf_u8 k w1
  obtain ⟨c0, c1⟩ := wf_u8 z w2
  obtain ⟨U, rfl⟩ : ∃ U : Nat, u = U := ⟨u.toNat, by omega⟩
  obtain ⟨K, rfl⟩ : ∃ K : Nat, k = K := ⟨k.toNat, by omega⟩
  obtain ⟨N, rfl⟩ : ∃ N : Nat, z = N := ⟨z.toNat, by omega⟩
  clear w0 w1 w2 a0 b0 c0
  have hU : U < 18446744073709551616 := by omega
  obtain ⟨lz, hlz⟩ : ∃ lz : Nat, lz = N % 9 := ⟨_, rfl⟩
  have hl8 : lz ≤ 8 := by omega
  have hsl := dec_size U hU
  have hne : (Lib.decDigits U) ≠ [] := (dec_dig U).2.1
  have hs1 : 1 ≤ (Lib.decDigits U).length := List.length_pos_iff.2 hne
  obtain ⟨s, hs⟩ : ∃ s : ByteArray, s = ⟨(Lib.decDigits U).toArray⟩ := ⟨_, rfl⟩
  have hsd : s.data.toList = Lib.decDigits U := by rw [hs]
  have hss : s.size = (Lib.decDigits U).length := by rw [hs, bs_size]
  obtain ⟨Z, hZ⟩ : ∃ Z : ByteArray, Z = ⟨(List.replicate lz 48).toArray⟩ := ⟨_, rfl⟩
  have hZd : Z.data.toList = List.replicate lz 48 := by rw [hZ]
  have hZs : Z.size = lz := by rw [hZ, bs_size, List.length_replicate]
  obtain ⟨a, ha⟩ : ∃ a : Nat, a = K % (s.size + 1) := ⟨_, rfl⟩
  have hal : a ≤ s.size := by have := Nat.mod_lt K (show 0 < s.size + 1 by omega); omega
  obtain ⟨E1, hE1⟩ : ∃ E : ByteArray, E = ⟨(Lib.decDigits (s.size + Z.size)).toArray⟩ := ⟨_, rfl⟩
  obtain ⟨E2, hE2⟩ : ∃ E : ByteArray, E = ⟨(Lib.decDigits Z.size).toArray⟩ := ⟨_, rfl⟩
  obtain ⟨E3, hE3⟩ : ∃ E : ByteArray, E = ⟨(Lib.decDigits (s.size - a)).toArray⟩ := ⟨_, rfl⟩
  have k1 : E1.size ≤ 20 := by rw [hE1, bs_size]; exact dec_size _ (by omega)
  have k2 : E2.size ≤ 20 := by rw [hE2, bs_size]; exact dec_size _ (by omega)
  have k3 : E3.size ≤ 20 := by rw [hE3, bs_size]; exact dec_size _ (by omega)
  have D0 : ∀ w, Calls Tryd.prog 18 #[.int .i64 U] w fun e w' => e = .returned (.string s) ∧ Below w.heap.size w w' := fun w => by
    rw [hs]; exact digits_any U w (by omega)
  have D1 : ∀ w, Calls Tryd.prog 18 #[.int .i64 ((s.size : Int) + (Z.size : Int))] w fun e w' => e = .returned (.string E1) ∧ Below w.heap.size w w' := fun w => by
    rw [hE1, ← Int.natCast_add]; exact digits_any _ w (by omega)
  have D2 : ∀ w, Calls Tryd.prog 18 #[.int .i64 (Z.size : Int)] w fun e w' => e = .returned (.string E2) ∧ Below w.heap.size w w' := fun w => by
    rw [hE2]; exact digits_any _ w (by omega)
  have D3 : 0 < a → a < s.size → ∀ w, Calls Tryd.prog 18 #[.int .i64 ((s.size : Int) - (a : Int))] w fun e w' => e = .returned (.string E3) ∧ Below w.heap.size w w' := fun _ _ w => by
    rw [hE3, ← Int.ofNat_sub hal]; exact digits_any _ w (by omega)
  have hfin := of_err U hU
  have x1 : (⟨#[48, 46]⟩ ++ Z ++ s ++ Z ++ ⟨#[101]⟩ ++ E1 : ByteArray).data.toList = [48, 46] ++ List.replicate lz 48 ++ Lib.decDigits U ++ List.replicate lz 48 ++ [101] ++ Lib.decDigits ((Lib.decDigits U).length + lz) := by
    rw [data_append, data_append, data_append, data_append, data_append, hZd, hsd, hE1, hss, hZs]
  have x2 : (s ++ Z ++ ⟨#[69, 45]⟩ ++ E2 : ByteArray).data.toList = Lib.decDigits U ++ List.replicate lz 48 ++ [69, 45] ++ Lib.decDigits lz := by
    rw [data_append, data_append, data_append, hZd, hsd, hE2, hZs]
  have x3 : (s.extract 0 a ++ ⟨#[46]⟩ ++ s.extract a s.size ++ ⟨#[101, 43]⟩ ++ E3 : ByteArray).data.toList = (Lib.decDigits U).take a ++ [46] ++ (Lib.decDigits U).drop a ++ [101, 43] ++ Lib.decDigits ((Lib.decDigits U).length - a) := by
    have hd : ((Lib.decDigits U).drop a).take (s.size - a) = (Lib.decDigits U).drop a := List.take_of_length_le (by rw [List.length_drop, hss]; exact Nat.le_refl _)
    rw [data_append, data_append, data_append, data_append, data_extract, data_extract, hsd, hd, hE3, hss, Nat.sub_zero, List.drop_zero]
  have y1 : (⟨#[48, 46]⟩ ++ Z ++ s ++ Z ++ ⟨#[101]⟩ ++ E1 : ByteArray).size ≤ 100000 := by
    simp only [ByteArray.size_append, hss, hZs]; rw [bs_size, bs_size]; simp; omega
  have y2 : (s ++ Z ++ ⟨#[69, 45]⟩ ++ E2 : ByteArray).size ≤ 100000 := by
    simp only [ByteArray.size_append, hss, hZs]; rw [bs_size]; simp; omega
  have y3 : (s.extract 0 a ++ ⟨#[46]⟩ ++ s.extract a s.size ++ ⟨#[101, 43]⟩ ++ E3 : ByteArray).size ≤ 100000 := by
    simp only [ByteArray.size_append, ByteArray.size_extract, hss]; rw [bs_size, bs_size]; simp; omega
  have P0 : ∀ w, Glob w → Calls Tryd.prog 10 #[.string s] w fun e w' => e = .returned (.tuple #[nv (ofN U), .int .i64 0]) ∧ Below w.heap.size w w' := fun w hG =>
    parse_all s w (ofN U, 0) (by rw [hsd, ← hfin]; exact way_a U) (by omega) hG
  have P1 : ∀ w, Glob w → Calls Tryd.prog 10 #[.string (⟨#[48, 46]⟩ ++ Z ++ s ++ Z ++ ⟨#[101]⟩ ++ E1)] w fun e w' => e = .returned (.tuple #[nv (ofN U), .int .i64 0]) ∧ Below w.heap.size w w' := fun w hG =>
    parse_all _ w (ofN U, 0) (by rw [x1, ← hfin]; exact way_b U lz (by omega) (by omega)) y1 hG
  have P3 : 0 < a → a < s.size → ∀ w, Glob w → Calls Tryd.prog 10 #[.string (s.extract 0 a ++ ⟨#[46]⟩ ++ s.extract a s.size ++ ⟨#[101, 43]⟩ ++ E3)] w fun e w' => e = .returned (.tuple #[nv (ofN U), .int .i64 0]) ∧ Below w.heap.size w w' := fun h0 h1 w hG =>
    parse_all _ w (ofN U, 0) (by rw [x3, ← hfin]; exact way_d U a (by omega) h0 (by omega)) y3 hG
  by_cases hc : lz = 0 ∨ Lib.decDigits U ≠ [48]
  · have P2 : ∀ w, Glob w → Calls Tryd.prog 10 #[.string (s ++ Z ++ ⟨#[69, 45]⟩ ++ E2)] w fun e w' => e = .returned (.tuple #[nv (ofN U), .int .i64 0]) ∧ Below w.heap.size w w' := fun w hG =>
      parse_all _ w (ofN U, 0) (by rw [x2, ← hfin]; exact way_c U lz (by omega) hc) y2 hG
    exact numWays_same U K N lz a s Z E1 E2 E3 _ _ _ w hG (by omega) (by omega) (by omega) hlz ha (by omega) (by omega) hZd k1 k2 k3 D0 D1 D2 D3 P0 P1 P2 P3
  · have h48 : Lib.decDigits U = [48] := Classical.byContradiction fun h => hc (.inr h)
    have h1 : 1 ≤ lz := by
      rcases Nat.eq_zero_or_pos lz with h | h
      · exact absurd (.inl h) hc
      · exact h
    have hz : ofN U = zero := by unfold ofN; rw [h48]; decide
    have P2 : ∀ w, Glob w → Calls Tryd.prog 10 #[.string (s ++ Z ++ ⟨#[69, 45]⟩ ++ E2)] w fun e w' => e = .returned (.tuple #[nv zero, .int .i64 3]) ∧ Below w.heap.size w w' := fun w hG =>
      parse_all _ w (zero, 3) (by rw [x2, h48]; exact way_c0 lz _ h1) y2 hG
    rw [hz] at P0 P1 P3
    exact numWays_none U K N lz a s Z E1 E2 E3 w hG (by omega) (by omega) (by omega) hlz ha (by omega) (by omega) hZd k1 k2 k3 D0 D1 D2 D3 P0 P1 P2 P3 (by rw [hs, h48]) h1

end Go.Proofs.YtffcmfhicefahaaDoor
