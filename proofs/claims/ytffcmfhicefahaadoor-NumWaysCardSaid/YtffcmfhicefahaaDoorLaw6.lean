/- The walk of the statement NumWays. -/
import Derived.Test.YtffcmfhicefahaaDoorWay1
import Derived.Deep.CutBlock
namespace Go.Proofs.YtffcmfhicefahaaDoor
open Go.RowKit Go.Proofs.NumPlain
def sets3 (w : World) (g : Nat) (a b c : Value) : World := ((w.setCell ⟨g, 0, none⟩ a).setCell ⟨g, 1, none⟩ b).setCell ⟨g, 2, none⟩ c
theorem ways_end {w W w8 w9 : World} {g1 g2 g3 g : Nat} {t1 t2 t3 t : TypeId} {c1 c2 c3 : Array Value} {a b c : Value} (La : g1 < g) (Lb : g2 < g) (Lc : g3 < g) (Lw : w.heap.size ≤ g)
    (ha : Hid (Blk W g1 t1 c1)) (hb : Hid (Blk W g2 t2 c2)) (hc : Hid (Blk W g3 t3 c3)) (hd : Hid (Blk W g t #[a, b, c])) (hw : Hid (Below w.heap.size w W))
    (h8 : Below W.heap.size W.drew w8) (h9 : Below w8.heap.size w8 w9) :
    Hid (Blk (sets3 w9 g a b c) g1 t1 c1) ∧ Hid (Blk (sets3 w9 g a b c) g2 t2 c2) ∧ Hid (Blk (sets3 w9 g a b c) g3 t3 c3) ∧ Hid (Blk (sets3 w9 g a b c) g t #[a, b, c]) ∧ Hid (Below w.heap.size w (sets3 w9 g a b c)) := by
  have far : ∀ {q : Nat} {tq : TypeId} {cq : Array Value}, q < g → Blk W q tq cq → Blk (sets3 w9 g a b c) q tq cq := fun {q} {tq} {cq} hq h => by
    have hne : q ≠ g := by omega
    have h9' : Blk w9 q tq cq := (h.drew.below h8 h.lt).below h9 (h.drew.below h8 h.lt).lt
    exact ((h9'.far (p := ⟨g, 0, none⟩) hne a).far (p := ⟨g, 1, none⟩) hne b).far (p := ⟨g, 2, none⟩) hne c
  refine ⟨Lib.hid (far La ha.out), Lib.hid (far Lb hb.out), Lib.hid (far Lc hc.out), Lib.hid ?_, Lib.hid ?_⟩
  · have h9' := (hd.out.drew.below h8 hd.out.lt).below h9 (hd.out.drew.below h8 hd.out.lt).lt
    exact ((h9'.set_ 0 a).set_ 1 b).set_ 2 c
  · have hs : W.heap.size ≤ w8.heap.size := h8.size
    have h2 : Below w.heap.size w w9 := (hw.out.drew.trans (h8.mono hw.out.size)).trans (h9.mono (Nat.le_trans hw.out.size hs))
    exact ((h2.setCell (p := ⟨g, 0, none⟩) Lw a).setCell (p := ⟨g, 1, none⟩) Lw b).setCell (p := ⟨g, 2, none⟩) Lw c

set_option maxRecDepth 100000 in
set_option maxHeartbeats 8000000 in
theorem numWays_same (U K N lz a : Nat) (s Z E1 E2 E3 d : ByteArray) (neg : Bool) (x : Int) (w : World) (hG : Glob w) (hU : U ≤ 4294967295) (hK : K ≤ 255) (hN : N ≤ 255)
    (hlz : lz = N % 9) (ha : a = K % (s.size + 1)) (hs0 : 1 ≤ s.size) (hs : s.size ≤ 20) (hZ : Z.data.toList = List.replicate lz 48) (h1 : E1.size ≤ 20) (h2 : E2.size ≤ 20) (h3 : E3.size ≤ 20)
    (D0 : ∀ w, Calls Tryd.prog 18 #[.int .i64 U] w fun e w' => e = .returned (.string s) ∧ Below w.heap.size w w')
    (D1 : ∀ w, Calls Tryd.prog 18 #[.int .i64 ((s.size : Int) + (Z.size : Int))] w fun e w' => e = .returned (.string E1) ∧ Below w.heap.size w w')
    (D2 : ∀ w, Calls Tryd.prog 18 #[.int .i64 (Z.size : Int)] w fun e w' => e = .returned (.string E2) ∧ Below w.heap.size w w')
    (D3 : 0 < a → a < s.size → ∀ w, Calls Tryd.prog 18 #[.int .i64 ((s.size : Int) - (a : Int))] w fun e w' => e = .returned (.string E3) ∧ Below w.heap.size w w')
    (P0 : ∀ w, Glob w → Calls Tryd.prog 10 #[.string s] w fun e w' => e = .returned (.tuple #[.agg #[.bool neg, .string d, .int .i64 x], .int .i64 0]) ∧ Below w.heap.size w w')
    (P1 : ∀ w, Glob w → Calls Tryd.prog 10 #[.string (⟨#[48, 46]⟩ ++ Z ++ s ++ Z ++ ⟨#[101]⟩ ++ E1)] w fun e w' => e = .returned (.tuple #[.agg #[.bool neg, .string d, .int .i64 x], .int .i64 0]) ∧ Below w.heap.size w w')
    (P2 : ∀ w, Glob w → Calls Tryd.prog 10 #[.string (s ++ Z ++ ⟨#[69, 45]⟩ ++ E2)] w fun e w' => e = .returned (.tuple #[.agg #[.bool neg, .string d, .int .i64 x], .int .i64 0]) ∧ Below w.heap.size w w')
    (P3 : 0 < a → a < s.size → ∀ w, Glob w → Calls Tryd.prog 10 #[.string (s.extract 0 a ++ ⟨#[46]⟩ ++ s.extract a s.size ++ ⟨#[101, 43]⟩ ++ E3)] w fun e w' => e = .returned (.tuple #[.agg #[.bool neg, .string d, .int .i64 x], .int .i64 0]) ∧ Below w.heap.size w w') :
    Calls Tryd.prog 5 #[.int .u32 U, .int .u8 K, .int .u8 N] w fun e w' => e = .returned (.bool true) ∧ Below w.heap.size w w' := by
  have hZs : Z.size = lz := by rw [Lib.size_eq, hZ, List.length_replicate]
  have hlz8 : lz ≤ 8 := by omega
  have hal : a ≤ s.size := by have := Nat.mod_lt K (show 0 < s.size + 1 by omega); omega
  have q0 : IntKind.i64.wrap (U : Int) = (U : Int) := IntWalk.i64_in _ (by omega)
  have q1 : IntKind.i64.wrap (K : Int) = (K : Int) := IntWalk.i64_in _ (by omega)
  have q2 : IntKind.i64.wrap (N : Int) = (N : Int) := IntWalk.i64_in _ (by omega)
  have q3 : (N : Int).tmod 9 = (lz : Int) := by rw [Int.tmod_eq_emod_of_nonneg (by omega)]; omega
  have q4 : IntKind.i64.wrap (lz : Int) = (lz : Int) := IntWalk.i64_in _ (by omega)
  have q5 : IntKind.i64.wrap ((s.size : Int) + 1) = (s.size : Int) + 1 := IntWalk.i64_in _ (by omega)
  have q6 : ((s.size : Int) + 1 == 0) = false := by rw [beq_eq_false_iff_ne]; omega
  have q7 : (K : Int).tmod ((s.size : Int) + 1) = (a : Int) := by rw [Int.tmod_eq_emod_of_nonneg (by omega), ha]; push_cast; rfl
  have q8 : IntKind.i64.wrap (a : Int) = (a : Int) := IntWalk.i64_in _ (by omega)
  have q9 : IntKind.i64.wrap ((s.size : Int) + (Z.size : Int)) = (s.size : Int) + (Z.size : Int) := IntWalk.i64_in _ (by omega)
  have r0 : ¬ 9223372036854775807 < 2 + Z.size := by omega
  have r1 : ¬ 9223372036854775807 < 2 + Z.size + s.size := by omega
  have r2 : ¬ 9223372036854775807 < 2 + Z.size + s.size + Z.size := by omega
  have r3 : ¬ 9223372036854775807 < 2 + Z.size + s.size + Z.size + 1 := by omega
  have r4 : ¬ 9223372036854775807 < 2 + Z.size + s.size + Z.size + 1 + E1.size := by omega
  have r5 : ¬ 9223372036854775807 < s.size + Z.size := by omega
  have r6 : ¬ 9223372036854775807 < s.size + Z.size + 2 := by omega
  have r7 : ¬ 9223372036854775807 < s.size + Z.size + 2 + E2.size := by omega
  have HD0 := Lib.hid D0
  have HD1 := Lib.hid D1
  have HD2 := Lib.hid D2
  have HD3 := Lib.hid D3
  have HP0 := Lib.hid P0
  have HP1 := Lib.hid P1
  have HP2 := Lib.hid P2
  have HP3 := Lib.hid P3
  have HG := Lib.hid hG
  have HW := Lib.hid (Below.refl w.heap.size w)
  have HZ := Lib.hid hZ
  have HA := Lib.hid hal
  have HE3 := Lib.hid h3
  have HSS := Lib.hid hs
  clear D0 D1 D2 D3 P0 P1 P2 P3 hG hZ hlz ha hU hK hN h1 h2 h3 hZs hal hs
  go_enter Tryd.func5, Tryd.ntmps5
  go_wp2_with fail
  refine (wakes_any _ HG.out).mono ?_
  rintro e w1 ⟨rfl, hb⟩
  have KW := Lib.hid (HW.out.trans (hb.mono HW.out.size))
  have KG := Lib.hid (HG.out.below hb)
  clear hb HW HG  
  have HW := KW
  have HG := KG
  clear KW KG 
  go_wp2_with fail
  refine (HD0.out _).mono ?_
  rintro e w2 ⟨rfl, hb⟩
  have KW := Lib.hid (HW.out.trans (hb.mono HW.out.size))
  have KG := Lib.hid (HG.out.below hb)
  clear hb HW HG  
  have HW := KW
  have HG := KG
  clear KW KG 
  go_wp2_with fail
  go_loop [8, 26] (fun zs i => ∃ (j : Nat) (z : ByteArray), j ≤ lz ∧ z.size = j ∧ zs = .string z ∧ i = .int .i64 j ∧ Hid (z.data.toList = List.replicate j 48)) (fun _ i => lz - (intOf i).toNat)
  case atStart => exact ⟨0, ⟨#[]⟩, by omega, rfl, rfl, rfl, rfl⟩
  case round =>
    obtain ⟨j, z, hj, hz, rfl, rfl, hl⟩ := hrel
    by_cases hlt : j < lz
    · have hlt2 : (j : Int) < (lz : Int) := by omega
      have hcat : ¬ 9223372036854775807 < z.size + 1 := by omega
      go_wp2_with fail
      go_round
      case rel =>
        refine ⟨j + 1, z ++ ⟨#[48]⟩, by omega, by rw [ByteArray.size_append, hz]; rfl, rfl, by go_num, ?_⟩
        unfold Hid
        rw [data_append, hl.out, List.replicate_succ']
      case measure => simp [intOf]; omega
    · have hge : ¬ (j : Int) < (lz : Int) := by omega
      have hjk : j = lz := by omega
      have hzz : z = Z := by rw [bytes_eta z _ hl.out, bytes_eta Z _ HZ.out, hjk]
      clear hl hjk hz hj hlt
      subst hzz
      clear HZ
      go_wp2_with fail
      refine (HP0.out _ HG.out).mono ?_
      rintro e w3 ⟨rfl, hb⟩
      have KW := Lib.hid (HW.out.trans (hb.mono HW.out.size))
      have KG := Lib.hid (HG.out.below hb)
      clear hb HW HG  
      have HW := KW
      have HG := KG
      clear KW KG 
      have KN := Lib.hid (Blk.new w3 24 #[.bool neg, .string d, .int .i64 x])
      have KW := Lib.hid (HW.out.alloc HW.out.size (.cells #[.bool neg, .string d, .int .i64 x] 24))
      have KG := Lib.hid (HG.out.below ((Below.refl w3.heap.size w3).alloc (Nat.le_refl _) (.cells #[.bool neg, .string d, .int .i64 x] 24)))
      clear  HW HG  
      have HW := KW
      have HG := KG
      clear KW KG 
      have HBa := KN
      clear KN
      go_wp2_with fail
      refine (HD1.out _).mono ?_
      rintro e w4 ⟨rfl, hb⟩
      have KHBa := Lib.hid (HBa.out.below hb HBa.out.lt)
      have KW := Lib.hid (HW.out.trans (hb.mono HW.out.size))
      have KG := Lib.hid (HG.out.below hb)
      clear hb HW HG HBa 
      have HBa := KHBa
      have HW := KW
      have HG := KG
      clear KW KG KHBa
      go_wp2_with fail
      refine (HP1.out _ HG.out).mono ?_
      rintro e w5 ⟨rfl, hb⟩
      have KHBa := Lib.hid (HBa.out.below hb HBa.out.lt)
      have KW := Lib.hid (HW.out.trans (hb.mono HW.out.size))
      have KG := Lib.hid (HG.out.below hb)
      clear hb HW HG HBa 
      have HBa := KHBa
      have HW := KW
      have HG := KG
      clear KW KG KHBa
      have KHBa := Lib.hid (HBa.out.alloc (.cells #[.bool neg, .string d, .int .i64 x] 24))
      have KN := Lib.hid (Blk.new w5 24 #[.bool neg, .string d, .int .i64 x])
      have KW := Lib.hid (HW.out.alloc HW.out.size (.cells #[.bool neg, .string d, .int .i64 x] 24))
      have KG := Lib.hid (HG.out.below ((Below.refl w5.heap.size w5).alloc (Nat.le_refl _) (.cells #[.bool neg, .string d, .int .i64 x] 24)))
      clear  HW HG HBa 
      have HBa := KHBa
      have HW := KW
      have HG := KG
      clear KW KG KHBa
      have HBb := KN
      clear KN
      go_wp2_with fail
      refine (HD2.out _).mono ?_
      rintro e w6 ⟨rfl, hb⟩
      have KHBa := Lib.hid (HBa.out.below hb HBa.out.lt)
      have KHBb := Lib.hid (HBb.out.below hb HBb.out.lt)
      have KW := Lib.hid (HW.out.trans (hb.mono HW.out.size))
      have KG := Lib.hid (HG.out.below hb)
      clear hb HW HG HBa HBb 
      have HBa := KHBa
      have HBb := KHBb
      have HW := KW
      have HG := KG
      clear KW KG KHBa KHBb
      go_wp2_with fail
      refine (HP2.out _ HG.out).mono ?_
      rintro e w7 ⟨rfl, hb⟩
      have KHBa := Lib.hid (HBa.out.below hb HBa.out.lt)
      have KHBb := Lib.hid (HBb.out.below hb HBb.out.lt)
      have KW := Lib.hid (HW.out.trans (hb.mono HW.out.size))
      have KG := Lib.hid (HG.out.below hb)
      clear hb HW HG HBa HBb 
      have HBa := KHBa
      have HBb := KHBb
      have HW := KW
      have HG := KG
      clear KW KG KHBa KHBb
      have KHBa := Lib.hid (HBa.out.alloc (.cells #[.bool neg, .string d, .int .i64 x] 24))
      have KHBb := Lib.hid (HBb.out.alloc (.cells #[.bool neg, .string d, .int .i64 x] 24))
      have KN := Lib.hid (Blk.new w7 24 #[.bool neg, .string d, .int .i64 x])
      have KW := Lib.hid (HW.out.alloc HW.out.size (.cells #[.bool neg, .string d, .int .i64 x] 24))
      have KG := Lib.hid (HG.out.below ((Below.refl w7.heap.size w7).alloc (Nat.le_refl _) (.cells #[.bool neg, .string d, .int .i64 x] 24)))
      clear  HW HG HBa HBb 
      have HBa := KHBa
      have HBb := KHBb
      have HW := KW
      have HG := KG
      clear KW KG KHBa KHBb
      have HBc := KN
      clear KN
      have cHBa0 := HBa.out.cell 0
      have cHBa1 := HBa.out.cell 1
      have cHBa2 := HBa.out.cell 2
      have HBd : Hid (Blk ((w7.alloc (.cells #[.bool neg, .string d, .int .i64 x] 24)).alloc (.cells #[.bool neg, .string d, .int .i64 x] 24)) (w7.heap.size + 1) 24 #[.bool neg, .string d, .int .i64 x]) := by
        have := Blk.new (w7.alloc (.cells #[.bool neg, .string d, .int .i64 x] 24)) 24 #[.bool neg, .string d, .int .i64 x]
        simp only [World.size_alloc] at this
        exact Lib.hid this
      have KHBa := Lib.hid (HBa.out.alloc (.cells #[.bool neg, .string d, .int .i64 x] 24))
      have KHBb := Lib.hid (HBb.out.alloc (.cells #[.bool neg, .string d, .int .i64 x] 24))
      have KHBc := Lib.hid (HBc.out.alloc (.cells #[.bool neg, .string d, .int .i64 x] 24))
      have KW := Lib.hid (HW.out.alloc HW.out.size (.cells #[.bool neg, .string d, .int .i64 x] 24))
      have KG := Lib.hid (HG.out.below ((Below.refl _ _).alloc (Nat.le_refl _) (.cells #[.bool neg, .string d, .int .i64 x] 24)))
      have La : w3.heap.size < w7.heap.size + 1 := by have := HBa.out.lt; rw [World.size_alloc] at this; exact this
      have Lb : w5.heap.size < w7.heap.size + 1 := by have := HBb.out.lt; rw [World.size_alloc] at this; exact this
      have Lc : w7.heap.size < w7.heap.size + 1 := Nat.lt_succ_self _
      have Lw : w.heap.size ≤ w7.heap.size + 1 := by have := HW.out.size; rw [World.size_alloc] at this; exact this
      clear HBa HBb HBc HW HG HD0 HD1 HD2 HP0 HP1 HP2
      obtain ⟨bb, hbb⟩ : ∃ bb : Bool, bb = decide (0 < a ∧ a < s.size) := ⟨_, rfl⟩
      have HBB := Lib.hid hbb
      clear hbb
      go_upto_region 14 with fail
      go_cut [81] (fun v wx => v = .bool bb ∧ wx = (w7.alloc (.cells #[.bool neg, .string d, .int .i64 x] 24)).alloc (.cells #[.bool neg, .string d, .int .i64 x] 24))
      case first =>
        by_cases g0 : 0 < a
        · have k0 : (0 : Int) < (a : Int) := by omega
          by_cases g1 : a < s.size
          · have k1 : (a : Int) < (s.size : Int) := by omega
            go_wp2_with fail
            go_meet
            exact ⟨by rw [HBB.out]; simp [g0, g1], rfl⟩
          · have k1 : ¬ (a : Int) < (s.size : Int) := by omega
            go_wp2_with fail
            go_meet
            exact ⟨by rw [HBB.out]; simp [g1], rfl⟩
        · have k0 : ¬ (0 : Int) < (a : Int) := by omega
          go_wp2_with fail
          go_meet
          exact ⟨by rw [HBB.out]; simp [g0], rfl⟩
      case rest =>
       obtain ⟨rfl, rfl⟩ := hcut
       go_upto_if 81 with fail
       go_cut [17] (fun h wx => h = .int .i64 0 ∧ Hid (Blk wx w3.heap.size 24 #[.bool neg, .string d, .int .i64 x]) ∧ Hid (Blk wx w5.heap.size 24 #[.bool neg, .string d, .int .i64 x]) ∧ Hid (Blk wx w7.heap.size 24 #[.bool neg, .string d, .int .i64 x]) ∧ Hid (Blk wx (w7.heap.size + 1) 24 #[.bool neg, .string d, .int .i64 x]) ∧ Hid (Below w.heap.size w wx))
       case first =>
        cases bb with
        | true =>
          have hin : 0 < a ∧ a < s.size := of_decide_eq_true HBB.out.symm
          obtain ⟨g0, g1⟩ := hin
          have k1' : (a : Int) ≤ (s.size : Int) := by omega
          have k0 : (0 : Int) ≤ (a : Int) := by omega
          have k2 : IntKind.i64.wrap ((s.size : Int) - (a : Int)) = (s.size : Int) - (a : Int) := IntWalk.i64_in _ (by have := HSS.out; omega)
          have k3 : (s.extract 0 a).size = a := by rw [ByteArray.size_extract]; omega
          have k4 : (s.extract a s.size).size = s.size - a := by rw [ByteArray.size_extract]; omega
          have HD := Lib.hid (HD3.out g0 g1)
          have HP := Lib.hid (HP3.out g0 g1)
          have e1 : ¬ 9223372036854775807 < (s.extract 0 a).size + 1 := by have := HSS.out; omega
          have e2 : ¬ 9223372036854775807 < (s.extract 0 a).size + 1 + (s.extract a s.size).size := by have := HSS.out; omega
          have e3 : ¬ 9223372036854775807 < (s.extract 0 a).size + 1 + (s.extract a s.size).size + 2 := by have := HSS.out; omega
          have e4 : ¬ 9223372036854775807 < (s.extract 0 a).size + 1 + (s.extract a s.size).size + 2 + E3.size := by have := HSS.out; have := HE3.out; omega
          have b1 : s.size ≤ 20 := HSS.out
          have b2 : E3.size ≤ 20 := HE3.out
          have b3 : a ≤ 20 := by omega
          clear HD3 HP3 e1 e2 e3 e4
          go_wp2_with fail
          go_region_with (first
            | (go_at_call 18; refine (HD.out _).mono ?_; rintro e' w8 ⟨rfl, hb8⟩; have hB8 := HBd.out.drew.below hb8 HBd.out.lt)
            | (go_at_call 10; refine (HP.out _ (KG.out.drew.below hb8)).mono ?_; rintro e' w9 ⟨rfl, hb9⟩; have hB9 := hB8.below hb9 hB8.lt; have c0 := hB9.cell 0; have c1 := hB9.cell 1; have c2 := hB9.cell 2; have f0 := hB9.frozen 0; have f1 := hB9.frozen 1; have f2 := hB9.frozen 2))
          all_goals (go_wp2_with fail; go_meet; exact ⟨rfl, ways_end La Lb Lc Lw KHBa KHBb KHBc HBd KW hb8 hb9⟩)
        | false =>
          go_wp2_with fail
          go_meet
          exact ⟨rfl, KHBa, KHBb, KHBc, HBd, KW⟩
       case rest =>
        clear KHBa KHBb KHBc HBd KW KG HD3 HP3
        obtain ⟨rfl, HBa, HBb, HBc, HBd, HW⟩ := hcut
        have cHBa0 := HBa.out.cell 0
        have cHBa1 := HBa.out.cell 1
        have cHBa2 := HBa.out.cell 2
        have cHBb0 := HBb.out.cell 0
        have cHBb1 := HBb.out.cell 1
        have cHBb2 := HBb.out.cell 2
        have cHBc0 := HBc.out.cell 0
        have cHBc1 := HBc.out.cell 1
        have cHBc2 := HBc.out.cell 2
        have cHBd0 := HBd.out.cell 0
        have cHBd1 := HBd.out.cell 1
        have cHBd2 := HBd.out.cell 2
        go_wp2_with fail
        go_ret
        exact ⟨rfl, HW.out⟩

end Go.Proofs.YtffcmfhicefahaaDoor
