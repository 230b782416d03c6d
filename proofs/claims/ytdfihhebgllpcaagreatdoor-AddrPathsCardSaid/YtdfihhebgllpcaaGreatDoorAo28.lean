import Derived.Test.YtdfihhebgllpcaaGreatDoorAo27

/- The walk of addr.Parse. -/
namespace Go.Proofs.YtdfihhebgllpcaaGreatDoor
open Go.RowKit Go.Proofs.QuotePlain Go.Proofs.UtfPlain Go.Proofs.LexPlain Go.Proofs.AddrPlain

theorem parse_res (B : Nat) (cs : Array Value) (x : Int) (W : World) (tmps : Array Value) (h6 : cs.size = 6) (hB : Blk W B 29 cs) (h : tmps[2]? = some (.pointer (some ⟨B, 0, none⟩))) (h3 : tmps[3]? = some (.int .i64 x)) :
    (results Tryz.f39 tmps).run Tryz.prog W = .ok (.tuple #[.agg cs, .int .i64 x]) W := by
  obtain ⟨l⟩ := cs
  match l, h6 with
  | [v0, v1, v2, v3, v4, v5], _ =>
    have c0 : W.cell? ⟨B, 0, none⟩ = some v0 := hB.cell 0
    have c1 : W.cell? ⟨B, 1, none⟩ = some v1 := hB.cell 1
    have c2 : W.cell? ⟨B, 2, none⟩ = some v2 := hB.cell 2
    have c3 : W.cell? ⟨B, 3, none⟩ = some v3 := hB.cell 3
    have c4 : W.cell? ⟨B, 4, none⟩ = some v4 := hB.cell 4
    have c5 : W.cell? ⟨B, 5, none⟩ = some v5 := hB.cell 5
    simp [results, Tryz.results39, go_sem, h, h3, c0, c1, c2, c3, c4, c5]
theorem drewN_drewN (w : World) (a b : Nat) : (w.drewN a).drewN b = w.drewN (a + b) := by
  simp [World.drewN, Nat.add_assoc]
/-- The key's three cells laid into an address's block. -/
theorem key_in (W : World) (A : Nat) (k m : Int) (T : ByteArray) (h : Blk W A 29 adZ) :
    Blk (((W.setCell ⟨A, 3, none⟩ (.int .i64 k)).setCell ⟨A, 4, none⟩ (.int .u64 m)).setCell ⟨A, 5, none⟩ (.string T)) A 29 #[.slice none 0 0, .string ⟨#[]⟩, .string ⟨#[]⟩, .int .i64 k, .int .u64 m, .string T] :=
  (((h.set_ 3 _).set_ 4 _).set_ 5 _)

theorem below_six {w W : World} {R : Nat} {v0 v1 v2 v3 v4 v5 : Value} (h : Below R w W) :
    Below R w ((((((W.setCell ⟨R, 0, none⟩ v0).setCell ⟨R, 1, none⟩ v1).setCell ⟨R, 2, none⟩ v2).setCell ⟨R, 3, none⟩ v3).setCell ⟨R, 4, none⟩ v4).setCell ⟨R, 5, none⟩ v5) :=
  (((((h.setCell (p := ⟨R, 0, none⟩) (Nat.le_refl _) _).setCell (p := ⟨R, 1, none⟩) (Nat.le_refl _) _).setCell (p := ⟨R, 2, none⟩) (Nat.le_refl _) _).setCell (p := ⟨R, 3, none⟩) (Nat.le_refl _) _).setCell (p := ⟨R, 4, none⟩) (Nat.le_refl _) _).setCell (p := ⟨R, 5, none⟩) (Nat.le_refl _) _

theorem own_six {W : World} {S R n : Nat} {v : Value} {xs : List Value} {v0 v1 v2 v3 v4 v5 : Value} (h : W.ownsRow (S + 1) 9 1 v n xs) (hR : R < S + 1) :
    ((((((W.setCell ⟨R, 0, none⟩ v0).setCell ⟨R, 1, none⟩ v1).setCell ⟨R, 2, none⟩ v2).setCell ⟨R, 3, none⟩ v3).setCell ⟨R, 4, none⟩ v4).setCell ⟨R, 5, none⟩ v5).ownsRow (S + 1) 9 1 v n xs :=
  ownsRow_setCell_below (ownsRow_setCell_below (ownsRow_setCell_below (ownsRow_setCell_below (ownsRow_setCell_below (ownsRow_setCell_below h (a := ⟨R, 0, none⟩) hR _) (a := ⟨R, 1, none⟩) hR _) (a := ⟨R, 2, none⟩) hR _) (a := ⟨R, 3, none⟩) hR _) (a := ⟨R, 4, none⟩) hR _) (a := ⟨R, 5, none⟩) hR _
theorem own_form {w : World} {B n : Nat} {v : Value} {xs : List Value} (h : w.ownsRow B 9 1 v (n + 1) xs) : ∃ g cap, v = .slice (some ⟨g, 0, none⟩) (n + 1) cap := by
  rcases h.2 with ⟨_, h0⟩ | ⟨g, cap, cur, hv, _⟩
  · omega
  · exact ⟨g, cap, hv⟩
theorem grown_parts {w w6 W0 W1 : World} {S R n : Nat} {v : Value} {xs : List Value} {ca cr cs : Array Value} (hg : w.grownBy w6 v.ownBlock) (ho : W1.ownsRow (S + 1) 9 1 v n xs) (hRS : R + 1 ≤ S)
    (hA : Blk w (R + 1) 29 ca) (hR : Blk w R 29 cr) (hS : Blk w S 9 cs) (hL : Below R W0 w) :
    Blk w6 (R + 1) 29 ca ∧ Blk w6 R 29 cr ∧ Blk w6 S 9 cs ∧ Below R W0 w6 ∧ w.heap.size ≤ w6.heap.size := by
  have ne : ∀ b, b ≤ S → some b ≠ v.ownBlock := fun b hb e => by have := (ho.lt b e.symm).1; omega
  refine ⟨(hg.block _ hA.lt (ne _ (by omega))).trans hA, (hg.block _ hR.lt (ne _ (by omega))).trans hR, (hg.block _ hS.lt (ne _ (Nat.le_refl _))).trans hS, ?_, hg.size⟩
  exact hL.trans ⟨hg.os, hg.tape, hg.output, hg.size, fun b hb => hg.block b (by have := hR.lt; omega) (ne b (by omega))⟩

set_option maxRecDepth 100000 in
set_option maxHeartbeats 8000000 in
theorem aparse_any (s : ByteArray) (w : World) (hs : s.size ≤ 100000) (hG : AdG w) :
    Calls Tryz.prog 39 #[.string s] w fun e w' => ParseEnd (parseA s.data.toList) w' e ∧ Below w.heap.size w w' := by
  have hl := ((Below.refl w.heap.size w).alloc (Nat.le_refl _) (.cells adZ 29)).alloc (by simp) (.cells adZ 29)
  have hR := (Blk.new w 29 adZ).alloc (.cells adZ 29)
  have hA := Blk.new (w.alloc (.cells adZ 29)) 29 adZ
  obtain ⟨hd, hhd⟩ : ∃ hd, mk (aheadC 91 s.data.toList) = hd := ⟨_, rfl⟩
  obtain ⟨bh, hbh⟩ : ∃ bh, behindC 91 s.data.toList = bh := ⟨_, rfl⟩
  have CC : Hid (∀ W, Glob W → Calls Tryz.prog 83 #[.string s, .string ⟨#[91]⟩] W fun e w' => e = .returned (.tuple #[.string hd, .string (mk (bh.getD [])), .bool bh.isSome]) ∧ ∃ n, w' = W.drewN n) := fun W h => by
    rw [← hhd, ← hbh]; exact cut91_any s W h hs
  have HPA : Hid (parseA s.data.toList = match keyPart bh with | none => none | some k => made k (splitC 46 hd.data.toList)) := by
    unfold Hid parseA; rw [hbh, ← hhd, mk_data]
    cases keyPart bh <;> rfl
  have hhs : hd.size ≤ 100000 := by
    rw [← hhd, Lib.size_eq, mk_data]
    have : (aheadC 91 s.data.toList).length ≤ s.data.toList.length := (List.takeWhile_sublist _).length_le
    rw [← Lib.size_eq] at this; omega
  have hbs : ∀ r, bh = some r → r.length ≤ 100000 := fun r hr => by
    rcases cutC_cases 91 s.data.toList with ⟨_, _, h3⟩ | ⟨a, b, _, h2, _, h4⟩
    · rw [← hbh, h3] at hr; cases hr
    · rw [← hbh, h4] at hr; injection hr with hr
      have := congrArg List.length h2
      rw [← Lib.size_eq] at this
      rw [List.length_append, List.length_cons, hr] at this; omega
  have HBS := Lib.hid hbs
  obtain ⟨PR, hPR⟩ : ∃ PR, parseA s.data.toList = PR := ⟨_, rfl⟩
  rw [hPR] at HPA ⊢
  have HHS := Lib.hid hhs
  obtain ⟨W, hW⟩ : ∃ W, (w.alloc (.cells adZ 29)).alloc (.cells adZ 29) = W := ⟨_, rfl⟩
  obtain ⟨R, hRR⟩ : ∃ R, w.heap.size = R := ⟨_, rfl⟩
  have hA1 : (w.alloc (.cells adZ 29)).heap.size = R + 1 := by rw [← hRR]; simp
  have hWs : W.heap.size = R + 2 := by rw [← hW, ← hRR]; simp
  rw [hA1] at hA
  have hGL : ∀ W, Below w.heap.size w W → AdG W := fun W h => hG.below h
  rw [hW] at hl hR hA
  rw [hRR] at hl hR hGL ⊢
  have HGL := Lib.hid hGL
  have HL := Lib.hid hl
  have HR := Lib.hid hR
  have HA := Lib.hid hA
  have HWS := Lib.hid hWs
  clear hl hR hA hGL hhd hbh hPR hG hbs hA1 hWs hhs hs
  unfold adZ at hW
  go_enter Tryz.func39, Tryz.ntmps39
  go_upto_region 2 with fail
  clear hW hRR
  go_wp2_with fail
  refine (CC.out _ (HGL.out _ HL.out).lx.gl).mono ?_
  rintro e w2 ⟨rfl, n, rfl⟩
  have HL2 := Lib.hid (below_drewN HL.out n)
  have HR2 := Lib.hid (HR.out.drewN n)
  have HA2 := Lib.hid (HA.out.drewN n)
  have HWS2 : Hid ((W.drewN n).heap.size = R + 2) := HWS.out
  obtain ⟨W2, hW2⟩ : ∃ W2, W.drewN n = W2 := ⟨_, rfl⟩
  rw [hW2] at HL2 HR2 HA2 HWS2 ⊢
  clear hW2 HL HR HA HWS CC
  have HV2 : Hid (R + 2 ≤ W2.heap.size) := by unfold Hid; rw [HWS2.out]; exact Nat.le_refl _
  go_upto_if 19 with fail
  go_cut [5] (fun v wx => v = .string hd ∧ ∃ k : Int × Nat × List UInt8, Hid (PR = made k (splitC 46 hd.data.toList)) ∧ Hid (k.2.1 < 18446744073709551616 ∧ k.2.2.length ≤ 100000) ∧ Hid (Blk wx (R + 1) 29 (adV (.slice none 0 0) ⟨[], ⟨#[]⟩, ⟨#[]⟩, k.1, k.2.1, mk k.2.2⟩)) ∧ Hid (Blk wx R 29 adZ) ∧ Hid (Below R w wx) ∧ Hid (R + 2 ≤ wx.heap.size))
  case first =>
    cases bh with
    | none =>
      have HQ : Hid (PR = made (0, 0, []) (splitC 46 hd.data.toList)) := HPA.out
      clear HPA
      go_wp2_with fail
      go_meet
      exact ⟨rfl, (0, 0, []), HQ, Lib.hid ⟨(by omega : (0 : Nat) < 18446744073709551616), by simp⟩, HA2, HR2, HL2, HV2⟩
    | some r =>
      have hrs := HBS.out r rfl
      obtain ⟨inn, hinn⟩ : ∃ inn : ByteArray, mk (if r.getLast? = some 93 then r.dropLast else r) = inn := ⟨_, rfl⟩
      obtain ⟨ok, hok⟩ : ∃ ok, decide (r.getLast? = some 93) = ok := ⟨_, rfl⟩
      have CS : Hid (∀ W, Calls Tryz.prog 84 #[.string (mk r), .string ⟨#[93]⟩] W fun e w' => e = .returned (.tuple #[.string inn, .bool ok]) ∧ w' = W) := fun W => by
        have h := Tryz.strings_CutSuffix (mk r) ⟨#[93]⟩ W (by rw [Lib.size_eq, mk_data]; omega)
        have e1 : Lib.trimSuffix (mk r).data.toList (⟨#[93]⟩ : ByteArray).data.toList = (if r.getLast? = some 93 then r.dropLast else r) := by rw [mk_data]; exact (suffix_eq r 93).2
        have e2 : Lib.hasSuffix (mk r).data.toList (⟨#[93]⟩ : ByteArray).data.toList = decide (r.getLast? = some 93) := by rw [mk_data]; exact (suffix_eq r 93).1
        rw [e1, e2] at h
        rw [← hinn, ← hok]
        exact h
      have his : inn.size ≤ 100000 := by
        rw [← hinn, Lib.size_eq, mk_data]
        split
        · rw [List.length_dropLast]; omega
        · exact hrs
      have HKP : Hid (keyPart (some r) = if ok = true then inBrk inn.data.toList else none) := by
        unfold Hid keyPart
        rw [← hinn, ← hok, mk_data]
        by_cases h : r.getLast? = some 93
        · simp [h]
        · simp [h]
      have CB : Hid (∀ W, AdG W → Calls Tryz.prog 85 #[.string inn] W fun e w' => KeyEnd inn.data.toList e ∧ Below W.heap.size W w') := fun W hG => brk_any inn W his hG
      clear hinn hok
      go_wp2_with fail
      refine (CS.out _).mono ?_
      rintro e w3 ⟨rfl, rfl⟩
      go_wp2_with fail
      refine (CB.out _ (HGL.out _ HL2.out)).mono ?_
      intro e w4 hh
      obtain ⟨⟨k, m, T, rfl, hk⟩, hb⟩ := hh
      have HL4 := Lib.hid (HL2.out.trans (hb.mono (by rw [HWS2.out]; omega)))
      have HR4 := Lib.hid (HR2.out.below hb HR2.out.lt)
      have HA4 := Lib.hid (HA2.out.below hb HA2.out.lt)
      have HWS4 : Hid (R + 2 ≤ w4.heap.size) := by have := hb.size; rw [HWS2.out] at this; exact this
      have HK := Lib.hid hk
      clear hb hk HL2 HR2 HA2 HWS2 CS CB
      obtain ⟨ib, hib0⟩ : ∃ ib, inBrk inn.data.toList = ib := ⟨_, rfl⟩
      rw [hib0] at HK HKP ⊢
      have HIB := Lib.hid hib0
      clear hib0
      have hLk := HL4.out.alloc (by have := HWS4.out; omega) (.cells #[.int .i64 k, .int .u64 m, .string T] 105)
      have hRk := HR4.out.alloc (.cells #[.int .i64 k, .int .u64 m, .string T] 105)
      have hAk := HA4.out.alloc (.cells #[.int .i64 k, .int .u64 m, .string T] 105)
      have hKk := Blk.new w4 105 #[.int .i64 k, .int .u64 m, .string T]
      obtain ⟨K, hKK⟩ : ∃ K, w4.heap.size = K := ⟨_, rfl⟩
      obtain ⟨W4, hW4⟩ : ∃ W4, w4.alloc (.cells #[.int .i64 k, .int .u64 m, .string T] 105) = W4 := ⟨_, rfl⟩
      have hKR : R + 2 ≤ K := by rw [← hKK]; exact HWS4.out
      have hKs : W4.heap.size = K + 1 := by rw [← hW4, ← hKK]; simp
      rw [hW4] at hLk hRk hAk hKk
      rw [hKK] at hKk
      have HLk := Lib.hid hLk
      have HRk := Lib.hid hRk
      have HAk := Lib.hid hAk
      have HKk := Lib.hid hKk
      have HKs := Lib.hid hKs
      clear hLk hRk hAk hKk hKs HL4 HR4 HA4 HWS4
      go_upto_region 6 with fail
      clear hKK hW4
      have r0 : W4.cell? ⟨R, 0, none⟩ = some (.slice none 0 0) := HRk.out.cell 0
      have r1 : W4.cell? ⟨R, 1, none⟩ = some (.string ⟨#[]⟩) := HRk.out.cell 1
      have r2 : W4.cell? ⟨R, 2, none⟩ = some (.string ⟨#[]⟩) := HRk.out.cell 2
      have r3 : W4.cell? ⟨R, 3, none⟩ = some (.int .i64 0) := HRk.out.cell 3
      have r4 : W4.cell? ⟨R, 4, none⟩ = some (.int .u64 0) := HRk.out.cell 4
      have r5 : W4.cell? ⟨R, 5, none⟩ = some (.string ⟨#[]⟩) := HRk.out.cell 5
      have fr := HRk.out.frozen
      have fr0 := fr 0
      have fr1 := fr 1
      have fr2 := fr 2
      have fr3 := fr 3
      have fr4 := fr 4
      have fr5 := fr 5
      clear fr
      by_cases hgood : ok = true ∧ ib.isSome = true
      case neg =>
        have HN : Hid (PR = none) := by
          unfold Hid
          rw [HPA.out, HKP.out]
          cases ok with
          | false => rfl
          | true =>
            cases ib with
            | none => rfl
            | some x => exact absurd ⟨rfl, rfl⟩ hgood
        clear HPA HKP HK
        have hor : (!ok || !ib.isSome) = true := by
          cases ok with
          | false => rfl
          | true =>
            cases ib with
            | none => rfl
            | some x => exact absurd ⟨rfl, rfl⟩ hgood
        cases ok with
        | false =>
          clear hgood hor
          go_wp2_with fail
          refine bodyPost_ret (parse_res R adZ 3 _ _ rfl ((((((HRk.out.set_ 0 _).set_ 1 _).set_ 2 _).set_ 3 _).set_ 4 _).set_ 5 _) rfl rfl) rfl ⟨⟨.slice none 0 0, ?_, ?_⟩, ?_⟩
          · rw [HN.out]; exact strS_nil _ _
          · rw [HN.out]; rfl
          · exact below_six HLk.out
        | true =>
          cases ib with
          | some x => exact absurd ⟨rfl, rfl⟩ hgood
          | none =>
            clear hgood hor
            go_wp2_with fail
            refine bodyPost_ret (parse_res R adZ 3 _ _ rfl ((((((HRk.out.set_ 0 _).set_ 1 _).set_ 2 _).set_ 3 _).set_ 4 _).set_ 5 _) rfl rfl) rfl ⟨⟨.slice none 0 0, ?_, ?_⟩, ?_⟩
            · rw [HN.out]; exact strS_nil _ _
            · rw [HN.out]; rfl
            · exact below_six HLk.out
      obtain ⟨rfl, hi2⟩ := hgood
      obtain ⟨x, rfl⟩ := Option.isSome_iff_exists.1 hi2
      obtain ⟨rfl, rfl, rfl⟩ := HK.out x rfl
      have k0 : W4.cell? ⟨K, 0, none⟩ = some (.int .i64 x.1) := HKk.out.cell 0
      have k1 : W4.cell? ⟨K, 1, none⟩ = some (.int .u64 ((x.2.1 : Nat) : Int)) := HKk.out.cell 1
      have k2 : W4.cell? ⟨K, 2, none⟩ = some (.string (mk x.2.2)) := HKk.out.cell 2
      have a3 : W4.cell? ⟨R + 1, 3, none⟩ = some (.int .i64 0) := HAk.out.cell 3
      have a4 : W4.cell? ⟨R + 1, 4, none⟩ = some (.int .u64 0) := HAk.out.cell 4
      have a5 : W4.cell? ⟨R + 1, 5, none⟩ = some (.string ⟨#[]⟩) := HAk.out.cell 5
      have fa3 := HAk.out.frozen 3
      have fa4 := HAk.out.frozen 4
      have fa5 := HAk.out.frozen 5
      clear hi2 r0 r1 r2 r3 r4 r5 fr0 fr1 fr2 fr3 fr4 fr5
      have hKA : ¬ K = R + 1 := by omega
      have hKA' : ¬ R + 1 = K := by omega
      have HQ : Hid (PR = made x (splitC 46 hd.data.toList)) := by unfold Hid; rw [HPA.out, HKP.out]; rfl
      have HXB : Hid (x.2.1 < 18446744073709551616 ∧ x.2.2.length ≤ 100000) := by
        have := inBrk_bd _ _ HIB.out
        refine ⟨this.1, Nat.le_trans this.2 ?_⟩
        rw [← Lib.size_eq]; exact his
      clear HPA HKP HK HIB
      go_upto_region 8 with fail
      go_region
      have hV := key_in W4 (R + 1) x.1 ((x.2.1 : Nat) : Int) (mk x.2.2) HAk.out
      have HVA := Lib.hid hV
      have HVR := Lib.hid (((HRk.out.far (p := ⟨R + 1, 3, none⟩) (by show R ≠ R + 1; omega) (.int .i64 x.1)).far (p := ⟨R + 1, 4, none⟩) (by show R ≠ R + 1; omega) (.int .u64 ((x.2.1 : Nat) : Int))).far (p := ⟨R + 1, 5, none⟩) (by show R ≠ R + 1; omega) (.string (mk x.2.2)))
      have HVL := Lib.hid (((HLk.out.setCell (p := ⟨R + 1, 3, none⟩) (by show R ≤ R + 1; omega) (.int .i64 x.1)).setCell (p := ⟨R + 1, 4, none⟩) (by show R ≤ R + 1; omega) (.int .u64 ((x.2.1 : Nat) : Int))).setCell (p := ⟨R + 1, 5, none⟩) (by show R ≤ R + 1; omega) (.string (mk x.2.2)))
      have hVS : R + 2 ≤ ((((W4.setCell ⟨R + 1, 3, none⟩ (.int .i64 x.1)).setCell ⟨R + 1, 4, none⟩ (.int .u64 ((x.2.1 : Nat) : Int))).setCell ⟨R + 1, 5, none⟩ (.string (mk x.2.2)))).heap.size := by
        simp [World.setCell]; rw [HKs.out]; omega
      have HVS := Lib.hid hVS
      clear hV hVS
      go_wp2_with fail
      go_meet
      exact ⟨rfl, x, HQ, HXB, HVA, HVR, Lib.hid HVL.out.drew, HVS⟩
  case rest =>
    obtain ⟨rfl, k, HQ, HKB, HA, HR, HL, HV⟩ := hcut
    clear HPA HBS HV2 HL2 HR2 HA2 HWS2
    have CSP := Lib.hid (split_any hd wc (HGL.out _ HL.out).lx.gl HHS.out)
    have HBD := Lib.hid (splitC_bd 46 hd.data.toList)
    obtain ⟨L, hL⟩ : ∃ L, splitC 46 hd.data.toList = L := ⟨_, rfl⟩
    rw [hL] at CSP HBD HQ
    clear hL
    go_wp2_with fail
    refine CSP.out.mono ?_
    rintro e w5 ⟨rfl, rfl⟩
    have hBS := Blk.new wc 9 ((L.map mk).map Value.string).toArray
    have hLs := HL.out.alloc (by have := HV.out; omega) (.cells ((L.map mk).map Value.string).toArray 9)
    have hAs := HA.out.alloc (.cells ((L.map mk).map Value.string).toArray 9)
    have hRs := HR.out.alloc (.cells ((L.map mk).map Value.string).toArray 9)
    obtain ⟨S, hSS⟩ : ∃ S, wc.heap.size = S := ⟨_, rfl⟩
    obtain ⟨W5, hW5⟩ : ∃ W5, wc.alloc (.cells ((L.map mk).map Value.string).toArray 9) = W5 := ⟨_, rfl⟩
    have hS5 : W5.heap.size = S + 1 := by rw [← hW5, ← hSS]; simp
    have hRS : R + 2 ≤ S := by rw [← hSS]; exact HV.out
    rw [hW5] at hBS hLs hAs hRs ⊢
    rw [hSS] at hBS ⊢
    have HBS := Lib.hid hBS
    have HLs := Lib.hid hLs
    have HAs := Lib.hid hAs
    have HRs := Lib.hid hRs
    have HS5 := Lib.hid hS5
    obtain ⟨n, hn⟩ : ∃ n, L.length = n := ⟨_, rfl⟩
    rw [hn] at HBD ⊢
    have HN := Lib.hid hn
    have hn1 : n ≤ 100001 := by have := HBD.out.1; have := HHS.out; rw [Lib.size_eq] at this; omega
    obtain ⟨i0, hi, hz0, hz1, hz2⟩ := info_parts str_info
    clear hBS hLs hAs hRs hS5 hn hSS hW5 CSP HA HR HL HV
    go_wp2_with fail
    go_loopw [12] (fun v wr => ∃ (j q : Nat) (p : List (List UInt8)) (pv : Value), v = .slice (some ⟨S, 2 * j, none⟩) q q ∧ 2 * j + q = n ∧ p.length = j ∧ Hid ((mods L).1 = p ++ (mods (L.drop (2 * j))).1 ∧ (mods L).2 = (mods (L.drop (2 * j))).2) ∧ Hid (∀ x ∈ p, x.length ≤ 100000) ∧ Hid (wr.ownsRow (S + 1) 9 1 pv j ((p.map mk).map Value.string)) ∧ Hid (Blk wr (R + 1) 29 (adV pv ⟨[], ⟨#[]⟩, ⟨#[]⟩, k.1, k.2.1, mk k.2.2⟩)) ∧ Hid (Blk wr R 29 adZ) ∧ Hid (Blk wr S 9 ((L.map mk).map Value.string).toArray) ∧ Hid (Below R w wr) ∧ Hid (S + 1 ≤ wr.heap.size)) (fun v _ => match v with | .slice _ q _ => q | _ => 0)
    case atStart => exact ⟨0, n, [], .slice none 0 0, rfl, by omega, rfl, Lib.hid ⟨rfl, rfl⟩, Lib.hid (by simp), Lib.hid (World.ownsRow_nil _ _ _ _), HAs, HRs, HBS, HLs, Lib.hid (by rw [HS5.out]; exact Nat.le_refl _)⟩
    case round =>
      clear HAs HRs HBS HLs HS5
      obtain ⟨j, q, p, pv, rfl, hjq, hpj, HM, HPX, HO, HA, HR, HS, HL, HSZ⟩ := hrel
      have hn := HN.out
      have a0 : wr.cell? ⟨R + 1, 0, none⟩ = some pv := HA.out.cell 0
      have a1 : wr.cell? ⟨R + 1, 1, none⟩ = some (.string ⟨#[]⟩) := HA.out.cell 1
      have a2 : wr.cell? ⟨R + 1, 2, none⟩ = some (.string ⟨#[]⟩) := HA.out.cell 2
      have fa0 := HA.out.frozen 0
      have fa1 := HA.out.frozen 1
      have fa2 := HA.out.frozen 2
      have r0 : wr.cell? ⟨R, 0, none⟩ = some (.slice none 0 0) := HR.out.cell 0
      have r1 : wr.cell? ⟨R, 1, none⟩ = some (.string ⟨#[]⟩) := HR.out.cell 1
      have r2 : wr.cell? ⟨R, 2, none⟩ = some (.string ⟨#[]⟩) := HR.out.cell 2
      have r3 : wr.cell? ⟨R, 3, none⟩ = some (.int .i64 0) := HR.out.cell 3
      have r4 : wr.cell? ⟨R, 4, none⟩ = some (.int .u64 0) := HR.out.cell 4
      have r5 : wr.cell? ⟨R, 5, none⟩ = some (.string ⟨#[]⟩) := HR.out.cell 5
      have fr0 := HR.out.frozen 0
      have fr1 := HR.out.frozen 1
      have fr2 := HR.out.frozen 2
      have fr3 := HR.out.frozen 3
      have fr4 := HR.out.frozen 4
      have fr5 := HR.out.frozen 5
      have hcell : ∀ i x, L[i]? = some x → wr.cell? ⟨S, i, none⟩ = some (.string (mk x)) := fun i x h => by
        rw [HS.out.cell i]; simp [h]
      have HCL := Lib.hid hcell
      have HT : Hid (PR = tailM k (p ++ (mods (L.drop (2 * j))).1) (mods (L.drop (2 * j))).2) := by
        unfold Hid; rw [HQ.out, made_tail, HM.out.1, HM.out.2]
      clear hcell hn
      by_cases hq : 2 < q
      · have hq1 : (2 : Int) < (q : Int) := by omega
        obtain ⟨x0, h0⟩ : ∃ x0, L[2 * j]? = some x0 := ⟨_, List.getElem?_eq_getElem (by rw [HN.out]; omega)⟩
        obtain ⟨x1, h1⟩ : ∃ x1, L[2 * j + 1]? = some x1 := ⟨_, List.getElem?_eq_getElem (by rw [HN.out]; omega)⟩
        have s0 := HCL.out _ _ h0
        have s1 := HCL.out _ _ h1
        have H0 := Lib.hid h0
        have H1 := Lib.hid h1
        have hx1 : x1.length ≤ 100000 := by
          have := HBD.out.2 x1 (List.mem_of_getElem? h1)
          rw [← Lib.size_eq] at this
          have := HHS.out; omega
        have HX1 := Lib.hid hx1
        clear h0 h1 hx1
        by_cases hm : (mk x0).toList = [109, 111, 100, 117, 108, 101]
        · have HMX : Hid (x0 = modL) := by
            unfold Hid; rw [Lib.toList_data, mk_data] at hm; exact hm
          have hmb : ((mk x0).toList == [109, 111, 100, 117, 108, 101]) = true := by rw [beq_iff_eq]; exact hm
          have HST := Lib.hid (mods_step L (2 * j) (by rw [HN.out]; omega) x0 x1 H0.out H1.out HMX.out)
          clear r0 r1 r2 r3 r4 r5 fr0 fr1 fr2 fr3 fr4 fr5 a1 a2 fa1 fa2
          have hq2 : (1 : Int) < (q : Int) := by omega
          have hq3 : 1 < q := by omega
          go_upto_region 11 with fail
          have HC1 : Hid (∀ j u, [Value.string (mk x1)][j]? = some u → (wr.alloc (.cells #[.string (mk x1)] 9)).cell? ((⟨wr.heap.size, 0, none⟩ : Addr).add j) = some u) := by
            intro j' u hj
            have hN := Blk.new wr 9 #[.string (mk x1)]
            have hadd : (⟨wr.heap.size, 0, none⟩ : Addr).add j' = ⟨wr.heap.size, j', none⟩ := by unfold Addr.add; split <;> simp_all
            rw [hadd, hN.cell j']
            simpa using hj
          have HC2 : Hid (∀ u ∈ [Value.string (mk x1)], u.oneCell' = true) := by
            intro u hu; rw [List.mem_singleton.1 hu]; rfl
          have HC3 : Hid (j + 1 ≤ maxLen) := by unfold Hid maxLen; omega
          have HC4 : Hid ((j + 1) * 16 ≤ 140737488355328) := by unfold Hid; omega
          have WL : Hid (Below R w (wr.alloc (.cells #[.string (mk x1)] 9))) := HL.out.alloc (by have := HSZ.out; omega) _
          have HC5 : Hid (S + 1 ≤ (wr.alloc (.cells #[.string (mk x1)] 9)).heap.size) := by unfold Hid; have := HSZ.out; simp; omega
          have hAlt : R + 1 < wr.heap.size := HA.out.lt
          have hAne : ¬ R + 1 = wr.heap.size := by omega
          have hSlt : S < wr.heap.size := HS.out.lt
          have hSne : ¬ S = wr.heap.size := by omega
          go_region_law (refine step_append_own rfl (.tmp 58) (.tmp 62) 27 rfl (S + 1) 9 i0 (.string ByteArray.empty) 1 16 Tryz.underlying27 hi hz0 hz1 hz2 rfl (by decide) pv j ((p.map mk).map Value.string) (by simp [Act.eval]) (HO.out.alloc _) ⟨wr.heap.size, 0, none⟩ 1 1 [.string (mk x1)] (by simp [Act.eval]) rfl HC1.out HC2.out HC3.out HC4.out HC5.out ?_; intro v' w6 hown hgrow; obtain ⟨gv, cv, hv'⟩ := own_form hown; subst hv'; obtain ⟨hA6, hR6, hS6, hL6, hz6⟩ := grown_parts hgrow HO.out (Nat.le_of_lt hRS) (HA.out.alloc _).drew (HR.out.alloc _).drew (HS.out.alloc _).drew WL.out.drew; have b0 : w6.cell? ⟨R + 1, 0, none⟩ = some pv := hA6.cell 0; have fb0 : w6.frozen? ⟨R + 1, 0, none⟩ = false := hA6.frozen 0)
          all_goals
            have HA7 : Hid (Blk (w6.setCell ⟨R + 1, 0, none⟩ (.slice (some ⟨gv, 0, none⟩) (j + 1) cv)) (R + 1) 29 (adV (.slice (some ⟨gv, 0, none⟩) (j + 1) cv) ⟨[], ⟨#[]⟩, ⟨#[]⟩, k.1, k.2.1, mk k.2.2⟩)) := hA6.set_ 0 _
            have HR7 : Hid (Blk (w6.setCell ⟨R + 1, 0, none⟩ (.slice (some ⟨gv, 0, none⟩) (j + 1) cv)) R 29 adZ) := hR6.far (by show R ≠ R + 1; omega) _
            have HS7 : Hid (Blk (w6.setCell ⟨R + 1, 0, none⟩ (.slice (some ⟨gv, 0, none⟩) (j + 1) cv)) S 9 ((L.map mk).map Value.string).toArray) := hS6.far (by show S ≠ R + 1; omega) _
            have HL7 : Hid (Below R w (w6.setCell ⟨R + 1, 0, none⟩ (.slice (some ⟨gv, 0, none⟩) (j + 1) cv))) := hL6.setCell (p := ⟨R + 1, 0, none⟩) (by show R ≤ R + 1; omega) _
            have HO7 : Hid ((w6.setCell ⟨R + 1, 0, none⟩ (.slice (some ⟨gv, 0, none⟩) (j + 1) cv)).ownsRow (S + 1) 9 1 (.slice (some ⟨gv, 0, none⟩) (j + 1) cv) (j + 1) (((p ++ [x1]).map mk).map Value.string)) := by
              unfold Hid
              have e : ((p ++ [x1]).map mk).map Value.string = (p.map mk).map Value.string ++ [Value.string (mk x1)] := by simp
              rw [e]
              exact ownsRow_setCell_below hown (a := ⟨R + 1, 0, none⟩) (by show R + 1 < S + 1; omega) _
            have HSZ7 : Hid (S + 1 ≤ (w6.setCell ⟨R + 1, 0, none⟩ (.slice (some ⟨gv, 0, none⟩) (j + 1) cv)).heap.size) := by
              unfold Hid
              have h1 := hS6.lt
              simp [World.setCell]; omega
            clear hA6 hR6 hS6 hL6 hz6 hown hgrow b0 fb0 a0 fa0 s0 s1
            go_wp2_with fail
            go_roundw
            case rel =>
              refine ⟨j + 1, q - 2, p ++ [x1], _, by rw [show 2 * (j + 1) = 2 * j + 2 by omega], by omega, by simp [hpj], ?_, ?_, HO7, HA7, HR7, HS7, HL7, HSZ7⟩
              · unfold Hid
                have e : 2 * (j + 1) = 2 * j + 2 := by omega
                rw [HM.out.1, HM.out.2, HST.out, e]
                simp
              · intro x hx
                rcases List.mem_append.1 hx with h | h
                · exact HPX.out x h
                · rw [List.mem_singleton.1 h]; exact HX1.out
            case measure => exact Nat.sub_lt (by omega) (by omega)
        · have HN0 : Hid (PR = none) := by
            unfold Hid
            have hd0 : (L.drop (2 * j))[0]? = some x0 := by rw [List.getElem?_drop]; exact H0.out
            have hml := mods_other (L.drop (2 * j)) (fun x hx e => by
              rw [hd0] at hx
              injection hx with hx
              apply hm
              rw [Lib.toList_data, mk_data, hx, e]; rfl)
            rw [HT.out, hml]
            have hlen : (L.drop (2 * j)).length = q := by rw [List.length_drop, HN.out]; omega
            unfold tailM
            match hx : L.drop (2 * j), hlen with
            | [], h => exfalso; simp at h; omega
            | [_], h => exfalso; simp at h; omega
            | [_, _], h => exfalso; simp at h; omega
            | _ :: _ :: _ :: _, _ => rfl
          have hmb : ((mk x0).toList == [109, 111, 100, 117, 108, 101]) = false := by rw [beq_eq_false_iff_ne]; exact hm
          have hq4 : ((q : Int) != 2) = true := by rw [bne_iff_ne]; omega
          have hq2 : (0 : Int) < (q : Int) := by omega
          have hq3 : 0 < q := by omega
          clear a0 a1 a2 fa0 fa1 fa2 s1
          go_wp2_with fail
          refine bodyPost_ret (parse_res R adZ 3 _ _ rfl ((((((HR.out.set_ 0 _).set_ 1 _).set_ 2 _).set_ 3 _).set_ 4 _).set_ 5 _) rfl rfl) rfl ⟨⟨.slice none 0 0, ?_, ?_⟩, ?_⟩
          · rw [HN0.out]; exact strS_nil _ _
          · rw [HN0.out]; rfl
          · exact below_six HL.out
      · have hq1 : ¬ (2 : Int) < (q : Int) := by omega
        have hml := mods_short (L.drop (2 * j)) (by rw [List.length_drop, HN.out]; omega)
        have HT2 : Hid (PR = tailM k p (L.drop (2 * j))) := by unfold Hid; rw [HT.out, hml, List.append_nil]
        clear hml HT
        by_cases hq2 : q = 2
        case neg =>
          have HN0 : Hid (PR = none) := by
            unfold Hid
            rw [HT2.out]
            have hlen : (L.drop (2 * j)).length = q := by rw [List.length_drop, HN.out]; omega
            unfold tailM
            match hx : L.drop (2 * j), hlen with
            | [], _ => rfl
            | [_], _ => rfl
            | [_, _], h => exfalso; simp at h; omega
            | _ :: _ :: _ :: _, _ => rfl
          have hq4 : ((q : Int) != 2) = true := by rw [bne_iff_ne]; omega
          clear a0 a1 a2 fa0 fa1 fa2
          go_wp2_with fail
          refine bodyPost_ret (parse_res R adZ 3 _ _ rfl ((((((HR.out.set_ 0 _).set_ 1 _).set_ 2 _).set_ 3 _).set_ 4 _).set_ 5 _) rfl rfl) rfl ⟨⟨.slice none 0 0, ?_, ?_⟩, ?_⟩
          · rw [HN0.out]; exact strS_nil _ _
          · rw [HN0.out]; rfl
          · exact below_six HL.out
        subst hq2
        obtain ⟨x0, h0⟩ : ∃ x0, L[2 * j]? = some x0 := ⟨_, List.getElem?_eq_getElem (by rw [HN.out]; omega)⟩
        obtain ⟨x1, h1⟩ : ∃ x1, L[2 * j + 1]? = some x1 := ⟨_, List.getElem?_eq_getElem (by rw [HN.out]; omega)⟩
        have s0 := HCL.out _ _ h0
        have s1 := HCL.out _ _ h1
        have hb0 := HBD.out.2 x0 (List.mem_of_getElem? h0)
        have hb1 := HBD.out.2 x1 (List.mem_of_getElem? h1)
        rw [← Lib.size_eq] at hb0 hb1
        have hhs := HHS.out
        have hdr : L.drop (2 * j) = [x0, x1] := by
          have hl : (L.drop (2 * j)).length = 2 := by rw [List.length_drop, HN.out]; omega
          have e0 : (L.drop (2 * j))[0]? = some x0 := by rw [List.getElem?_drop]; exact h0
          have e1 : (L.drop (2 * j))[1]? = some x1 := by rw [List.getElem?_drop]; exact h1
          match hx : L.drop (2 * j), hl with
          | [u, v], _ => rw [hx] at e0 e1; simp at e0 e1; rw [e0, e1]
        have HT3 : Hid (PR = if rightA ⟨p.map mk, mk x0, mk x1, k.1, k.2.1, mk k.2.2⟩ then some ⟨p.map mk, mk x0, mk x1, k.1, k.2.1, mk k.2.2⟩ else none) := by
          unfold Hid; rw [HT2.out, hdr]; rfl
        have HAB : Hid (AdB ⟨p.map mk, mk x0, mk x1, k.1, k.2.1, mk k.2.2⟩) := by
          refine ⟨by simp; omega, fun X hX => ?_, by rw [Lib.size_eq, mk_data]; omega, by rw [Lib.size_eq, mk_data]; omega, by rw [Lib.size_eq, mk_data]; exact HKB.out.2, HKB.out.1⟩
          obtain ⟨y, hy, rfl⟩ := List.mem_map.1 hX
          rw [Lib.size_eq, mk_data]; exact HPX.out y hy
        clear h0 h1 hb0 hb1 hdr HT2 hhs r0 r1 r2 r3 r4 r5 fr0 fr1 fr2 fr3 fr4 fr5
        go_upto_region 15 with fail
        go_region
        all_goals
          go_upto_region 16 with fail
          obtain ⟨cand, hcand⟩ : ∃ cand : Ad, cand = ⟨p.map mk, mk x0, mk x1, k.1, k.2.1, mk k.2.2⟩ := ⟨_, rfl⟩
          have hA8 := ((HA.out.set_ 1 (.string (mk x0))).set_ 2 (.string (mk x1))).drew
          have hR8 := ((HR.out.far (p := ⟨R + 1, 1, none⟩) (by show R ≠ R + 1; omega) (.string (mk x0))).far (p := ⟨R + 1, 2, none⟩) (by show R ≠ R + 1; omega) (.string (mk x1))).drew
          have hL8 := ((HL.out.setCell (p := ⟨R + 1, 1, none⟩) (by show R ≤ R + 1; omega) (.string (mk x0))).setCell (p := ⟨R + 1, 2, none⟩) (by show R ≤ R + 1; omega) (.string (mk x1))).drew
          have hO8 : (((wr.setCell ⟨R + 1, 1, none⟩ (.string (mk x0))).setCell ⟨R + 1, 2, none⟩ (.string (mk x1))).drew).ownsRow (S + 1) 9 1 pv j ((p.map mk).map Value.string) := ownsRow_setCell_below (ownsRow_setCell_below HO.out (a := ⟨R + 1, 1, none⟩) (by show R + 1 < S + 1; omega) _) (a := ⟨R + 1, 2, none⟩) (by show R + 1 < S + 1; omega) _
          have hz8 : S + 1 ≤ (((wr.setCell ⟨R + 1, 1, none⟩ (.string (mk x0))).setCell ⟨R + 1, 2, none⟩ (.string (mk x1))).drew).heap.size := by
            have := HSZ.out
            show S + 1 ≤ ((wr.setCell ⟨R + 1, 1, none⟩ (.string (mk x0))).setCell ⟨R + 1, 2, none⟩ (.string (mk x1))).heap.size
            simp [World.setCell]; omega
          obtain ⟨W8, hW8⟩ : ∃ W8, ((wr.setCell ⟨R + 1, 1, none⟩ (.string (mk x0))).setCell ⟨R + 1, 2, none⟩ (.string (mk x1))).drew = W8 := ⟨_, rfl⟩
          rw [hW8] at hA8 hR8 hL8 hO8 hz8 ⊢
          have hP8 : StrS W8 W8.heap.size pv cand.path := by rw [hcand]; exact strS_own hO8 (by simp [hpj])
          have hab := HAB.out
          have hq3 := HT3.out
          rw [← hcand] at hab hq3
          have hA8' : Blk W8 (R + 1) 29 (adV pv cand) := by rw [hcand]; exact hA8
          have C := Lib.hid (aright_any pv cand W8 (HGL.out _ hL8).lx hP8 hab)
          have HA8 := Lib.hid hA8'
          have HR8 := Lib.hid hR8
          have HL8 := Lib.hid hL8
          have HO8 := Lib.hid hO8
          have HZ8 := Lib.hid hz8
          have HQ3 := Lib.hid hq3
          have HCD := Lib.hid hcand
          have HPJ := Lib.hid hpj
          obtain ⟨ao, cp, hpv⟩ := hP8.len
          obtain ⟨ps, hps⟩ : ∃ ps, cand.path.length = ps := ⟨_, rfl⟩
          rw [hps] at hpv
          subst hpv
          have HPS := Lib.hid hps
          clear hA8 hA8' hR8 hL8 hO8 hz8 hW8 hP8 hab hq3 hcand HAB HT3 HA HR HL HO HS HSZ HCL HM HPX a0 a1 a2 fa0 fa1 fa2 s0 s1 hpj hps
          obtain ⟨pth, ty, nm, key, place, word⟩ := cand
          obtain ⟨b0, b1, b2, b3, b4, b5⟩ := ad_cells HA8.out
          dsimp only at b0 b1 b2 b3 b4 b5
          unfold adV at C HA8
          dsimp only at C HA8
          obtain ⟨RR, hRR⟩ : ∃ RR, rightA ⟨pth, ty, nm, key, place, word⟩ = RR := ⟨_, rfl⟩
          rw [hRR] at C HQ3
          clear hRR
          go_wp2_with fail
          refine C.out.mono ?_
          rintro e w9 ⟨rfl, hb⟩
          have HA9 := Lib.hid (HA8.out.below hb HA8.out.lt)
          have HR9 := Lib.hid (HR8.out.below hb HR8.out.lt)
          have HL9 := Lib.hid (HL8.out.trans (hb.mono (by have := HZ8.out; omega)))
          have HO9 := Lib.hid (HO8.out.kept (grown_of_below hb) (by cases (Value.slice ao ps cp).ownBlock <;> simp))
          clear hb C HA8 HR8 HL8 HO8 HZ8 b0 b1 b2 b3 b4 b5
          have b0 : w9.cell? ⟨R + 1, 0, none⟩ = some (.slice ao ps cp) := HA9.out.cell 0
          have b1 : w9.cell? ⟨R + 1, 1, none⟩ = some (.string ty) := HA9.out.cell 1
          have b2 : w9.cell? ⟨R + 1, 2, none⟩ = some (.string nm) := HA9.out.cell 2
          have b3 : w9.cell? ⟨R + 1, 3, none⟩ = some (.int .i64 key) := HA9.out.cell 3
          have b4 : w9.cell? ⟨R + 1, 4, none⟩ = some (.int .u64 ((place : Nat) : Int)) := HA9.out.cell 4
          have b5 : w9.cell? ⟨R + 1, 5, none⟩ = some (.string word) := HA9.out.cell 5
          have r0 : w9.cell? ⟨R, 0, none⟩ = some (.slice none 0 0) := HR9.out.cell 0
          have r1 : w9.cell? ⟨R, 1, none⟩ = some (.string ⟨#[]⟩) := HR9.out.cell 1
          have r2 : w9.cell? ⟨R, 2, none⟩ = some (.string ⟨#[]⟩) := HR9.out.cell 2
          have r3 : w9.cell? ⟨R, 3, none⟩ = some (.int .i64 0) := HR9.out.cell 3
          have r4 : w9.cell? ⟨R, 4, none⟩ = some (.int .u64 0) := HR9.out.cell 4
          have r5 : w9.cell? ⟨R, 5, none⟩ = some (.string ⟨#[]⟩) := HR9.out.cell 5
          have fr0 := HR9.out.frozen 0
          have fr1 := HR9.out.frozen 1
          have fr2 := HR9.out.frozen 2
          have fr3 := HR9.out.frozen 3
          have fr4 := HR9.out.frozen 4
          have fr5 := HR9.out.frozen 5
          cases RR with
          | false =>
            have HN0 : Hid (PR = none) := HQ3.out
            go_wp2_with fail
            refine bodyPost_ret (parse_res R adZ 3 _ _ rfl ((((((HR9.out.set_ 0 _).set_ 1 _).set_ 2 _).set_ 3 _).set_ 4 _).set_ 5 _) rfl rfl) rfl ⟨⟨.slice none 0 0, ?_, ?_⟩, ?_⟩
            · rw [HN0.out]; exact strS_nil _ _
            · rw [HN0.out]; rfl
            · exact below_six HL9.out
          | true =>
            have HN0 : Hid (PR = some ⟨pth, ty, nm, key, place, word⟩) := HQ3.out
            go_wp2_with fail
            refine bodyPost_ret (parse_res R (adV (.slice ao ps cp) ⟨pth, ty, nm, key, place, word⟩) 0 _ _ rfl ((((((HR9.out.set_ 0 _).set_ 1 _).set_ 2 _).set_ 3 _).set_ 4 _).set_ 5 _) rfl rfl) rfl ⟨⟨.slice ao ps cp, ?_, ?_⟩, ?_⟩
            · rw [HN0.out]
              have hc := HCD.out
              injection hc with hc _
              show StrS _ _ _ pth
              rw [hc]
              exact strS_own (own_six HO9.out (by omega)) (by simp [HPJ.out])
            · rw [HN0.out]; rfl
            · exact below_six HL9.out
end Go.Proofs.YtdfihhebgllpcaaGreatDoor

/- The walk of the reference's Parts. -/
namespace Go.Proofs.YtdfihhebgllpcaaGreatDoor
open Go.RowKit Go.Proofs.QuotePlain Go.Proofs.UtfPlain Go.Proofs.LexPlain Go.Proofs.AddrPlain

/-- What Parts tells. -/
def PartsEnd (l : List UInt8) (B : Nat) (w' : World) (e : Ending) : Prop := ∃ v, w'.ownsRow B 9 1 v (splitC 46 l).length (((splitC 46 l).map mk).map Value.string) ∧ e = .returned v
/-- So far: pieces, where the next one begins, and where we are. -/
def PartsRel (l : List UInt8) (n j a : Nat) (P : List (List UInt8)) : Prop :=
  (j ≤ n ∧ a ≤ j ∧ splitC 46 l = P ++ splitC 46 (l.drop a) ∧ ∀ i, a ≤ i → i < j → ∀ x, l[i]? = some x → x ≠ 46) ∨ (j = n + 1 ∧ splitC 46 l = P)
theorem own_piece (P : List (List UInt8)) (X : ByteArray) {w : World} {B : Nat} (v : Value) (h : w.ownsRow B 9 1 v (P.length + 1) (P.map (Value.string ∘ mk) ++ [.string X])) : w.ownsRow B 9 1 v (P ++ [X.data.toList]).length (((P ++ [X.data.toList]).map mk).map Value.string) := by
  have e : ((P ++ [X.data.toList]).map mk).map Value.string = P.map (Value.string ∘ mk) ++ [.string X] := by simp [mk_eta]
  rw [e, List.length_append, List.length_singleton]
  exact h

set_option maxRecDepth 100000 in
set_option maxHeartbeats 8000000 in
theorem raparts_any (s : ByteArray) (w : World) (hs : s.size ≤ 100000) :
    Calls Tryz.prog 81 #[.string s] w fun e w' => PartsEnd s.data.toList w.heap.size w' e ∧ Below w.heap.size w w' := by
  have hsz := Lib.size_eq s
  obtain ⟨i0, hi, hz0, hz1, hz2⟩ := info_parts str_info
  obtain ⟨n, hn⟩ : ∃ n, s.size = n := ⟨_, rfl⟩
  have HN := Lib.hid hn
  rw [hn] at hsz hs
  have HSZ := Lib.hid hsz
  clear hsz hn
  go_enter Tryz.func81, Tryz.ntmps81
  go_wp2_with fail
  go_loopw [3, 4, 5] (fun v a i wr => ∃ (j at_ : Nat) (P : List (List UInt8)), i = .int .i64 j ∧ a = .int .i64 at_ ∧ j ≤ n + 1 ∧ P.length ≤ j ∧ Hid (PartsRel s.data.toList n j at_ P) ∧ Hid (wr.ownsRow w.heap.size 9 1 v P.length ((P.map mk).map Value.string)) ∧ Hid (Below w.heap.size w wr)) (fun _ _ i _ => n + 2 - (intOf i).toNat)
  case atStart => exact ⟨0, 0, [], rfl, rfl, by omega, by simp, Lib.hid (.inl ⟨Nat.zero_le _, Nat.le_refl _, rfl, fun i h1 h2 => by omega⟩), Lib.hid (World.ownsRow_nil _ _ _ _), Lib.hid (Below.refl _ _)⟩
  case round =>
    obtain ⟨j, at_, P, rfl, rfl, hj, hP, HR, HO, HW⟩ := hrel
    have hnn : s.size = n := HN.out
    by_cases hle : j ≤ n
    case neg =>
      have hle' : ¬ (j : Int) ≤ (n : Int) := by omega
      have hfin : splitC 46 s.data.toList = P := by
        rcases HR.out with ⟨h, _⟩ | ⟨_, h⟩
        · omega
        · exact h
      have HF := Lib.hid hfin
      clear hfin HR
      go_wp2_with fail
      go_ret
      refine ⟨⟨_, ?_, rfl⟩, HW.out⟩
      rw [HF.out]
      exact HO.out
    have hle' : (j : Int) ≤ (n : Int) := by omega
    obtain ⟨ha, hS, hno⟩ : at_ ≤ j ∧ splitC 46 s.data.toList = P ++ splitC 46 (s.data.toList.drop at_) ∧ ∀ i, at_ ≤ i → i < j → ∀ x, s.data.toList[i]? = some x → x ≠ 46 := by
      rcases HR.out with ⟨_, h2, h3, h4⟩ | ⟨h, _⟩
      · exact ⟨h2, h3, h4⟩
      · omega
    have HS := Lib.hid hS
    have HNO := Lib.hid hno
    have hBw : Hid (w.heap.size ≤ wr.heap.size) := HW.out.size
    have ha' : (at_ : Int) ≤ (j : Int) := by omega
    clear hS hno HR
    -- a piece is done, or goes on
    have hcase : (∃ L2, Hid (PartsRel s.data.toList n (j + 1) (j + 1) L2) ∧ L2 = P ++ [((s.extract at_ j).data.toList)] ∧ (j = n ∨ (j < n ∧ ∃ h : j < s.size, s[j] = 46))) ∨ (j < n ∧ ∃ h : j < s.size, s[j] ≠ 46) := by
      have hex : (s.extract at_ j).data.toList = (s.data.toList.drop at_).take (j - at_) := data_extract s at_ j
      by_cases hjn : j = n
      · left
        refine ⟨_, .inr ⟨by omega, ?_⟩, rfl, .inl hjn⟩
        rw [HS.out, hex, split_last 46 _ at_ (fun i h1 x hx => ?_), List.take_of_length_le (by rw [List.length_drop, ← HSZ.out]; omega)]
        have hil : i < n := by
          rcases Nat.lt_or_ge i s.data.toList.length with h | h
          · rw [HSZ.out]; exact h
          · rw [List.getElem?_eq_none h] at hx; cases hx
        exact HNO.out i h1 (by omega) x hx
      · have hlt : j < s.size := by omega
        have hg : s.data.toList[j]? = some s[j] := by
          rw [List.getElem?_eq_getElem (by rw [← HSZ.out]; omega)]; rfl
        by_cases hc : s[j] = 46
        · left
          refine ⟨_, .inl ⟨by omega, Nat.le_refl _, ?_, fun i h1 h2 => by omega⟩, rfl, .inr ⟨by omega, hlt, hc⟩⟩
          rw [HS.out, hex, split_more 46 _ at_ j ha (by rw [hg, hc]) HNO.out]
          simp
        · exact .inr ⟨by omega, hlt, hc⟩
    rcases hcase with ⟨L2, HR2, hL2, hend⟩ | ⟨hjn, hlt, hc⟩
    · obtain ⟨X, hX⟩ : ∃ X, s.extract at_ j = X := ⟨_, rfl⟩
      rw [hX] at hL2
      have HL2 := Lib.hid hL2
      clear hL2
      have key : (((j : Int) == (n : Int)) = true) ∨ (((j : Int) == (n : Int)) = false ∧ j < n ∧ ∃ C : Int, (∃ h : j < s.size, ((s[j].toNat : Nat) : Int) = C) ∧ (C == 46) = true) := by
        rcases hend with h | ⟨h, h2, h3⟩
        · left; rw [beq_iff_eq]; omega
        · right
          exact ⟨by rw [beq_eq_false_iff_ne]; omega, h, _, ⟨h2, rfl⟩, by rw [h3]; rfl⟩
      clear hend
      have hj5 : j + 1 ≤ 100001 := by omega
      rcases key with e1 | ⟨e1, hlt, C, ⟨hlt2, hC⟩, e2⟩
      all_goals
        go_wp2_with (at_builtin; refine wpList_append_own _ rfl _ _ 27 rfl w.heap.size 9 i0 (.string ByteArray.empty) 1 16 Tryz.underlying27 hi hz0 hz1 hz2 rfl (by decide) _ _ _ rfl (HO.out.alloc _) ⟨wr.heap.size, 0, none⟩ 1 1 [.string X] rfl rfl ?c1 ?c2 ?c3 ?c4 ?c5 ?_)
        case c1 =>
          have hN := Blk.new wr 9 #[.string X]
          intro j' u hj
          have hadd : (⟨wr.heap.size, 0, none⟩ : Addr).add j' = ⟨wr.heap.size, j', none⟩ := by unfold Addr.add; split <;> simp_all
          rw [hadd, hN.cell j']
          simpa using hj
        case c2 =>
          intro u hu
          rw [List.mem_singleton.1 hu]; rfl
        case c3 => unfold maxLen; omega
        case c4 => omega
        case c5 => have := hBw.out; simp; omega
        intro v' w6 hown' hgrow _
        have HO6 := Lib.hid (own_piece P X v' hown')
        have HW6 : Hid (Below w.heap.size w w6) := (HW.out.alloc hBw.out _).grown hgrow (by have := hBw.out; simp; omega) (fun b hb => (HO.out.lt b hb).1)
        obtain ⟨gv, cv, hv'⟩ := own_form hown'
        subst hv'
        clear hown' hgrow hX hi hz0 hz1 hz2
        go_wp2_with fail
        go_roundw
        case rel =>
          refine ⟨j + 1, j + 1, L2, by go_num, by go_num, by omega, by rw [HL2.out, List.length_append, List.length_singleton]; omega, HR2, ?_, HW6⟩
          have := HO6
          rw [← HL2.out] at this
          exact this
        case measure => simp [intOf]; omega
    · obtain ⟨C, hC⟩ : ∃ C : Int, ((s[j].toNat : Nat) : Int) = C := ⟨_, rfl⟩
      have e1 : ((j : Int) == (n : Int)) = false := by rw [beq_eq_false_iff_ne]; omega
      have e2 : (C == 46) = false := by
        rw [beq_eq_false_iff_ne]
        intro h
        exact hc (UInt8.toNat_inj.1 (by rw [show (46 : UInt8).toNat = 46 from rfl]; omega))
      have HR2 : Hid (PartsRel s.data.toList n (j + 1) at_ P) := by
        refine .inl ⟨by omega, by omega, HS.out, fun i h1 h2 x hx => ?_⟩
        by_cases hij : i = j
        · subst hij
          have hg : s.data.toList[i]? = some s[i] := by
            rw [List.getElem?_eq_getElem (by rw [← HSZ.out]; omega)]; rfl
          rw [hg] at hx; injection hx with hx; rw [← hx]; exact hc
        · exact HNO.out i h1 (by omega) x hx
      clear hc
      go_wp2_with fail
      go_roundw
      case rel => exact ⟨j + 1, at_, P, by go_num, rfl, by omega, by omega, HR2, HO, HW⟩
      case measure => simp [intOf]; omega
end Go.Proofs.YtdfihhebgllpcaaGreatDoor
