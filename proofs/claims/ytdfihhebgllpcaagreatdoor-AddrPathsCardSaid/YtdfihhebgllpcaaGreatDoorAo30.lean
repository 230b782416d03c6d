import Derived.Test.YtdfihhebgllpcaaGreatDoorAo28

/- The walk of addr.Old. -/
namespace Go.Proofs.YtdfihhebgllpcaaGreatDoor
open Go.RowKit Go.Proofs.QuotePlain Go.Proofs.UtfPlain Go.Proofs.LexPlain Go.Proofs.AddrPlain

theorem old_res (B : Nat) (cs : Array Value) (x : Int) (W : World) (tmps : Array Value) (h6 : cs.size = 6) (hB : Blk W B 29 cs) (h : tmps[2]? = some (.pointer (some ⟨B, 0, none⟩))) (h3 : tmps[3]? = some (.int .i64 x)) :
    (results Tryz.f37 tmps).run Tryz.prog W = .ok (.tuple #[.agg cs, .int .i64 x]) W := by
  obtain ⟨l⟩ := cs
  match l, h6 with
  | [v0, v1, v2, v3, v4, v5], _ =>
    have c0 : W.cell? ⟨B, 0, none⟩ = some v0 := hB.cell 0
    have c1 : W.cell? ⟨B, 1, none⟩ = some v1 := hB.cell 1
    have c2 : W.cell? ⟨B, 2, none⟩ = some v2 := hB.cell 2
    have c3 : W.cell? ⟨B, 3, none⟩ = some v3 := hB.cell 3
    have c4 : W.cell? ⟨B, 4, none⟩ = some v4 := hB.cell 4
    have c5 : W.cell? ⟨B, 5, none⟩ = some v5 := hB.cell 5
    simp [results, Tryz.results37, go_sem, h, h3, c0, c1, c2, c3, c4, c5]
theorem dataB_eq (x : List UInt8) : (mk x).toList = [100, 97, 116, 97] ↔ x = dataL := by
  rw [Lib.toList_data, mk_data]; exact Iff.rfl
theorem oldS_drop (L : List (List UInt8)) : (2 < L.length ∧ L[0]? = some dataL ∧ oldS L = L.drop 1) ∨ (¬ (2 < L.length ∧ L[0]? = some dataL) ∧ oldS L = L) := by
  match L with
  | [] => right; exact ⟨by simp, rfl⟩
  | [_] => right; exact ⟨by simp, rfl⟩
  | [_, _] => right; exact ⟨by simp, rfl⟩
  | d :: x :: y :: r =>
    by_cases h : d = dataL
    · left
      refine ⟨by simp, by rw [h]; rfl, ?_⟩
      show (if d = dataL then x :: y :: r else d :: x :: y :: r) = _
      rw [if_pos h]; rfl
    · right
      refine ⟨fun hh => h (Option.some.inj hh.2), ?_⟩
      show (if d = dataL then x :: y :: r else d :: x :: y :: r) = _
      rw [if_neg h]
/-- What Old makes of parts. -/
def oldTail (k : Int) (p : Nat) (t n : List UInt8) : Option Ad := if rightA ⟨[], mk t, mk n, k, p, mk []⟩ then some ⟨[], mk t, mk n, k, p, mk []⟩ else none

set_option maxRecDepth 100000 in
set_option maxHeartbeats 8000000 in
theorem aold_any (s : ByteArray) (w : World) (hs : s.size ≤ 100000) (hG : AdG w) :
    Calls Tryz.prog 37 #[.string s] w fun e w' => ParseEnd (oldA s.data.toList) w' e ∧ Below w.heap.size w w' := by
  have hl := (Below.refl w.heap.size w).alloc (Nat.le_refl _) (.cells adZ 29)
  have hR := Blk.new w 29 adZ
  have HBD := Lib.hid (splitC_bd 46 s.data.toList)
  obtain ⟨PR, hPR⟩ : ∃ PR, oldA s.data.toList = PR := ⟨_, rfl⟩
  have HPR : Hid (PR = oldM (oldS (splitC 46 s.data.toList))) := hPR.symm
  rw [hPR]
  have hss := Lib.size_eq s
  rw [← hss] at HBD
  obtain ⟨L, hL⟩ : ∃ L, splitC 46 s.data.toList = L := ⟨_, rfl⟩
  obtain ⟨n, hn⟩ : ∃ n, L.length = n := ⟨_, rfl⟩
  have CSP : Hid (∀ W, Glob W → Calls Tryz.prog 79 #[.string s, .string ⟨#[46]⟩] W fun e w' =>
      e = .returned (.slice (some ⟨W.heap.size, 0, none⟩) n n) ∧ w' = W.alloc (.cells ((L.map mk).map Value.string).toArray 9)) := fun W h => by
    have := split_any s W h hs
    rw [hL, hn] at this
    exact this
  rw [hL] at HBD HPR
  rw [hn] at HBD
  have HN := Lib.hid hn
  have hn1 : n ≤ 100001 := by have := HBD.out.1; omega
  have HSX := Lib.hid hs
  obtain ⟨W, hW⟩ : ∃ W, w.alloc (.cells adZ 29) = W := ⟨_, rfl⟩
  obtain ⟨R, hRR⟩ : ∃ R, w.heap.size = R := ⟨_, rfl⟩
  have hGL : ∀ W, Below w.heap.size w W → AdG W := fun W h => hG.below h
  have hWs : W.heap.size = R + 1 := by rw [← hW, ← hRR]; simp
  rw [hW] at hl hR
  rw [hRR] at hl hR hGL ⊢
  have HGL := Lib.hid hGL
  have HL := Lib.hid hl
  have HR := Lib.hid hR
  have HWS := Lib.hid hWs
  clear hl hR hGL hG hPR hss hL hn hs hWs
  unfold adZ at hW
  go_enter Tryz.func37, Tryz.ntmps37
  go_upto_region 1 with fail
  clear hW hRR
  go_wp2_with fail
  refine (CSP.out _ (HGL.out _ HL.out).lx.gl).mono ?_
  rintro e w5 ⟨rfl, rfl⟩
  have hBS := Blk.new W 9 ((L.map mk).map Value.string).toArray
  have hLs := HL.out.alloc (by rw [HWS.out]; omega) (.cells ((L.map mk).map Value.string).toArray 9)
  have hRs := HR.out.alloc (.cells ((L.map mk).map Value.string).toArray 9)
  rw [HWS.out] at hBS ⊢
  obtain ⟨W5, hW5⟩ : ∃ W5, W.alloc (.cells ((L.map mk).map Value.string).toArray 9) = W5 := ⟨_, rfl⟩
  have hS5 : W5.heap.size = R + 2 := by rw [← hW5]; simp; exact HWS.out
  rw [hW5] at hBS hLs hRs ⊢
  have HBS := Lib.hid hBS
  have HLs := Lib.hid hLs
  have HRs := Lib.hid hRs
  have HS5 := Lib.hid hS5
  clear hBS hLs hRs hS5 hW5 CSP HR HL HWS
  go_upto_region 2 with fail
  go_cut [17] (fun v wx => ∃ d : Nat, v = .bool (decide (d = 1)) ∧ d ≤ 1 ∧ (d = 1 → 2 < n) ∧ Hid (PR = oldM (L.drop d)) ∧ wx = W5)
  case first =>
    rcases oldS_drop L with ⟨h1, h2, h3⟩ | ⟨h1, h3⟩
    · have hq1 : (2 : Int) < (n : Int) := by have := HN.out; omega
      have hq2 : (0 : Int) < (n : Int) := by omega
      have hq3 : 0 < n := by omega
      have s0 : W5.cell? ⟨R + 1, 0, none⟩ = some (.string (mk dataL)) := by rw [HBS.out.cell 0]; simp [h2]
      have hmb : ((mk dataL).toList == [100, 97, 116, 97]) = true := by rw [beq_iff_eq]; exact (dataB_eq _).2 rfl
      have HX := Lib.hid (HPR.out.trans (by rw [h3]))
      clear h1 h2 h3 HPR
      go_wp2_with fail
      go_meet
      exact ⟨1, by first | rfl | simp [hmb], Nat.le_refl _, fun _ => by omega, HX, rfl⟩
    · have HX : Hid (PR = oldM (L.drop 0)) := by unfold Hid; rw [HPR.out, h3]; rfl
      by_cases hq : 2 < n
      · have hq1 : (2 : Int) < (n : Int) := by omega
        have hq2 : (0 : Int) < (n : Int) := by omega
        have hq3 : 0 < n := by omega
        obtain ⟨x0, h0⟩ : ∃ x0, L[0]? = some x0 := ⟨_, List.getElem?_eq_getElem (by rw [HN.out]; omega)⟩
        have s0 : W5.cell? ⟨R + 1, 0, none⟩ = some (.string (mk x0)) := by rw [HBS.out.cell 0]; simp [h0]
        have hmb : ((mk x0).toList == [100, 97, 116, 97]) = false := by
          rw [beq_eq_false_iff_ne]
          intro e
          rw [dataB_eq] at e
          exact h1 ⟨by rw [HN.out]; exact hq, by rw [h0, e]⟩
        clear h1 h3 h0 HPR
        go_wp2_with fail
        go_meet
        exact ⟨0, by first | rfl | simp [hmb], by omega, fun h => by omega, HX, rfl⟩
      · have hq1 : ¬ (2 : Int) < (n : Int) := by omega
        clear h1 h3 HPR
        go_wp2_with fail
        go_meet
        exact ⟨0, rfl, by omega, fun h => by omega, HX, rfl⟩
  case rest =>
  obtain ⟨d, rfl, hd1, hd2, HX, rfl⟩ := hcut
  clear HPR
  go_upto_if 17 with fail
  go_cut [4] (fun v wx => ∃ q : Nat, v = .slice (some ⟨R + 1, d, none⟩) q q ∧ d + q = n ∧ wx = wc)
  case first =>
    have hd3 : d = 0 ∨ d = 1 := by omega
    rcases hd3 with rfl | rfl
    · go_wp2_with fail
      go_meet
      exact ⟨n, rfl, by omega, rfl⟩
    · have := hd2 rfl
      have hq5 : (1 : Int) ≤ (n : Int) := by omega
      have hq6 : 1 ≤ n := by omega
      go_wp2_with fail
      go_meet
      exact ⟨n - 1, rfl, by omega, rfl⟩
  case rest =>
    obtain ⟨q, rfl, hdq, rfl⟩ := hcut
    obtain ⟨M, hM⟩ : ∃ M, L.drop d = M := ⟨_, rfl⟩
    rw [hM] at HX
    have hMl : M.length = q := by rw [← hM, List.length_drop, HN.out]; omega
    have hcell : ∀ i x, M[i]? = some x → wc.cell? ⟨R + 1, d + i, none⟩ = some (.string (mk x)) ∧ x.length ≤ 100000 := fun i x h => by
      rw [← hM, List.getElem?_drop] at h
      have hb := HBD.out.2 x (List.mem_of_getElem? h)
      have := HSX.out
      refine ⟨?_, by omega⟩
      rw [HBS.out.cell (d + i)]; simp [h]
    have HCL := Lib.hid hcell
    have HML := Lib.hid hMl
    clear hM hMl hcell
    have hA5 := Blk.new wc 29 adZ
    have hR5 := HRs.out.alloc (.cells adZ 29)
    have hL5 := HLs.out.alloc (by rw [HS5.out]; omega) (.cells adZ 29)
    have hC5 : ∀ i x, M[i]? = some x → (wc.alloc (.cells adZ 29)).cell? ⟨R + 1, d + i, none⟩ = some (.string (mk x)) ∧ x.length ≤ 100000 := fun i x h => by
      have := HCL.out i x h
      refine ⟨?_, this.2⟩
      rw [← this.1]
      exact ((Below.refl wc.heap.size wc).alloc (Nat.le_refl _) _).cell (p := ⟨R + 1, d + i, none⟩) (by show R + 1 < wc.heap.size; rw [HS5.out]; omega)
    obtain ⟨W6, hW6⟩ : ∃ W6, wc.alloc (.cells adZ 29) = W6 := ⟨_, rfl⟩
    have hs6 := HS5.out
    have hz6 : W6.heap.size = R + 3 := by rw [← hW6]; simp [hs6]
    rw [hW6] at hA5 hR5 hL5 hC5
    rw [hs6] at hA5
    have HA := Lib.hid hA5
    have HR := Lib.hid hR5
    have HL := Lib.hid hL5
    have HC := Lib.hid hC5
    have HZ := Lib.hid hz6
    clear hA5 hR5 hL5 hC5 hz6 HBS HLs HRs HS5 HCL
    unfold adZ at hW6
    go_upto_region 5 with fail
    clear hW6
    have key : q = 2 ∨ q = 3 ∨ (q ≠ 2 ∧ q ≠ 3) := by omega
    rcases key with rfl | rfl | ⟨hq2, hq3⟩
    rotate_left 2
    · have hb2 : ((q : Int) == 2) = false := by rw [beq_eq_false_iff_ne]; omega
      have hb3 : ((q : Int) == 3) = false := by rw [beq_eq_false_iff_ne]; omega
      have HN0 : Hid (PR = none) := by
        unfold Hid
        rw [HX.out]
        have hlen := HML.out
        match M, hlen with
        | [], _ => rfl
        | [_], _ => rfl
        | [_, _], h => exfalso; simp at h; omega
        | [_, _, _], h => exfalso; simp at h; omega
        | _ :: _ :: _ :: _ :: _, _ => rfl
      have r0 : W6.cell? ⟨R, 0, none⟩ = some (.slice none 0 0) := HR.out.cell 0
      have r1 : W6.cell? ⟨R, 1, none⟩ = some (.string ⟨#[]⟩) := HR.out.cell 1
      have r2 : W6.cell? ⟨R, 2, none⟩ = some (.string ⟨#[]⟩) := HR.out.cell 2
      have r3 : W6.cell? ⟨R, 3, none⟩ = some (.int .i64 0) := HR.out.cell 3
      have r4 : W6.cell? ⟨R, 4, none⟩ = some (.int .u64 0) := HR.out.cell 4
      have r5 : W6.cell? ⟨R, 5, none⟩ = some (.string ⟨#[]⟩) := HR.out.cell 5
      have fr0 := HR.out.frozen 0
      have fr1 := HR.out.frozen 1
      have fr2 := HR.out.frozen 2
      have fr3 := HR.out.frozen 3
      have fr4 := HR.out.frozen 4
      have fr5 := HR.out.frozen 5
      clear hq2 hq3
      go_wp2_with fail
      refine bodyPost_ret (old_res R adZ 3 _ _ rfl ((((((HR.out.set_ 0 _).set_ 1 _).set_ 2 _).set_ 3 _).set_ 4 _).set_ 5 _) rfl rfl) rfl ⟨⟨.slice none 0 0, ?_, ?_⟩, ?_⟩
      · rw [HN0.out]; exact strS_nil _ _
      · rw [HN0.out]; rfl
      · exact below_six HL.out
    all_goals
      obtain ⟨x0, h0⟩ : ∃ x0, M[0]? = some x0 := ⟨_, List.getElem?_eq_getElem (by rw [HML.out]; omega)⟩
      obtain ⟨x1, h1⟩ : ∃ x1, M[1]? = some x1 := ⟨_, List.getElem?_eq_getElem (by rw [HML.out]; omega)⟩
      obtain ⟨s0, hx0⟩ := HC.out 0 x0 h0
      obtain ⟨s1, hx1⟩ := HC.out 1 x1 h1
      have H0 := Lib.hid h0
      have H1 := Lib.hid h1
      have HX0 := Lib.hid hx0
      have HX1 := Lib.hid hx1
      clear h0 h1 hx0 hx1
    case' inl =>
      have HT : Hid (PR = oldTail 0 0 x0 x1) := by
        unfold Hid
        rw [HX.out]
        have hlen := HML.out
        have h0 := H0.out
        have h1 := H1.out
        match M, hlen with
        | [u, v], _ => simp at h0 h1; rw [h0, h1]; rfl
      obtain ⟨kk, hkk⟩ : ∃ kk : Int, kk = 0 := ⟨_, rfl⟩
      obtain ⟨pp, hpp⟩ : ∃ pp : Nat, pp = 0 := ⟨_, rfl⟩
      have HA7 : Hid (Blk W6 (R + 2) 29 (adV (.slice none 0 0) ⟨[], ⟨#[]⟩, ⟨#[]⟩, kk, pp, mk []⟩)) := by rw [hkk, hpp]; exact HA.out
      have HT : Hid (PR = oldTail kk pp x0 x1) := by rw [hkk, hpp]; exact HT
      have HPB : Hid (pp < 18446744073709551616) := by unfold Hid; omega
      clear hkk hpp
      have hqq : (1 : Int) < ((2 : Nat) : Int) := by omega
      have HR7 := HR
      have HL7 := HL
      have HZ7 : Hid (R + 3 ≤ W6.heap.size) := by unfold Hid; rw [HZ.out]; exact Nat.le_refl _
      have s0' : W6.cell? ⟨R + 1, d, none⟩ = some (.string (mk x0)) := s0
      have s1' := s1
      obtain ⟨W7, hW7⟩ : ∃ W7, W6 = W7 := ⟨_, rfl⟩
      rw [hW7] at s0' s1' HA7 HR7 HL7 HZ7 ⊢
      clear HA HR HL HZ HC s0 s1 hW7
      go_upto_region 10 with fail
    case' inr.inl =>
      obtain ⟨x2, h2⟩ : ∃ x2, M[2]? = some x2 := ⟨_, List.getElem?_eq_getElem (by rw [HML.out]; omega)⟩
      obtain ⟨s2, hx2⟩ := HC.out 2 x2 h2
      have H2 := Lib.hid h2
      have a3 : W6.cell? ⟨R + 2, 3, none⟩ = some (.int .i64 0) := HA.out.cell 3
      have fa3 := HA.out.frozen 3
      have hA8 := HA.out.set_ 3 (.int .i64 1)
      have hR8 := HR.out.far (p := ⟨R + 2, 3, none⟩) (by show R ≠ R + 2; omega) (.int .i64 1)
      have hL8 := HL.out.setCell (p := ⟨R + 2, 3, none⟩) (by show R ≤ R + 2; omega) (.int .i64 1)
      have hC8 : ∀ i x, M[i]? = some x → (W6.setCell ⟨R + 2, 3, none⟩ (.int .i64 1)).cell? ⟨R + 1, d + i, none⟩ = some (.string (mk x)) := fun i x h => by
        rw [World.cell?_of_block (w := W6) (a := ⟨R + 1, d + i, none⟩) (Below.heap_setCell _ _ _ _ (by show R + 1 ≠ R + 2; omega))]
        exact (HC.out i x h).1
      have CP : Hid (∀ W, AdG W → Calls Tryz.prog 80 #[.string (mk x2)] W fun e w' => PlaceEnd x2 e ∧ Below W.heap.size W w') := fun W hG => by
        have := place_any (mk x2) W (by rw [Lib.size_eq, mk_data]; exact hx2) hG
        rw [mk_data] at this
        exact this
      have hz8 : (W6.setCell ⟨R + 2, 3, none⟩ (.int .i64 1)).heap.size = R + 3 := by simp [World.setCell]; exact HZ.out
      obtain ⟨W8, hW8⟩ : ∃ W8, W6.setCell ⟨R + 2, 3, none⟩ (.int .i64 1) = W8 := ⟨_, rfl⟩
      rw [hW8] at hA8 hR8 hL8 hC8 hz8
      have HA8 := Lib.hid hA8
      have HR8 := Lib.hid hR8
      have HL8 := Lib.hid hL8
      have HC8 := Lib.hid hC8
      have HZ8 := Lib.hid hz8
      clear hA8 hR8 hL8 hC8 hz8 h2 hx2
      have hb2 : (((3 : Nat) : Int) == 2) = false := by decide
      have hqq2 : (2 : Int) < ((3 : Nat) : Int) := by omega
      go_upto_region 8 with fail
      clear hW8 a3 fa3 s0 s1 s2 HA HR HL HC HZ
      have s2 := HC8.out 2 x2 H2.out
      have a4 : W8.cell? ⟨R + 2, 4, none⟩ = some (.int .u64 0) := HA8.out.cell 4
      have fa4 := HA8.out.frozen 4
      have hA8lt : R + 2 < W8.heap.size := HA8.out.lt
      go_wp2_with fail
      refine (CP.out _ (HGL.out _ HL8.out)).mono ?_
      intro e w9 hh
      obtain ⟨⟨m, rfl, hm⟩, hb⟩ := hh
      have HA9 := Lib.hid (HA8.out.below hb HA8.out.lt)
      have HR9 := Lib.hid (HR8.out.below hb HR8.out.lt)
      have HL9 := Lib.hid (HL8.out.trans (hb.mono (by rw [HZ8.out]; omega)))
      have HC9 : Hid (∀ i x, M[i]? = some x → w9.cell? ⟨R + 1, d + i, none⟩ = some (.string (mk x))) := fun i x h => (hb.cell (p := ⟨R + 1, d + i, none⟩) (by show R + 1 < W8.heap.size; omega)).trans (HC8.out i x h)
      have HZ9 : Hid (R + 3 ≤ w9.heap.size) := by have := hb.size; rw [HZ8.out] at this; exact this
      have HNM := Lib.hid hm
      have a4' : w9.cell? ⟨R + 2, 4, none⟩ = some (.int .u64 0) := HA9.out.cell 4
      have fa4' := HA9.out.frozen 4
      clear hb hm s2 a4 fa4 CP HA8 HR8 HL8 HC8 HZ8 hA8lt
      rcases hnum : number x2 with _ | v
      · have HN0 : Hid (PR = none) := by
          unfold Hid
          rw [HX.out]
          have hlen := HML.out
          have h2 := H2.out
          match M, hlen with
          | [u, v, x], _ => simp at h2; subst h2; show (match number x with | some p => _ | none => none) = none; rw [hnum]
        have HR10 := Lib.hid (HR9.out.far (p := ⟨R + 2, 4, none⟩) (by show R ≠ R + 2; omega) (.int .u64 m))
        have HL10 := Lib.hid (HL9.out.setCell (p := ⟨R + 2, 4, none⟩) (by show R ≤ R + 2; omega) (.int .u64 m))
        obtain ⟨W10, hW10⟩ : ∃ W10, w9.setCell ⟨R + 2, 4, none⟩ (.int .u64 m) = W10 := ⟨_, rfl⟩
        rw [hW10] at HR10 HL10
        clear HNM
        go_upto_region 9 with fail
        clear hW10 a4' fa4'
        have r0 : W10.cell? ⟨R, 0, none⟩ = some (.slice none 0 0) := HR10.out.cell 0
        have r1 : W10.cell? ⟨R, 1, none⟩ = some (.string ⟨#[]⟩) := HR10.out.cell 1
        have r2 : W10.cell? ⟨R, 2, none⟩ = some (.string ⟨#[]⟩) := HR10.out.cell 2
        have r3 : W10.cell? ⟨R, 3, none⟩ = some (.int .i64 0) := HR10.out.cell 3
        have r4 : W10.cell? ⟨R, 4, none⟩ = some (.int .u64 0) := HR10.out.cell 4
        have r5 : W10.cell? ⟨R, 5, none⟩ = some (.string ⟨#[]⟩) := HR10.out.cell 5
        have fr0 := HR10.out.frozen 0
        have fr1 := HR10.out.frozen 1
        have fr2 := HR10.out.frozen 2
        have fr3 := HR10.out.frozen 3
        have fr4 := HR10.out.frozen 4
        have fr5 := HR10.out.frozen 5
        go_wp2_with fail
        refine bodyPost_ret (old_res R adZ 3 _ _ rfl ((((((HR10.out.set_ 0 _).set_ 1 _).set_ 2 _).set_ 3 _).set_ 4 _).set_ 5 _) rfl rfl) rfl ⟨⟨.slice none 0 0, ?_, ?_⟩, ?_⟩
        · rw [HN0.out]; exact strS_nil _ _
        · rw [HN0.out]; rfl
        · exact below_six HL10.out
      have hmv := HNM.out v hnum
      subst hmv
      have HT : Hid (PR = oldTail 1 v x0 x1) := by
        unfold Hid
        rw [HX.out]
        have hlen := HML.out
        have h0 := H0.out
        have h1 := H1.out
        have h2 := H2.out
        match M, hlen with
        | [u, y, x], _ =>
          simp at h0 h1 h2; subst h0 h1 h2
          show (match number x with | some p => _ | none => none) = _
          rw [hnum]; rfl
      have HPB : Hid (v < 18446744073709551616) := number_lt x2 v hnum
      have hA10 : Blk (w9.setCell ⟨R + 2, 4, none⟩ (.int .u64 ((v : Nat) : Int))) (R + 2) 29 (adV (.slice none 0 0) ⟨[], ⟨#[]⟩, ⟨#[]⟩, 1, v, mk []⟩) := HA9.out.set_ 4 _
      have HA7 := Lib.hid hA10
      have HR7 := Lib.hid (HR9.out.far (p := ⟨R + 2, 4, none⟩) (by show R ≠ R + 2; omega) (.int .u64 ((v : Nat) : Int)))
      have HL7 := Lib.hid (HL9.out.setCell (p := ⟨R + 2, 4, none⟩) (by show R ≤ R + 2; omega) (.int .u64 ((v : Nat) : Int)))
      have HZ7 : Hid (R + 3 ≤ (w9.setCell ⟨R + 2, 4, none⟩ (.int .u64 ((v : Nat) : Int))).heap.size) := by unfold Hid; simp [World.setCell]; exact HZ9.out
      have hc7 : ∀ i x, M[i]? = some x → (w9.setCell ⟨R + 2, 4, none⟩ (.int .u64 ((v : Nat) : Int))).cell? ⟨R + 1, d + i, none⟩ = some (.string (mk x)) := fun i x h => by
        rw [World.cell?_of_block (w := w9) (a := ⟨R + 1, d + i, none⟩) (Below.heap_setCell _ _ _ _ (by show R + 1 ≠ R + 2; omega))]
        exact HC9.out i x h
      have s0' : (w9.setCell ⟨R + 2, 4, none⟩ (.int .u64 ((v : Nat) : Int))).cell? ⟨R + 1, d, none⟩ = some (.string (mk x0)) := hc7 0 x0 H0.out
      have s1' := hc7 1 x1 H1.out
      obtain ⟨W7, hW7⟩ : ∃ W7, w9.setCell ⟨R + 2, 4, none⟩ (.int .u64 ((v : Nat) : Int)) = W7 := ⟨_, rfl⟩
      obtain ⟨kk, hkk⟩ : ∃ kk : Int, kk = 1 := ⟨_, rfl⟩
      rw [hW7] at s0' s1' HA7 HR7 HL7 HZ7
      rw [← hkk] at HT
      rw [← hkk] at HA7
      have hqq : (1 : Int) < ((3 : Nat) : Int) := by omega
      clear hkk HA9 HR9 HL9 HC9 HZ9 HNM hA10 hc7 hnum
      go_upto_region 10 with fail
      clear hW7 a4' fa4'
      obtain ⟨pp, hpp⟩ : ∃ pp : Nat, pp = v := ⟨_, rfl⟩
      rw [← hpp] at HT HPB HA7
      clear hpp
    all_goals
      have a1 : W7.cell? ⟨R + 2, 1, none⟩ = some (.string ⟨#[]⟩) := HA7.out.cell 1
      have a2 : W7.cell? ⟨R + 2, 2, none⟩ = some (.string ⟨#[]⟩) := HA7.out.cell 2
      have fa1 := HA7.out.frozen 1
      have fa2 := HA7.out.frozen 2
      have hqz : (0 : Int) < 2 := by decide
      go_region
      all_goals
        go_upto_region 11 with fail
        obtain ⟨cand, hcand⟩ : ∃ cand : Ad, cand = ⟨[], mk x0, mk x1, kk, pp, mk []⟩ := ⟨_, rfl⟩
        have hA8 := ((HA7.out.set_ 1 (.string (mk x0))).set_ 2 (.string (mk x1))).drew
        have hR8 := ((HR7.out.far (p := ⟨R + 2, 1, none⟩) (by show R ≠ R + 2; omega) (.string (mk x0))).far (p := ⟨R + 2, 2, none⟩) (by show R ≠ R + 2; omega) (.string (mk x1))).drew
        have hL8 := ((HL7.out.setCell (p := ⟨R + 2, 1, none⟩) (by show R ≤ R + 2; omega) (.string (mk x0))).setCell (p := ⟨R + 2, 2, none⟩) (by show R ≤ R + 2; omega) (.string (mk x1))).drew
        have hz8 : R + 3 ≤ (((W7.setCell ⟨R + 2, 1, none⟩ (.string (mk x0))).setCell ⟨R + 2, 2, none⟩ (.string (mk x1))).drew).heap.size := by
          have := HZ7.out
          show R + 3 ≤ ((W7.setCell ⟨R + 2, 1, none⟩ (.string (mk x0))).setCell ⟨R + 2, 2, none⟩ (.string (mk x1))).heap.size
          simp [World.setCell]; omega
        obtain ⟨W8, hW8⟩ : ∃ W8, ((W7.setCell ⟨R + 2, 1, none⟩ (.string (mk x0))).setCell ⟨R + 2, 2, none⟩ (.string (mk x1))).drew = W8 := ⟨_, rfl⟩
        rw [hW8] at hA8 hR8 hL8 hz8 ⊢
        have hP8 : StrS W8 W8.heap.size (.slice none 0 0) cand.path := by rw [hcand]; exact strS_nil _ _
        have hab : AdB cand := by
          rw [hcand]
          exact ⟨by simp, by simp, by rw [Lib.size_eq, mk_data]; exact HX0.out, by rw [Lib.size_eq, mk_data]; exact HX1.out, by rw [Lib.size_eq, mk_data]; simp, HPB.out⟩
        have hq3 : PR = if rightA cand then some cand else none := by rw [hcand]; exact HT.out
        have hA8' : Blk W8 (R + 2) 29 (adV (.slice none 0 0) cand) := by rw [hcand]; exact hA8
        have C := Lib.hid (aright_any (.slice none 0 0) cand W8 (HGL.out _ hL8).lx hP8 hab)
        have HA8 := Lib.hid hA8'
        have HR8 := Lib.hid hR8
        have HL8 := Lib.hid hL8
        have HZ8 := Lib.hid hz8
        have HQ3 := Lib.hid hq3
        have hcp : cand.path = [] := by rw [hcand]
        have HCP := Lib.hid hcp
        clear hA8 hA8' hR8 hL8 hz8 hW8 hP8 hab hq3 hcand HT HA7 HR7 HL7 HZ7 a1 a2 fa1 fa2 s0' s1' hcp
        obtain ⟨pth, ty, nm, key, place, word⟩ := cand
        obtain ⟨b0, b1, b2, b3, b4, b5⟩ := ad_cells HA8.out
        dsimp only at b0 b1 b2 b3 b4 b5 HCP
        unfold adV at C HA8
        dsimp only at C HA8
        obtain ⟨RR, hRR⟩ : ∃ RR, rightA ⟨pth, ty, nm, key, place, word⟩ = RR := ⟨_, rfl⟩
        rw [hRR] at C HQ3
        clear hRR
        go_wp2_with fail
        refine C.out.mono ?_
        rintro e w9 ⟨rfl, hb⟩
        have HA9 := Lib.hid (HA8.out.below hb HA8.out.lt)
        have HR9 := Lib.hid (HR8.out.below hb HR8.out.lt)
        have HL9 := Lib.hid (HL8.out.trans (hb.mono (by have := HZ8.out; omega)))
        clear hb C HA8 HR8 HL8 HZ8 b0 b1 b2 b3 b4 b5
        have b0 : w9.cell? ⟨R + 2, 0, none⟩ = some (.slice none 0 0) := HA9.out.cell 0
        have b1 : w9.cell? ⟨R + 2, 1, none⟩ = some (.string ty) := HA9.out.cell 1
        have b2 : w9.cell? ⟨R + 2, 2, none⟩ = some (.string nm) := HA9.out.cell 2
        have b3 : w9.cell? ⟨R + 2, 3, none⟩ = some (.int .i64 key) := HA9.out.cell 3
        have b4 : w9.cell? ⟨R + 2, 4, none⟩ = some (.int .u64 ((place : Nat) : Int)) := HA9.out.cell 4
        have b5 : w9.cell? ⟨R + 2, 5, none⟩ = some (.string word) := HA9.out.cell 5
        have r0 : w9.cell? ⟨R, 0, none⟩ = some (.slice none 0 0) := HR9.out.cell 0
        have r1 : w9.cell? ⟨R, 1, none⟩ = some (.string ⟨#[]⟩) := HR9.out.cell 1
        have r2 : w9.cell? ⟨R, 2, none⟩ = some (.string ⟨#[]⟩) := HR9.out.cell 2
        have r3 : w9.cell? ⟨R, 3, none⟩ = some (.int .i64 0) := HR9.out.cell 3
        have r4 : w9.cell? ⟨R, 4, none⟩ = some (.int .u64 0) := HR9.out.cell 4
        have r5 : w9.cell? ⟨R, 5, none⟩ = some (.string ⟨#[]⟩) := HR9.out.cell 5
        have fr0 := HR9.out.frozen 0
        have fr1 := HR9.out.frozen 1
        have fr2 := HR9.out.frozen 2
        have fr3 := HR9.out.frozen 3
        have fr4 := HR9.out.frozen 4
        have fr5 := HR9.out.frozen 5
        cases RR with
        | false =>
          have HN0 : Hid (PR = none) := HQ3.out
          go_wp2_with fail
          refine bodyPost_ret (old_res R adZ 3 _ _ rfl ((((((HR9.out.set_ 0 _).set_ 1 _).set_ 2 _).set_ 3 _).set_ 4 _).set_ 5 _) rfl rfl) rfl ⟨⟨.slice none 0 0, ?_, ?_⟩, ?_⟩
          · rw [HN0.out]; exact strS_nil _ _
          · rw [HN0.out]; rfl
          · exact below_six HL9.out
        | true =>
          have HN0 : Hid (PR = some ⟨pth, ty, nm, key, place, word⟩) := HQ3.out
          go_wp2_with fail
          refine bodyPost_ret (old_res R (adV (.slice none 0 0) ⟨pth, ty, nm, key, place, word⟩) 0 _ _ rfl ((((((HR9.out.set_ 0 _).set_ 1 _).set_ 2 _).set_ 3 _).set_ 4 _).set_ 5 _) rfl rfl) rfl ⟨⟨.slice none 0 0, ?_, ?_⟩, ?_⟩
          · rw [HN0.out]
            show StrS _ _ _ pth
            rw [HCP.out]
            exact strS_nil _ _
          · rw [HN0.out]; rfl
          · exact below_six HL9.out
end Go.Proofs.YtdfihhebgllpcaaGreatDoor
