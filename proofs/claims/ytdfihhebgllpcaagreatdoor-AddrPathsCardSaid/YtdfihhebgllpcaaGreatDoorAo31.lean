import Derived.Test.YtdfihhebgllpcaaGreatDoorAo29
import Derived.Test.YtdfihhebgllpcaaGreatDoorAo30

/- The walk of the reference's Old. -/
namespace Go.Proofs.YtdfihhebgllpcaaGreatDoor
open Go.RowKit Go.Proofs.QuotePlain Go.Proofs.UtfPlain Go.Proofs.LexPlain Go.Proofs.AddrPlain

theorem rold_res (B : Nat) (cs : Array Value) (x : Bool) (W : World) (tmps : Array Value) (h6 : cs.size = 6) (hB : Blk W B 29 cs) (h : tmps[2]? = some (.pointer (some ⟨B, 0, none⟩))) (h3 : tmps[3]? = some (.bool x)) :
    (results Tryz.f38 tmps).run Tryz.prog W = .ok (.tuple #[.agg cs, .bool x]) W := by
  obtain ⟨l⟩ := cs
  match l, h6 with
  | [v0, v1, v2, v3, v4, v5], _ =>
    have c0 : W.cell? ⟨B, 0, none⟩ = some v0 := hB.cell 0
    have c1 : W.cell? ⟨B, 1, none⟩ = some v1 := hB.cell 1
    have c2 : W.cell? ⟨B, 2, none⟩ = some v2 := hB.cell 2
    have c3 : W.cell? ⟨B, 3, none⟩ = some v3 := hB.cell 3
    have c4 : W.cell? ⟨B, 4, none⟩ = some v4 := hB.cell 4
    have c5 : W.cell? ⟨B, 5, none⟩ = some v5 := hB.cell 5
    simp [results, Tryz.results38, go_sem, h, h3, c0, c1, c2, c3, c4, c5]

set_option maxRecDepth 100000 in
set_option maxHeartbeats 8000000 in
theorem raold_any (s : ByteArray) (w : World) (hs : s.size ≤ 100000) :
    Calls Tryz.prog 38 #[.string s] w fun e w' => RParseEnd (oldA s.data.toList) w' e ∧ Below w.heap.size w w' := by
  have hl := (Below.refl w.heap.size w).alloc (Nat.le_refl _) (.cells adZ 29)
  have hR := Blk.new w 29 adZ
  have HBD := Lib.hid (splitC_bd 46 s.data.toList)
  obtain ⟨PR, hPR⟩ : ∃ PR, oldA s.data.toList = PR := ⟨_, rfl⟩
  have HPR : Hid (PR = oldM (oldS (splitC 46 s.data.toList))) := hPR.symm
  rw [hPR]
  have hss := Lib.size_eq s
  rw [← hss] at HBD
  have CPT0 := Lib.hid (fun w => raparts_any s w hs)
  obtain ⟨L, hL⟩ : ∃ L, splitC 46 s.data.toList = L := ⟨_, rfl⟩
  have hne : L ≠ [] := by rw [← hL]; exact splitC_ne 46 _
  have CPT : Hid (∀ w, Calls Tryz.prog 81 #[.string s] w fun e w' => (∃ v, w'.ownsRow w.heap.size 9 1 v L.length ((L.map mk).map Value.string) ∧ e = .returned v) ∧ Below w.heap.size w w') := fun w => by
    have := CPT0.out w
    unfold PartsEnd at this
    rw [hL] at this
    exact this
  rw [hL] at HBD HPR
  have HNE := Lib.hid hne
  have HSX := Lib.hid hs
  obtain ⟨W, hW⟩ : ∃ W, w.alloc (.cells adZ 29) = W := ⟨_, rfl⟩
  obtain ⟨R, hRR⟩ : ∃ R, w.heap.size = R := ⟨_, rfl⟩
  have hWs : W.heap.size = R + 1 := by rw [← hW, ← hRR]; simp
  rw [hW] at hl hR
  rw [hRR] at hl hR ⊢
  have HL := Lib.hid hl
  have HR := Lib.hid hR
  have HWS := Lib.hid hWs
  clear hl hR hPR hss hL hs hWs hne CPT0
  unfold adZ at hW
  go_enter Tryz.func38, Tryz.ntmps38
  go_upto_region 1 with fail
  clear hW hRR
  go_wp2_with fail
  refine (CPT.out _).mono ?_
  rintro e w5 ⟨⟨v, ho, rfl⟩, hb⟩
  have HR5 := Lib.hid (HR.out.below hb HR.out.lt)
  have HL5 := Lib.hid (HL.out.trans (hb.mono (by rw [HWS.out]; omega)))
  obtain ⟨n, hn⟩ : ∃ n, L.length = n := ⟨_, rfl⟩
  have hn0 : 1 ≤ n := by have := List.length_pos_iff.2 HNE.out; omega
  obtain ⟨lm, hlm⟩ : ∃ lm, n = lm + 1 := ⟨n - 1, by omega⟩
  have ho2 := ho
  rw [hn, hlm] at ho2
  obtain ⟨S, cp, hv⟩ := own_form ho2
  rw [← hlm] at hv
  subst hv
  have hSb := ho.lt S rfl
  have hSR : R + 1 ≤ S := by have := HWS.out; omega
  have hcell : ∀ i x, L[i]? = some x → w5.cell? ⟨S, i, none⟩ = some (.string (mk x)) ∧ x.length ≤ 100000 := fun i x h => by
    have := ho.cells rfl i (.string (mk x)) (by simp [h])
    have hadd : (⟨S, 0, none⟩ : Addr).add i = ⟨S, i, none⟩ := by unfold Addr.add; split <;> simp_all
    rw [hadd] at this
    have hb := HBD.out.2 x (List.mem_of_getElem? h)
    have := HSX.out
    exact ⟨by assumption, by omega⟩
  have HCL := Lib.hid hcell
  have HN := Lib.hid hn
  have hn1 : n ≤ 100001 := by have := HBD.out.1; have := HSX.out; omega
  have HSZ : Hid (S < w5.heap.size) := hSb.2
  clear ho ho2 hb hSb hcell hn hlm HR HL CPT HWS
  go_upto_region 3 with fail
  go_cut [20] (fun v wx => ∃ d : Nat, v = .bool (decide (d = 1)) ∧ d ≤ 1 ∧ (d = 1 → 2 < n) ∧ Hid (PR = oldM (L.drop d)) ∧ wx = w5)
  case first =>
    rcases oldS_drop L with ⟨h1, h2, h3⟩ | ⟨h1, h3⟩
    · have hq1 : (3 : Int) ≤ (n : Int) := by have := HN.out; omega
      have hq2 : (0 : Int) < (n : Int) := by omega
      have hq3 : 0 < n := by omega
      have s0 := (HCL.out 0 dataL h2).1
      have hmb : ((mk dataL).toList == [100, 97, 116, 97]) = true := by rw [beq_iff_eq]; exact (dataB_eq _).2 rfl
      have HX := Lib.hid (HPR.out.trans (by rw [h3]))
      clear h1 h2 h3 HPR
      go_wp2_with fail
      go_meet
      exact ⟨1, by first | rfl | simp [hmb], Nat.le_refl _, fun _ => by omega, HX, rfl⟩
    · have HX : Hid (PR = oldM (L.drop 0)) := by unfold Hid; rw [HPR.out, h3]; rfl
      by_cases hq : 2 < n
      · have hq1 : (3 : Int) ≤ (n : Int) := by omega
        have hq2 : (0 : Int) < (n : Int) := by omega
        have hq3 : 0 < n := by omega
        obtain ⟨x0, h0⟩ : ∃ x0, L[0]? = some x0 := ⟨_, List.getElem?_eq_getElem (by rw [HN.out]; omega)⟩
        have s0 := (HCL.out 0 x0 h0).1
        have hmb : ((mk x0).toList == [100, 97, 116, 97]) = false := by
          rw [beq_eq_false_iff_ne]
          intro e
          rw [dataB_eq] at e
          exact h1 ⟨by rw [HN.out]; exact hq, by rw [h0, e]⟩
        clear h1 h3 h0 HPR
        go_wp2_with fail
        go_meet
        exact ⟨0, by first | rfl | simp [hmb], by omega, fun h => by omega, HX, rfl⟩
      · have hq1 : ¬ (3 : Int) ≤ (n : Int) := by omega
        clear h1 h3 HPR
        go_wp2_with fail
        go_meet
        exact ⟨0, rfl, by omega, fun h => by omega, HX, rfl⟩
  case rest =>
    obtain ⟨d, rfl, hd1, hd2, HX, rfl⟩ := hcut
    clear HPR
    go_upto_if 20 with fail
    go_cut [5] (fun v wx => v = .int .i64 d ∧ wx = wc)
    case first =>
      have hd3 : d = 0 ∨ d = 1 := by omega
      rcases hd3 with rfl | rfl
      · go_wp2_with fail
        go_meet
        exact ⟨rfl, rfl⟩
      · go_wp2_with fail
        go_meet
        exact ⟨rfl, rfl⟩
    case rest =>
      obtain ⟨rfl, rfl⟩ := hcut
      have hdn : d ≤ n := by
        rcases Nat.lt_or_ge n d with h | h
        · have : d = 1 := by omega
          have := hd2 this; omega
        · exact h
      obtain ⟨q, hq⟩ : ∃ q, d + q = n := ⟨n - d, by omega⟩
      obtain ⟨M, hM⟩ : ∃ M, L.drop d = M := ⟨_, rfl⟩
      rw [hM] at HX
      have hMl : M.length = q := by rw [← hM, List.length_drop, HN.out]; omega
      have HMM : Hid (∀ x ∈ M, x ∈ L) := fun x hx => by rw [← hM] at hx; exact List.mem_of_mem_drop hx
      have hcell : ∀ i x, M[i]? = some x → wc.cell? ⟨S, d + i, none⟩ = some (.string (mk x)) ∧ x.length ≤ 100000 := fun i x h => by
        rw [← hM, List.getElem?_drop] at h
        exact HCL.out (d + i) x h
      have HC := Lib.hid hcell
      have HML := Lib.hid hMl
      have hqw : IntKind.i64.wrap ((n : Int) - (d : Int)) = (q : Int) := by
        have : (n : Int) - (d : Int) = (q : Int) := by omega
        rw [this]; exact IntWalk.i64_in _ (by omega)
      have hqs : (n : Int) - (d : Int) = (q : Int) := by omega
      clear hM hMl hcell hd2
      have key : (q = 2 ∨ q = 3) ∨ (q ≠ 2 ∧ q ≠ 3) := by omega
      rcases key with hq23 | ⟨hq2, hq3⟩
      case inr =>
        have hb2 : ((q : Int) != 2) = true := by rw [bne_iff_ne]; omega
        have hb3 : ((q : Int) != 3) = true := by rw [bne_iff_ne]; omega
        have HN0 : Hid (PR = none) := by
          unfold Hid
          rw [HX.out]
          have hlen := HML.out
          match M, hlen with
          | [], _ => rfl
          | [_], _ => rfl
          | [_, _], h => exfalso; simp at h; omega
          | [_, _, _], h => exfalso; simp at h; omega
          | _ :: _ :: _ :: _ :: _, _ => rfl
        have r0 : wc.cell? ⟨R, 0, none⟩ = some (.slice none 0 0) := HR5.out.cell 0
        have r1 : wc.cell? ⟨R, 1, none⟩ = some (.string ⟨#[]⟩) := HR5.out.cell 1
        have r2 : wc.cell? ⟨R, 2, none⟩ = some (.string ⟨#[]⟩) := HR5.out.cell 2
        have r3 : wc.cell? ⟨R, 3, none⟩ = some (.int .i64 0) := HR5.out.cell 3
        have r4 : wc.cell? ⟨R, 4, none⟩ = some (.int .u64 0) := HR5.out.cell 4
        have r5 : wc.cell? ⟨R, 5, none⟩ = some (.string ⟨#[]⟩) := HR5.out.cell 5
        have fr0 := HR5.out.frozen 0
        have fr1 := HR5.out.frozen 1
        have fr2 := HR5.out.frozen 2
        have fr3 := HR5.out.frozen 3
        have fr4 := HR5.out.frozen 4
        have fr5 := HR5.out.frozen 5
        clear hq2 hq3
        go_wp2_with fail
        refine bodyPost_ret (rold_res R adZ false _ _ rfl ((((((HR5.out.set_ 0 _).set_ 1 _).set_ 2 _).set_ 3 _).set_ 4 _).set_ 5 _) rfl rfl) rfl ⟨⟨.slice none 0 0, ?_, ?_⟩, ?_⟩
        · rw [HN0.out]; exact strS_nil _ _
        · rw [HN0.out]; rfl
        · exact below_six HL5.out
      have hq2 : 2 ≤ q := by omega
      obtain ⟨x0, h0⟩ : ∃ x0, M[0]? = some x0 := ⟨_, List.getElem?_eq_getElem (by rw [HML.out]; omega)⟩
      obtain ⟨x1, h1⟩ : ∃ x1, M[1]? = some x1 := ⟨_, List.getElem?_eq_getElem (by rw [HML.out]; omega)⟩
      have s0 : wc.cell? ⟨S, d, none⟩ = some (.string (mk x0)) := (HC.out 0 x0 h0).1
      have s1 := (HC.out 1 x1 h1).1
      have HX0 := Lib.hid (HC.out 0 x0 h0).2
      have HX1 := Lib.hid (HC.out 1 x1 h1).2
      have H0 := Lib.hid h0
      have H1 := Lib.hid h1
      have hdw : IntKind.i64.wrap ((d : Int) + 1) = (d : Int) + 1 := IntWalk.i64_in _ (by omega)
      have hdt : ((d : Int) + 1).toNat = d + 1 := by omega
      have hdl : (d : Int) < (n : Int) := by omega
      have hdl1 : (d : Int) + 1 < (n : Int) := by omega
      have hdp : (0 : Int) ≤ (d : Int) + 1 := by omega
      have hSlt := HSZ.out
      have hSne : ¬ S = wc.heap.size := by omega
      clear h0 h1
      have hb23 : ((q : Int) != 2) = false ∨ ((((q : Int) != 2) = true) ∧ ((q : Int) != 3) = false) := by
        rcases hq23 with h | h
        · left; rw [bne_eq_false_iff_eq]; omega
        · right; exact ⟨by rw [bne_iff_ne]; omega, by rw [bne_eq_false_iff_eq]; omega⟩
      go_upto_region 6 with fail
      go_cut [30] (fun v wx => v = .bool false ∧ wx = wc)
      case first =>
        rcases hb23 with h | ⟨h, h2⟩
        · go_wp2_with fail
          go_meet
          exact ⟨rfl, rfl⟩
        · go_wp2_with fail
          go_meet
          exact ⟨rfl, rfl⟩
      case rest =>
        obtain ⟨rfl, rfl⟩ := hcut
        go_upto_region 8 with fail
        go_region
        all_goals
          have hAa : Blk ((wc.alloc (.cells #[.slice none 0 0, .string (mk x0), .string (mk x1), .int .i64 0, .int .u64 0, .string ⟨#[]⟩] 29)).drew) wc.heap.size 29 (adV (.slice none 0 0) ⟨[], mk x0, mk x1, 0, 0, mk []⟩) := (Blk.new wc 29 _).drew
          have hRa := (HR5.out.alloc (.cells #[.slice none 0 0, .string (mk x0), .string (mk x1), .int .i64 0, .int .u64 0, .string ⟨#[]⟩] 29)).drew
          have hLa := (HL5.out.alloc (by omega) (.cells #[.slice none 0 0, .string (mk x0), .string (mk x1), .int .i64 0, .int .u64 0, .string ⟨#[]⟩] 29)).drew
          have hCa : ∀ i x, M[i]? = some x → ((wc.alloc (.cells #[.slice none 0 0, .string (mk x0), .string (mk x1), .int .i64 0, .int .u64 0, .string ⟨#[]⟩] 29)).drew).cell? ⟨S, d + i, none⟩ = some (.string (mk x)) := fun i x h => by
            rw [← (HC.out i x h).1]
            exact ((Below.refl wc.heap.size wc).alloc (Nat.le_refl _) (.cells #[.slice none 0 0, .string (mk x0), .string (mk x1), .int .i64 0, .int .u64 0, .string ⟨#[]⟩] 29)).cell (p := ⟨S, d + i, none⟩) hSlt
          obtain ⟨A, hA⟩ : ∃ A, wc.heap.size = A := ⟨_, rfl⟩
          obtain ⟨WA, hWA⟩ : ∃ WA, (wc.alloc (.cells #[.slice none 0 0, .string (mk x0), .string (mk x1), .int .i64 0, .int .u64 0, .string ⟨#[]⟩] 29)).drew = WA := ⟨_, rfl⟩
          have hSA : S < A := by omega
          have hzA : WA.heap.size = A + 1 := by
            rw [← hWA, ← hA]
            show (wc.alloc _).heap.size = _
            simp
          rw [hWA] at hAa hRa hLa hCa ⊢
          rw [hA] at hAa ⊢
          have HAa := Lib.hid hAa
          have HRa := Lib.hid hRa
          have HLa := Lib.hid hLa
          have HCa := Lib.hid hCa
          have HZa := Lib.hid hzA
          clear hAa hRa hLa hCa hzA HR5 HL5 HC HCL s0 s1 hSlt hSne
          go_upto_region 9 with fail
          clear hA hWA
          go_upto_if 43 with fail
          go_cut [6] (fun v wx => v = .int .i64 q ∧ ∃ (kk : Int) (pp : Nat), Hid (PR = oldTail kk pp x0 x1) ∧ Hid (pp < 18446744073709551616) ∧ Hid (Blk wx A 29 (adV (.slice none 0 0) ⟨[], mk x0, mk x1, kk, pp, mk []⟩)) ∧ Hid (Blk wx R 29 adZ) ∧ Hid (Below R w wx) ∧ Hid (A + 1 ≤ wx.heap.size))
          case first =>
            by_cases hq3 : q = 3
            case neg =>
              have hb3 : ((q : Int) == 3) = false := by rw [beq_eq_false_iff_ne]; omega
              have HT : Hid (PR = oldTail 0 0 x0 x1) := by
                unfold Hid
                rw [HX.out]
                have hlen := HML.out
                have h0 := H0.out
                have h1 := H1.out
                match M, hlen with
                | [], h => exfalso; simp at h; omega
                | [_], h => exfalso; simp at h; omega
                | [u, v], _ => simp at h0 h1; rw [h0, h1]; rfl
                | [_, _, _], h => exfalso; simp at h; omega
                | _ :: _ :: _ :: _ :: _, h => exfalso; simp at h; omega
              go_wp2_with fail
              go_meet
              exact ⟨rfl, 0, 0, HT, Lib.hid (by omega), HAa, HRa, HLa, Lib.hid (by rw [HZa.out]; exact Nat.le_refl _)⟩
            have hb3 : ((q : Int) == 3) = true := by rw [beq_iff_eq]; omega
            obtain ⟨x2, h2⟩ : ∃ x2, M[2]? = some x2 := ⟨_, List.getElem?_eq_getElem (by rw [HML.out]; omega)⟩
            have s2 := HCa.out 2 x2 h2
            have hx2 : x2.length ≤ 100000 := by
              have := HBD.out.2 x2
              have hm : x2 ∈ L := by
                have := List.mem_of_getElem? h2
                exact HMM.out x2 this
              have h3 := HBD.out.2 x2 hm
              have := HSX.out
              omega
            have CP : Hid (∀ w, Calls Tryz.prog 82 #[.string (mk x2)] w fun e w' => NumEndA x2 e ∧ w = w') := fun w => by
              have := ranumber_any (mk x2) w (by rw [Lib.size_eq, mk_data]; exact hx2)
              rw [mk_data] at this
              exact this
            have H2 := Lib.hid h2
            have hd2w : IntKind.i64.wrap ((d : Int) + 2) = (d : Int) + 2 := IntWalk.i64_in _ (by omega)
            have hd2t : ((d : Int) + 2).toNat = d + 2 := by omega
            have hd2l : (d : Int) + 2 < (n : Int) := by omega
            have hd2p : (0 : Int) ≤ (d : Int) + 2 := by omega
            clear h2 hx2
            have r0 : WA.cell? ⟨R, 0, none⟩ = some (.slice none 0 0) := HRa.out.cell 0
            have r1 : WA.cell? ⟨R, 1, none⟩ = some (.string ⟨#[]⟩) := HRa.out.cell 1
            have r2 : WA.cell? ⟨R, 2, none⟩ = some (.string ⟨#[]⟩) := HRa.out.cell 2
            have r3 : WA.cell? ⟨R, 3, none⟩ = some (.int .i64 0) := HRa.out.cell 3
            have r4 : WA.cell? ⟨R, 4, none⟩ = some (.int .u64 0) := HRa.out.cell 4
            have r5 : WA.cell? ⟨R, 5, none⟩ = some (.string ⟨#[]⟩) := HRa.out.cell 5
            have fr0 := HRa.out.frozen 0
            have fr1 := HRa.out.frozen 1
            have fr2 := HRa.out.frozen 2
            have fr3 := HRa.out.frozen 3
            have fr4 := HRa.out.frozen 4
            have fr5 := HRa.out.frozen 5
            have a3 : WA.cell? ⟨A, 3, none⟩ = some (.int .i64 0) := HAa.out.cell 3
            have a4 : WA.cell? ⟨A, 4, none⟩ = some (.int .u64 0) := HAa.out.cell 4
            have fa3 := HAa.out.frozen 3
            have fa4 := HAa.out.frozen 4
            go_wp2_with fail
            refine (CP.out _).mono ?_
            intro e w9 hh
            obtain ⟨⟨m, rfl, hm⟩, rfl⟩ := hh
            have HNM := Lib.hid hm
            clear hm CP
            rcases hnum : number x2 with _ | v
            · have HN0 : Hid (PR = none) := by
                unfold Hid
                rw [HX.out]
                have hlen := HML.out
                have h2 := H2.out
                match M, hlen with
                | [], h => exfalso; simp at h; omega
                | [_], h => exfalso; simp at h; omega
                | [_, _], h => exfalso; simp at h; omega
                | [u, v, x], _ => simp at h2; subst h2; show (match number x with | some p => _ | none => none) = none; rw [hnum]
                | _ :: _ :: _ :: _ :: _, h => exfalso; simp at h; omega
              clear HNM hnum
              go_wp2_with fail
              refine bodyPost_ret (rold_res R adZ false _ _ rfl ((((((HRa.out.set_ 0 _).set_ 1 _).set_ 2 _).set_ 3 _).set_ 4 _).set_ 5 _) rfl rfl) rfl ⟨⟨.slice none 0 0, ?_, ?_⟩, ?_⟩
              · rw [HN0.out]; exact strS_nil _ _
              · rw [HN0.out]; rfl
              · exact below_six HLa.out
            · have hmv := HNM.out v hnum
              subst hmv
              have HT : Hid (PR = oldTail 1 v x0 x1) := by
                unfold Hid
                rw [HX.out]
                have hlen := HML.out
                have h0 := H0.out
                have h1 := H1.out
                have h2 := H2.out
                match M, hlen with
                | [], h => exfalso; simp at h; omega
                | [_], h => exfalso; simp at h; omega
                | [_, _], h => exfalso; simp at h; omega
                | [u, y, x], _ =>
                  simp at h0 h1 h2; subst h0 h1 h2
                  show (match number x with | some p => _ | none => none) = _
                  rw [hnum]; rfl
                | _ :: _ :: _ :: _ :: _, h => exfalso; simp at h; omega
              have HPB : Hid (v < 18446744073709551616) := number_lt x2 v hnum
              have HA9 : Hid (Blk ((WA.setCell ⟨A, 3, none⟩ (.int .i64 1)).setCell ⟨A, 4, none⟩ (.int .u64 ((v : Nat) : Int))) A 29 (adV (.slice none 0 0) ⟨[], mk x0, mk x1, 1, v, mk []⟩)) := (HAa.out.set_ 3 (.int .i64 1)).set_ 4 (.int .u64 ((v : Nat) : Int))
              have HR9 := Lib.hid ((HRa.out.far (p := ⟨A, 3, none⟩) (by show R ≠ A; omega) (.int .i64 1)).far (p := ⟨A, 4, none⟩) (by show R ≠ A; omega) (.int .u64 ((v : Nat) : Int)))
              have HL9 := Lib.hid ((HLa.out.setCell (p := ⟨A, 3, none⟩) (by show R ≤ A; omega) (.int .i64 1)).setCell (p := ⟨A, 4, none⟩) (by show R ≤ A; omega) (.int .u64 ((v : Nat) : Int)))
              have HZ9 : Hid (A + 1 ≤ ((WA.setCell ⟨A, 3, none⟩ (.int .i64 1)).setCell ⟨A, 4, none⟩ (.int .u64 ((v : Nat) : Int))).heap.size) := by
                unfold Hid; simp [World.setCell]; rw [HZa.out]; exact Nat.le_refl _
              clear HNM hnum
              go_wp2_with fail
              go_meet
              exact ⟨by rw [hq3]; rfl, 1, v, HT, HPB, HA9, HR9, HL9, HZ9⟩
          case rest =>
            obtain ⟨rfl, kk, pp, HT, HPB, HA7, HR7, HL7, HZ7⟩ := hcut
            clear HAa HRa HLa HCa HZa HX
            obtain ⟨cand, hcand⟩ : ∃ cand : Ad, cand = ⟨[], mk x0, mk x1, kk, pp, mk []⟩ := ⟨_, rfl⟩
            obtain ⟨W8, hW8⟩ : ∃ W8, wc = W8 := ⟨_, rfl⟩
            rw [hW8] at HA7 HR7 HL7 HZ7 ⊢
            have hP8 : StrS W8 W8.heap.size (.slice none 0 0) cand.path := by rw [hcand]; exact strS_nil _ _
            have hab : AdB cand := by
              rw [hcand]
              exact ⟨by simp, by simp, by rw [Lib.size_eq, mk_data]; exact HX0.out, by rw [Lib.size_eq, mk_data]; exact HX1.out, by rw [Lib.size_eq, mk_data]; simp, HPB.out⟩
            have hq3 : PR = if rightA cand then some cand else none := by rw [hcand]; exact HT.out
            have hA8' : Blk W8 A 29 (adV (.slice none 0 0) cand) := by rw [hcand]; exact HA7.out
            have C := Lib.hid (raright_any (.slice none 0 0) cand W8 hP8 hab)
            have HA8 := Lib.hid hA8'
            have HQ3 := Lib.hid hq3
            have hcp : cand.path = [] := by rw [hcand]
            have HCP := Lib.hid hcp
            clear hA8' hW8 hP8 hab hq3 hcand HT HA7 hcp
            obtain ⟨pth, ty, nm, key, place, word⟩ := cand
            obtain ⟨b0, b1, b2, b3, b4, b5⟩ := ad_cells HA8.out
            dsimp only at b0 b1 b2 b3 b4 b5 HCP
            unfold adV at C HA8
            dsimp only at C HA8
            obtain ⟨RR, hRR⟩ : ∃ RR, rightA ⟨pth, ty, nm, key, place, word⟩ = RR := ⟨_, rfl⟩
            rw [hRR] at C HQ3
            clear hRR
            go_wp2_with fail
            refine C.out.mono ?_
            rintro e w9 ⟨rfl, hb⟩
            have HA9 := Lib.hid (HA8.out.below hb HA8.out.lt)
            have HR9 := Lib.hid (HR7.out.below hb HR7.out.lt)
            have HL9 := Lib.hid (HL7.out.trans (hb.mono (by have := HZ7.out; omega)))
            clear hb C HA8 HR7 HL7 HZ7 b0 b1 b2 b3 b4 b5
            have b0 : w9.cell? ⟨A, 0, none⟩ = some (.slice none 0 0) := HA9.out.cell 0
            have b1 : w9.cell? ⟨A, 1, none⟩ = some (.string ty) := HA9.out.cell 1
            have b2 : w9.cell? ⟨A, 2, none⟩ = some (.string nm) := HA9.out.cell 2
            have b3 : w9.cell? ⟨A, 3, none⟩ = some (.int .i64 key) := HA9.out.cell 3
            have b4 : w9.cell? ⟨A, 4, none⟩ = some (.int .u64 ((place : Nat) : Int)) := HA9.out.cell 4
            have b5 : w9.cell? ⟨A, 5, none⟩ = some (.string word) := HA9.out.cell 5
            have r0 : w9.cell? ⟨R, 0, none⟩ = some (.slice none 0 0) := HR9.out.cell 0
            have r1 : w9.cell? ⟨R, 1, none⟩ = some (.string ⟨#[]⟩) := HR9.out.cell 1
            have r2 : w9.cell? ⟨R, 2, none⟩ = some (.string ⟨#[]⟩) := HR9.out.cell 2
            have r3 : w9.cell? ⟨R, 3, none⟩ = some (.int .i64 0) := HR9.out.cell 3
            have r4 : w9.cell? ⟨R, 4, none⟩ = some (.int .u64 0) := HR9.out.cell 4
            have r5 : w9.cell? ⟨R, 5, none⟩ = some (.string ⟨#[]⟩) := HR9.out.cell 5
            have fr0 := HR9.out.frozen 0
            have fr1 := HR9.out.frozen 1
            have fr2 := HR9.out.frozen 2
            have fr3 := HR9.out.frozen 3
            have fr4 := HR9.out.frozen 4
            have fr5 := HR9.out.frozen 5
            cases RR with
            | false =>
              have HN0 : Hid (PR = none) := HQ3.out
              go_wp2_with fail
              refine bodyPost_ret (rold_res R adZ false _ _ rfl ((((((HR9.out.set_ 0 _).set_ 1 _).set_ 2 _).set_ 3 _).set_ 4 _).set_ 5 _) rfl rfl) rfl ⟨⟨.slice none 0 0, ?_, ?_⟩, ?_⟩
              · rw [HN0.out]; exact strS_nil _ _
              · rw [HN0.out]; rfl
              · exact below_six HL9.out
            | true =>
              have HN0 : Hid (PR = some ⟨pth, ty, nm, key, place, word⟩) := HQ3.out
              go_wp2_with fail
              refine bodyPost_ret (rold_res R (adV (.slice none 0 0) ⟨pth, ty, nm, key, place, word⟩) true _ _ rfl ((((((HR9.out.set_ 0 _).set_ 1 _).set_ 2 _).set_ 3 _).set_ 4 _).set_ 5 _) rfl rfl) rfl ⟨⟨.slice none 0 0, ?_, ?_⟩, ?_⟩
              · rw [HN0.out]
                show StrS _ _ _ pth
                rw [HCP.out]
                exact strS_nil _ _
              · rw [HN0.out]; rfl
              · exact below_six HL9.out
end Go.Proofs.YtdfihhebgllpcaaGreatDoor

/- The walks of the reference's Texts and Same. -/
namespace Go.Proofs.YtdfihhebgllpcaaGreatDoor
open Go.RowKit Go.Proofs.QuotePlain Go.Proofs.UtfPlain Go.Proofs.LexPlain Go.Proofs.AddrPlain

theorem str_eq_bool (X Y : ByteArray) (h : ¬ X = Y) : (X.toList == Y.toList) = false := by
  rw [beq_eq_false_iff_ne]
  intro e
  rw [Lib.toList_data, Lib.toList_data] at e
  exact h (by rw [← mk_eta X, e, mk_eta])
theorem take_snoc' {α : Type} (xs : List α) (j : Nat) (X : α) (h : xs[j]? = some X) : xs.take (j + 1) = xs.take j ++ [X] := by
  rw [List.take_add_one, h]; rfl

set_option maxRecDepth 100000 in
set_option maxHeartbeats 4000000 in
theorem texts_any (v u : Value) (xs ys : List ByteArray) (B : Nat) (w : World) (hx : StrS w B v xs) (hy : StrS w B u ys) (hxl : xs.length ≤ 1000000000) (hyl : ys.length ≤ 1000000000) :
    Calls Tryz.prog 50 #[v, u] w fun e w' => e = .returned (.bool (decide (xs = ys))) ∧ Below w.heap.size w w' := by
  obtain ⟨ao, ac, hv, hcx⟩ := hx
  obtain ⟨bo, bc, hu, hcy⟩ := hy
  obtain ⟨n, hn⟩ : ∃ n, xs.length = n := ⟨_, rfl⟩
  obtain ⟨m, hm⟩ : ∃ m, ys.length = m := ⟨_, rfl⟩
  rw [hn] at hv hxl
  rw [hm] at hu hyl
  subst hv
  subst hu
  by_cases hnm : n = m
  case neg =>
    have hne : ((n : Int) != (m : Int)) = true := by rw [bne_iff_ne]; omega
    have HF : Hid (decide (xs = ys) = false) := by
      unfold Hid
      rw [decide_eq_false_iff_not]
      intro h; rw [h] at hn; omega
    clear hcx hcy hnm
    go_enter Tryz.func50, Tryz.ntmps50
    go_wp2_with fail
    go_ret
    exact ⟨by rw [HF.out]; rfl, Below.refl _ _⟩
  subst hnm
  have HN := Lib.hid hn
  have HM := Lib.hid hm
  have HX : Hid (∀ j X, xs[j]? = some X → ∃ ad, ao = some ad ∧ w.cell? (ad.add j) = some (.string X)) := fun j X h => by
    obtain ⟨ad, h1, _, h3⟩ := hcx j X h; exact ⟨ad, h1, h3⟩
  have HY : Hid (∀ j X, ys[j]? = some X → ∃ ad, bo = some ad ∧ w.cell? (ad.add j) = some (.string X)) := fun j X h => by
    obtain ⟨ad, h1, _, h3⟩ := hcy j X h; exact ⟨ad, h1, h3⟩
  clear hcx hcy hn hm
  go_enter Tryz.func50, Tryz.ntmps50
  go_wp2_with fail
  go_loopw [5] (fun i wr => ∃ j : Nat, i = .int .i64 j ∧ j ≤ n ∧ Hid (xs.take j = ys.take j) ∧ Hid (∃ k, wr = w.drewN k)) (fun i _ => n - (intOf i).toNat)
  case atStart => exact ⟨0, rfl, Nat.zero_le _, Lib.hid (by simp), Lib.hid ⟨0, rfl⟩⟩
  case round =>
    obtain ⟨j, rfl, hj, HE, HW⟩ := hrel
    by_cases hlt : j < n
    · have hlt' : (j : Int) < (n : Int) := by omega
      obtain ⟨X, hX⟩ : ∃ X, xs[j]? = some X := ⟨_, List.getElem?_eq_getElem (by rw [HN.out]; exact hlt)⟩
      obtain ⟨Y, hY⟩ : ∃ Y, ys[j]? = some Y := ⟨_, List.getElem?_eq_getElem (by rw [HM.out]; exact hlt)⟩
      obtain ⟨ad, hao, hcX⟩ := HX.out j X hX
      obtain ⟨bd, hbo, hcY⟩ := HY.out j Y hY
      have c0 : wr.cell? (ad.add j) = some (.string X) := by obtain ⟨k, hk⟩ := HW.out; rw [hk]; exact hcX
      have c1 : wr.cell? (bd.add j) = some (.string Y) := by obtain ⟨k, hk⟩ := HW.out; rw [hk]; exact hcY
      subst hao
      subst hbo
      have HXX := Lib.hid hX
      have HYY := Lib.hid hY
      clear hcX hcY hX hY
      by_cases hXY : X = Y
      · subst hXY
        have HE2 : Hid (xs.take (j + 1) = ys.take (j + 1)) := by
          unfold Hid; rw [take_snoc' xs j X HXX.out, take_snoc' ys j X HYY.out, HE.out]
        go_upto_region 6 with fail
        go_quiet (fail)
        all_goals
          go_wp2_with fail
          go_roundw
          case rel => exact ⟨j + 1, by go_num, by omega, HE2, Lib.hid (by obtain ⟨k, hk⟩ := HW.out; exact ⟨k + nq, by rw [hk, drewN_drewN]⟩)⟩
          case measure => simp [intOf]; omega
      · have hne := str_eq_bool X Y hXY
        have hne2 : ¬ X.toList = Y.toList := by rw [beq_eq_false_iff_ne] at hne; exact hne
        have HF : Hid (decide (xs = ys) = false) := by
          unfold Hid
          rw [decide_eq_false_iff_not]
          intro h
          have h1 := HXX.out
          rw [h, HYY.out] at h1
          exact hXY (Option.some.inj h1).symm
        clear hXY
        go_upto_region 6 with fail
        go_quiet (fail)
        all_goals
          go_wp2_with fail
          go_ret
          refine ⟨by rw [HF.out]; rfl, ?_⟩
          obtain ⟨k, hk⟩ := HW.out
          rw [hk]
          exact below_drewN (below_drewN (Below.refl _ _) k) nq
    · have hlt' : ¬ (j : Int) < (n : Int) := by omega
      have HF : Hid (decide (xs = ys) = true) := by
        unfold Hid
        have := HE.out
        rw [List.take_of_length_le (by rw [HN.out]; omega), List.take_of_length_le (by rw [HM.out]; omega)] at this
        exact decide_eq_true this
      go_wp2_with fail
      go_ret
      refine ⟨by rw [HF.out]; rfl, ?_⟩
      obtain ⟨k, hk⟩ := HW.out
      rw [hk]
      exact below_drewN (Below.refl _ _) k

theorem two_boxes_a (w : World) (ca cb : Array Value) :
    Blk ((w.alloc (.cells ca 29)).alloc (.cells cb 29)) w.heap.size 29 ca ∧ Blk ((w.alloc (.cells ca 29)).alloc (.cells cb 29)) (w.heap.size + 1) 29 cb ∧ Below w.heap.size w ((w.alloc (.cells ca 29)).alloc (.cells cb 29)) := by
  refine ⟨(Blk.new w 29 ca).alloc _, ?_, ((Below.refl _ _).alloc (Nat.le_refl _) _).alloc (by simp) _⟩
  have := Blk.new (w.alloc (.cells ca 29)) 29 cb
  have e : (w.alloc (.cells ca 29)).heap.size = w.heap.size + 1 := by simp
  rw [e] at this
  exact this

set_option maxRecDepth 100000 in
set_option maxHeartbeats 8000000 in
/-- The reference's Same. -/
theorem rasame_any (pv qv : Value) (a b : Ad) (w : World) (hp : StrS w w.heap.size pv a.path) (hq : StrS w w.heap.size qv b.path) (hal : a.path.length ≤ 1000000000) (hbl : b.path.length ≤ 1000000000) :
    Calls Tryz.prog 17 #[.agg (adV pv a), .agg (adV qv b)] w fun e w' => e = .returned (.bool (decide (a = b))) ∧ Below w.heap.size w w' := by
  obtain ⟨hA, hB, hl⟩ := two_boxes_a w (adV pv a) (adV qv b)
  have C := Lib.hid (texts_any pv qv a.path b.path _ _ (hp.far hl) (hq.far hl) hal hbl)
  obtain ⟨ao, ac, hpv⟩ := hp.len
  obtain ⟨bo, bc, hqv⟩ := hq.len
  obtain ⟨R, hR⟩ : ∃ R, decide (a = b) = R := ⟨_, rfl⟩
  rw [hR]
  obtain ⟨T, hT⟩ : ∃ T, decide (a.path = b.path) = T := ⟨_, rfl⟩
  rw [hT] at C
  obtain ⟨n, hn⟩ : ∃ n, a.path.length = n := ⟨_, rfl⟩
  obtain ⟨m, hm⟩ : ∃ m, b.path.length = m := ⟨_, rfl⟩
  rw [hn] at hpv
  rw [hm] at hqv
  subst hpv
  subst hqv
  obtain ⟨pth, ty, nm, key, place, word⟩ := a
  obtain ⟨qth, uy, um, ley, qlace, uord⟩ := b
  dsimp only at hT
  have HR : Hid (R = (T && (decide (ty = uy) && (decide (nm = um) && (decide (key = ley) && (decide (place = qlace) && decide (word = uord))))))) := by
    unfold Hid
    rw [← hR, ← hT, Bool.eq_iff_iff]
    simp
  unfold adV at hA hB hl C ⊢
  dsimp only at hA hB hl C ⊢
  obtain ⟨W, hW⟩ : ∃ W, (w.alloc (.cells #[.slice ao n ac, .string ty, .string nm, .int .i64 key, .int .u64 ((place : Nat) : Int), .string word] 29)).alloc (.cells #[.slice bo m bc, .string uy, .string um, .int .i64 ley, .int .u64 ((qlace : Nat) : Int), .string uord] 29) = W := ⟨_, rfl⟩
  obtain ⟨B, hBB⟩ : ∃ B, w.heap.size = B := ⟨_, rfl⟩
  have hB1 : (w.alloc (.cells #[.slice ao n ac, .string ty, .string nm, .int .i64 key, .int .u64 ((place : Nat) : Int), .string word] 29)).heap.size = B + 1 := by rw [← hBB]; simp
  have hBW : B + 2 ≤ W.heap.size := by rw [← hW, ← hBB]; simp
  rw [hW] at hA hB hl C
  rw [hBB] at hA hB hl ⊢
  have HA := Lib.hid hA
  have HB := Lib.hid hB
  have HL := Lib.hid hl
  clear hA hB hl hp hq hal hbl hR hT hn hm hB1
  go_enter Tryz.func17, Tryz.ntmps17
  go_upto_region 1 with fail
  clear hW hBB
  have a0 : W.cell? ⟨B, 0, none⟩ = some (.slice ao n ac) := HA.out.cell 0
  have b0 : W.cell? ⟨B + 1, 0, none⟩ = some (.slice bo m bc) := HB.out.cell 0
  go_wp2_with fail
  refine C.out.mono ?_
  rintro e w2 ⟨rfl, hb⟩
  have HL2 := Lib.hid (HL.out.trans (hb.mono (by omega)))
  have HA2 := HA.out.below hb HA.out.lt
  have HB2 := HB.out.below hb HB.out.lt
  have a1 : w2.cell? ⟨B, 1, none⟩ = some (.string ty) := HA2.cell 1
  have a2 : w2.cell? ⟨B, 2, none⟩ = some (.string nm) := HA2.cell 2
  have a3 : w2.cell? ⟨B, 3, none⟩ = some (.int .i64 key) := HA2.cell 3
  have a4 : w2.cell? ⟨B, 4, none⟩ = some (.int .u64 ((place : Nat) : Int)) := HA2.cell 4
  have a5 : w2.cell? ⟨B, 5, none⟩ = some (.string word) := HA2.cell 5
  have b1 : w2.cell? ⟨B + 1, 1, none⟩ = some (.string uy) := HB2.cell 1
  have b2 : w2.cell? ⟨B + 1, 2, none⟩ = some (.string um) := HB2.cell 2
  have b3 : w2.cell? ⟨B + 1, 3, none⟩ = some (.int .i64 ley) := HB2.cell 3
  have b4 : w2.cell? ⟨B + 1, 4, none⟩ = some (.int .u64 ((qlace : Nat) : Int)) := HB2.cell 4
  have b5 : w2.cell? ⟨B + 1, 5, none⟩ = some (.string uord) := HB2.cell 5
  clear hb HA2 HB2 HA HB HL C a0 b0
  cases T with
  | false =>
    have HF : Hid (false = R) := by unfold Hid; rw [HR.out]; rfl
    clear HR
    go_wp2_with fail
    go_ret
    exact ⟨congrArg (fun b => Ending.returned (.bool b)) HF.out, HL2.out⟩
  | true =>
    by_cases h1 : ty = uy
    case neg =>
      have HF : Hid (false = R) := by unfold Hid; rw [HR.out, decide_eq_false h1]; rfl
      have hb1 := str_eq_bool _ _ h1
      clear HR h1
      go_wp2_with fail
      go_ret
      exact ⟨congrArg (fun b => Ending.returned (.bool b)) HF.out, HL2.out⟩
    subst h1
    by_cases h2 : nm = um
    case neg =>
      have HF : Hid (false = R) := by unfold Hid; rw [HR.out, decide_eq_false h2]; simp
      have hb1 := str_eq_bool _ _ h2
      clear HR h2
      go_wp2_with fail
      go_ret
      exact ⟨congrArg (fun b => Ending.returned (.bool b)) HF.out, HL2.out⟩
    subst h2
    by_cases h3 : key = ley
    case neg =>
      have HF : Hid (false = R) := by unfold Hid; rw [HR.out, decide_eq_false h3]; simp
      have hb1 : (key == ley) = false := by rw [beq_eq_false_iff_ne]; exact h3
      clear HR h3
      go_wp2_with fail
      go_ret
      exact ⟨congrArg (fun b => Ending.returned (.bool b)) HF.out, HL2.out⟩
    subst h3
    by_cases h4 : place = qlace
    case neg =>
      have HF : Hid (false = R) := by unfold Hid; rw [HR.out, decide_eq_false h4]; simp
      have hb1 : (((place : Nat) : Int) == ((qlace : Nat) : Int)) = false := by rw [beq_eq_false_iff_ne]; omega
      clear HR
      go_wp2_with fail
      go_ret
      exact ⟨congrArg (fun b => Ending.returned (.bool b)) HF.out, HL2.out⟩
    subst h4
    by_cases h5 : word = uord
    case neg =>
      have HF : Hid (false = R) := by unfold Hid; rw [HR.out, decide_eq_false h5]; simp
      have hb1 := str_eq_bool _ _ h5
      clear HR h5
      go_wp2_with fail
      go_ret
      exact ⟨congrArg (fun b => Ending.returned (.bool b)) HF.out, HL2.out⟩
    subst h5
    have HF : Hid (true = R) := by unfold Hid; rw [HR.out]; simp
    clear HR
    go_wp2_with fail
    go_ret
    exact ⟨congrArg (fun b => Ending.returned (.bool b)) HF.out, HL2.out⟩
end Go.Proofs.YtdfihhebgllpcaaGreatDoor

/- The walk of the statements' example (addresses). -/
namespace Go.Proofs.YtdfihhebgllpcaaGreatDoor
open Go.RowKit Go.Proofs.QuotePlain Go.Proofs.UtfPlain Go.Proofs.LexPlain Go.Proofs.AddrPlain

def exA : Ad := ⟨[⟨#[97]⟩], ⟨#[120]⟩, ⟨#[121]⟩, 2, 0, ⟨#[107]⟩⟩
def exB : Ad := ⟨[], ⟨#[120]⟩, ⟨#[121]⟩, 1, 3, ⟨#[]⟩⟩
theorem exA_parse : parseA [109, 111, 100, 117, 108, 101, 46, 97, 46, 120, 46, 121, 91, 34, 107, 34, 93] = some exA := by
  have h : printA exA = [109, 111, 100, 117, 108, 101, 46, 97, 46, 120, 46, 121, 91, 34, 107, 34, 93] := by decide +kernel
  rw [← h]
  exact print_back exA (by decide +kernel) (by decide)
theorem exB_old : oldA [120, 46, 121, 46, 51] = some exB := by
  have h1 : splitC 46 [120, 46, 121, 46, 51] = [[120], [121], [51]] := by decide +kernel
  have h2 : number [51] = some 3 := by rw [number_ref]; decide +kernel
  unfold oldA
  rw [h1]
  show (match number [51] with | some p => (if rightA ⟨[], mk [120], mk [121], 1, p, mk []⟩ then some (⟨[], mk [120], mk [121], 1, p, mk []⟩ : Ad) else none) | none => none) = _
  rw [h2]
  show (if rightA ⟨[], mk [120], mk [121], 1, 3, mk []⟩ then some (⟨[], mk [120], mk [121], 1, 3, mk []⟩ : Ad) else none) = _
  rw [if_pos (by decide +kernel)]
  rfl
theorem strS_one (w : World) (x : ByteArray) : StrS (w.alloc (.cells #[.string x] 9)) (w.alloc (.cells #[.string x] 9)).heap.size (.slice (some ⟨w.heap.size, 0, none⟩) 1 1) [x] := by
  refine ⟨_, 1, rfl, fun j X hj => ?_⟩
  have hB := Blk.new w 9 #[.string x]
  refine ⟨_, rfl, by simp, ?_⟩
  have hadd : (⟨w.heap.size, 0, none⟩ : Addr).add j = ⟨w.heap.size, j, none⟩ := by unfold Addr.add; split <;> simp_all
  rw [hadd, hB.cell j]
  match j, hj with
  | 0, hj => injection hj with hj; rw [← hj]; rfl

set_option maxRecDepth 100000 in
set_option maxHeartbeats 4000000 in
theorem awakes_any (w : World) (hG : AdG w) :
    Calls Tryz.prog 36 #[] w fun e w' => e = .returned (.bool true) ∧ Below w.heap.size w w' := by
  have C1 : Hid (Calls Tryz.prog 39 #[.string ⟨#[109, 111, 100, 117, 108, 101, 46, 97, 46, 120, 46, 121, 91, 34, 107, 34, 93]⟩] w fun e w' => (∃ pv, StrS w' w'.heap.size pv exA.path ∧ e = .returned (.tuple #[.agg (adV pv exA), .int .i64 0])) ∧ Below w.heap.size w w') := by
    have := aparse_any ⟨#[109, 111, 100, 117, 108, 101, 46, 97, 46, 120, 46, 121, 91, 34, 107, 34, 93]⟩ w (by decide) hG
    unfold ParseEnd at this
    rw [exA_parse] at this
    exact this
  have C2 : Hid (∀ W, AdG W → Calls Tryz.prog 37 #[.string ⟨#[120, 46, 121, 46, 51]⟩] W fun e w' => (∃ pv, StrS w' w'.heap.size pv exB.path ∧ e = .returned (.tuple #[.agg (adV pv exB), .int .i64 0])) ∧ Below W.heap.size W w') := fun W h => by
    have := aold_any ⟨#[120, 46, 121, 46, 51]⟩ W (by decide) h
    unfold ParseEnd at this
    rw [exB_old] at this
    exact this
  have HG := Lib.hid hG
  clear hG
  go_enter Tryz.func36, Tryz.ntmps36
  go_wp2_with fail
  refine C1.out.mono ?_
  intro e w2 hh
  obtain ⟨⟨pv, hs, rfl⟩, hb⟩ := hh
  have hl := (Below.refl w2.heap.size w2).alloc (Nat.le_refl _) (.cells (adV pv exA) 29)
  have HA := Lib.hid (Blk.new w2 29 (adV pv exA))
  have HS := Lib.hid (hs.far hl)
  have HL := Lib.hid (hb.trans (hl.mono hb.size))
  obtain ⟨ao, cp, hpv⟩ := hs.len
  subst hpv
  have ee : adV (.slice ao exA.path.length cp) exA = #[.slice ao 1 cp, .string ⟨#[120]⟩, .string ⟨#[121]⟩, .int .i64 2, .int .u64 0, .string ⟨#[107]⟩] := rfl
  have es : (Value.slice ao exA.path.length cp) = .slice ao 1 cp := rfl
  rw [ee] at HA HS HL ⊢
  rw [es] at HS
  clear ee es
  go_upto_region 2 with fail
  obtain ⟨W3, hW3⟩ : ∃ W3, w2.alloc (.cells #[.slice ao 1 cp, .string ⟨#[120]⟩, .string ⟨#[121]⟩, .int .i64 2, .int .u64 0, .string ⟨#[107]⟩] 29) = W3 := ⟨_, rfl⟩
  obtain ⟨A, hA⟩ : ∃ A, w2.heap.size = A := ⟨_, rfl⟩
  rw [hW3] at HA HS HL ⊢
  rw [hA] at HA ⊢
  clear hs hb hl C1 hW3 hA
  go_wp2_with fail
  refine (C2.out _ (HG.out.below HL.out)).mono ?_
  intro e w4 hh
  obtain ⟨⟨qv, hs, rfl⟩, hb⟩ := hh
  have hl := (Below.refl w4.heap.size w4).alloc (Nat.le_refl _) (.cells (adV qv exB) 29)
  have hAlt := HA.out.lt
  have HA5 := Lib.hid (HA.out.below (hb.trans (hl.mono hb.size)) hAlt)
  have HB5 := Lib.hid (Blk.new w4 29 (adV qv exB))
  have HS5 := Lib.hid (HS.out.far (hb.trans (hl.mono hb.size)))
  have HT5 := Lib.hid (hs.far hl)
  have HL5 := Lib.hid (HL.out.trans ((hb.trans (hl.mono hb.size)).mono HL.out.size))
  obtain ⟨bo, dp, hpv⟩ := hs.len
  subst hpv
  have ee : adV (.slice bo exB.path.length dp) exB = #[.slice bo 0 dp, .string ⟨#[120]⟩, .string ⟨#[121]⟩, .int .i64 1, .int .u64 3, .string ⟨#[]⟩] := rfl
  have es : (Value.slice bo exB.path.length dp) = .slice bo 0 dp := rfl
  rw [ee] at HA5 HB5 HS5 HT5 HL5 ⊢
  rw [es] at HT5
  clear ee es
  go_upto_region 3 with fail
  obtain ⟨W5, hW5⟩ : ∃ W5, w4.alloc (.cells #[.slice bo 0 dp, .string ⟨#[120]⟩, .string ⟨#[121]⟩, .int .i64 1, .int .u64 3, .string ⟨#[]⟩] 29) = W5 := ⟨_, rfl⟩
  obtain ⟨B, hB⟩ : ∃ B, w4.heap.size = B := ⟨_, rfl⟩
  rw [hW5] at HA5 HB5 HS5 HT5 HL5 ⊢
  rw [hB] at HB5 ⊢
  clear hs hb hl HA HS HL hAlt hW5 hB
  have a0 : W5.cell? ⟨A, 0, none⟩ = some (.slice ao 1 cp) := HA5.out.cell 0
  have a1 : W5.cell? ⟨A, 1, none⟩ = some (.string ⟨#[120]⟩) := HA5.out.cell 1
  have a2 : W5.cell? ⟨A, 2, none⟩ = some (.string ⟨#[121]⟩) := HA5.out.cell 2
  have a3 : W5.cell? ⟨A, 3, none⟩ = some (.int .i64 2) := HA5.out.cell 3
  have a4 : W5.cell? ⟨A, 4, none⟩ = some (.int .u64 0) := HA5.out.cell 4
  have a5 : W5.cell? ⟨A, 5, none⟩ = some (.string ⟨#[107]⟩) := HA5.out.cell 5
  have hl6 := (Below.refl W5.heap.size W5).alloc (Nat.le_refl _) (.cells #[.string ⟨#[97]⟩] 9)
  have CS1 : Hid (Calls Tryz.prog 17 #[.agg #[.slice ao 1 cp, .string ⟨#[120]⟩, .string ⟨#[121]⟩, .int .i64 2, .int .u64 0, .string ⟨#[107]⟩], .agg #[.slice (some ⟨W5.heap.size, 0, none⟩) 1 1, .string ⟨#[120]⟩, .string ⟨#[121]⟩, .int .i64 2, .int .u64 0, .string ⟨#[107]⟩]] (W5.alloc (.cells #[.string ⟨#[97]⟩] 9)) fun e w' => e = .returned (.bool true) ∧ Below (W5.alloc (.cells #[.string ⟨#[97]⟩] 9)).heap.size (W5.alloc (.cells #[.string ⟨#[97]⟩] 9)) w') :=
    rasame_any (.slice ao 1 cp) (.slice (some ⟨W5.heap.size, 0, none⟩) 1 1) exA exA _ (HS5.out.far hl6) (strS_one W5 ⟨#[97]⟩) (by decide) (by decide)
  go_wp2_with fail
  refine CS1.out.mono ?_
  rintro e w6 ⟨rfl, hb⟩
  have hb2 := hl6.trans (hb.mono hl6.size)
  have HB6 := Lib.hid (HB5.out.below hb2 HB5.out.lt)
  have HT6 := Lib.hid (HT5.out.far hb2)
  have HL6 := Lib.hid (HL5.out.trans (hb2.mono HL5.out.size))
  clear hb hb2 hl6 CS1 a0 a1 a2 a3 a4 a5 HA5 HB5 HS5 HT5 HL5
  have b0 : w6.cell? ⟨B, 0, none⟩ = some (.slice bo 0 dp) := HB6.out.cell 0
  have b1 : w6.cell? ⟨B, 1, none⟩ = some (.string ⟨#[120]⟩) := HB6.out.cell 1
  have b2 : w6.cell? ⟨B, 2, none⟩ = some (.string ⟨#[121]⟩) := HB6.out.cell 2
  have b3 : w6.cell? ⟨B, 3, none⟩ = some (.int .i64 1) := HB6.out.cell 3
  have b4 : w6.cell? ⟨B, 4, none⟩ = some (.int .u64 3) := HB6.out.cell 4
  have b5 : w6.cell? ⟨B, 5, none⟩ = some (.string ⟨#[]⟩) := HB6.out.cell 5
  have CS2 : Hid (Calls Tryz.prog 17 #[.agg #[.slice bo 0 dp, .string ⟨#[120]⟩, .string ⟨#[121]⟩, .int .i64 1, .int .u64 3, .string ⟨#[]⟩], .agg #[.slice none 0 0, .string ⟨#[120]⟩, .string ⟨#[121]⟩, .int .i64 1, .int .u64 3, .string ⟨#[]⟩]] w6 fun e w' => e = .returned (.bool true) ∧ Below w6.heap.size w6 w') :=
    rasame_any (.slice bo 0 dp) (.slice none 0 0) exB exB _ HT6.out (strS_nil _ _) (by decide) (by decide)
  go_wp2_with fail
  refine CS2.out.mono ?_
  rintro e w7 ⟨rfl, hb⟩
  have HL7 := Lib.hid (HL6.out.trans (hb.mono HL6.out.size))
  clear hb
  go_wp2_with fail
  go_ret
  exact ⟨rfl, HL7.out⟩
end Go.Proofs.YtdfihhebgllpcaaGreatDoor
