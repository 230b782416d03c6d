import Derived.Test.YtdfihhebgllpcaaGreatDoorAo28

/- The walk of the reference's Parse of addresses. -/
namespace Go.Proofs.YtdfihhebgllpcaaGreatDoor
open Go.RowKit Go.Proofs.QuotePlain Go.Proofs.UtfPlain Go.Proofs.LexPlain Go.Proofs.AddrPlain

theorem rparse_res (B : Nat) (cs : Array Value) (x : Bool) (W : World) (tmps : Array Value) (h6 : cs.size = 6) (hB : Blk W B 29 cs) (h : tmps[2]? = some (.pointer (some ⟨B, 0, none⟩))) (h3 : tmps[3]? = some (.bool x)) :
    (results Tryz.f40 tmps).run Tryz.prog W = .ok (.tuple #[.agg cs, .bool x]) W := by
  obtain ⟨l⟩ := cs
  match l, h6 with
  | [v0, v1, v2, v3, v4, v5], _ =>
    have c0 : W.cell? ⟨B, 0, none⟩ = some v0 := hB.cell 0
    have c1 : W.cell? ⟨B, 1, none⟩ = some v1 := hB.cell 1
    have c2 : W.cell? ⟨B, 2, none⟩ = some v2 := hB.cell 2
    have c3 : W.cell? ⟨B, 3, none⟩ = some v3 := hB.cell 3
    have c4 : W.cell? ⟨B, 4, none⟩ = some v4 := hB.cell 4
    have c5 : W.cell? ⟨B, 5, none⟩ = some v5 := hB.cell 5
    simp [results, Tryz.results40, go_sem, h, h3, c0, c1, c2, c3, c4, c5]
/-- What the reference's Parse and Old tell. -/
def RParseEnd (r : Option Ad) (w' : World) (e : Ending) : Prop :=
  ∃ pv, StrS w' w'.heap.size pv (r.getD Ad.zero).path ∧ e = .returned (.tuple #[.agg (adV pv (r.getD Ad.zero)), .bool r.isSome])
theorem aheadC_at (c : UInt8) (l : List UInt8) (e : Nat) (h1 : ∀ i, i < e → ∀ x, l[i]? = some x → x ≠ c) (h2 : e = l.length ∨ l[e]? = some c) (h3 : e ≤ l.length) :
    aheadC c l = l.take e ∧ behindC c l = if e < l.length then some (l.drop (e + 1)) else none := by
  have hn : c ∉ l.take e := by
    intro hm
    obtain ⟨j, hj⟩ := List.getElem?_of_mem hm
    rw [List.getElem?_take] at hj
    split at hj
    · rename_i hlt; exact h1 j hlt c hj rfl
    · cases hj
  rcases Nat.lt_or_ge e l.length with h | h
  · have he : l[e]? = some c := by
      rcases h2 with h2 | h2
      · omega
      · exact h2
    have hl : l = l.take e ++ c :: l.drop (e + 1) := by
      conv => lhs; rw [← List.take_append_drop e l]
      rw [List.drop_eq_getElem_cons h]
      rw [List.getElem?_eq_getElem h] at he
      injection he with he
      rw [he]
    obtain ⟨e1, e2⟩ := cutC_app c (l.take e) (l.drop (e + 1)) hn
    rw [← hl] at e1 e2
    rw [if_pos h]
    exact ⟨e1, e2⟩
  · have : l.take e = l := List.take_of_length_le h
    rw [this] at hn ⊢
    rw [if_neg (by omega)]
    exact cutC_no c l hn

theorem last_drop (l : List UInt8) (j : Nat) (x : UInt8) (hj : j < l.length) (hg : l[j]? = some 91) (hx : l[l.length - 1]? = some x) : (l.drop (j + 1)).getLast? = some 93 ↔ x = 93 := by
  rw [List.getLast?_drop]
  split
  · rename_i h
    have : j = l.length - 1 := by omega
    rw [← this, hg] at hx
    injection hx with hx
    rw [← hx]
    constructor
    · intro h; cases h
    · intro h; revert h; decide
  · rw [List.getLast?_eq_getElem?, hx]
    simp

theorem grown_low {w w6 W1 : World} {B1 n : Nat} {v : Value} {xs : List Value} (hg : w.grownBy w6 v.ownBlock) (ho : W1.ownsRow B1 9 1 v n xs) (b : Nat) (hb : b < B1) (hw : b < w.heap.size) : w6.heap[b]? = w.heap[b]? :=
  hg.block b hw (fun e => by have := (ho.lt b e.symm).1; omega)
theorem own_six2 {W : World} {B R n : Nat} {v : Value} {xs : List Value} {v0 v1 v2 v3 v4 v5 : Value} (h : W.ownsRow B 9 1 v n xs) (hR : R < B) :
    ((((((W.setCell ⟨R, 0, none⟩ v0).setCell ⟨R, 1, none⟩ v1).setCell ⟨R, 2, none⟩ v2).setCell ⟨R, 3, none⟩ v3).setCell ⟨R, 4, none⟩ v4).setCell ⟨R, 5, none⟩ v5).ownsRow B 9 1 v n xs :=
  ownsRow_setCell_below (ownsRow_setCell_below (ownsRow_setCell_below (ownsRow_setCell_below (ownsRow_setCell_below (ownsRow_setCell_below h (a := ⟨R, 0, none⟩) hR _) (a := ⟨R, 1, none⟩) hR _) (a := ⟨R, 2, none⟩) hR _) (a := ⟨R, 3, none⟩) hR _) (a := ⟨R, 4, none⟩) hR _) (a := ⟨R, 5, none⟩) hR _
theorem tail_none (k : Int × Nat × List UInt8) (p l : List (List UInt8)) (h : l.length ≠ 2) : tailM k p l = none := by
  unfold tailM
  match l, h with
  | [], _ => rfl
  | [_], _ => rfl
  | [_, _], h => exact absurd rfl h
  | _ :: _ :: _ :: _, _ => rfl

set_option maxRecDepth 100000 in
set_option maxHeartbeats 8000000 in
theorem raparse_any (s : ByteArray) (w : World) (hs : s.size ≤ 100000) :
    Calls Tryz.prog 40 #[.string s] w fun e w' => RParseEnd (parseA s.data.toList) w' e ∧ Below w.heap.size w w' := by
  have hl := ((Below.refl w.heap.size w).alloc (Nat.le_refl _) (.cells adZ 29)).alloc (by simp) (.cells adZ 29)
  have hR := (Blk.new w 29 adZ).alloc (.cells adZ 29)
  have hA := Blk.new (w.alloc (.cells adZ 29)) 29 adZ
  have HPA : Hid (parseA s.data.toList = match keyPart (behindC 91 s.data.toList) with | none => none | some k => made k (splitC 46 (aheadC 91 s.data.toList))) := rfl
  obtain ⟨PR, hPR⟩ : ∃ PR, parseA s.data.toList = PR := ⟨_, rfl⟩
  rw [hPR] at HPA ⊢
  obtain ⟨n, hn⟩ : ∃ n, s.size = n := ⟨_, rfl⟩
  have HN := Lib.hid hn
  have hsz := Lib.size_eq s
  rw [hn] at hs hsz
  have HSZ := Lib.hid hsz
  obtain ⟨W, hW⟩ : ∃ W, (w.alloc (.cells adZ 29)).alloc (.cells adZ 29) = W := ⟨_, rfl⟩
  obtain ⟨R, hRR⟩ : ∃ R, w.heap.size = R := ⟨_, rfl⟩
  have hA1 : (w.alloc (.cells adZ 29)).heap.size = R + 1 := by rw [← hRR]; simp
  have hWs : W.heap.size = R + 2 := by rw [← hW, ← hRR]; simp
  rw [hA1] at hA
  rw [hW] at hl hR hA
  rw [hRR] at hl hR ⊢
  have HL := Lib.hid hl
  have HR := Lib.hid hR
  have HA := Lib.hid hA
  have HWS := Lib.hid hWs
  clear hl hR hA hPR hA1 hWs hn hsz
  unfold adZ at hW
  go_enter Tryz.func40, Tryz.ntmps40
  go_upto_region 2 with fail
  clear hW hRR
  have hnn : s.size = n := HN.out
  go_upto_block 0 with fail
  go_cut [5] (fun v wx => ∃ j : Nat, v = .int .i64 j ∧ j ≤ n ∧ Hid (aheadC 91 s.data.toList = s.data.toList.take j ∧ behindC 91 s.data.toList = if j < s.data.toList.length then some (s.data.toList.drop (j + 1)) else none) ∧ Hid (j < n → s.data.toList[j]? = some 91) ∧ wx = W)
  case first =>
    go_wp2_with fail
    go_loop [5] (fun i => ∃ j : Nat, i = .int .i64 j ∧ j ≤ n ∧ Hid (∀ i, i < j → ∀ x, s.data.toList[i]? = some x → x ≠ 91)) (fun i => n - (intOf i).toNat)
    case atStart => exact ⟨0, rfl, Nat.zero_le _, Lib.hid (fun i h => by omega)⟩
    case round =>
      obtain ⟨j, rfl, hj, HJ⟩ := hrel
      by_cases hlt : j < n
      · have hlt' : (j : Int) < (n : Int) := by omega
        have hltS : j < s.size := by omega
        obtain ⟨C, hC⟩ : ∃ C : Int, ((s[j].toNat : Nat) : Int) = C := ⟨_, rfl⟩
        have hg : s.data.toList[j]? = some s[j] := by
          rw [List.getElem?_eq_getElem (by rw [← HSZ.out]; omega)]; rfl
        by_cases hc : s[j] = 91
        · have e2 : (C != 91) = false := by
            rw [← hC, hc]; rfl
          have HE := Lib.hid (aheadC_at 91 s.data.toList j HJ.out (.inr (by rw [hg, hc])) (by rw [← HSZ.out]; exact hj))
          have HG : Hid (j < n → s.data.toList[j]? = some 91) := fun _ => by rw [hg, hc]
          clear hc hg
          go_wp2_with fail
          go_meet
          exact ⟨j, rfl, hj, HE, HG, rfl⟩
        · have e2 : (C != 91) = true := by
            rw [bne_iff_ne]
            intro h
            exact hc (UInt8.toNat_inj.1 (by rw [show (91 : UInt8).toNat = 91 from rfl]; omega))
          have HJ2 : Hid (∀ i, i < j + 1 → ∀ x, s.data.toList[i]? = some x → x ≠ 91) := fun i h x hx => by
            by_cases hij : i = j
            · subst hij
              rw [hg] at hx; injection hx with hx; rw [← hx]; exact hc
            · exact HJ.out i (by omega) x hx
          clear hc hg
          go_wp2_with fail
          go_round
          case rel => exact ⟨j + 1, by go_num, by omega, HJ2⟩
          case measure => simp [intOf]; omega
      · have hlt' : ¬ (j : Int) < (n : Int) := by omega
        have HE := Lib.hid (aheadC_at 91 s.data.toList j HJ.out (.inl (by rw [← HSZ.out]; omega)) (by rw [← HSZ.out]; exact hj))
        have HG : Hid (j < n → s.data.toList[j]? = some 91) := fun h => by omega
        go_wp2_with fail
        go_meet
        exact ⟨j, rfl, hj, HE, HG, rfl⟩
  case rest =>
    obtain ⟨j, rfl, hj, HE, HG, rfl⟩ := hcut
    have HV : Hid (R + 2 ≤ wc.heap.size) := by unfold Hid; rw [HWS.out]; exact Nat.le_refl _
    go_upto_if 27 with fail
    go_cut [5] (fun v wx => v = .int .i64 j ∧ ∃ k : Int × Nat × List UInt8, Hid (PR = made k (splitC 46 (s.data.toList.take j))) ∧ Hid (k.2.1 < 18446744073709551616 ∧ k.2.2.length ≤ 100000) ∧ Hid (Blk wx (R + 1) 29 (adV (.slice none 0 0) ⟨[], ⟨#[]⟩, ⟨#[]⟩, k.1, k.2.1, mk k.2.2⟩)) ∧ Hid (Blk wx R 29 adZ) ∧ Hid (Below R w wx) ∧ Hid (R + 2 ≤ wx.heap.size))
    case first =>
      by_cases hjn : j < n
      case neg =>
        have hlt' : ¬ (j : Int) < (n : Int) := by omega
        have HQ : Hid (PR = made (0, 0, []) (splitC 46 (s.data.toList.take j))) := by
          unfold Hid
          rw [HPA.out, HE.out.2, HE.out.1, if_neg (by rw [← HSZ.out]; exact hjn)]; rfl
        go_wp2_with fail
        go_meet
        exact ⟨rfl, (0, 0, []), HQ, Lib.hid ⟨(by omega : (0 : Nat) < 18446744073709551616), by simp⟩, HA, HR, HL, HV⟩
      have hlt' : (j : Int) < (n : Int) := by omega
      have hnS : n - 1 < s.size := by omega
      obtain ⟨C, hC⟩ : ∃ C : Int, ((s[n - 1].toNat : Nat) : Int) = C := ⟨_, rfl⟩
      have hgl : s.data.toList[s.data.toList.length - 1]? = some s[n - 1] := by
        rw [← HSZ.out, List.getElem?_eq_getElem (by rw [← HSZ.out]; omega)]; rfl
      have hld := last_drop s.data.toList j s[n - 1] (by rw [← HSZ.out]; exact hjn) (HG.out hjn) hgl
      have HKP : Hid (behindC 91 s.data.toList = some (s.data.toList.drop (j + 1))) := by
        unfold Hid; rw [HE.out.2, if_pos (by rw [← HSZ.out]; exact hjn)]
      have hw1 : ((n : Int) - 1).toNat = n - 1 := by omega
      have hw2 : (0 : Int) ≤ (n : Int) - 1 := by omega
      have hw3 : (n : Int) - 1 < (n : Int) := by omega
      have hw4 : IntKind.i64.wrap ((n : Int) - 1) = (n : Int) - 1 := IntWalk.i64_in _ (by omega)
      have r0 : wc.cell? ⟨R, 0, none⟩ = some (.slice none 0 0) := HR.out.cell 0
      have r1 : wc.cell? ⟨R, 1, none⟩ = some (.string ⟨#[]⟩) := HR.out.cell 1
      have r2 : wc.cell? ⟨R, 2, none⟩ = some (.string ⟨#[]⟩) := HR.out.cell 2
      have r3 : wc.cell? ⟨R, 3, none⟩ = some (.int .i64 0) := HR.out.cell 3
      have r4 : wc.cell? ⟨R, 4, none⟩ = some (.int .u64 0) := HR.out.cell 4
      have r5 : wc.cell? ⟨R, 5, none⟩ = some (.string ⟨#[]⟩) := HR.out.cell 5
      have fr0 := HR.out.frozen 0
      have fr1 := HR.out.frozen 1
      have fr2 := HR.out.frozen 2
      have fr3 := HR.out.frozen 3
      have fr4 := HR.out.frozen 4
      have fr5 := HR.out.frozen 5
      by_cases hc : s[n - 1] = 93
      case neg =>
        have e2 : (C != 93) = true := by
          rw [bne_iff_ne]
          intro h
          exact hc (UInt8.toNat_inj.1 (by rw [show (93 : UInt8).toNat = 93 from rfl]; omega))
        have HN0 : Hid (PR = none) := by
          unfold Hid
          rw [HPA.out, HKP.out]
          unfold keyPart
          simp only
          rw [if_neg (fun h => hc (hld.1 h))]
        clear hc hld hgl
        go_wp2_with fail
        refine bodyPost_ret (rparse_res R adZ false _ _ rfl ((((((HR.out.set_ 0 _).set_ 1 _).set_ 2 _).set_ 3 _).set_ 4 _).set_ 5 _) rfl rfl) rfl ⟨⟨.slice none 0 0, ?_, ?_⟩, ?_⟩
        · rw [HN0.out]; exact strS_nil _ _
        · rw [HN0.out]; rfl
        · exact below_six HL.out
      have e2 : (C != 93) = false := by rw [← hC, hc]; rfl
      have hjn2 : j + 1 ≤ n - 1 := by
        rcases Nat.lt_or_ge j (n - 1) with h | h
        · omega
        · exfalso
          have hj2 : j = n - 1 := by omega
          have h1 := HG.out hjn
          rw [hj2, HSZ.out, hgl, hc] at h1
          revert h1; decide
      obtain ⟨inn, hinn⟩ : ∃ inn : ByteArray, s.extract (j + 1) (n - 1) = inn := ⟨_, rfl⟩
      have hid : inn.data.toList = (s.data.toList.drop (j + 1)).dropLast := by
        rw [← hinn, data_extract, List.dropLast_eq_take, List.length_drop, ← HSZ.out]
        congr 1
        omega
      have his : inn.size ≤ 100000 := by
        rw [Lib.size_eq, hid, List.length_dropLast, List.length_drop, ← HSZ.out]; omega
      have HKQ : Hid (PR = match inBrk inn.data.toList with | none => none | some k => made k (splitC 46 (s.data.toList.take j))) := by
        unfold Hid
        rw [HPA.out, HKP.out, HE.out.1]
        unfold keyPart
        simp only
        rw [if_pos (hld.2 hc), hid]
      have CNB := Lib.hid (fun w => ranumber_any inn w his)
      obtain ⟨E, hE⟩ : ∃ E, scanQ inn.data.toList = E := ⟨_, rfl⟩
      have CSC := Lib.hid (fun w => rscan_any_q inn w (by omega) E hE)
      have HSE := Lib.hid hE
      have HIS := Lib.hid his
      have hjj : ((j : Int) + 1).toNat = j + 1 := by omega
      have hjw : IntKind.i64.wrap ((j : Int) + 1) = (j : Int) + 1 := IntWalk.i64_in _ (by omega)
      have hjl : (j : Int) + 1 ≤ (n : Int) - 1 := by omega
      have hnl : (n : Int) - 1 ≤ (n : Int) := by omega
      clear hc hld hgl hid his hE HKP
      go_wp2_with fail
      refine (CNB.out _).mono ?_
      intro e w2 hh
      obtain ⟨⟨m, rfl, hm⟩, rfl⟩ := hh
      have HNM := Lib.hid hm
      clear hm r0 r1 r2 r3 r4 r5 fr0 fr1 fr2 fr3 fr4 fr5
      go_wp2_with fail
      refine (CSC.out _).mono ?_
      rintro e w3 ⟨rfl, hb⟩
      obtain ⟨e1, qt, qn⟩ := E
      dsimp only at HSE ⊢
      have HR3 := HR.out.below hb HR.out.lt
      have HA3 := HA.out.below hb HA.out.lt
      have HL3 := HL.out.trans (hb.mono (by have := HV.out; omega))
      have hz3 := Nat.le_trans HV.out hb.size
      have HRq := HR3.alloc (.cells #[.string ⟨qt.toArray⟩, .int .i64 ((qn : Nat) : Int), .int .i64 ((e1 : Nat) : Int)] 109)
      have HAq := HA3.alloc (.cells #[.string ⟨qt.toArray⟩, .int .i64 ((qn : Nat) : Int), .int .i64 ((e1 : Nat) : Int)] 109)
      have HLq := HL3.alloc (by omega) (.cells #[.string ⟨qt.toArray⟩, .int .i64 ((qn : Nat) : Int), .int .i64 ((e1 : Nat) : Int)] 109)
      have HQq := Blk.new w3 109 #[.string ⟨qt.toArray⟩, .int .i64 ((qn : Nat) : Int), .int .i64 ((e1 : Nat) : Int)]
      obtain ⟨Q, hQ⟩ : ∃ Q, w3.heap.size = Q := ⟨_, rfl⟩
      obtain ⟨W4, hW4⟩ : ∃ W4, w3.alloc (.cells #[.string ⟨qt.toArray⟩, .int .i64 ((qn : Nat) : Int), .int .i64 ((e1 : Nat) : Int)] 109) = W4 := ⟨_, rfl⟩
      have hQR : R + 2 ≤ Q := by rw [← hQ]; exact hz3
      have hs4 : W4.heap.size = Q + 1 := by rw [← hW4, ← hQ]; simp
      rw [hW4] at HRq HAq HLq HQq
      rw [hQ] at HQq
      have HR4 := Lib.hid HRq
      have HA4 := Lib.hid HAq
      have HL4 := Lib.hid HLq
      have HQ4 := Lib.hid HQq
      have HS4 := Lib.hid hs4
      clear hb HR3 HA3 HL3 hz3 HRq HAq HLq HQq hs4 HR HA HL HV CNB CSC
      go_upto_if 49 with fail
      clear hW4 hQ
      have a3 : W4.cell? ⟨R + 1, 3, none⟩ = some (.int .i64 0) := HA4.out.cell 3
      have a4 : W4.cell? ⟨R + 1, 4, none⟩ = some (.int .u64 0) := HA4.out.cell 4
      have a5 : W4.cell? ⟨R + 1, 5, none⟩ = some (.string ⟨#[]⟩) := HA4.out.cell 5
      have fa3 := HA4.out.frozen 3
      have fa4 := HA4.out.frozen 4
      have fa5 := HA4.out.frozen 5
      have q0 : W4.cell? ⟨Q, 0, none⟩ = some (.string ⟨qt.toArray⟩) := HQ4.out.cell 0
      have q1 : W4.cell? ⟨Q, 1, none⟩ = some (.int .i64 ((qn : Nat) : Int)) := HQ4.out.cell 1
      have q2 : W4.cell? ⟨Q, 2, none⟩ = some (.int .i64 ((e1 : Nat) : Int)) := HQ4.out.cell 2
      have hQA : ¬ Q = R + 1 := by omega
      have hQA' : ¬ R + 1 = Q := by omega
      have r0 : W4.cell? ⟨R, 0, none⟩ = some (.slice none 0 0) := HR4.out.cell 0
      have r1 : W4.cell? ⟨R, 1, none⟩ = some (.string ⟨#[]⟩) := HR4.out.cell 1
      have r2 : W4.cell? ⟨R, 2, none⟩ = some (.string ⟨#[]⟩) := HR4.out.cell 2
      have r3 : W4.cell? ⟨R, 3, none⟩ = some (.int .i64 0) := HR4.out.cell 3
      have r4 : W4.cell? ⟨R, 4, none⟩ = some (.int .u64 0) := HR4.out.cell 4
      have r5 : W4.cell? ⟨R, 5, none⟩ = some (.string ⟨#[]⟩) := HR4.out.cell 5
      have fr0 := HR4.out.frozen 0
      have fr1 := HR4.out.frozen 1
      have fr2 := HR4.out.frozen 2
      have fr3 := HR4.out.frozen 3
      have fr4 := HR4.out.frozen 4
      have fr5 := HR4.out.frozen 5
      rcases hnum : number inn.data.toList with _ | v
      · have hIB : inBrk inn.data.toList = if e1 = 0 ∧ qn = inn.data.toList.length then some (2, 0, qt) else none := by
          unfold inBrk; rw [hnum, HSE.out]
        have HIB := Lib.hid hIB
        clear hIB hnum HNM
        by_cases hq : e1 = 0 ∧ qn = inn.data.toList.length
        · obtain ⟨rfl, hq2⟩ := hq
          rw [← Lib.size_eq] at hq2
          have HQ : Hid (PR = made (2, 0, qt) (splitC 46 (s.data.toList.take j))) := by
            unfold Hid; rw [HKQ.out, HIB.out, if_pos ⟨rfl, by rw [← Lib.size_eq]; exact hq2⟩]
          have HB : Hid ((0 : Nat) < 18446744073709551616 ∧ qt.length ≤ 100000) := by
            have h1 := inBrk_bd inn.data.toList (2, 0, qt) (by rw [HIB.out, if_pos ⟨rfl, by rw [← Lib.size_eq]; exact hq2⟩])
            rw [← Lib.size_eq] at h1
            exact ⟨h1.1, Nat.le_trans h1.2 HIS.out⟩
          have hb3 : (((qn : Nat) : Int) == (inn.size : Int)) = true := by rw [beq_iff_eq]; omega
          have HA5 := Lib.hid ((HA4.out.set_ 3 (.int .i64 2)).set_ 5 (.string ⟨qt.toArray⟩))
          have HR5 := Lib.hid ((HR4.out.far (p := ⟨R + 1, 3, none⟩) (by show R ≠ R + 1; omega) (.int .i64 2)).far (p := ⟨R + 1, 5, none⟩) (by show R ≠ R + 1; omega) (.string ⟨qt.toArray⟩))
          have HL5 := Lib.hid ((HL4.out.setCell (p := ⟨R + 1, 3, none⟩) (by show R ≤ R + 1; omega) (.int .i64 2)).setCell (p := ⟨R + 1, 5, none⟩) (by show R ≤ R + 1; omega) (.string ⟨qt.toArray⟩))
          have HV5 : Hid (R + 2 ≤ ((W4.setCell ⟨R + 1, 3, none⟩ (.int .i64 2)).setCell ⟨R + 1, 5, none⟩ (.string ⟨qt.toArray⟩)).heap.size) := by
            unfold Hid; simp [World.setCell]; rw [HS4.out]; omega
          clear HIB hq2
          go_wp2_with fail
          go_meet
          exact ⟨rfl, (2, 0, qt), HQ, HB, HA5, HR5, HL5, HV5⟩
        · have HN0 : Hid (PR = none) := by unfold Hid; rw [HKQ.out, HIB.out, if_neg hq]
          rw [← Lib.size_eq] at hq
          have hb3 : (((e1 : Nat) : Int) == 0) = false ∨ ((((e1 : Nat) : Int) == 0) = true ∧ (((qn : Nat) : Int) == (inn.size : Int)) = false) := by
            by_cases h1 : e1 = 0
            · right
              exact ⟨by rw [beq_iff_eq]; omega, by rw [beq_eq_false_iff_ne]; exact fun h => hq ⟨h1, by omega⟩⟩
            · left; rw [beq_eq_false_iff_ne]; omega
          clear HIB hq
          rcases hb3 with hb3 | ⟨hb3, hb4⟩
          · go_wp2_with fail
            refine bodyPost_ret (rparse_res R adZ false _ _ rfl ((((((HR4.out.set_ 0 _).set_ 1 _).set_ 2 _).set_ 3 _).set_ 4 _).set_ 5 _) rfl rfl) rfl ⟨⟨.slice none 0 0, ?_, ?_⟩, ?_⟩
            · rw [HN0.out]; exact strS_nil _ _
            · rw [HN0.out]; rfl
            · exact below_six HL4.out
          · go_wp2_with fail
            refine bodyPost_ret (rparse_res R adZ false _ _ rfl ((((((HR4.out.set_ 0 _).set_ 1 _).set_ 2 _).set_ 3 _).set_ 4 _).set_ 5 _) rfl rfl) rfl ⟨⟨.slice none 0 0, ?_, ?_⟩, ?_⟩
            · rw [HN0.out]; exact strS_nil _ _
            · rw [HN0.out]; rfl
            · exact below_six HL4.out
      · have hmv := HNM.out v hnum
        subst hmv
        have HQ : Hid (PR = made (1, v, []) (splitC 46 (s.data.toList.take j))) := by
          unfold Hid; rw [HKQ.out]
          have : inBrk inn.data.toList = some (1, v, []) := by unfold inBrk; rw [hnum]
          rw [this]
        have HB : Hid (v < 18446744073709551616 ∧ ([] : List UInt8).length ≤ 100000) := ⟨number_lt _ v hnum, by simp⟩
        have HA5 := Lib.hid ((HA4.out.set_ 3 (.int .i64 1)).set_ 4 (.int .u64 ((v : Nat) : Int)))
        have HR5 := Lib.hid ((HR4.out.far (p := ⟨R + 1, 3, none⟩) (by show R ≠ R + 1; omega) (.int .i64 1)).far (p := ⟨R + 1, 4, none⟩) (by show R ≠ R + 1; omega) (.int .u64 ((v : Nat) : Int)))
        have HL5 := Lib.hid ((HL4.out.setCell (p := ⟨R + 1, 3, none⟩) (by show R ≤ R + 1; omega) (.int .i64 1)).setCell (p := ⟨R + 1, 4, none⟩) (by show R ≤ R + 1; omega) (.int .u64 ((v : Nat) : Int)))
        have HV5 : Hid (R + 2 ≤ ((W4.setCell ⟨R + 1, 3, none⟩ (.int .i64 1)).setCell ⟨R + 1, 4, none⟩ (.int .u64 ((v : Nat) : Int))).heap.size) := by
          unfold Hid; simp [World.setCell]; rw [HS4.out]; omega
        clear hnum HNM
        go_wp2_with fail
        go_meet
        exact ⟨rfl, (1, v, []), HQ, HB, HA5, HR5, HL5, HV5⟩
    case rest =>
      obtain ⟨rfl, k, HQ, HKB, HA, HR, HL, HV⟩ := hcut
      obtain ⟨hd, hhd⟩ : ∃ hd, s.extract 0 j = hd := ⟨_, rfl⟩
      have hdd : hd.data.toList = s.data.toList.take j := by rw [← hhd, data_extract]; simp
      have hds : hd.size ≤ 100000 := by rw [Lib.size_eq, hdd, List.length_take]; omega
      have CPT := Lib.hid (fun w => raparts_any hd w hds)
      rw [← hdd] at HQ
      have HBD := Lib.hid (splitC_bd 46 hd.data.toList)
      obtain ⟨L, hL⟩ : ∃ L, splitC 46 hd.data.toList = L := ⟨_, rfl⟩
      have hne : L ≠ [] := by rw [← hL]; exact splitC_ne 46 _
      have CPT2 : Hid (∀ w, Calls Tryz.prog 81 #[.string hd] w fun e w' => (∃ v, w'.ownsRow w.heap.size 9 1 v L.length ((L.map mk).map Value.string) ∧ e = .returned v) ∧ Below w.heap.size w w') := fun w => by
        have := CPT.out w
        unfold PartsEnd at this
        rw [hL] at this
        exact this
      rw [hL] at HBD HQ
      have HDS := Lib.hid hds
      have HNE := Lib.hid hne
      have hjl : (0 : Int) ≤ (j : Int) := by omega
      have hjn : (j : Int) ≤ (n : Int) := by omega
      clear hL CPT hdd hds hne HPA HE HG HWS
      go_wp2_with fail
      refine (CPT2.out _).mono ?_
      rintro e w5 ⟨⟨v, ho, rfl⟩, hb⟩
      clear hhd
      have HR5 := Lib.hid (HR.out.below hb HR.out.lt)
      have HA5 := Lib.hid (HA.out.below hb HA.out.lt)
      have HL5 := Lib.hid (HL.out.trans (hb.mono (by have := HV.out; omega)))
      obtain ⟨ll, hll⟩ : ∃ ll, L.length = ll := ⟨_, rfl⟩
      have hll1 : 1 ≤ ll := by have := List.length_pos_iff.2 HNE.out; omega
      obtain ⟨lm, hlm⟩ : ∃ lm, ll = lm + 1 := ⟨ll - 1, by omega⟩
      have ho2 := ho
      rw [hll, hlm] at ho2
      obtain ⟨S, cp, hv⟩ := own_form ho2
      rw [← hlm] at hv
      subst hv
      have hSb := ho.lt S rfl
      have hSR : R + 2 ≤ S := Nat.le_trans HV.out hSb.1
      have hcell : ∀ i x, L[i]? = some x → w5.cell? ⟨S, i, none⟩ = some (.string (mk x)) := fun i x h => by
        have := ho.cells rfl i (.string (mk x)) (by simp [h])
        have hadd : (⟨S, 0, none⟩ : Addr).add i = ⟨S, i, none⟩ := by unfold Addr.add; split <;> simp_all
        rw [hadd] at this
        exact this
      have HCL := Lib.hid hcell
      have HLL := Lib.hid hll
      have hll2 : ll ≤ 100001 := by
        have := HBD.out.1; rw [← Lib.size_eq] at this; have := HDS.out; omega
      obtain ⟨B1, hB1⟩ : ∃ B1, w5.heap.size = B1 := ⟨_, rfl⟩
      have hSB : S < B1 := by rw [← hB1]; exact hSb.2
      obtain ⟨i0, hi, hz0, hz1, hz2⟩ := info_parts str_info
      have HB1 := Lib.hid hB1
      clear ho ho2 hb hSb hcell hll hlm hB1 HR HA HL HV CPT2
      go_wp2_with fail
      go_loopw [11] (fun iv wr => ∃ (i : Nat) (p : List (List UInt8)) (pv : Value), iv = .int .i64 i ∧ i ≤ ll ∧ 2 * p.length = i ∧ Hid (PR = tailM k (p ++ (mods (L.drop i)).1) (mods (L.drop i)).2) ∧ Hid (∀ x ∈ p, x.length ≤ 100000) ∧ Hid (wr.ownsRow B1 9 1 pv p.length ((p.map mk).map Value.string)) ∧ Hid (Blk wr (R + 1) 29 (adV pv ⟨[], ⟨#[]⟩, ⟨#[]⟩, k.1, k.2.1, mk k.2.2⟩)) ∧ Hid (Blk wr R 29 adZ) ∧ Hid (wr.heap[S]? = w5.heap[S]?) ∧ Hid (Below R w wr) ∧ Hid (B1 ≤ wr.heap.size)) (fun iv _ => ll - (intOf iv).toNat)
      case atStart => exact ⟨0, [], .slice none 0 0, rfl, by omega, rfl, Lib.hid (by rw [HQ.out, made_tail]; rfl), Lib.hid (by simp), Lib.hid (World.ownsRow_nil _ _ _ _), HA5, HR5, rfl, HL5, Lib.hid (by rw [HB1.out]; exact Nat.le_refl _)⟩
      case round =>
        obtain ⟨i, p, pv, rfl, hil, hpi, HT, HPX, HO, HA, HR, HS, HL, HSZ⟩ := hrel
        clear HA5 HR5 HL5
        have a0 : wr.cell? ⟨R + 1, 0, none⟩ = some pv := HA.out.cell 0
        have a1 : wr.cell? ⟨R + 1, 1, none⟩ = some (.string ⟨#[]⟩) := HA.out.cell 1
        have a2 : wr.cell? ⟨R + 1, 2, none⟩ = some (.string ⟨#[]⟩) := HA.out.cell 2
        have fa0 := HA.out.frozen 0
        have fa1 := HA.out.frozen 1
        have fa2 := HA.out.frozen 2
        have HCR : Hid (∀ i x, L[i]? = some x → wr.cell? ⟨S, i, none⟩ = some (.string (mk x))) := fun i x h => (World.cell?_of_block (w := w5) (a := ⟨S, i, none⟩) HS.out).trans (HCL.out i x h)
        have hw2 : IntKind.i64.wrap ((i : Int) + 2) = (i : Int) + 2 := IntWalk.i64_in _ (by omega)
        have hw1 : IntKind.i64.wrap ((i : Int) + 1) = (i : Int) + 1 := IntWalk.i64_in _ (by omega)
        have hwn : IntKind.i64.wrap ((ll : Int) - (i : Int)) = (ll : Int) - (i : Int) := IntWalk.i64_in _ (by omega)
        have ht1 : ((i : Int) + 1).toNat = i + 1 := by omega
        by_cases hq : i + 2 < ll
        · have hq1 : (i : Int) + 2 < (ll : Int) := by omega
          obtain ⟨x0, h0⟩ : ∃ x0, L[i]? = some x0 := ⟨_, List.getElem?_eq_getElem (by rw [HLL.out]; omega)⟩
          obtain ⟨x1, h1⟩ : ∃ x1, L[i + 1]? = some x1 := ⟨_, List.getElem?_eq_getElem (by rw [HLL.out]; omega)⟩
          have s0 := HCR.out _ _ h0
          have s1 := HCR.out _ _ h1
          have H0 := Lib.hid h0
          have H1 := Lib.hid h1
          have hx1 : x1.length ≤ 100000 := by
            have := HBD.out.2 x1 (List.mem_of_getElem? h1)
            rw [← Lib.size_eq] at this
            have := HDS.out; omega
          have HX1 := Lib.hid hx1
          have hb1 : (i : Int) < (ll : Int) := by omega
          have hb2 : (i : Int) + 1 < (ll : Int) := by omega
          have hb3 : (0 : Int) ≤ (i : Int) + 1 := by omega
          clear h0 h1 hx1
          by_cases hm : (mk x0).toList = [109, 111, 100, 117, 108, 101]
          · have HMX : Hid (x0 = modL) := by
              unfold Hid; rw [Lib.toList_data, mk_data] at hm; exact hm
            have hmb : ((mk x0).toList == [109, 111, 100, 117, 108, 101]) = true := by rw [beq_iff_eq]; exact hm
            have HST := Lib.hid (mods_step L i (by rw [HLL.out]; omega) x0 x1 H0.out H1.out HMX.out)
            have HC1 : Hid (∀ j u, [Value.string (mk x1)][j]? = some u → (wr.alloc (.cells #[.string (mk x1)] 9)).cell? ((⟨wr.heap.size, 0, none⟩ : Addr).add j) = some u) := by
              intro j' u hj
              have hN := Blk.new wr 9 #[.string (mk x1)]
              have hadd : (⟨wr.heap.size, 0, none⟩ : Addr).add j' = ⟨wr.heap.size, j', none⟩ := by unfold Addr.add; split <;> simp_all
              rw [hadd, hN.cell j']
              simpa using hj
            have HC2 : Hid (∀ u ∈ [Value.string (mk x1)], u.oneCell' = true) := by
              intro u hu; rw [List.mem_singleton.1 hu]; rfl
            have HC3 : Hid (p.length + 1 ≤ maxLen) := by unfold Hid maxLen; omega
            have HC4 : Hid ((p.length + 1) * 16 ≤ 140737488355328) := by unfold Hid; omega
            have WL : Hid (Below R w (wr.alloc (.cells #[.string (mk x1)] 9))) := HL.out.alloc (by have := HSZ.out; omega) _
            have HC5 : Hid (B1 ≤ (wr.alloc (.cells #[.string (mk x1)] 9)).heap.size) := by unfold Hid; have := HSZ.out; simp; omega
            have hAlt : R + 1 < wr.heap.size := HA.out.lt
            have hAne : ¬ R + 1 = wr.heap.size := by omega
            have hSlt : S < wr.heap.size := by have := HSZ.out; omega
            have hSne : ¬ S = wr.heap.size := by omega
            clear a1 a2 fa1 fa2
            go_upto_region 21 with fail
            go_region_law (refine step_append_own rfl (.tmp 85) (.tmp 91) 27 rfl B1 9 i0 (.string ByteArray.empty) 1 16 Tryz.underlying27 hi hz0 hz1 hz2 rfl (by decide) pv p.length ((p.map mk).map Value.string) (by simp [Act.eval]) (HO.out.alloc _) ⟨wr.heap.size, 0, none⟩ 1 1 [.string (mk x1)] (by simp [Act.eval]) rfl HC1.out HC2.out HC3.out HC4.out HC5.out ?_; intro v' w6 hown hgrow; obtain ⟨gv, cv, hv'⟩ := own_form hown; subst hv'; have hlow := grown_low hgrow HO.out; have hA6 := (hlow (R + 1) (by omega) (HA.out.alloc (.cells #[.string (mk x1)] 9)).lt).trans (HA.out.alloc (.cells #[.string (mk x1)] 9)); have b0 : w6.cell? ⟨R + 1, 0, none⟩ = some pv := Blk.cell (t := 29) hA6 0; have fb0 : w6.frozen? ⟨R + 1, 0, none⟩ = false := Blk.frozen (t := 29) hA6 0)
            all_goals
              have hR6 : Blk w6 R 29 adZ := (hlow R (by omega) (HR.out.alloc (.cells #[.string (mk x1)] 9)).lt).trans (HR.out.alloc (.cells #[.string (mk x1)] 9))
              have hS6 : w6.heap[S]? = w5.heap[S]? := (hlow S hSB (by show S < (wr.alloc _).heap.size; simp; omega)).trans ((Below.heap_alloc wr _ S hSlt).trans HS.out)
              have hL6 : Below R w w6 := WL.out.trans ⟨hgrow.os, hgrow.tape, hgrow.output, hgrow.size, fun b hb => hlow b (by omega) (by show b < (wr.alloc _).heap.size; simp; omega)⟩
              have HA7 : Hid (Blk (w6.setCell ⟨R + 1, 0, none⟩ (.slice (some ⟨gv, 0, none⟩) (p.length + 1) cv)) (R + 1) 29 (adV (.slice (some ⟨gv, 0, none⟩) (p.length + 1) cv) ⟨[], ⟨#[]⟩, ⟨#[]⟩, k.1, k.2.1, mk k.2.2⟩)) := Blk.set_ (t := 29) hA6 0 _
              have HR7 : Hid (Blk (w6.setCell ⟨R + 1, 0, none⟩ (.slice (some ⟨gv, 0, none⟩) (p.length + 1) cv)) R 29 adZ) := hR6.far (by show R ≠ R + 1; omega) _
              have HS7 : Hid ((w6.setCell ⟨R + 1, 0, none⟩ (.slice (some ⟨gv, 0, none⟩) (p.length + 1) cv)).heap[S]? = w5.heap[S]?) := (Below.heap_setCell w6 ⟨R + 1, 0, none⟩ _ S (by show S ≠ R + 1; omega)).trans hS6
              have HL7 : Hid (Below R w (w6.setCell ⟨R + 1, 0, none⟩ (.slice (some ⟨gv, 0, none⟩) (p.length + 1) cv))) := hL6.setCell (p := ⟨R + 1, 0, none⟩) (by show R ≤ R + 1; omega) _
              have HO7 : Hid ((w6.setCell ⟨R + 1, 0, none⟩ (.slice (some ⟨gv, 0, none⟩) (p.length + 1) cv)).ownsRow B1 9 1 (.slice (some ⟨gv, 0, none⟩) (p.length + 1) cv) (p ++ [x1]).length (((p ++ [x1]).map mk).map Value.string)) := by
                unfold Hid
                have e : ((p ++ [x1]).map mk).map Value.string = (p.map mk).map Value.string ++ [Value.string (mk x1)] := by simp
                rw [e, List.length_append, List.length_singleton]
                exact ownsRow_setCell_below hown (a := ⟨R + 1, 0, none⟩) (by show R + 1 < B1; omega) _
              have HSZ7 : Hid (B1 ≤ (w6.setCell ⟨R + 1, 0, none⟩ (.slice (some ⟨gv, 0, none⟩) (p.length + 1) cv)).heap.size) := by
                unfold Hid
                have h1 := (hown.lt gv rfl)
                simp [World.setCell]; omega
              clear hA6 hR6 hS6 hL6 hown hgrow hlow b0 fb0 a0 fa0 s0 s1
              go_wp2_with fail
              go_roundw
              case rel =>
                refine ⟨i + 2, p ++ [x1], _, by go_num, by omega, by simp; omega, ?_, ?_, HO7, HA7, HR7, HS7, HL7, HSZ7⟩
                · unfold Hid
                  rw [HT.out, HST.out]
                  simp
                · intro x hx
                  rcases List.mem_append.1 hx with h | h
                  · exact HPX.out x h
                  · rw [List.mem_singleton.1 h]; exact HX1.out
              case measure => simp [intOf]; omega
          · have HN0 : Hid (PR = none) := by
              unfold Hid
              have hd0 : (L.drop i)[0]? = some x0 := by rw [List.getElem?_drop]; exact H0.out
              have hml := mods_other (L.drop i) (fun x hx e => by
                rw [hd0] at hx
                injection hx with hx
                apply hm
                rw [Lib.toList_data, mk_data, hx, e]; rfl)
              rw [HT.out, hml]
              exact tail_none k _ _ (by rw [List.length_drop, HLL.out]; omega)
            have hmb : ((mk x0).toList == [109, 111, 100, 117, 108, 101]) = false := by rw [beq_eq_false_iff_ne]; exact hm
            have hq4 : (((ll : Int) - (i : Int)) != 2) = true := by rw [bne_iff_ne]; omega
            clear a0 a1 a2 fa0 fa1 fa2 s1
            have r0 : wr.cell? ⟨R, 0, none⟩ = some (.slice none 0 0) := HR.out.cell 0
            have r1 : wr.cell? ⟨R, 1, none⟩ = some (.string ⟨#[]⟩) := HR.out.cell 1
            have r2 : wr.cell? ⟨R, 2, none⟩ = some (.string ⟨#[]⟩) := HR.out.cell 2
            have r3 : wr.cell? ⟨R, 3, none⟩ = some (.int .i64 0) := HR.out.cell 3
            have r4 : wr.cell? ⟨R, 4, none⟩ = some (.int .u64 0) := HR.out.cell 4
            have r5 : wr.cell? ⟨R, 5, none⟩ = some (.string ⟨#[]⟩) := HR.out.cell 5
            have fr0 := HR.out.frozen 0
            have fr1 := HR.out.frozen 1
            have fr2 := HR.out.frozen 2
            have fr3 := HR.out.frozen 3
            have fr4 := HR.out.frozen 4
            have fr5 := HR.out.frozen 5
            go_wp2_with fail
            refine bodyPost_ret (rparse_res R adZ false _ _ rfl ((((((HR.out.set_ 0 _).set_ 1 _).set_ 2 _).set_ 3 _).set_ 4 _).set_ 5 _) rfl rfl) rfl ⟨⟨.slice none 0 0, ?_, ?_⟩, ?_⟩
            · rw [HN0.out]; exact strS_nil _ _
            · rw [HN0.out]; rfl
            · exact below_six HL.out
        · have hq1 : ¬ (i : Int) + 2 < (ll : Int) := by omega
          have hml := mods_short (L.drop i) (by rw [List.length_drop, HLL.out]; omega)
          have HT2 : Hid (PR = tailM k p (L.drop i)) := by unfold Hid; rw [HT.out, hml, List.append_nil]
          clear hml HT
          have r0 : wr.cell? ⟨R, 0, none⟩ = some (.slice none 0 0) := HR.out.cell 0
          have r1 : wr.cell? ⟨R, 1, none⟩ = some (.string ⟨#[]⟩) := HR.out.cell 1
          have r2 : wr.cell? ⟨R, 2, none⟩ = some (.string ⟨#[]⟩) := HR.out.cell 2
          have r3 : wr.cell? ⟨R, 3, none⟩ = some (.int .i64 0) := HR.out.cell 3
          have r4 : wr.cell? ⟨R, 4, none⟩ = some (.int .u64 0) := HR.out.cell 4
          have r5 : wr.cell? ⟨R, 5, none⟩ = some (.string ⟨#[]⟩) := HR.out.cell 5
          have fr0 := HR.out.frozen 0
          have fr1 := HR.out.frozen 1
          have fr2 := HR.out.frozen 2
          have fr3 := HR.out.frozen 3
          have fr4 := HR.out.frozen 4
          have fr5 := HR.out.frozen 5
          by_cases hq2 : ll = i + 2
          case neg =>
            have HN0 : Hid (PR = none) := by
              unfold Hid
              rw [HT2.out]
              exact tail_none k _ _ (by rw [List.length_drop, HLL.out]; omega)
            have hq4 : (((ll : Int) - (i : Int)) != 2) = true := by rw [bne_iff_ne]; omega
            clear a0 a1 a2 fa0 fa1 fa2
            go_wp2_with fail
            refine bodyPost_ret (rparse_res R adZ false _ _ rfl ((((((HR.out.set_ 0 _).set_ 1 _).set_ 2 _).set_ 3 _).set_ 4 _).set_ 5 _) rfl rfl) rfl ⟨⟨.slice none 0 0, ?_, ?_⟩, ?_⟩
            · rw [HN0.out]; exact strS_nil _ _
            · rw [HN0.out]; rfl
            · exact below_six HL.out
          have hq4 : (((ll : Int) - (i : Int)) != 2) = false := by rw [bne_eq_false_iff_eq]; omega
          obtain ⟨x0, h0⟩ : ∃ x0, L[i]? = some x0 := ⟨_, List.getElem?_eq_getElem (by rw [HLL.out]; omega)⟩
          obtain ⟨x1, h1⟩ : ∃ x1, L[i + 1]? = some x1 := ⟨_, List.getElem?_eq_getElem (by rw [HLL.out]; omega)⟩
          have s0 := HCR.out _ _ h0
          have s1 := HCR.out _ _ h1
          have hb0 := HBD.out.2 x0 (List.mem_of_getElem? h0)
          have hb1 := HBD.out.2 x1 (List.mem_of_getElem? h1)
          rw [← Lib.size_eq] at hb0 hb1
          have hhs := HDS.out
          have hdr : L.drop i = [x0, x1] := by
            have hl : (L.drop i).length = 2 := by rw [List.length_drop, HLL.out]; omega
            have e0 : (L.drop i)[0]? = some x0 := by rw [List.getElem?_drop]; exact h0
            have e1 : (L.drop i)[1]? = some x1 := by rw [List.getElem?_drop]; exact h1
            match hx : L.drop i, hl with
            | [u, v], _ => rw [hx] at e0 e1; simp at e0 e1; rw [e0, e1]
          have HT3 : Hid (PR = if rightA ⟨p.map mk, mk x0, mk x1, k.1, k.2.1, mk k.2.2⟩ then some ⟨p.map mk, mk x0, mk x1, k.1, k.2.1, mk k.2.2⟩ else none) := by
            unfold Hid; rw [HT2.out, hdr]; rfl
          have HAB : Hid (AdB ⟨p.map mk, mk x0, mk x1, k.1, k.2.1, mk k.2.2⟩) := by
            refine ⟨by simp; omega, fun X hX => ?_, by rw [Lib.size_eq, mk_data]; omega, by rw [Lib.size_eq, mk_data]; omega, by rw [Lib.size_eq, mk_data]; exact HKB.out.2, HKB.out.1⟩
            obtain ⟨y, hy, rfl⟩ := List.mem_map.1 hX
            rw [Lib.size_eq, mk_data]; exact HPX.out y hy
          have hb5 : (i : Int) < (ll : Int) := by omega
          have hb6 : (i : Int) + 1 < (ll : Int) := by omega
          have hb7 : (0 : Int) ≤ (i : Int) + 1 := by omega
          have hSA : ¬ S = R + 1 := by omega
          clear h0 h1 hb0 hb1 hdr HT2 hhs r0 r1 r2 r3 r4 r5 fr0 fr1 fr2 fr3 fr4 fr5
          obtain ⟨cand, hcand⟩ : ∃ cand : Ad, cand = ⟨p.map mk, mk x0, mk x1, k.1, k.2.1, mk k.2.2⟩ := ⟨_, rfl⟩
          have hA8 := (HA.out.set_ 1 (.string (mk x0))).set_ 2 (.string (mk x1))
          have hR8 := (HR.out.far (p := ⟨R + 1, 1, none⟩) (by show R ≠ R + 1; omega) (.string (mk x0))).far (p := ⟨R + 1, 2, none⟩) (by show R ≠ R + 1; omega) (.string (mk x1))
          have hL8 := (HL.out.setCell (p := ⟨R + 1, 1, none⟩) (by show R ≤ R + 1; omega) (.string (mk x0))).setCell (p := ⟨R + 1, 2, none⟩) (by show R ≤ R + 1; omega) (.string (mk x1))
          have hO8 : ((wr.setCell ⟨R + 1, 1, none⟩ (.string (mk x0))).setCell ⟨R + 1, 2, none⟩ (.string (mk x1))).ownsRow B1 9 1 pv p.length ((p.map mk).map Value.string) := ownsRow_setCell_below (ownsRow_setCell_below HO.out (a := ⟨R + 1, 1, none⟩) (by show R + 1 < B1; omega) _) (a := ⟨R + 1, 2, none⟩) (by show R + 1 < B1; omega) _
          have hz8 : B1 ≤ ((wr.setCell ⟨R + 1, 1, none⟩ (.string (mk x0))).setCell ⟨R + 1, 2, none⟩ (.string (mk x1))).heap.size := by
            have := HSZ.out
            simp [World.setCell]; omega
          obtain ⟨W8, hW8⟩ : ∃ W8, (wr.setCell ⟨R + 1, 1, none⟩ (.string (mk x0))).setCell ⟨R + 1, 2, none⟩ (.string (mk x1)) = W8 := ⟨_, rfl⟩
          rw [hW8] at hA8 hR8 hL8 hO8 hz8
          go_upto_region 27 with fail
          clear hW8
          have hP8 : StrS W8 W8.heap.size pv cand.path := by rw [hcand]; exact strS_own hO8 (by simp)
          have hab := HAB.out
          have hq3 := HT3.out
          rw [← hcand] at hab hq3
          have hA8' : Blk W8 (R + 1) 29 (adV pv cand) := by rw [hcand]; exact hA8
          have C := Lib.hid (raright_any pv cand W8 hP8 hab)
          have HA8 := Lib.hid hA8'
          have HR8 := Lib.hid hR8
          have HL8 := Lib.hid hL8
          have HO8 := Lib.hid hO8
          have HZ8 := Lib.hid hz8
          have HQ3 := Lib.hid hq3
          have HCD := Lib.hid hcand
          obtain ⟨ao, cp2, hpv⟩ := hP8.len
          obtain ⟨ps, hps⟩ : ∃ ps, cand.path.length = ps := ⟨_, rfl⟩
          rw [hps] at hpv
          subst hpv
          clear hA8 hA8' hR8 hL8 hO8 hz8 hP8 hab hq3 hcand HAB HT3 HA HR HL HO HS HSZ HCR HPX a0 a1 a2 fa0 fa1 fa2 s0 s1 hps
          obtain ⟨pth, ty, nm, key, place, word⟩ := cand
          obtain ⟨b0, b1, b2, b3, b4, b5⟩ := ad_cells HA8.out
          dsimp only at b0 b1 b2 b3 b4 b5
          unfold adV at C HA8
          dsimp only at C HA8
          obtain ⟨RR, hRR⟩ : ∃ RR, rightA ⟨pth, ty, nm, key, place, word⟩ = RR := ⟨_, rfl⟩
          rw [hRR] at C HQ3
          clear hRR
          go_wp2_with fail
          refine C.out.mono ?_
          rintro e w9 ⟨rfl, hb⟩
          have HA9 := Lib.hid (HA8.out.below hb HA8.out.lt)
          have HR9 := Lib.hid (HR8.out.below hb HR8.out.lt)
          have HL9 := Lib.hid (HL8.out.trans (hb.mono (by have := HZ8.out; omega)))
          have HO9 := Lib.hid (HO8.out.kept (grown_of_below hb) (by cases (Value.slice ao ps cp2).ownBlock <;> simp))
          clear hb C HA8 HR8 HL8 HO8 HZ8 b0 b1 b2 b3 b4 b5
          have b0 : w9.cell? ⟨R + 1, 0, none⟩ = some (.slice ao ps cp2) := HA9.out.cell 0
          have b1 : w9.cell? ⟨R + 1, 1, none⟩ = some (.string ty) := HA9.out.cell 1
          have b2 : w9.cell? ⟨R + 1, 2, none⟩ = some (.string nm) := HA9.out.cell 2
          have b3 : w9.cell? ⟨R + 1, 3, none⟩ = some (.int .i64 key) := HA9.out.cell 3
          have b4 : w9.cell? ⟨R + 1, 4, none⟩ = some (.int .u64 ((place : Nat) : Int)) := HA9.out.cell 4
          have b5 : w9.cell? ⟨R + 1, 5, none⟩ = some (.string word) := HA9.out.cell 5
          have r0 : w9.cell? ⟨R, 0, none⟩ = some (.slice none 0 0) := HR9.out.cell 0
          have r1 : w9.cell? ⟨R, 1, none⟩ = some (.string ⟨#[]⟩) := HR9.out.cell 1
          have r2 : w9.cell? ⟨R, 2, none⟩ = some (.string ⟨#[]⟩) := HR9.out.cell 2
          have r3 : w9.cell? ⟨R, 3, none⟩ = some (.int .i64 0) := HR9.out.cell 3
          have r4 : w9.cell? ⟨R, 4, none⟩ = some (.int .u64 0) := HR9.out.cell 4
          have r5 : w9.cell? ⟨R, 5, none⟩ = some (.string ⟨#[]⟩) := HR9.out.cell 5
          have fr0 := HR9.out.frozen 0
          have fr1 := HR9.out.frozen 1
          have fr2 := HR9.out.frozen 2
          have fr3 := HR9.out.frozen 3
          have fr4 := HR9.out.frozen 4
          have fr5 := HR9.out.frozen 5
          cases RR with
          | false =>
            have HN0 : Hid (PR = none) := HQ3.out
            go_wp2_with fail
            refine bodyPost_ret (rparse_res R adZ false _ _ rfl ((((((HR9.out.set_ 0 _).set_ 1 _).set_ 2 _).set_ 3 _).set_ 4 _).set_ 5 _) rfl rfl) rfl ⟨⟨.slice none 0 0, ?_, ?_⟩, ?_⟩
            · rw [HN0.out]; exact strS_nil _ _
            · rw [HN0.out]; rfl
            · exact below_six HL9.out
          | true =>
            have HN0 : Hid (PR = some ⟨pth, ty, nm, key, place, word⟩) := HQ3.out
            go_wp2_with fail
            refine bodyPost_ret (rparse_res R (adV (.slice ao ps cp2) ⟨pth, ty, nm, key, place, word⟩) true _ _ rfl ((((((HR9.out.set_ 0 _).set_ 1 _).set_ 2 _).set_ 3 _).set_ 4 _).set_ 5 _) rfl rfl) rfl ⟨⟨.slice ao ps cp2, ?_, ?_⟩, ?_⟩
            · rw [HN0.out]
              have hc := HCD.out
              injection hc with hc _
              show StrS _ _ _ pth
              rw [hc]
              exact strS_own (own_six2 HO9.out (by omega)) (by simp)
            · rw [HN0.out]; rfl
            · exact below_six HL9.out
end Go.Proofs.YtdfihhebgllpcaaGreatDoor
