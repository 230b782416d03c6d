import Derived.Test.YtdfihhebgllpcaaGreatDoorAo13
import Derived.Test.YtdfihhebgllpcaaGreatDoorAo02
import Derived.Deep.CutBlock
import Derived.Deep.RegionWith
import Derived.Deep.DeepCutAuto

/- The reference's Parse. -/
namespace Go.Proofs.YtdfihhebgllpcaaGreatDoor
open Go.RowKit Go.Proofs.NumPlain

set_option maxHeartbeats 2000000 in
set_option maxRecDepth 100000 in
theorem rparse_form (s : ByteArray) (w : World) (hs : s.size ≤ 9223372036854775800) (hb : s.data.toList = [] ∨ NumPlain.scan s.data.toList ≠ s.size) :
    Calls Tryz.prog 215 #[.string s] w fun e w' => e = .returned (.tuple #[nv zero, .int .i64 3]) ∧ Below w.heap.size w w' := by
  unfold nv
  by_cases h0 : s.size = 0
  · have hz : (((s.size : Nat) : Int) == 0) = true := by rw [beq_iff_eq]; omega
    clear hb
    go_enter Tryz.func215, Tryz.ntmps215
    go_wp2_with fail
    exact bodyPost_ret (v := .tuple #[.agg #[.bool false, .string ⟨#[]⟩, .int .i64 0], .int .i64 3]) (by simp [results, Tryz.results215, go_sem]) rfl ⟨rfl, (Below.refl _ _).alloc (Nat.le_refl _) _⟩
  · have hz : (((s.size : Nat) : Int) == 0) = false := by rw [beq_eq_false_iff_ne]; omega
    have hlt : NumPlain.scan s.data.toList ≠ s.size := by
      rcases hb with h | h
      · exact absurd (by rw [Lib.size_eq, h]; rfl) h0
      · exact h
    have hne : (((NumPlain.scan s.data.toList : Nat) : Int) != ((s.size : Nat) : Int)) = true := by simp; omega
    clear hb hlt h0
    go_enter Tryz.func215, Tryz.ntmps215
    go_wp2_with fail
    refine (rscan_any s _ hs).mono ?_
    generalize NumPlain.scan s.data.toList = L at hne ⊢
    rintro e w' ⟨rfl, rfl⟩
    go_wp2_with fail
    exact bodyPost_ret (v := .tuple #[.agg #[.bool false, .string ⟨#[]⟩, .int .i64 0], .int .i64 3]) (by simp [results, Tryz.results215, go_sem]) rfl ⟨rfl, (Below.refl _ _).alloc (Nat.le_refl _) _⟩

theorem empty_of (d : ByteArray) (h : d.data.toList = []) : d = ByteArray.empty := by
  rw [bytes_eta d _ h]; rfl
theorem size_pos (d : ByteArray) (h : ¬ d = ByteArray.empty) : 0 < d.size := by
  rcases Nat.eq_zero_or_pos d.size with h0 | h0
  · exact absurd (empty_of d (List.length_eq_zero_iff.1 (by rw [← Lib.size_eq]; exact h0))) h
  · exact h0
theorem get_at (s : ByteArray) (l : List UInt8) (h : s.data.toList = l) (k : Nat) (hk : k < s.size) (c : UInt8) (hc : l[k]? = some c) : s[k] = c := by
  subst h
  have : s.data.toList[k]? = some s[k] := by rw [List.getElem?_eq_getElem (by simpa using hk)]; rfl
  rw [this] at hc
  injection hc
theorem isE_nat (c : UInt8) : ((((c.toNat : Nat) : Int) != 101) && (((c.toNat : Nat) : Int) != 69)) = !isE c := by
  have := all_u8 (fun c => ((((c.toNat : Nat) : Int) != 101) && (((c.toNat : Nat) : Int) != 69)) == !isE c) (by decide +kernel) c
  simpa using this

set_option maxHeartbeats 16000000 in
set_option maxRecDepth 100000 in
theorem rparse_good (s : ByteArray) (w : World) (neg : Bool) (I : List UInt8) (pt : Bool) (F : List UInt8) (ex : Ex) (hg : NumPlain.Good I pt F ex) (hl : s.data.toList = render neg I pt F ex) (hsc : NumPlain.scan s.data.toList = s.data.toList.length) (hs : s.size ≤ 100000) :
    Calls Tryz.prog 215 #[.string s] w fun e w' => e = .returned (.tuple #[nv (fin neg (I ++ F) (-(F.length : Int) + ex.val valR)).1, .int .i64 (fin neg (I ++ F) (-(F.length : Int) + ex.val valR)).2]) ∧ Below w.heap.size w w' := by
  have hHG := Lib.hid hg
  have hsz : s.size = s.data.toList.length := Lib.size_eq s
  obtain ⟨M, hM⟩ : ∃ M, M = I ++ ptText pt F := ⟨_, rfl⟩
  obtain ⟨b0, hb0⟩ : ∃ b0 : Nat, b0 = (sgText neg).length := ⟨_, rfl⟩
  have hne : 0 < s.size := by
    rw [hsz, hl]
    have := hg.iNe
    cases I with
    | nil => exact absurd rfl this
    | cons c q => simp [render]; omega
  have hb1 : b0 ≤ 1 := by rw [hb0]; cases neg <;> simp [sgText]
  have hlM : s.data.toList = sgText neg ++ (M ++ ex.text) := by rw [hl, hM]; simp [render]
  have hMs : b0 + M.length ≤ s.size := by rw [hsz, hlM, hb0]; simp
  have HMat : Hid (∀ j, j < M.length → ∃ c, M[j]? = some c ∧ ∀ (h : b0 + j < s.size), s[b0 + j] = c) := by
    intro j hj
    refine ⟨M[j], List.getElem?_eq_getElem hj, fun h => ?_⟩
    refine get_at s _ hlM _ h _ ?_
    rw [hb0, List.getElem?_append_right (by omega), Nat.add_sub_cancel_left, List.getElem?_append_left hj, List.getElem?_eq_getElem hj]
  have HMc : Hid (∀ c ∈ M, isE c = false ∧ (c = 46 ∨ isD c = true)) := by
    intro c hc
    rw [hM] at hc
    rcases List.mem_append.1 hc with h | h
    · exact ⟨(isD_not c (hg.iDig c h)).1, .inr (hg.iDig c h)⟩
    · unfold ptText at h
      split at h
      · rcases List.mem_cons.1 h with rfl | h
        · exact ⟨by decide, .inl rfl⟩
        · exact ⟨(isD_not c (hg.fDig c h)).1, .inr (hg.fDig c h)⟩
      · simp at h
  have HF1 : Hid (fold1 M = (pt, ltrim (I ++ F), -(F.length : Int))) := by
    unfold Hid; rw [hM]; exact fold1_all I pt F hg.iDig hg.fDig hg.fNo
  have hz : (((s.size : Nat) : Int) == 0) = false := by rw [beq_eq_false_iff_ne]; omega
  have HSC : Hid (NumPlain.scan s.data.toList = s.size) := by unfold Hid; omega
  have hsx : (((s.size : Nat) : Int) != ((s.size : Nat) : Int)) = false := by simp
  have HL := Lib.hid hl
  have HLM := Lib.hid hlM
  have Hb0 := Lib.hid hb0
  have hfst : Hid ((((s[0].toNat : Nat) : Int) == 45) = neg) := by
    unfold Hid
    have hx := head_byte s 0 hne 45 (by omega)
    rw [List.drop_zero, hl] at hx
    rw [show ((45 : Nat) : Int) = 45 from rfl] at hx
    rw [hx]
    cases neg with
    | true => simp [render, sgText]
    | false =>
      obtain ⟨c, q, e, hc⟩ := head_dig I (ptText pt F ++ ex.text) hg.iDig hg.iNe
      have h2 : render false I pt F ex = c :: q := by simp only [render, sgText, Bool.false_eq_true, if_false, List.nil_append]; exact e
      rw [h2]
      have := (isD_not c hc).2.2.1
      simp [this]
  have HMl := Lib.hid hM
  clear hl hlM hb0 hM hsz hsc hg
  obtain ⟨xs, hxs⟩ : ∃ xs : Int, xs = ex.val valR := ⟨_, rfl⟩
  have HXS := Lib.hid hxs
  clear hxs
  go_enter Tryz.func215, Tryz.ntmps215
  go_wp2_with fail
  refine (rscan_any s _ (by omega)).mono ?_
  rw [HSC.out]
  rintro e w' ⟨rfl, rfl⟩
  clear HSC
  go_upto_if 23 with fail
  go_cut [5] (fun i wx => i = .int .i64 b0 ∧ Blk wx (w.heap.size + 1) 227 #[.bool neg, .string ⟨#[]⟩, .int .i64 0] ∧ Blk wx w.heap.size 227 #[.bool false, .string ⟨#[]⟩, .int .i64 0] ∧ Below w.heap.size w wx)
  case first =>
    have hB1 := Blk.new (w.alloc (.cells #[.bool false, .string ⟨#[]⟩, .int .i64 0] 227)) 227 #[.bool neg, .string ⟨#[]⟩, .int .i64 0]
    have hB2 := (Blk.new w 227 #[.bool false, .string ⟨#[]⟩, .int .i64 0]).alloc (.cells #[.bool neg, .string ⟨#[]⟩, .int .i64 0] 227)
    have hB3 : Below w.heap.size w ((w.alloc (.cells #[.bool false, .string ⟨#[]⟩, .int .i64 0] 227)).alloc (.cells #[.bool neg, .string ⟨#[]⟩, .int .i64 0] 227)) := ((Below.refl _ _).alloc (Nat.le_refl _) _).alloc (by simp) _
    simp only [World.size_alloc] at hB1
    have H1 := Lib.hid hB1
    have H2 := Lib.hid hB2
    have H3 := Lib.hid hB3
    clear hB1 hB2 hB3
    cases neg with
    | true =>
      have h45 : (((s[0].toNat : Nat) : Int) == 45) = true := hfst.out
      have hb : Hid (b0 = 1) := Hb0.out
      clear hfst
      go_wp2_with fail
      go_meet
      exact ⟨by rw [hb.out]; rfl, H1.out, H2.out, H3.out⟩
    | false =>
      have h45 : (((s[0].toNat : Nat) : Int) == 45) = false := hfst.out
      have hb : Hid (b0 = 0) := Hb0.out
      clear hfst
      go_wp2_with fail
      go_meet
      exact ⟨by rw [hb.out]; rfl, H1.out, H2.out, H3.out⟩
  case rest =>
  obtain ⟨rfl, hN, hR, hB⟩ := hcut
  clear hfst
  go_upto_block 0 with fail
  go_cut [5, 6] (fun i p wx => ∃ (d : ByteArray), i = .int .i64 ((b0 + M.length : Nat) : Int) ∧ p = .bool pt ∧ Hid (d.data.toList = ltrim (I ++ F)) ∧ Blk wx (w.heap.size + 1) 227 #[.bool neg, .string d, .int .i64 (-(F.length : Int))] ∧ Blk wx w.heap.size 227 #[.bool false, .string ⟨#[]⟩, .int .i64 0] ∧ Below w.heap.size w wx)
  case first =>
    go_wp2_with fail
    go_loopw [5, 6] (fun i p wr => ∃ (j : Nat) (P : Bool) (d : ByteArray) (X : Int), j ≤ M.length ∧ i = .int .i64 ((b0 + j : Nat) : Int) ∧ p = .bool P ∧ Hid (fold1 (M.take j) = (P, d.data.toList, X)) ∧ Blk wr (w.heap.size + 1) 227 #[.bool neg, .string d, .int .i64 X] ∧ Blk wr w.heap.size 227 #[.bool false, .string ⟨#[]⟩, .int .i64 0] ∧ Below w.heap.size w wr) (fun i _ _ => s.size - (intOf i).toNat)
    case atStart => exact ⟨0, false, ⟨#[]⟩, 0, Nat.zero_le _, by simp, rfl, rfl, hN, hR, hB⟩
    case round =>
      obtain ⟨j, P, d, X, hj, rfl, rfl, hf, hNr, hRr, hBr⟩ := hrel
      clear hN hR hB
      by_cases hlt : j < M.length
      · obtain ⟨c, hc1, hc2⟩ := HMat.out j hlt
        have hlt2 : b0 + j < s.size := by omega
        have hsc := hc2 hlt2
        obtain ⟨k1, k2⟩ := HMc.out c (List.mem_of_getElem? hc1)
        have hbd := fold1_bd (M.take j)
        rw [hf.out] at hbd
        obtain ⟨bd1, bd2, bd3⟩ := hbd
        rw [List.length_take, Nat.min_eq_left hj] at bd1 bd2
        dsimp only at bd1 bd2 bd3
        rw [← Lib.size_eq] at bd1
        have hnx : Hid (fold1 (M.take (j + 1)) = step1 (P, d.data.toList, X) c) := by
          unfold Hid
          have e : M.take (j + 1) = M.take j ++ [c] := by
            rw [List.take_succ_eq_append_getElem hlt]
            rw [List.getElem?_eq_getElem hlt] at hc1
            injection hc1 with hc1
            rw [hc1]
          rw [e, fold1_snoc, hf.out]
        have he := isE_nat c
        rw [k1] at he
        simp only [Bool.not_false, Bool.and_eq_true] at he
        obtain ⟨e1, e2⟩ := he
        have n1 := hNr.cell 1
        have n2 := hNr.cell 2
        have nf1 := hNr.frozen 1
        have nf2 := hNr.frozen 2
        simp only [List.getElem?_toArray, List.getElem?_cons_succ, List.getElem?_cons_zero] at n1 n2
        clear hc1 hc2 hf k1
        go_upto_block 1 with fail
        go_cut [6] (fun p wx => ∃ (P' : Bool) (d' : ByteArray) (X' : Int), p = .bool P' ∧ Hid (fold1 (M.take (j + 1)) = (P', d'.data.toList, X')) ∧ Blk wx (w.heap.size + 1) 227 #[.bool neg, .string d', .int .i64 X'] ∧ Blk wx w.heap.size 227 #[.bool false, .string ⟨#[]⟩, .int .i64 0] ∧ Below w.heap.size w wx)
        case first =>
          by_cases hp : c = 46
          · have hp2 : (((c.toNat : Nat) : Int) == 46) = true := by rw [hp]; decide
            have hnx2 : Hid (fold1 (M.take (j + 1)) = (true, d.data.toList, X)) := by unfold Hid; rw [hnx.out, hp]; rfl
            clear hp k2 hnx
            go_wp2_with fail
            go_meet
            exact ⟨true, d, X, rfl, hnx2, hNr, hRr, hBr⟩
          · have hp2 : (((c.toNat : Nat) : Int) == 46) = false := by rw [show (46 : Int) = ((46 : Nat) : Int) from rfl, byte_eq c 46 (by omega)]; simpa using hp
            have hD : isD c = true := by rcases k2 with h | h; exact absurd h hp; exact h
            cases P with
            | true =>
              by_cases hq : d.data.toList = [] ∧ c = 48
              · obtain ⟨hq1, hq2⟩ := hq
                have hde := empty_of d hq1
                subst hde
                have h48 : (((c.toNat : Nat) : Int) != 48) = false := by rw [hq2]; decide
                have hnx2 : Hid (fold1 (M.take (j + 1)) = (true, ByteArray.empty.data.toList, X - 1)) := by unfold Hid; rw [hnx.out]; simp [step1, hq2]
                clear hp k2 hnx hD hq1 hq2
                go_wp2_with fail
                go_meet
                exact ⟨true, ByteArray.empty, X - 1, rfl, hnx2, hNr.set_ 2 _, hRr.far (by simp) _, hBr.setCell (by simp) _⟩
              · have hq' : d.data.toList ≠ [] ∨ c ≠ 48 := by
                  by_cases h : d.data.toList = []
                  · exact .inr fun h2 => hq ⟨h, h2⟩
                  · exact .inl h
                have hsl : (d ++ s.extract (b0 + j) (b0 + j + 1)).data.toList = d.data.toList ++ [c] := by
                  rw [data_append, data_extract, drop_data s _ hlt2, hsc, Nat.add_sub_cancel_left]; rfl
                have hnx2 : Hid (fold1 (M.take (j + 1)) = (true, (d ++ s.extract (b0 + j) (b0 + j + 1)).data.toList, X - 1)) := by
                  unfold Hid; rw [hnx.out, hsl]
                  simp only [step1, hp, if_false]
                  rw [if_neg hq]; rfl
                have hcat : d.size + 1 ≤ 9223372036854775807 := by omega
                clear hp k2 hnx hD hq hsl
                by_cases hde : d = ByteArray.empty
                · have h48 : (((c.toNat : Nat) : Int) != 48) = true := by
                    rcases hq' with h | h
                    · exact absurd (by rw [hde]; rfl) h
                    · rw [show (48 : Int) = ((48 : Nat) : Int) from rfl, bne, byte_eq c 48 (by omega)]; simpa using h
                  subst hde
                  have hnx3 : Hid (fold1 (M.take (j + 1)) = (true, (s.extract (b0 + j) (b0 + j + 1)).data.toList, X - 1)) := by
                    have := hnx2.out; rw [ByteArray.empty_append] at this; exact this
                  clear hq' hnx2
                  go_wp2_with fail
                  have hw1 : IntKind.i64.wrap ((b0 : Int) + (j : Int) + 1) = (b0 : Int) + (j : Int) + 1 := IntWalk.i64_in _ (by omega)
                  have hw2 : ((b0 : Int) + (j : Int) + 1).toNat = b0 + j + 1 := by omega
                  have hw3 : ((b0 : Int) + (j : Int)).toNat = b0 + j := by omega
                  have hw4 : 0 ≤ (b0 : Int) + (j : Int) + 1 := by omega
                  have hw5 : 0 ≤ (b0 : Int) + (j : Int) := by omega
                  have hw6 : b0 + j + 1 ≤ s.size := by omega
                  have hw7 : (b0 : Int) + (j : Int) + 1 ≤ (s.size : Int) := by omega
                  go_region_with (fail)
                  all_goals
                    clear hw1 hw2 hw3 hw4 hw5 hw6 hw7
                    go_wp2_with fail
                    go_meet
                    exact ⟨true, s.extract (b0 + j) (b0 + j + 1), X - 1, rfl, hnx3, (hNr.set_ 2 _).set_ 1 _, (hRr.far (by simp) _).far (by simp) _, ((hBr.setCell (by simp) _).setCell (by simp) _).drew⟩
                · clear hq'
                  have hpos : 0 < d.size := size_pos d hde
                  go_wp2_with fail
                  have hw1 : IntKind.i64.wrap ((b0 : Int) + (j : Int) + 1) = (b0 : Int) + (j : Int) + 1 := IntWalk.i64_in _ (by omega)
                  have hw2 : ((b0 : Int) + (j : Int) + 1).toNat = b0 + j + 1 := by omega
                  have hw3 : ((b0 : Int) + (j : Int)).toNat = b0 + j := by omega
                  have hw4 : 0 ≤ (b0 : Int) + (j : Int) + 1 := by omega
                  have hw5 : 0 ≤ (b0 : Int) + (j : Int) := by omega
                  have hw6 : b0 + j + 1 ≤ s.size := by omega
                  have hw7 : (b0 : Int) + (j : Int) + 1 ≤ (s.size : Int) := by omega
                  have hw8 : ¬ 9223372036854775807 < d.size + (s.extract (b0 + j) (b0 + j + 1)).size := by rw [ByteArray.size_extract]; omega
                  have hw9 : ¬ 9223372036854775807 < d.size + (min (b0 + j + 1) s.size - (b0 + j)) := by omega
                  go_region_with (fail)
                  all_goals
                    clear hw1 hw2 hw3 hw4 hw5 hw6 hw7
                    go_wp2_with fail
                    go_meet
                    exact ⟨true, d ++ s.extract (b0 + j) (b0 + j + 1), X - 1, rfl, hnx2, (hNr.set_ 2 _).set_ 1 _, (hRr.far (by simp) _).far (by simp) _, ((hBr.setCell (by simp) _).setCell (by simp) _).drew⟩
            | false =>
              by_cases hq : d.data.toList = [] ∧ c = 48
              · obtain ⟨hq1, hq2⟩ := hq
                have hde := empty_of d hq1
                subst hde
                have h48 : (((c.toNat : Nat) : Int) != 48) = false := by rw [hq2]; decide
                have hnx2 : Hid (fold1 (M.take (j + 1)) = (false, ByteArray.empty.data.toList, X)) := by unfold Hid; rw [hnx.out]; simp [step1, hq2]
                clear hp k2 hnx hD hq1 hq2
                go_wp2_with fail
                go_meet
                exact ⟨false, ByteArray.empty, X, rfl, hnx2, hNr, hRr, hBr⟩
              · have hq' : d.data.toList ≠ [] ∨ c ≠ 48 := by
                  by_cases h : d.data.toList = []
                  · exact .inr fun h2 => hq ⟨h, h2⟩
                  · exact .inl h
                have hsl : (d ++ s.extract (b0 + j) (b0 + j + 1)).data.toList = d.data.toList ++ [c] := by
                  rw [data_append, data_extract, drop_data s _ hlt2, hsc, Nat.add_sub_cancel_left]; rfl
                have hnx2 : Hid (fold1 (M.take (j + 1)) = (false, (d ++ s.extract (b0 + j) (b0 + j + 1)).data.toList, X)) := by
                  unfold Hid; rw [hnx.out, hsl]
                  simp only [step1, hp, if_false]
                  rw [if_neg hq]; rfl
                have hcat : d.size + 1 ≤ 9223372036854775807 := by omega
                clear hp k2 hnx hD hq hsl
                by_cases hde : d = ByteArray.empty
                · have h48 : (((c.toNat : Nat) : Int) != 48) = true := by
                    rcases hq' with h | h
                    · exact absurd (by rw [hde]; rfl) h
                    · rw [show (48 : Int) = ((48 : Nat) : Int) from rfl, bne, byte_eq c 48 (by omega)]; simpa using h
                  subst hde
                  have hnx3 : Hid (fold1 (M.take (j + 1)) = (false, (s.extract (b0 + j) (b0 + j + 1)).data.toList, X)) := by
                    have := hnx2.out; rw [ByteArray.empty_append] at this; exact this
                  clear hq' hnx2
                  go_wp2_with fail
                  have hw1 : IntKind.i64.wrap ((b0 : Int) + (j : Int) + 1) = (b0 : Int) + (j : Int) + 1 := IntWalk.i64_in _ (by omega)
                  have hw2 : ((b0 : Int) + (j : Int) + 1).toNat = b0 + j + 1 := by omega
                  have hw3 : ((b0 : Int) + (j : Int)).toNat = b0 + j := by omega
                  have hw4 : 0 ≤ (b0 : Int) + (j : Int) + 1 := by omega
                  have hw5 : 0 ≤ (b0 : Int) + (j : Int) := by omega
                  have hw6 : b0 + j + 1 ≤ s.size := by omega
                  have hw7 : (b0 : Int) + (j : Int) + 1 ≤ (s.size : Int) := by omega
                  go_region_with (fail)
                  all_goals
                    clear hw1 hw2 hw3 hw4 hw5 hw6 hw7
                    go_wp2_with fail
                    go_meet
                    exact ⟨false, s.extract (b0 + j) (b0 + j + 1), X, rfl, hnx3, hNr.set_ 1 _, hRr.far (by simp) _, (hBr.setCell (by simp) _).drew⟩
                · clear hq'
                  have hpos : 0 < d.size := size_pos d hde
                  go_wp2_with fail
                  have hw1 : IntKind.i64.wrap ((b0 : Int) + (j : Int) + 1) = (b0 : Int) + (j : Int) + 1 := IntWalk.i64_in _ (by omega)
                  have hw2 : ((b0 : Int) + (j : Int) + 1).toNat = b0 + j + 1 := by omega
                  have hw3 : ((b0 : Int) + (j : Int)).toNat = b0 + j := by omega
                  have hw4 : 0 ≤ (b0 : Int) + (j : Int) + 1 := by omega
                  have hw5 : 0 ≤ (b0 : Int) + (j : Int) := by omega
                  have hw6 : b0 + j + 1 ≤ s.size := by omega
                  have hw7 : (b0 : Int) + (j : Int) + 1 ≤ (s.size : Int) := by omega
                  have hw8 : ¬ 9223372036854775807 < d.size + (s.extract (b0 + j) (b0 + j + 1)).size := by rw [ByteArray.size_extract]; omega
                  have hw9 : ¬ 9223372036854775807 < d.size + (min (b0 + j + 1) s.size - (b0 + j)) := by omega
                  go_region_with (fail)
                  all_goals
                    clear hw1 hw2 hw3 hw4 hw5 hw6 hw7
                    go_wp2_with fail
                    go_meet
                    exact ⟨false, d ++ s.extract (b0 + j) (b0 + j + 1), X, rfl, hnx2, hNr.set_ 1 _, hRr.far (by simp) _, (hBr.setCell (by simp) _).drew⟩
        case rest =>
        obtain ⟨P', d', X', rfl, hnx2, hNr, hRr, hBr⟩ := hcut
        clear hnx n1 n2 nf1 nf2 hsc e1 e2 k2
        go_wp2_with fail
        go_roundw
        case rel => exact ⟨j + 1, P', d', X', by omega, by go_num, rfl, hnx2, hNr, hRr, hBr⟩
        case measure => simp [intOf]; omega
      · have hjM : j = M.length := by omega
        have hf2 : fold1 (M.take j) = (pt, ltrim (I ++ F), -(F.length : Int)) := by rw [hjM, List.take_length]; exact HF1.out
        have hf3 := hf.out
        rw [hf2] at hf3
        injection hf3 with q1 hf3
        injection hf3 with q2 q3
        have HQ2 : Hid (d.data.toList = ltrim (I ++ F)) := q2.symm
        have HPQ : Hid (P = pt) := q1.symm
        have HX : Hid (X = -(F.length : Int)) := q3.symm
        have HJ := Lib.hid hjM
        clear hf hf2 q1 q2 q3 hjM
        cases ex with
        | no =>
          have hend : b0 + j = s.size := by rw [Lib.size_eq, HLM.out, Hb0.out, HJ.out]; simp [Ex.text]
          have hend2 : (s.size : Int) ≤ (b0 : Int) + (j : Int) := by omega
          go_wp2_with fail
          go_meet
          exact ⟨d, by first | (rw [← HJ.out]; done) | (rw [← HJ.out]; go_num), by rw [HPQ.out], HQ2, by rw [← HX.out]; exact hNr, hRr, hBr⟩
        | some e sg X0 =>
          have hl2 : b0 + j < s.size := by rw [Lib.size_eq, HLM.out, Hb0.out, HJ.out]; simp [Ex.text] <;> omega
          have he : s[b0 + j] = e := get_at s _ HLM.out _ hl2 e (by rw [Hb0.out, HJ.out, List.getElem?_append_right (by omega), Nat.add_sub_cancel_left, List.getElem?_append_right (by omega), Nat.sub_self]; rfl)
          have hE := hHG.out.exOk.1
          have hx := isE_nat e
          rw [hE] at hx
          by_cases e101 : (((e.toNat : Nat) : Int) != 101) = true
          · have e69 : (((e.toNat : Nat) : Int) != 69) = false := by rw [e101] at hx; simpa using hx
            clear hx hE
            go_wp2_with fail
            go_meet
            exact ⟨d, by first | (rw [← HJ.out]; done) | (rw [← HJ.out]; go_num), by rw [HPQ.out], HQ2, by rw [← HX.out]; exact hNr, hRr, hBr⟩
          · have e101' : (((e.toNat : Nat) : Int) != 101) = false := by simpa using e101
            clear hx hE e101
            go_wp2_with fail
            go_meet
            exact ⟨d, by first | (rw [← HJ.out]; done) | (rw [← HJ.out]; go_num), by rw [HPQ.out], HQ2, by rw [← HX.out]; exact hNr, hRr, hBr⟩
  case rest =>
  obtain ⟨d0, rfl, rfl, HD0, hN, hR, hB⟩ := hcut
  obtain ⟨T, hT⟩ : ∃ T, T = ex.tail := ⟨_, rfl⟩
  have HTat : Hid (∀ j, j < T.length → ∃ c, T[j]? = some c ∧ b0 + M.length + 1 + j < s.size ∧ ∀ (h : b0 + M.length + 1 + j < s.size), s[b0 + M.length + 1 + j] = c) := by
    intro j hj
    cases ex with
    | no => rw [hT] at hj; simp [Ex.tail] at hj
    | some e sg X0 =>
      have hT2 : T = sg ++ X0 := hT
      have hlen : b0 + M.length + 1 + T.length = s.size := by rw [Lib.size_eq, HLM.out, Hb0.out, hT2]; simp [Ex.text]; omega
      refine ⟨T[j], List.getElem?_eq_getElem hj, by omega, fun h => ?_⟩
      refine get_at s _ HLM.out _ h _ ?_
      have e2 : sgText neg ++ (M ++ (Ex.some e sg X0).text) = (sgText neg ++ (M ++ [e])) ++ T := by rw [hT2]; simp [Ex.text]
      have e3 : b0 + M.length + 1 = (sgText neg ++ (M ++ [e])).length := by rw [Hb0.out]; simp; omega
      rw [e2, e3, List.getElem?_append_right (by omega), Nat.add_sub_cancel_left, List.getElem?_eq_getElem hj]
  have HTend : Hid (s.size ≤ b0 + M.length + 1 + T.length) := by
    unfold Hid
    cases ex with
    | no => rw [Lib.size_eq, HLM.out, Hb0.out]; simp [Ex.text]; omega
    | some e sg X0 =>
      have hT2 : T = sg ++ X0 := hT
      rw [Lib.size_eq, HLM.out, Hb0.out, hT2]; simp [Ex.text]; omega
  have HV : Hid (xs = if (fold2 T).1 then -((fold2 T).2 : Int) else ((fold2 T).2 : Int)) := by
    unfold Hid
    rw [HXS.out]
    cases ex with
    | no => rw [hT]; simp [Ex.tail, Ex.val, fold2]
    | some e sg X0 =>
      have hT2 : T = sg ++ X0 := hT
      rw [hT2, fold2_all sg X0 hHG.out.exOk.2.1 hHG.out.exOk.2.2.2]
      simp only [Ex.val, decide_eq_true_eq]
  have hFs : F.length ≤ s.size := by
    have h1 : M.length = I.length + (ptText pt F).length := by rw [HMl.out, List.length_append]
    have h2 : F.length ≤ (ptText pt F).length := by
      cases hp : pt with
      | true => simp [ptText]
      | false => rw [hHG.out.fNo hp]; simp
    omega
  have HTT := Lib.hid hT
  clear hT
  go_upto_block 2 with fail
  go_cut [5, 7, 8] (fun i b dn wx => (∃ v, i = .int .i64 v) ∧ b = .int .i64 ((fold2 T).2 : Nat) ∧ dn = .bool (fold2 T).1 ∧ wc = wx)
  case first =>
    go_wp2_with fail
    go_loop [5, 7, 8] (fun i b dn => ∃ j : Nat, j ≤ T.length ∧ i = .int .i64 ((b0 + M.length + 1 + j : Nat) : Int) ∧ b = .int .i64 ((fold2 (T.take j)).2 : Nat) ∧ dn = .bool (fold2 (T.take j)).1) (fun i _ _ => T.length + b0 + M.length + 1 - (intOf i).toNat)
    case atStart => exact ⟨0, Nat.zero_le _, by go_num, rfl, rfl⟩
    case round =>
      obtain ⟨j, hj, rfl, rfl, rfl⟩ := hrel
      have hbd := fold2_bd (T.take j)
      by_cases hlt : j < T.length
      · obtain ⟨c, hc1, hlt2, hc2⟩ := HTat.out j hlt
        have hsc := hc2 hlt2
        have hlt3 : ((b0 : Int) + (M.length : Int) + 1 + (j : Int)) < (s.size : Int) := by omega
        have hnx : Hid (fold2 (T.take (j + 1)) = step2 (fold2 (T.take j)) c) := by
          unfold Hid
          have e : T.take (j + 1) = T.take j ++ [c] := by
            rw [List.take_succ_eq_append_getElem hlt]
            rw [List.getElem?_eq_getElem hlt] at hc1
            injection hc1 with hc1
            rw [hc1]
          rw [e, fold2_snoc]
        have hhd : Hid (hd (s.data.toList.drop (b0 + M.length + 1 + j)) = isD c) := by
          unfold Hid; rw [hd_drop s _ hlt2, hsc]
        obtain ⟨DN, V, hst⟩ : ∃ DN V, fold2 (T.take j) = (DN, V) := ⟨_, _, rfl⟩
        rw [hst] at hnx hbd ⊢
        dsimp only at hbd ⊢
        obtain ⟨v, hv⟩ : ∃ v : Int, v = (V : Int) := ⟨_, rfl⟩
        rw [← hv]
        have hbdi : v ≤ 20000000000 := by omega
        have hbd0 : 0 ≤ v := by omega
        have Hv := Lib.hid hv
        clear hst hc1 hc2 hbd hv
        go_upto_block 3 with fail
        go_cut [7, 8] (fun b dn wx => b = .int .i64 ((fold2 (T.take (j + 1))).2 : Nat) ∧ dn = .bool (fold2 (T.take (j + 1))).1 ∧ wc = wx)
        case first =>
          by_cases hc45 : c = 45
          · have h45 : (((c.toNat : Nat) : Int) == 45) = true := by rw [hc45]; decide
            have hst : Hid (fold2 (T.take (j + 1)) = (true, V)) := by unfold Hid; rw [hnx.out]; rw [hc45]; simp [step2, isD]
            have hdd : Hid (isD c = false) := by unfold Hid; rw [hc45]; decide
            clear hc45 hnx
            go_wp2_with fail
            refine (digit_any s (b0 + M.length + 1 + j) _).mono ?_
            rw [hhd.out, hdd.out]
            rintro e w' ⟨rfl, rfl⟩
            go_wp2_with fail
            go_meet
            exact ⟨by rw [hst.out, Hv.out], by rw [hst.out], rfl⟩
          · have h45 : (((c.toNat : Nat) : Int) == 45) = false := by rw [show (45 : Int) = ((45 : Nat) : Int) from rfl, byte_eq c 45 (by omega)]; simpa using hc45
            have hb45 : (c == 45) = false := by simpa using hc45
            cases hD : isD c with
            | false =>
              have hst : Hid (fold2 (T.take (j + 1)) = (DN, V)) := by unfold Hid; rw [hnx.out]; simp [step2, hb45, hD]
              have hdd := Lib.hid hD
              clear hc45 hb45 hD hnx
              go_wp2_with fail
              refine (digit_any s (b0 + M.length + 1 + j) _).mono ?_
              rw [hhd.out, hdd.out]
              rintro e w' ⟨rfl, rfl⟩
              go_wp2_with fail
              go_meet
              exact ⟨by rw [hst.out, Hv.out], by rw [hst.out], rfl⟩
            | true =>
              obtain ⟨d1, d2⟩ := digit_bd c hD
              have hdd := Lib.hid hD
              by_cases hVi : v ≤ 999999999
              · have hst : Hid (fold2 (T.take (j + 1)) = (DN, V * 10 + (c.toNat - 48))) := by
                  have hV : V < 1000000000 := by have := Hv.out; omega
                  unfold Hid; rw [hnx.out]; simp [step2, hb45, hD, hV]
                clear hc45 hb45 hD hnx
                go_wp2_with fail
                refine (digit_any s (b0 + M.length + 1 + j) _).mono ?_
                rw [hhd.out, hdd.out]
                rintro e w' ⟨rfl, rfl⟩
                go_wp2_with fail
                go_meet
                exact ⟨by rw [hst.out, Hv.out]; congr 1; dsimp only; omega, by rw [hst.out], rfl⟩
              · have hst : Hid (fold2 (T.take (j + 1)) = (DN, V)) := by
                  have hV : ¬ V < 1000000000 := by have := Hv.out; omega
                  unfold Hid; rw [hnx.out]; simp [step2, hb45, hV]
                have hVj : 1000000000 ≤ v := by omega
                clear hVi
                clear hc45 hb45 hD hnx
                go_wp2_with fail
                refine (digit_any s (b0 + M.length + 1 + j) _).mono ?_
                rw [hhd.out, hdd.out]
                rintro e w' ⟨rfl, rfl⟩
                go_wp2_with fail
                go_meet
                exact ⟨by rw [hst.out, Hv.out], by rw [hst.out], rfl⟩
        case rest =>
        obtain ⟨rfl, rfl, rfl⟩ := hcut
        clear hnx hhd hsc
        go_wp2_with fail
        go_round
        case rel => exact ⟨j + 1, by omega, by go_num, rfl, rfl⟩
        case measure => simp [intOf]; omega
      · have hjT : j = T.length := by omega
        have hjj : T.take j = T := by rw [hjT, List.take_length]
        rw [hjj]
        have hend := HTend.out
        have hend2 : (s.size : Int) ≤ (b0 : Int) + (M.length : Int) + 1 + (j : Int) := by omega
        clear hjT hjj
        go_wp2_with fail
        go_meet
        exact ⟨⟨_, rfl⟩, rfl, rfl, rfl⟩
  case rest =>
  obtain ⟨⟨_, rfl⟩, rfl, rfl, rfl⟩ := hcut
  have hVb := fold2_bd T
  obtain ⟨DN, V, hst⟩ : ∃ DN V, fold2 T = (DN, V) := ⟨_, _, rfl⟩
  rw [hst] at hVb ⊢
  have hV2 := HV.out
  rw [hst] at hV2
  dsimp only at hVb hV2 ⊢
  have HV2 := Lib.hid hV2
  clear hst hV2 HV HTat HTend
  go_upto_if 98 with fail
  go_cut [7] (fun b wx => b = .int .i64 xs ∧ wc = wx)
  case first =>
    cases DN with
    | true =>
      have hx : Hid (xs = -(V : Int)) := HV2.out
      go_wp2_with fail
      go_meet
      exact ⟨by rw [hx.out], rfl⟩
    | false =>
      have hx : Hid (xs = (V : Int)) := HV2.out
      go_wp2_with fail
      go_meet
      exact ⟨by rw [hx.out], rfl⟩
  case rest =>
  obtain ⟨rfl, rfl⟩ := hcut
  have hxb : -20000000000 ≤ xs ∧ xs ≤ 20000000000 := by
    have := HV2.out
    cases DN <;> simp at this <;> omega
  obtain ⟨hxb1, hxb2⟩ := hxb
  clear HV2 hVb
  have n2 := hN.cell 2
  have nf2 := hN.frozen 2
  simp only [List.getElem?_toArray, List.getElem?_cons_succ, List.getElem?_cons_zero] at n2
  obtain ⟨x0, hx0⟩ : ∃ x0 : Int, x0 = -(F.length : Int) + xs := ⟨_, rfl⟩
  have HX0 := Lib.hid hx0
  have hx0a : -30000000000 ≤ x0 := by omega
  have hx0b : x0 ≤ 30000000000 := by omega
  clear hx0
  have hds : d0.size ≤ 100000 := by
    rw [Lib.size_eq, HD0.out]
    have h1 := ltrim_le (I ++ F)
    have h2 : M.length = I.length + (ptText pt F).length := by rw [HMl.out, List.length_append]
    have h3 : F.length ≤ (ptText pt F).length := by
      cases hp : pt with
      | true => simp [ptText]
      | false => rw [hHG.out.fNo hp]; simp
    rw [List.length_append] at h1
    omega
  go_upto_block 4 with fail
  obtain ⟨w4, hw4⟩ : ∃ w4, w4 = wc.setCell ⟨w.heap.size + 1, 2, none⟩ (.int .i64 (-(F.length : Int) + xs)) := ⟨_, rfl⟩
  rw [← hw4]
  have hB4 : Below w.heap.size w w4 := by rw [hw4]; exact hB.setCell (by simp) _
  have hN4 : Blk w4 (w.heap.size + 1) 227 #[.bool neg, .string d0, .int .i64 x0] := by rw [hw4, HX0.out]; exact hN.set_ 2 _
  have hR4 : Blk w4 w.heap.size 227 #[.bool false, .string ⟨#[]⟩, .int .i64 0] := by rw [hw4]; exact hR.far (by simp) _
  clear hw4 hB hN hR n2 nf2
  go_cut [] (fun wx => ∃ d : ByteArray, Hid (d.data.toList = rtrim (ltrim (I ++ F))) ∧ d.size ≤ d0.size ∧ Blk wx (w.heap.size + 1) 227 #[.bool neg, .string d, .int .i64 (x0 + (d0.size - d.size))] ∧ Blk wx w.heap.size 227 #[.bool false, .string ⟨#[]⟩, .int .i64 0] ∧ Below w.heap.size w wx)
  case first =>
    go_wp2_with fail
    go_loopg [] d0.size (fun g wr => ∃ d : ByteArray, g = d.size ∧ Hid (rtrim d.data.toList = rtrim (ltrim (I ++ F))) ∧ d.size ≤ d0.size ∧ Blk wr (w.heap.size + 1) 227 #[.bool neg, .string d, .int .i64 (x0 + (d0.size - d.size))] ∧ Blk wr w.heap.size 227 #[.bool false, .string ⟨#[]⟩, .int .i64 0] ∧ Below w.heap.size w wr)
    case atStart => exact ⟨d0, rfl, by unfold Hid; rw [HD0.out], Nat.le_refl _, by simpa using hN4, hR4, hB4⟩
    case round =>
      obtain ⟨d, rfl, hd, hdl, hNr, hRr, hBr⟩ := hrel
      have n1 := hNr.cell 1
      have n2 := hNr.cell 2
      have nf1 := hNr.frozen 1
      have nf2 := hNr.frozen 2
      simp only [List.getElem?_toArray, List.getElem?_cons_succ, List.getElem?_cons_zero] at n1 n2
      by_cases hde : d = ByteArray.empty
      · subst hde
        have hdn : Hid (ByteArray.empty.data.toList = rtrim (ltrim (I ++ F))) := by unfold Hid; rw [← hd.out]; rfl
        go_wp2_with fail
        go_meet
        exact ⟨_, hdn, hdl, hNr, hRr, hBr⟩
      · have hpos := size_pos d hde
        have hlast := rtrim_last d.data.toList _ (get_last d hpos)
        cases h48 : (((d[d.size - 1].toNat : Nat) : Int) == 48) with
        | true =>
          have hc : d[d.size - 1] = 48 := by have := byte_eq d[d.size - 1] 48 (by omega); rw [show ((48 : Nat) : Int) = 48 from rfl, h48] at this; simpa using this.symm
          have hdx : (d.extract 0 (d.size - 1)).data.toList = d.data.toList.take (d.data.toList.length - 1) := by rw [data_extract, ← Lib.size_eq]; simp
          have hdn : Hid (rtrim (d.extract 0 (d.size - 1)).data.toList = rtrim (ltrim (I ++ F))) := by
            unfold Hid; rw [hdx, ← hd.out, hlast, if_pos hc]
          have hsz : (d.extract 0 (d.size - 1)).size = d.size - 1 := by rw [ByteArray.size_extract]; omega
          have HSZ := Lib.hid hsz
          clear hlast hc hdx hd hsz
          go_wp2_with fail
          go_roundg (d.size - 1)
          case measure => omega
          case rel =>
            refine ⟨d.extract 0 (d.size - 1), by rw [HSZ.out], hdn, by rw [HSZ.out]; omega, ?_, (hRr.far (by simp) _).far (by simp) _, (hBr.setCell (by simp) _).setCell (by simp) _⟩
            have := (hNr.set_ 1 (.string (d.extract 0 (d.size - 1)))).set_ 2 (.int .i64 (x0 + (d0.size - d.size) + 1))
            rw [HSZ.out]
            rw [show (x0 + ((d0.size : Int) - ((d.size - 1 : Nat) : Int))) = x0 + (d0.size - d.size) + 1 by omega]
            exact this
        | false =>
          have hc : d[d.size - 1] ≠ 48 := by have := byte_eq d[d.size - 1] 48 (by omega); rw [show ((48 : Nat) : Int) = 48 from rfl, h48] at this; simpa using this.symm
          have hdn : Hid (d.data.toList = rtrim (ltrim (I ++ F))) := by
            unfold Hid; rw [← hd.out, hlast, if_neg hc]
          clear hlast hc hd
          go_wp2_with fail
          go_meet
          exact ⟨_, hdn, hdl, hNr, hRr, hBr⟩
  case rest =>
  clear hB4 hN4 hR4
  obtain ⟨dd, Hdd, hdds, hN, hR, hB⟩ := hcut
  have r0 := hR.cell 0
  have r1 := hR.cell 1
  have r2 := hR.cell 2
  have rf0 := hR.frozen 0
  have rf1 := hR.frozen 1
  have rf2 := hR.frozen 2
  have n0 := hN.cell 0
  have n1 := hN.cell 1
  have n2 := hN.cell 2
  simp only [List.getElem?_toArray, List.getElem?_cons_succ, List.getElem?_cons_zero] at r0 r1 r2 n0 n1 n2
  have hfin : Hid (fin neg (I ++ F) x0 = if dd.data.toList = [] then (zero, 0) else if right ⟨neg, dd.data.toList, x0 + (d0.size - dd.size)⟩ then (⟨neg, dd.data.toList, x0 + (d0.size - dd.size)⟩, 0) else (zero, 4)) := by
    unfold Hid fin; rw [Hdd.out, Lib.size_eq, Lib.size_eq, Hdd.out, HD0.out]
  by_cases hD : dd.size = 0
  · have hD' : dd.data.toList = [] := List.length_eq_zero_iff.1 (by rw [← Lib.size_eq]; exact hD)
    have hf2 := hfin.out
    rw [if_pos hD'] at hf2
    have HF2 := Lib.hid hf2
    have hde := empty_of dd hD'
    have HRF := Lib.hid (((hR.set_ 0 (.bool false)).set_ 1 (.string ⟨#[]⟩)).set_ 2 (.int .i64 0))
    subst hde
    clear hfin hf2 hD hD'
    go_wp2_with fail
    refine bodyPost_ret (v := .tuple #[nv zero, .int .i64 0]) (by obtain ⟨a, b, c⟩ := res_cells HRF.out; simp [results, Tryz.results215, go_sem, nv, zero, a, b, c]) rfl ⟨by rw [← HXS.out, ← HX0.out, HF2.out], ?_⟩
    repeat (first | exact hB | refine Below.setCell ?_ (by simp) _)
  · have hD' : dd.data.toList ≠ [] := fun h => hD (by rw [Lib.size_eq, h]; rfl)
    have hf2 := hfin.out
    rw [if_neg hD'] at hf2
    have HF2 := Lib.hid hf2
    have hsz0 : (((dd.size : Nat) : Int) == 0) = false := by rw [beq_eq_false_iff_ne]; omega
    clear hfin hf2 hD hD'
    go_wp2_with fail
    refine (rright_any neg dd (x0 + (d0.size - dd.size)) _ (by omega)).mono ?_
    generalize right ⟨neg, dd.data.toList, x0 + (d0.size - dd.size)⟩ = RR at HF2
    rintro e1 w8 ⟨rfl, hb⟩
    have hb8 : Below w.heap.size w w8 := hB.trans (hb.mono hB.size)
    have hR8 := hR.below hb hR.lt
    have hN8 := hN.below hb hN.lt
    clear hb hB hR hN r0 r1 r2 rf0 rf1 rf2 n0 n1 n2
    have r0 := hR8.cell 0
    have r1 := hR8.cell 1
    have r2 := hR8.cell 2
    have rf0 := hR8.frozen 0
    have rf1 := hR8.frozen 1
    have rf2 := hR8.frozen 2
    have n0 := hN8.cell 0
    have n1 := hN8.cell 1
    have n2 := hN8.cell 2
    simp only [List.getElem?_toArray, List.getElem?_cons_succ, List.getElem?_cons_zero] at r0 r1 r2 n0 n1 n2
    cases RR with
    | false =>
      have HF3 : Hid (fin neg (I ++ F) x0 = (zero, 4)) := by have := HF2.out; rw [if_neg (by simp)] at this; exact this
      clear HF2
      go_wp2_with fail
      have hRF : Blk (((w8.setCell ⟨w.heap.size, 0, none⟩ (.bool false)).setCell ⟨w.heap.size, 1, none⟩ (.string ⟨#[]⟩)).setCell ⟨w.heap.size, 2, none⟩ (.int .i64 0)) w.heap.size 227 #[.bool false, .string ⟨#[]⟩, .int .i64 0] := ((hR8.set_ 0 _).set_ 1 _).set_ 2 _
      refine bodyPost_ret (v := .tuple #[nv zero, .int .i64 4]) (by obtain ⟨a, b, c⟩ := res_cells hRF; simp [results, Tryz.results215, go_sem, nv, zero, a, b, c]) rfl ⟨by rw [← HXS.out, ← HX0.out, HF3.out], ?_⟩
      repeat (first | exact hb8 | refine Below.setCell ?_ (by simp) _)
    | true =>
      have HF3 : Hid (fin neg (I ++ F) x0 = (⟨neg, dd.data.toList, x0 + (d0.size - dd.size)⟩, 0)) := by have := HF2.out; rw [if_pos rfl] at this; exact this
      clear HF2
      go_wp2_with fail
      have hRF : Blk (((w8.setCell ⟨w.heap.size, 0, none⟩ (.bool neg)).setCell ⟨w.heap.size, 1, none⟩ (.string dd)).setCell ⟨w.heap.size, 2, none⟩ (.int .i64 (x0 + (d0.size - dd.size)))) w.heap.size 227 #[.bool neg, .string dd, .int .i64 (x0 + (d0.size - dd.size))] := ((hR8.set_ 0 _).set_ 1 _).set_ 2 _
      refine bodyPost_ret (v := .tuple #[.agg #[.bool neg, .string dd, .int .i64 (x0 + (d0.size - dd.size))], .int .i64 0]) (by obtain ⟨a, b, c⟩ := res_cells hRF; simp [results, Tryz.results215, go_sem, a, b, c]) rfl ⟨by rw [← HXS.out, ← HX0.out, HF3.out]; dsimp only [nv], ?_⟩
      repeat (first | exact hb8 | refine Below.setCell ?_ (by simp) _)
end Go.Proofs.YtdfihhebgllpcaaGreatDoor

/- num.Parse, the reference's Parse, whatever the text is. -/
namespace Go.Proofs.YtdfihhebgllpcaaGreatDoor
open Go.RowKit Go.Proofs.NumPlain

/-- What a text's number is, and the error's number. -/
def Parsed (l : List UInt8) (r : Nm × Int) : Prop :=
  ((l = [] ∨ NumPlain.scan l ≠ l.length) ∧ r = (zero, 3)) ∨
  ∃ (neg : Bool) (I : List UInt8) (pt : Bool) (F : List UInt8) (ex : Ex), NumPlain.Good I pt F ex ∧ l = render neg I pt F ex ∧ NumPlain.scan l = l.length ∧ r = fin neg (I ++ F) (-(F.length : Int) + ex.val valP)
theorem parsed_ex (l : List UInt8) : ∃ r, Parsed l r := by
  by_cases h : l = [] ∨ NumPlain.scan l ≠ l.length
  · exact ⟨_, .inl ⟨h, rfl⟩⟩
  · have hn : l ≠ [] := fun e => h (.inl e)
    have hs : NumPlain.scan l = l.length := Classical.byContradiction fun e => h (.inr e)
    obtain ⟨neg, I, pt, F, ex, hg, hl⟩ := apart l hn hs
    exact ⟨_, .inr ⟨neg, I, pt, F, ex, hg, hl, hs, rfl⟩⟩
theorem dfa_le (l : List UInt8) : ∀ q p e, e ≤ p → dfa q p e l ≤ p + l.length := by
  induction l with
  | nil => intro q p e h; exact h
  | cons c r ih =>
    intro q p e h
    unfold dfa
    rw [List.length_cons]
    split
    · omega
    · split
      · omega
      · have := ih (nxt q (kind c).toNat) (p + 1) (if acc (nxt q (kind c).toNat) then p + 1 else e) (by split <;> omega)
        omega
theorem scan_le (l : List UInt8) : NumPlain.scan l ≤ l.length := by
  have := dfa_le l 0 0 0 (by omega)
  rw [dfa_scan] at this
  omega
theorem parse_all (s : ByteArray) (w : World) (r : Nm × Int) (h : Parsed s.data.toList r) (hs : s.size ≤ 100000) (hG : Glob w) :
    Calls Tryz.prog 208 #[.string s] w fun e w' => e = .returned (.tuple #[nv r.1, .int .i64 r.2]) ∧ Below w.heap.size w w' := by
  rcases h with ⟨h, rfl⟩ | ⟨neg, I, pt, F, ex, hg, hl, hsc, rfl⟩
  · refine parse_form s w (by omega) hG ?_
    rcases h with h | h
    · exact .inl h
    · right
      have := scan_le s.data.toList
      rw [Lib.size_eq]
      omega
  · exact parse_good s w neg I pt F ex hg hl hsc hs hG
theorem rparse_all (s : ByteArray) (w : World) (r : Nm × Int) (h : Parsed s.data.toList r) (hs : s.size ≤ 100000) :
    Calls Tryz.prog 215 #[.string s] w fun e w' => e = .returned (.tuple #[nv r.1, .int .i64 r.2]) ∧ Below w.heap.size w w' := by
  rcases h with ⟨h, rfl⟩ | ⟨neg, I, pt, F, ex, hg, hl, hsc, rfl⟩
  · exact rparse_form s w (by omega) (by rw [Lib.size_eq]; exact h)
  · have hlen : (I ++ F).length ≤ 100000 ∧ F.length ≤ 100000 := by
      rw [Lib.size_eq, hl] at hs
      have : F.length ≤ (ptText pt F).length := by
        cases pt with
        | true => simp [ptText]
        | false => rw [hg.fNo rfl]; simp
      simp only [render, List.length_append] at hs ⊢
      omega
    rw [fin_same neg (I ++ F) F.length ex hlen.1 hlen.2]
    exact rparse_good s w neg I pt F ex hg hl hsc hs
end Go.Proofs.YtdfihhebgllpcaaGreatDoor
