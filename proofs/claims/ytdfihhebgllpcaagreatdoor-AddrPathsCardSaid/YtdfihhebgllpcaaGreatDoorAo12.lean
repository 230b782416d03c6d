import Derived.Test.YtdfihhebgllpcaaGreatDoorAo11

/- The walk of num.Parse at a number's text. -/
namespace Go.Proofs.YtdfihhebgllpcaaGreatDoor
open Go.RowKit Go.Proofs.NumPlain

theorem res_cells {W : World} {g t : Nat} {v0 v1 v2 : Value} (h : Blk W g t #[v0, v1, v2]) : W.cell? ⟨g, 0, none⟩ = some v0 ∧ W.cell? ⟨g, 1, none⟩ = some v1 ∧ W.cell? ⟨g, 2, none⟩ = some v2 :=
  ⟨h.cell 0, h.cell 1, h.cell 2⟩
theorem valP_le (X : List UInt8) : valP X ≤ 1099511627776 := by rw [valP_eq]; omega
theorem digit_bd (c : UInt8) (h : isD c = true) : 48 ≤ c.toNat ∧ c.toNat ≤ 57 := by
  have := all_u8 (fun c => !isD c || (decide (48 ≤ c.toNat) && decide (c.toNat ≤ 57))) (by decide +kernel) c
  rw [h] at this
  simpa using this
theorem take_snoc (s : ByteArray) (k : Nat) (h : k < s.size) : s.data.toList.take (k + 1) = s.data.toList.take k ++ [s[k]] := by
  rw [List.take_succ_eq_append_getElem (by simpa using h)]; rfl

theorem ascii_dig (c : UInt8) (h : isD c = true) : c.toNat < 128 := by have := digit_bd c h; omega
theorem ascii_E (c : UInt8) (h : isE c = true) : c.toNat < 128 := by
  have := all_u8 (fun c => !isE c || decide (c.toNat < 128)) (by decide +kernel) c
  rw [h] at this
  simpa using this
theorem ascii_text (I : List UInt8) (pt : Bool) (F : List UInt8) (ex : Ex) (h : NumPlain.Good I pt F ex) : ∀ b ∈ I ++ (ptText pt F ++ ex.text), b.toNat < 128 := by
  intro b hb
  rcases List.mem_append.1 hb with hb | hb
  · exact ascii_dig b (h.iDig b hb)
  rcases List.mem_append.1 hb with hb | hb
  · unfold ptText at hb
    split at hb
    · rcases List.mem_cons.1 hb with rfl | hb
      · decide
      · exact ascii_dig b (h.fDig b hb)
    · simp at hb
  · have hx := h.exOk
    cases ex with
    | no => simp [Ex.text] at hb
    | some e sg X =>
      obtain ⟨he, hs, _, hX⟩ := hx
      rcases List.mem_cons.1 hb with rfl | hb
      · exact ascii_E b he
      rcases List.mem_append.1 hb with hb | hb
      · rcases hs with rfl | rfl | rfl
        · simp at hb
        · simp at hb; subst hb; decide
        · simp at hb; subst hb; decide
      · exact ascii_dig b (hX b hb)

set_option maxHeartbeats 8000000 in
set_option maxRecDepth 100000 in
theorem parse_no (s : ByteArray) (w : World) (neg : Bool) (I : List UInt8) (pt : Bool) (F : List UInt8) (ex : Ex) (hex : ex = .no) (hg : NumPlain.Good I pt F ex) (hl : s.data.toList = render neg I pt F ex) (hsc : NumPlain.scan s.data.toList = s.data.toList.length) (hs : s.size ≤ 100000) (hG : Glob w) :
    Calls Tryz.prog 208 #[.string s] w fun e w' => e = .returned (.tuple #[nv (fin neg (I ++ F) (-(F.length : Int) + ex.val valP)).1, .int .i64 (fin neg (I ++ F) (-(F.length : Int) + ex.val valP)).2]) ∧ Below w.heap.size w w' := by
  have hHG := Lib.hid hg
  have hsz : s.size = s.data.toList.length := Lib.size_eq s
  have hne : s.data.toList ≠ [] := by
    rw [hl]
    intro h
    have := congrArg List.length h
    simp [render] at this
    exact hg.iNe this.2.1
  have hemp : s.toList.isEmpty = false := by
    rw [isEmpty_iff]
    cases h : s.data.toList with
    | nil => exact absurd h hne
    | cons _ _ => rfl
  have hlen : I.length + F.length ≤ s.size := by
    rw [hsz, hl]
    cases pt <;> simp [render, ptText] <;> first | omega | (have := hg.fNo rfl; rw [this]; simp; omega)
  obtain ⟨hp1, hp2⟩ := cut_sign neg I pt F ex hg
  rw [← hl] at hp1 hp2
  have HP1 := Lib.hid hp1
  have HP2 := Lib.hid hp2
  clear hne hp1 hp2
  have HSC : Hid (NumPlain.scan s.data.toList = s.size) := by unfold Hid; omega
  have HS := Lib.hid hl
  clear hl hsc hsz hg
  have HG : Hid (Glob (w.alloc (.cells #[.bool false, .string ⟨#[]⟩, .int .i64 0] 227))) := hG.below ((Below.refl _ _).alloc (Nat.le_refl _) _)
  clear hG
  have hs' : s.size ≤ 9223372036854775807 := by omega
  obtain ⟨xs, hxs⟩ : ∃ xs : Int, xs = ex.val valP := ⟨_, rfl⟩
  rw [← hxs]
  have HXS := Lib.hid hxs
  clear hxs
  subst hex
  go_enter Tryz.func208, Tryz.ntmps208
  go_wp2_with fail
  refine (scan_any s _ hs' HG.out).mono ?_
  rw [HSC.out]
  rintro e w' ⟨rfl, rfl⟩
  go_wp2_with fail
  refine (Tryz.strings_CutPrefix s ⟨#[45]⟩ _).mono ?_
  rw [HP1.out, HP2.out]
  rintro e w' ⟨rfl, rfl⟩
  obtain ⟨s1, hs1⟩ : ∃ s1 : ByteArray, s1 = ⟨(I ++ (ptText pt F ++ (Ex.no).text)).toArray⟩ := ⟨_, rfl⟩
  have HS1 : Hid (s1.data.toList = I ++ (ptText pt F ++ (Ex.no).text)) := by unfold Hid; rw [hs1]
  rw [← hs1]
  clear hs1
  have hs1s : s1.size ≤ s.size := by
    rw [Lib.size_eq, Lib.size_eq, HS.out, HS1.out]; simp [render]
  go_wp2_with fail
  have hasc : ∀ (j : Nat) b, s1.data.toList[j]? = some b → b.toNat < 128 := by
    intro j b hjb
    have hm := List.mem_of_getElem? hjb
    rw [HS1.out] at hm
    exact ascii_text I pt F _ hHG.out b hm
  refine (Tryz.strings_IndexAny_laid s1 ⟨#[101, 69]⟩ _ (by omega) (by decide) hasc (ascii_of_all (by decide))).mono ?_
  rintro e1 w1 ⟨rfl, hb⟩
  clear hasc
  have hb0 : Below w.heap.size w w1 := (((Below.refl _ _).alloc (Nat.le_refl _) _).alloc (by simp) _).trans (hb.mono (by simp; omega))
  have hR : Blk w1 w.heap.size 227 #[.bool false, .string ⟨#[]⟩, .int .i64 0] := ((Blk.new _ _ _).alloc _).below hb (by simp; omega)
  have hN : Blk w1 (w.heap.size + 1) 227 #[.bool neg, .string ⟨#[]⟩, .int .i64 0] := (by have := Blk.new (w.alloc (.cells #[.bool false, .string ⟨#[]⟩, .int .i64 0] 227)) 227 #[.bool neg, .string ⟨#[]⟩, .int .i64 0]; simpa using this : Blk _ (w.heap.size + 1) _ _).below hb (by simp)
  have hG1 : Hid (Glob w1) := HG.out.below (by simp; exact ((Below.refl _ _).alloc (by simp) _).trans (hb.mono (by simp)))
  clear hb
  rw [HS1.out, index_E_no I pt F hHG.out.iDig hHG.out.fDig]
  go_wp2_with fail
  have hdgs : s1.size ≤ 100000 := by omega
  have Hdg : Hid (s1.data.toList = I ++ ptText pt F) := by
    unfold Hid; rw [HS1.out]; simp [Ex.text]
  have hb2 := hb0
  have hR2 := hR
  have hN2 := hN
  have hG2 := hG1
  clear hb0 hR hN hG1

  obtain ⟨mx, hmx⟩ := hG2.out.maxLen
  refine (Tryz.strings_Cut s1 ⟨#[46]⟩ mx _ (by omega) hmx).mono ?_
  rw [Hdg.out, cut_pt I pt F hHG.out.iDig hHG.out.fNo]
  rintro e1 w3 ⟨rfl, nc, rfl⟩
  clear hmx
  dsimp only
  obtain ⟨up, hup⟩ : ∃ up : ByteArray, up = ⟨I.toArray⟩ := ⟨_, rfl⟩
  obtain ⟨bh, hbh⟩ : ∃ bh : ByteArray, bh = ⟨F.toArray⟩ := ⟨_, rfl⟩
  have Hup : Hid (up.data.toList = I) := by unfold Hid; rw [hup]
  have Hbh : Hid (bh.data.toList = F) := by unfold Hid; rw [hbh]
  rw [← hup, ← hbh]
  clear hup hbh
  obtain ⟨w3, hw3⟩ : ∃ w3, w3 = w1.drewN nc := ⟨_, rfl⟩
  rw [← hw3]
  have hb3 : Below w.heap.size w w3 := by rw [hw3]; exact below_drewN hb2 _
  have hR3 : Blk w3 w.heap.size 227 #[.bool false, .string ⟨#[]⟩, .int .i64 0] := by rw [hw3]; exact hR2
  have hN3 : Blk w3 (w.heap.size + 1) 227 #[.bool neg, .string ⟨#[]⟩, .int .i64 0] := by rw [hw3]; exact hN2
  clear hw3 hb2 hR2 hN2
  have hbhs : bh.size ≤ 100000 := by rw [Lib.size_eq, Hbh.out]; omega
  have hups : up.size ≤ 100000 := by rw [Lib.size_eq, Hup.out]; omega
  have c2 := hN3.cell 2
  have f2 := hN3.frozen 2
  simp only [List.getElem?_toArray, List.getElem?_cons_succ, List.getElem?_cons_zero] at c2
  go_wp2_with fail
  obtain ⟨w4, hw4⟩ : ∃ w4, w4 = w3.setCell ⟨w.heap.size + 1, 2, none⟩ (.int .i64 (-(bh.size : Int))) := ⟨_, rfl⟩
  rw [← hw4]
  have hb4 : Below w.heap.size w w4 := by rw [hw4]; exact hb3.setCell (by simp) _
  have hR4 : Blk w4 w.heap.size 227 #[.bool false, .string ⟨#[]⟩, .int .i64 0] := by rw [hw4]; exact hR3.far (by simp) _
  have hN4 : Blk w4 (w.heap.size + 1) 227 #[.bool neg, .string ⟨#[]⟩, .int .i64 (-(bh.size : Int))] := by rw [hw4]; exact hN3.set_ 2 _
  clear hw4 hb3 hR3 hN3 c2 f2
  refine (Tryz.strings_HasPrefix ⟨#[]⟩ ⟨#[45]⟩ _).mono ?_
  rw [show Lib.hasPrefix (⟨#[]⟩ : ByteArray).data.toList [45] = false from rfl]
  rintro e1 w' ⟨rfl, rfl⟩
  go_wp2_with fail
  refine (Any.strings_Trim_laid Tryz.lays160 (by kernel_rfl) ⟨#[]⟩ ⟨#[43, 45]⟩ _ (by decide) (by decide) (ascii_of_all (by decide))).mono ?_
  rintro e1 w5 ⟨rfl, hb⟩
  obtain ⟨xd, hxd⟩ : ∃ xd : ByteArray, xd = ⟨(Lib.trimS (⟨#[]⟩ : ByteArray).data.toList [43, 45]).toArray⟩ := ⟨_, rfl⟩
  rw [← hxd]
  have Hxd : Hid (xd.data.toList = []) := by unfold Hid; rw [hxd]; rfl
  clear hxd
  have hb5 : Below w.heap.size w w5 := hb4.trans (hb.mono hb4.size)
  have hR5 := hR4.below hb hR4.lt
  have hN5 := hN4.below hb hN4.lt
  have l5 := hN5.lt
  clear hb hb4 hR4 hN4
  have hxds : xd.size ≤ 100000 := by rw [Lib.size_eq, Hxd.out]; simp
  have hxdd : Hid (∀ (k : Nat) (h : k < xd.size), isD xd[k] = true) := fun k h => by
    have hm : xd[k] ∈ xd.data.toList := by
      have : xd.data.toList[k]? = some xd[k] := by rw [List.getElem?_eq_getElem (by simpa using h)]; rfl
      exact List.mem_of_getElem? this
    rw [Hxd.out] at hm
    simp at hm
  go_wp2_with fail
  go_loopw [12] (fun b wr => ∃ (k : Nat), k ≤ xd.size ∧ b = .int .i64 (valP (xd.data.toList.take k) : Nat) ∧ wr = w5.iter xd k) (fun _ wr => xd.size - wr.iterPos w5.heap.size)
  case atStart => exact ⟨0, Nat.zero_le _, rfl, rfl⟩
  case round =>
    obtain ⟨k, hk, rfl, rfl⟩ := hrel
    by_cases hlt : k < xd.size
    · have hdk := hxdd.out k hlt
      obtain ⟨g1, g2⟩ := digit_bd xd[k] hdk
      have hnx := fun ty => run_next_ascii (P := Tryz.prog) w5 xd k ty hlt (ascii_dig _ hdk)
      have hsn : Hid (valP (xd.data.toList.take (k + 1)) = min (10 * valP (xd.data.toList.take k) + (xd[k].toNat - 48)) 1099511627776) := by
        unfold Hid; rw [take_snoc xd k hlt, valP_snoc]
      have hvl := valP_le (xd.data.toList.take k)
      generalize valP (xd.data.toList.take k) = V at hsn hvl
      clear hdk
      by_cases hmin : (10 * (V : Int) + ((xd[k].toNat : Int) - 48)) < 1099511627776
      all_goals
        go_wp2_with fail
        go_roundw
        case rel => exact ⟨k + 1, by omega, by rw [hsn.out]; congr 1; omega, rfl⟩
        case measure => simp; omega
    · have hkk : k = xd.size := by omega
      have hV : Hid (xd.data.toList.take k = []) := by
        unfold Hid
        rw [hkk, Lib.size_eq, List.take_length, Hxd.out]
      rw [hV.out]
      have hvl := valP_le []
      have hnx := fun ty => run_next_end (P := Tryz.prog) w5 xd k ty (by omega)
      obtain ⟨V, hVV⟩ : ∃ V, V = valP [] := ⟨_, rfl⟩
      rw [← hVV]
      rw [← hVV] at hvl
      have HVV := Lib.hid hVV
      clear hVV hlt hk hkk
      have hb6 : Below w.heap.size w (w5.iter xd k) := hb5.alloc hb5.size _
      have hR6 : Blk (w5.iter xd k) w.heap.size 227 #[.bool false, .string ⟨#[]⟩, .int .i64 0] := hR5.alloc _
      have hN6 : Blk (w5.iter xd k) (w.heap.size + 1) 227 #[.bool neg, .string ⟨#[]⟩, .int .i64 (-(bh.size : Int))] := hN5.alloc _
      clear hb5 hR5 hN5
      have c2 := hN6.cell 2
      have f2 := hN6.frozen 2
      simp only [List.getElem?_toArray, List.getElem?_cons_succ, List.getElem?_cons_zero] at c2
      go_wp2_with fail
      obtain ⟨w7, hw7⟩ : ∃ w7, w7 = (w5.iter xd k).setCell ⟨w.heap.size + 1, 2, none⟩ (.int .i64 (-(bh.size : Int) + (V : Int))) := ⟨_, rfl⟩
      rw [← hw7]
      have hxv : -(bh.size : Int) + (V : Int) = -(F.length : Int) + xs := by
        rw [HXS.out, Lib.size_eq, Hbh.out, HVV.out]
        rfl
      rw [hxv] at hw7
      obtain ⟨x0, hx0⟩ : ∃ x0 : Int, x0 = -(F.length : Int) + xs := ⟨_, rfl⟩
      have hx0b : -1099511800000 ≤ x0 ∧ x0 ≤ 1099511800000 := by
        have : (F.length : Int) = bh.size := by rw [Lib.size_eq, Hbh.out]
        omega
      obtain ⟨hx0b, hx0c⟩ := hx0b
      rw [← hx0] at hw7
      have HX0 := Lib.hid hx0
      have hb7 : Below w.heap.size w w7 := by rw [hw7]; exact hb6.setCell (by simp) _
      have hR7 : Blk w7 w.heap.size 227 #[.bool false, .string ⟨#[]⟩, .int .i64 0] := by rw [hw7]; exact hR6.far (by simp) _
      have hN7 : Blk w7 (w.heap.size + 1) 227 #[.bool neg, .string ⟨#[]⟩, .int .i64 x0] := by rw [hw7]; exact hN6.set_ 2 _
      have hcat : (up ++ bh).data.toList = I ++ F := by rw [data_append, Hup.out, Hbh.out]
      have hcats : (up ++ bh).size ≤ 200000 := by rw [Lib.size_eq, hcat, List.length_append]; omega
      have HCAT := Lib.hid hcat
      clear hw7 hb6 hR6 hN6 c2 f2 hcat hxv hnx hx0 HXS HVV hvl
      refine (Tryz.strings_TrimLeft_one (up ++ bh) 48 (by decide) _).mono ?_
      rw [HCAT.out]
      rintro e1 w' ⟨rfl, rfl⟩
      obtain ⟨al, hal⟩ : ∃ al : ByteArray, al = ⟨(Lib.trimLeftB (I ++ F) 48).toArray⟩ := ⟨_, rfl⟩
      rw [← hal]
      have Hal : Hid (al.data.toList = ltrim (I ++ F)) := by unfold Hid; rw [hal]; rfl
      clear hal
      have hals : al.size ≤ 200000 := by
        rw [Lib.size_eq, Hal.out]
        have := ltrim_le (I ++ F)
        rw [Lib.size_eq, HCAT.out] at hcats
        omega
      clear hcats
      go_wp2_with fail
      refine (Tryz.strings_TrimRight_one al 48 (by decide) _ (by omega)).mono ?_
      rw [Hal.out]
      rintro e1 w' ⟨rfl, rfl⟩
      obtain ⟨dd, hdd⟩ : ∃ dd : ByteArray, dd = ⟨(Lib.trimRightB (ltrim (I ++ F)) 48).toArray⟩ := ⟨_, rfl⟩
      rw [← hdd]
      have Hdd : Hid (dd.data.toList = rtrim (ltrim (I ++ F))) := by unfold Hid; rw [hdd]; rfl
      clear hdd
      have hdds : dd.size ≤ al.size := by
        rw [Lib.size_eq, Lib.size_eq, Hal.out, Hdd.out]; exact rtrim_le _
      have r0 := hR7.cell 0
      have r1 := hR7.cell 1
      have r2 := hR7.cell 2
      have rf0 := hR7.frozen 0
      have rf1 := hR7.frozen 1
      have rf2 := hR7.frozen 2
      have n0 := hN7.cell 0
      have n1 := hN7.cell 1
      have n2 := hN7.cell 2
      have nf1 := hN7.frozen 1
      have nf2 := hN7.frozen 2
      simp only [List.getElem?_toArray, List.getElem?_cons_succ, List.getElem?_cons_zero] at r0 r1 r2 n0 n1 n2
      have hRF : Blk (((((w'.setCell ⟨w.heap.size + 1, 1, none⟩ (.string dd)).setCell ⟨w.heap.size + 1, 2, none⟩ (.int .i64 (x0 + (al.size - dd.size)))).setCell ⟨w.heap.size, 0, none⟩ (.bool false)).setCell ⟨w.heap.size, 1, none⟩ (.string ⟨#[]⟩)).setCell ⟨w.heap.size, 2, none⟩ (.int .i64 0)) w.heap.size 227 #[.bool false, .string ⟨#[]⟩, .int .i64 0] :=
        ((((hR7.far (p := ⟨w.heap.size + 1, 1, none⟩) (by simp) _).far (p := ⟨w.heap.size + 1, 2, none⟩) (by simp) _).set_ 0 _).set_ 1 _).set_ 2 _
      have HRF := Lib.hid hRF
      clear hRF
      have hfin : Hid (fin neg (I ++ F) x0 = if dd.data.toList = [] then (zero, 0) else if right ⟨neg, dd.data.toList, x0 + (al.size - dd.size)⟩ then (⟨neg, dd.data.toList, x0 + (al.size - dd.size)⟩, 0) else (zero, 4)) := by
        unfold Hid fin; rw [Hdd.out, Lib.size_eq, Lib.size_eq, Hdd.out, Hal.out]
      by_cases hD : dd.data.toList = []
      · have hde : dd.toList.isEmpty = true := by rw [isEmpty_iff, hD]; rfl
        have hf2 := hfin.out
        rw [if_pos hD] at hf2
        have HF2 := Lib.hid hf2
        clear hfin hf2 hD
        go_wp2_with fail
        refine bodyPost_ret (v := .tuple #[nv zero, .int .i64 0]) (by obtain ⟨a, b, c⟩ := res_cells HRF.out; simp [results, Tryz.results208, go_sem, nv, zero, a, b, c]) rfl ⟨by rw [← HX0.out, HF2.out], ?_⟩
        repeat (first | exact hb7 | refine Below.setCell ?_ (by simp) _)
      · have hde : dd.toList.isEmpty = false := by
          rw [isEmpty_iff]
          cases h : dd.data.toList with
          | nil => exact absurd h hD
          | cons _ _ => rfl
        have hf2 := hfin.out
        rw [if_neg hD] at hf2
        have HF2 := Lib.hid hf2
        clear hfin hf2 hD
        go_wp2_with fail
        refine (right_any neg dd (x0 + (al.size - dd.size)) _ (by omega)).mono ?_
        generalize right ⟨neg, dd.data.toList, x0 + (al.size - dd.size)⟩ = RR at HF2
        rintro e1 w8 ⟨rfl, hb⟩
        have hb8 : Below w.heap.size w w8 := by
          refine Below.trans ?_ (hb.mono ?_)
          · exact (hb7.setCell (p := ⟨w.heap.size + 1, 1, none⟩) (by simp) _).setCell (p := ⟨w.heap.size + 1, 2, none⟩) (by simp) _
          · simpa using hb7.size
        have hR8 : Blk w8 w.heap.size 227 #[.bool false, .string ⟨#[]⟩, .int .i64 0] := ((hR7.far (p := ⟨w.heap.size + 1, 1, none⟩) (by simp) _).far (p := ⟨w.heap.size + 1, 2, none⟩) (by simp) _).below hb (by simpa using hR7.lt)
        have hN8 : Blk w8 (w.heap.size + 1) 227 #[.bool neg, .string dd, .int .i64 (x0 + (al.size - dd.size))] := ((hN7.set_ 1 _).set_ 2 _).below hb (by simpa using hN7.lt)
        clear hb hb7 hR7 hN7 r0 r1 r2 rf0 rf1 rf2 n0 n1 n2 nf1 nf2
        have r0 := hR8.cell 0
        have r1 := hR8.cell 1
        have r2 := hR8.cell 2
        have rf0 := hR8.frozen 0
        have rf1 := hR8.frozen 1
        have rf2 := hR8.frozen 2
        have n0 := hN8.cell 0
        have n1 := hN8.cell 1
        have n2 := hN8.cell 2
        simp only [List.getElem?_toArray, List.getElem?_cons_succ, List.getElem?_cons_zero] at r0 r1 r2 n0 n1 n2
        cases RR with
        | false =>
          have HF3 : Hid (fin neg (I ++ F) x0 = (zero, 4)) := by have := HF2.out; rw [if_neg (by simp)] at this; exact this
          clear HF2
          go_wp2_with fail
          have hRF : Blk (((w8.setCell ⟨w.heap.size, 0, none⟩ (.bool false)).setCell ⟨w.heap.size, 1, none⟩ (.string ⟨#[]⟩)).setCell ⟨w.heap.size, 2, none⟩ (.int .i64 0)) w.heap.size 227 #[.bool false, .string ⟨#[]⟩, .int .i64 0] := ((hR8.set_ 0 _).set_ 1 _).set_ 2 _
          refine bodyPost_ret (v := .tuple #[nv zero, .int .i64 4]) (by obtain ⟨a, b, c⟩ := res_cells hRF; simp [results, Tryz.results208, go_sem, nv, zero, a, b, c]) rfl ⟨by rw [← HX0.out, HF3.out], ?_⟩
          repeat (first | exact hb8 | refine Below.setCell ?_ (by simp) _)
        | true =>
          have HF3 : Hid (fin neg (I ++ F) x0 = (⟨neg, dd.data.toList, x0 + (al.size - dd.size)⟩, 0)) := by have := HF2.out; rw [if_pos rfl] at this; exact this
          clear HF2
          go_wp2_with fail
          have hRF : Blk (((w8.setCell ⟨w.heap.size, 0, none⟩ (.bool neg)).setCell ⟨w.heap.size, 1, none⟩ (.string dd)).setCell ⟨w.heap.size, 2, none⟩ (.int .i64 (x0 + (al.size - dd.size)))) w.heap.size 227 #[.bool neg, .string dd, .int .i64 (x0 + (al.size - dd.size))] := ((hR8.set_ 0 _).set_ 1 _).set_ 2 _
          refine bodyPost_ret (v := .tuple #[.agg #[.bool neg, .string dd, .int .i64 (x0 + (al.size - dd.size))], .int .i64 0]) (by obtain ⟨a, b, c⟩ := res_cells hRF; simp [results, Tryz.results208, go_sem, a, b, c]) rfl ⟨by rw [← HX0.out, HF3.out]; dsimp only [nv], ?_⟩
          repeat (first | exact hb8 | refine Below.setCell ?_ (by simp) _)


set_option maxHeartbeats 8000000 in
set_option maxRecDepth 100000 in
theorem parse_some (s : ByteArray) (w : World) (neg : Bool) (I : List UInt8) (pt : Bool) (F : List UInt8) (ex : Ex) (e : UInt8) (sg X : List UInt8) (hex : ex = .some e sg X) (hsg : sg ≠ [45]) (hg : NumPlain.Good I pt F ex) (hl : s.data.toList = render neg I pt F ex) (hsc : NumPlain.scan s.data.toList = s.data.toList.length) (hs : s.size ≤ 100000) (hG : Glob w) :
    Calls Tryz.prog 208 #[.string s] w fun e w' => e = .returned (.tuple #[nv (fin neg (I ++ F) (-(F.length : Int) + ex.val valP)).1, .int .i64 (fin neg (I ++ F) (-(F.length : Int) + ex.val valP)).2]) ∧ Below w.heap.size w w' := by
  have hHG := Lib.hid hg
  have hsz : s.size = s.data.toList.length := Lib.size_eq s
  have hne : s.data.toList ≠ [] := by
    rw [hl]
    intro h
    have := congrArg List.length h
    simp [render] at this
    exact hg.iNe this.2.1
  have hemp : s.toList.isEmpty = false := by
    rw [isEmpty_iff]
    cases h : s.data.toList with
    | nil => exact absurd h hne
    | cons _ _ => rfl
  have hlen : I.length + F.length ≤ s.size := by
    rw [hsz, hl]
    cases pt <;> simp [render, ptText] <;> first | omega | (have := hg.fNo rfl; rw [this]; simp; omega)
  obtain ⟨hp1, hp2⟩ := cut_sign neg I pt F ex hg
  rw [← hl] at hp1 hp2
  have HP1 := Lib.hid hp1
  have HP2 := Lib.hid hp2
  clear hne hp1 hp2
  have HSC : Hid (NumPlain.scan s.data.toList = s.size) := by unfold Hid; omega
  have HS := Lib.hid hl
  clear hl hsc hsz hg
  have HG : Hid (Glob (w.alloc (.cells #[.bool false, .string ⟨#[]⟩, .int .i64 0] 227))) := hG.below ((Below.refl _ _).alloc (Nat.le_refl _) _)
  clear hG
  have hs' : s.size ≤ 9223372036854775807 := by omega
  obtain ⟨xs, hxs⟩ : ∃ xs : Int, xs = ex.val valP := ⟨_, rfl⟩
  rw [← hxs]
  have HXS := Lib.hid hxs
  clear hxs
  subst hex
  go_enter Tryz.func208, Tryz.ntmps208
  go_wp2_with fail
  refine (scan_any s _ hs' HG.out).mono ?_
  rw [HSC.out]
  rintro e w' ⟨rfl, rfl⟩
  go_wp2_with fail
  refine (Tryz.strings_CutPrefix s ⟨#[45]⟩ _).mono ?_
  rw [HP1.out, HP2.out]
  rintro e w' ⟨rfl, rfl⟩
  obtain ⟨s1, hs1⟩ : ∃ s1 : ByteArray, s1 = ⟨(I ++ (ptText pt F ++ (Ex.some e sg X).text)).toArray⟩ := ⟨_, rfl⟩
  have HS1 : Hid (s1.data.toList = I ++ (ptText pt F ++ (Ex.some e sg X).text)) := by unfold Hid; rw [hs1]
  rw [← hs1]
  clear hs1
  have hs1s : s1.size ≤ s.size := by
    rw [Lib.size_eq, Lib.size_eq, HS.out, HS1.out]; simp [render]
  go_wp2_with fail
  have hasc : ∀ (j : Nat) b, s1.data.toList[j]? = some b → b.toNat < 128 := by
    intro j b hjb
    have hm := List.mem_of_getElem? hjb
    rw [HS1.out] at hm
    exact ascii_text I pt F _ hHG.out b hm
  refine (Tryz.strings_IndexAny_laid s1 ⟨#[101, 69]⟩ _ (by omega) (by decide) hasc (ascii_of_all (by decide))).mono ?_
  rintro e1 w1 ⟨rfl, hb⟩
  clear hasc
  have hb0 : Below w.heap.size w w1 := (((Below.refl _ _).alloc (Nat.le_refl _) _).alloc (by simp) _).trans (hb.mono (by simp; omega))
  have hR : Blk w1 w.heap.size 227 #[.bool false, .string ⟨#[]⟩, .int .i64 0] := ((Blk.new _ _ _).alloc _).below hb (by simp; omega)
  have hN : Blk w1 (w.heap.size + 1) 227 #[.bool neg, .string ⟨#[]⟩, .int .i64 0] := (by have := Blk.new (w.alloc (.cells #[.bool false, .string ⟨#[]⟩, .int .i64 0] 227)) 227 #[.bool neg, .string ⟨#[]⟩, .int .i64 0]; simpa using this : Blk _ (w.heap.size + 1) _ _).below hb (by simp)
  have hG1 : Hid (Glob w1) := HG.out.below (by simp; exact ((Below.refl _ _).alloc (by simp) _).trans (hb.mono (by simp)))
  clear hb
  rw [HS1.out, index_E_some I pt F hHG.out.iDig hHG.out.fDig e sg X hHG.out.exOk.1]
  obtain ⟨iN, hiN⟩ : ∃ n : Nat, n = (I ++ ptText pt F).length := ⟨_, rfl⟩
  rw [← hiN]
  have hi1 : iN + 1 + (sg ++ X).length = s1.size := by
    rw [Lib.size_eq, HS1.out, hiN]; simp [Ex.text]; omega
  have hi2 : 0 ≤ (iN : Int) := by omega
  have hi3 : iN ≤ s1.size := by omega
  have hi4 : iN + 1 ≤ s1.size := by omega
  have HI := Lib.hid hiN
  have HI1 := Lib.hid hi1
  clear hiN hi1
  go_wp2_with fail
  go_quiet (fail)
  go_wp2_with fail
  generalize hdg : s1.extract 0 iN = dg
  generalize hxp : s1.extract (iN + 1) s1.size = xp
  have Hdg : Hid (dg.data.toList = I ++ ptText pt F) := by
    unfold Hid
    rw [← hdg, data_extract, HS1.out, HI.out, List.drop_zero, Nat.sub_zero, ← List.append_assoc, List.take_left]
  have Hxp : Hid (xp.data.toList = sg ++ X) := by
    unfold Hid
    have e1 : s1.data.toList = (I ++ ptText pt F ++ [e]) ++ (sg ++ X) := by rw [HS1.out]; simp [Ex.text]
    have e2 : iN + 1 = (I ++ ptText pt F ++ [e]).length := by rw [HI.out]; simp [Nat.add_assoc]
    rw [← hxp, data_extract, e1, e2, List.drop_left, List.take_of_length_le]
    have := HI1.out
    rw [e2] at this
    omega
  clear hdg hxp hi2 hi3 hi4
  have hdgs : dg.size ≤ 100000 := by
    rw [Lib.size_eq, Hdg.out, ← HI.out]; have := HI1.out; omega
  have hxps : xp.size ≤ 100000 := by
    rw [Lib.size_eq, Hxp.out]; have := HI1.out; omega
  obtain ⟨w2, hw2⟩ : ∃ w2, w2 = w1.drewN nq := ⟨_, rfl⟩
  rw [← hw2]
  have hb2 : Below w.heap.size w w2 := by rw [hw2]; exact below_drewN hb0 _
  have hR2 : Blk w2 w.heap.size 227 #[.bool false, .string ⟨#[]⟩, .int .i64 0] := by rw [hw2]; exact hR
  have hN2 : Blk w2 (w.heap.size + 1) 227 #[.bool neg, .string ⟨#[]⟩, .int .i64 0] := by rw [hw2]; exact hN
  have hG2 : Hid (Glob w2) := by rw [hw2]; exact ⟨hG1.out.next, hG1.out.maxLen, hG1.out.pow, hG1.out.size⟩
  clear hw2 hb0 hR hN hG1

  obtain ⟨mx, hmx⟩ := hG2.out.maxLen
  refine (Tryz.strings_Cut dg ⟨#[46]⟩ mx _ (by omega) hmx).mono ?_
  rw [Hdg.out, cut_pt I pt F hHG.out.iDig hHG.out.fNo]
  rintro e1 w3 ⟨rfl, nc, rfl⟩
  clear hmx
  dsimp only
  obtain ⟨up, hup⟩ : ∃ up : ByteArray, up = ⟨I.toArray⟩ := ⟨_, rfl⟩
  obtain ⟨bh, hbh⟩ : ∃ bh : ByteArray, bh = ⟨F.toArray⟩ := ⟨_, rfl⟩
  have Hup : Hid (up.data.toList = I) := by unfold Hid; rw [hup]
  have Hbh : Hid (bh.data.toList = F) := by unfold Hid; rw [hbh]
  rw [← hup, ← hbh]
  clear hup hbh
  obtain ⟨w3, hw3⟩ : ∃ w3, w3 = w2.drewN nc := ⟨_, rfl⟩
  rw [← hw3]
  have hb3 : Below w.heap.size w w3 := by rw [hw3]; exact below_drewN hb2 _
  have hR3 : Blk w3 w.heap.size 227 #[.bool false, .string ⟨#[]⟩, .int .i64 0] := by rw [hw3]; exact hR2
  have hN3 : Blk w3 (w.heap.size + 1) 227 #[.bool neg, .string ⟨#[]⟩, .int .i64 0] := by rw [hw3]; exact hN2
  clear hw3 hb2 hR2 hN2
  have hbhs : bh.size ≤ 100000 := by rw [Lib.size_eq, Hbh.out]; omega
  have hups : up.size ≤ 100000 := by rw [Lib.size_eq, Hup.out]; omega
  have c2 := hN3.cell 2
  have f2 := hN3.frozen 2
  simp only [List.getElem?_toArray, List.getElem?_cons_succ, List.getElem?_cons_zero] at c2
  go_wp2_with fail
  obtain ⟨w4, hw4⟩ : ∃ w4, w4 = w3.setCell ⟨w.heap.size + 1, 2, none⟩ (.int .i64 (-(bh.size : Int))) := ⟨_, rfl⟩
  rw [← hw4]
  have hb4 : Below w.heap.size w w4 := by rw [hw4]; exact hb3.setCell (by simp) _
  have hR4 : Blk w4 w.heap.size 227 #[.bool false, .string ⟨#[]⟩, .int .i64 0] := by rw [hw4]; exact hR3.far (by simp) _
  have hN4 : Blk w4 (w.heap.size + 1) 227 #[.bool neg, .string ⟨#[]⟩, .int .i64 (-(bh.size : Int))] := by rw [hw4]; exact hN3.set_ 2 _
  clear hw4 hb3 hR3 hN3 c2 f2
  refine (Tryz.strings_HasPrefix xp ⟨#[45]⟩ _).mono ?_
  rw [show Lib.hasPrefix (xp : ByteArray).data.toList [45] = false from by rw [Hxp.out, sign_neg sg X hHG.out.exOk.2.1 hHG.out.exOk.2.2.1 hHG.out.exOk.2.2.2]; simp [hsg]]
  rintro e1 w' ⟨rfl, rfl⟩
  go_wp2_with fail
  refine (Any.strings_Trim_laid Tryz.lays160 (by kernel_rfl) xp ⟨#[43, 45]⟩ _ (by omega) (by decide) (ascii_of_all (by decide))).mono ?_
  rintro e1 w5 ⟨rfl, hb⟩
  obtain ⟨xd, hxd⟩ : ∃ xd : ByteArray, xd = ⟨(Lib.trimS (xp : ByteArray).data.toList [43, 45]).toArray⟩ := ⟨_, rfl⟩
  rw [← hxd]
  have Hxd : Hid (xd.data.toList = X) := by unfold Hid; rw [hxd]; rw [Hxp.out]; exact trim_signs sg X hHG.out.exOk.2.1 hHG.out.exOk.2.2.1 hHG.out.exOk.2.2.2
  clear hxd
  have hb5 : Below w.heap.size w w5 := hb4.trans (hb.mono hb4.size)
  have hR5 := hR4.below hb hR4.lt
  have hN5 := hN4.below hb hN4.lt
  have l5 := hN5.lt
  clear hb hb4 hR4 hN4
  have hxds : xd.size ≤ 100000 := by rw [Lib.size_eq, Hxd.out]; have := HI1.out; simp at this; omega
  have hxdd : Hid (∀ (k : Nat) (h : k < xd.size), isD xd[k] = true) := fun k h => by
    have hm : xd[k] ∈ xd.data.toList := by
      have : xd.data.toList[k]? = some xd[k] := by rw [List.getElem?_eq_getElem (by simpa using h)]; rfl
      exact List.mem_of_getElem? this
    rw [Hxd.out] at hm
    exact hHG.out.exOk.2.2.2 _ hm
  go_wp2_with fail
  go_loopw [12] (fun b wr => ∃ (k : Nat), k ≤ xd.size ∧ b = .int .i64 (valP (xd.data.toList.take k) : Nat) ∧ wr = w5.iter xd k) (fun _ wr => xd.size - wr.iterPos w5.heap.size)
  case atStart => exact ⟨0, Nat.zero_le _, rfl, rfl⟩
  case round =>
    obtain ⟨k, hk, rfl, rfl⟩ := hrel
    by_cases hlt : k < xd.size
    · have hdk := hxdd.out k hlt
      obtain ⟨g1, g2⟩ := digit_bd xd[k] hdk
      have hnx := fun ty => run_next_ascii (P := Tryz.prog) w5 xd k ty hlt (ascii_dig _ hdk)
      have hsn : Hid (valP (xd.data.toList.take (k + 1)) = min (10 * valP (xd.data.toList.take k) + (xd[k].toNat - 48)) 1099511627776) := by
        unfold Hid; rw [take_snoc xd k hlt, valP_snoc]
      have hvl := valP_le (xd.data.toList.take k)
      generalize valP (xd.data.toList.take k) = V at hsn hvl
      clear hdk
      by_cases hmin : (10 * (V : Int) + ((xd[k].toNat : Int) - 48)) < 1099511627776
      all_goals
        go_wp2_with fail
        go_roundw
        case rel => exact ⟨k + 1, by omega, by rw [hsn.out]; congr 1; omega, rfl⟩
        case measure => simp; omega
    · have hkk : k = xd.size := by omega
      have hV : Hid (xd.data.toList.take k = X) := by
        unfold Hid
        rw [hkk, Lib.size_eq, List.take_length, Hxd.out]
      rw [hV.out]
      have hvl := valP_le X
      have hnx := fun ty => run_next_end (P := Tryz.prog) w5 xd k ty (by omega)
      obtain ⟨V, hVV⟩ : ∃ V, V = valP X := ⟨_, rfl⟩
      rw [← hVV]
      rw [← hVV] at hvl
      have HVV := Lib.hid hVV
      clear hVV hlt hk hkk
      have hb6 : Below w.heap.size w (w5.iter xd k) := hb5.alloc hb5.size _
      have hR6 : Blk (w5.iter xd k) w.heap.size 227 #[.bool false, .string ⟨#[]⟩, .int .i64 0] := hR5.alloc _
      have hN6 : Blk (w5.iter xd k) (w.heap.size + 1) 227 #[.bool neg, .string ⟨#[]⟩, .int .i64 (-(bh.size : Int))] := hN5.alloc _
      clear hb5 hR5 hN5
      have c2 := hN6.cell 2
      have f2 := hN6.frozen 2
      simp only [List.getElem?_toArray, List.getElem?_cons_succ, List.getElem?_cons_zero] at c2
      go_wp2_with fail
      obtain ⟨w7, hw7⟩ : ∃ w7, w7 = (w5.iter xd k).setCell ⟨w.heap.size + 1, 2, none⟩ (.int .i64 (-(bh.size : Int) + (V : Int))) := ⟨_, rfl⟩
      rw [← hw7]
      have hxv : -(bh.size : Int) + (V : Int) = -(F.length : Int) + xs := by
        rw [HXS.out, Lib.size_eq, Hbh.out, HVV.out]
        simp [Ex.val, hsg]
      rw [hxv] at hw7
      obtain ⟨x0, hx0⟩ : ∃ x0 : Int, x0 = -(F.length : Int) + xs := ⟨_, rfl⟩
      have hx0b : -1099511800000 ≤ x0 ∧ x0 ≤ 1099511800000 := by
        have : (F.length : Int) = bh.size := by rw [Lib.size_eq, Hbh.out]
        omega
      obtain ⟨hx0b, hx0c⟩ := hx0b
      rw [← hx0] at hw7
      have HX0 := Lib.hid hx0
      have hb7 : Below w.heap.size w w7 := by rw [hw7]; exact hb6.setCell (by simp) _
      have hR7 : Blk w7 w.heap.size 227 #[.bool false, .string ⟨#[]⟩, .int .i64 0] := by rw [hw7]; exact hR6.far (by simp) _
      have hN7 : Blk w7 (w.heap.size + 1) 227 #[.bool neg, .string ⟨#[]⟩, .int .i64 x0] := by rw [hw7]; exact hN6.set_ 2 _
      have hcat : (up ++ bh).data.toList = I ++ F := by rw [data_append, Hup.out, Hbh.out]
      have hcats : (up ++ bh).size ≤ 200000 := by rw [Lib.size_eq, hcat, List.length_append]; omega
      have HCAT := Lib.hid hcat
      clear hw7 hb6 hR6 hN6 c2 f2 hcat hxv hnx hx0 HXS HVV hvl
      refine (Tryz.strings_TrimLeft_one (up ++ bh) 48 (by decide) _).mono ?_
      rw [HCAT.out]
      rintro e1 w' ⟨rfl, rfl⟩
      obtain ⟨al, hal⟩ : ∃ al : ByteArray, al = ⟨(Lib.trimLeftB (I ++ F) 48).toArray⟩ := ⟨_, rfl⟩
      rw [← hal]
      have Hal : Hid (al.data.toList = ltrim (I ++ F)) := by unfold Hid; rw [hal]; rfl
      clear hal
      have hals : al.size ≤ 200000 := by
        rw [Lib.size_eq, Hal.out]
        have := ltrim_le (I ++ F)
        rw [Lib.size_eq, HCAT.out] at hcats
        omega
      clear hcats
      go_wp2_with fail
      refine (Tryz.strings_TrimRight_one al 48 (by decide) _ (by omega)).mono ?_
      rw [Hal.out]
      rintro e1 w' ⟨rfl, rfl⟩
      obtain ⟨dd, hdd⟩ : ∃ dd : ByteArray, dd = ⟨(Lib.trimRightB (ltrim (I ++ F)) 48).toArray⟩ := ⟨_, rfl⟩
      rw [← hdd]
      have Hdd : Hid (dd.data.toList = rtrim (ltrim (I ++ F))) := by unfold Hid; rw [hdd]; rfl
      clear hdd
      have hdds : dd.size ≤ al.size := by
        rw [Lib.size_eq, Lib.size_eq, Hal.out, Hdd.out]; exact rtrim_le _
      have r0 := hR7.cell 0
      have r1 := hR7.cell 1
      have r2 := hR7.cell 2
      have rf0 := hR7.frozen 0
      have rf1 := hR7.frozen 1
      have rf2 := hR7.frozen 2
      have n0 := hN7.cell 0
      have n1 := hN7.cell 1
      have n2 := hN7.cell 2
      have nf1 := hN7.frozen 1
      have nf2 := hN7.frozen 2
      simp only [List.getElem?_toArray, List.getElem?_cons_succ, List.getElem?_cons_zero] at r0 r1 r2 n0 n1 n2
      have hRF : Blk (((((w'.setCell ⟨w.heap.size + 1, 1, none⟩ (.string dd)).setCell ⟨w.heap.size + 1, 2, none⟩ (.int .i64 (x0 + (al.size - dd.size)))).setCell ⟨w.heap.size, 0, none⟩ (.bool false)).setCell ⟨w.heap.size, 1, none⟩ (.string ⟨#[]⟩)).setCell ⟨w.heap.size, 2, none⟩ (.int .i64 0)) w.heap.size 227 #[.bool false, .string ⟨#[]⟩, .int .i64 0] :=
        ((((hR7.far (p := ⟨w.heap.size + 1, 1, none⟩) (by simp) _).far (p := ⟨w.heap.size + 1, 2, none⟩) (by simp) _).set_ 0 _).set_ 1 _).set_ 2 _
      have HRF := Lib.hid hRF
      clear hRF
      have hfin : Hid (fin neg (I ++ F) x0 = if dd.data.toList = [] then (zero, 0) else if right ⟨neg, dd.data.toList, x0 + (al.size - dd.size)⟩ then (⟨neg, dd.data.toList, x0 + (al.size - dd.size)⟩, 0) else (zero, 4)) := by
        unfold Hid fin; rw [Hdd.out, Lib.size_eq, Lib.size_eq, Hdd.out, Hal.out]
      by_cases hD : dd.data.toList = []
      · have hde : dd.toList.isEmpty = true := by rw [isEmpty_iff, hD]; rfl
        have hf2 := hfin.out
        rw [if_pos hD] at hf2
        have HF2 := Lib.hid hf2
        clear hfin hf2 hD
        go_wp2_with fail
        refine bodyPost_ret (v := .tuple #[nv zero, .int .i64 0]) (by obtain ⟨a, b, c⟩ := res_cells HRF.out; simp [results, Tryz.results208, go_sem, nv, zero, a, b, c]) rfl ⟨by rw [← HX0.out, HF2.out], ?_⟩
        repeat (first | exact hb7 | refine Below.setCell ?_ (by simp) _)
      · have hde : dd.toList.isEmpty = false := by
          rw [isEmpty_iff]
          cases h : dd.data.toList with
          | nil => exact absurd h hD
          | cons _ _ => rfl
        have hf2 := hfin.out
        rw [if_neg hD] at hf2
        have HF2 := Lib.hid hf2
        clear hfin hf2 hD
        go_wp2_with fail
        refine (right_any neg dd (x0 + (al.size - dd.size)) _ (by omega)).mono ?_
        generalize right ⟨neg, dd.data.toList, x0 + (al.size - dd.size)⟩ = RR at HF2
        rintro e1 w8 ⟨rfl, hb⟩
        have hb8 : Below w.heap.size w w8 := by
          refine Below.trans ?_ (hb.mono ?_)
          · exact (hb7.setCell (p := ⟨w.heap.size + 1, 1, none⟩) (by simp) _).setCell (p := ⟨w.heap.size + 1, 2, none⟩) (by simp) _
          · simpa using hb7.size
        have hR8 : Blk w8 w.heap.size 227 #[.bool false, .string ⟨#[]⟩, .int .i64 0] := ((hR7.far (p := ⟨w.heap.size + 1, 1, none⟩) (by simp) _).far (p := ⟨w.heap.size + 1, 2, none⟩) (by simp) _).below hb (by simpa using hR7.lt)
        have hN8 : Blk w8 (w.heap.size + 1) 227 #[.bool neg, .string dd, .int .i64 (x0 + (al.size - dd.size))] := ((hN7.set_ 1 _).set_ 2 _).below hb (by simpa using hN7.lt)
        clear hb hb7 hR7 hN7 r0 r1 r2 rf0 rf1 rf2 n0 n1 n2 nf1 nf2
        have r0 := hR8.cell 0
        have r1 := hR8.cell 1
        have r2 := hR8.cell 2
        have rf0 := hR8.frozen 0
        have rf1 := hR8.frozen 1
        have rf2 := hR8.frozen 2
        have n0 := hN8.cell 0
        have n1 := hN8.cell 1
        have n2 := hN8.cell 2
        simp only [List.getElem?_toArray, List.getElem?_cons_succ, List.getElem?_cons_zero] at r0 r1 r2 n0 n1 n2
        cases RR with
        | false =>
          have HF3 : Hid (fin neg (I ++ F) x0 = (zero, 4)) := by have := HF2.out; rw [if_neg (by simp)] at this; exact this
          clear HF2
          go_wp2_with fail
          have hRF : Blk (((w8.setCell ⟨w.heap.size, 0, none⟩ (.bool false)).setCell ⟨w.heap.size, 1, none⟩ (.string ⟨#[]⟩)).setCell ⟨w.heap.size, 2, none⟩ (.int .i64 0)) w.heap.size 227 #[.bool false, .string ⟨#[]⟩, .int .i64 0] := ((hR8.set_ 0 _).set_ 1 _).set_ 2 _
          refine bodyPost_ret (v := .tuple #[nv zero, .int .i64 4]) (by obtain ⟨a, b, c⟩ := res_cells hRF; simp [results, Tryz.results208, go_sem, nv, zero, a, b, c]) rfl ⟨by rw [← HX0.out, HF3.out], ?_⟩
          repeat (first | exact hb8 | refine Below.setCell ?_ (by simp) _)
        | true =>
          have HF3 : Hid (fin neg (I ++ F) x0 = (⟨neg, dd.data.toList, x0 + (al.size - dd.size)⟩, 0)) := by have := HF2.out; rw [if_pos rfl] at this; exact this
          clear HF2
          go_wp2_with fail
          have hRF : Blk (((w8.setCell ⟨w.heap.size, 0, none⟩ (.bool neg)).setCell ⟨w.heap.size, 1, none⟩ (.string dd)).setCell ⟨w.heap.size, 2, none⟩ (.int .i64 (x0 + (al.size - dd.size)))) w.heap.size 227 #[.bool neg, .string dd, .int .i64 (x0 + (al.size - dd.size))] := ((hR8.set_ 0 _).set_ 1 _).set_ 2 _
          refine bodyPost_ret (v := .tuple #[.agg #[.bool neg, .string dd, .int .i64 (x0 + (al.size - dd.size))], .int .i64 0]) (by obtain ⟨a, b, c⟩ := res_cells hRF; simp [results, Tryz.results208, go_sem, a, b, c]) rfl ⟨by rw [← HX0.out, HF3.out]; dsimp only [nv], ?_⟩
          repeat (first | exact hb8 | refine Below.setCell ?_ (by simp) _)


set_option maxHeartbeats 8000000 in
set_option maxRecDepth 100000 in
theorem parse_some_down (s : ByteArray) (w : World) (neg : Bool) (I : List UInt8) (pt : Bool) (F : List UInt8) (ex : Ex) (e : UInt8) (sg X : List UInt8) (hex : ex = .some e sg X) (hsg : sg = [45]) (hg : NumPlain.Good I pt F ex) (hl : s.data.toList = render neg I pt F ex) (hsc : NumPlain.scan s.data.toList = s.data.toList.length) (hs : s.size ≤ 100000) (hG : Glob w) :
    Calls Tryz.prog 208 #[.string s] w fun e w' => e = .returned (.tuple #[nv (fin neg (I ++ F) (-(F.length : Int) + ex.val valP)).1, .int .i64 (fin neg (I ++ F) (-(F.length : Int) + ex.val valP)).2]) ∧ Below w.heap.size w w' := by
  have hHG := Lib.hid hg
  have hsz : s.size = s.data.toList.length := Lib.size_eq s
  have hne : s.data.toList ≠ [] := by
    rw [hl]
    intro h
    have := congrArg List.length h
    simp [render] at this
    exact hg.iNe this.2.1
  have hemp : s.toList.isEmpty = false := by
    rw [isEmpty_iff]
    cases h : s.data.toList with
    | nil => exact absurd h hne
    | cons _ _ => rfl
  have hlen : I.length + F.length ≤ s.size := by
    rw [hsz, hl]
    cases pt <;> simp [render, ptText] <;> first | omega | (have := hg.fNo rfl; rw [this]; simp; omega)
  obtain ⟨hp1, hp2⟩ := cut_sign neg I pt F ex hg
  rw [← hl] at hp1 hp2
  have HP1 := Lib.hid hp1
  have HP2 := Lib.hid hp2
  clear hne hp1 hp2
  have HSC : Hid (NumPlain.scan s.data.toList = s.size) := by unfold Hid; omega
  have HS := Lib.hid hl
  clear hl hsc hsz hg
  have HG : Hid (Glob (w.alloc (.cells #[.bool false, .string ⟨#[]⟩, .int .i64 0] 227))) := hG.below ((Below.refl _ _).alloc (Nat.le_refl _) _)
  clear hG
  have hs' : s.size ≤ 9223372036854775807 := by omega
  obtain ⟨xs, hxs⟩ : ∃ xs : Int, xs = ex.val valP := ⟨_, rfl⟩
  rw [← hxs]
  have HXS := Lib.hid hxs
  clear hxs
  subst hex
  go_enter Tryz.func208, Tryz.ntmps208
  go_wp2_with fail
  refine (scan_any s _ hs' HG.out).mono ?_
  rw [HSC.out]
  rintro e w' ⟨rfl, rfl⟩
  go_wp2_with fail
  refine (Tryz.strings_CutPrefix s ⟨#[45]⟩ _).mono ?_
  rw [HP1.out, HP2.out]
  rintro e w' ⟨rfl, rfl⟩
  obtain ⟨s1, hs1⟩ : ∃ s1 : ByteArray, s1 = ⟨(I ++ (ptText pt F ++ (Ex.some e sg X).text)).toArray⟩ := ⟨_, rfl⟩
  have HS1 : Hid (s1.data.toList = I ++ (ptText pt F ++ (Ex.some e sg X).text)) := by unfold Hid; rw [hs1]
  rw [← hs1]
  clear hs1
  have hs1s : s1.size ≤ s.size := by
    rw [Lib.size_eq, Lib.size_eq, HS.out, HS1.out]; simp [render]
  go_wp2_with fail
  have hasc : ∀ (j : Nat) b, s1.data.toList[j]? = some b → b.toNat < 128 := by
    intro j b hjb
    have hm := List.mem_of_getElem? hjb
    rw [HS1.out] at hm
    exact ascii_text I pt F _ hHG.out b hm
  refine (Tryz.strings_IndexAny_laid s1 ⟨#[101, 69]⟩ _ (by omega) (by decide) hasc (ascii_of_all (by decide))).mono ?_
  rintro e1 w1 ⟨rfl, hb⟩
  clear hasc
  have hb0 : Below w.heap.size w w1 := (((Below.refl _ _).alloc (Nat.le_refl _) _).alloc (by simp) _).trans (hb.mono (by simp; omega))
  have hR : Blk w1 w.heap.size 227 #[.bool false, .string ⟨#[]⟩, .int .i64 0] := ((Blk.new _ _ _).alloc _).below hb (by simp; omega)
  have hN : Blk w1 (w.heap.size + 1) 227 #[.bool neg, .string ⟨#[]⟩, .int .i64 0] := (by have := Blk.new (w.alloc (.cells #[.bool false, .string ⟨#[]⟩, .int .i64 0] 227)) 227 #[.bool neg, .string ⟨#[]⟩, .int .i64 0]; simpa using this : Blk _ (w.heap.size + 1) _ _).below hb (by simp)
  have hG1 : Hid (Glob w1) := HG.out.below (by simp; exact ((Below.refl _ _).alloc (by simp) _).trans (hb.mono (by simp)))
  clear hb
  rw [HS1.out, index_E_some I pt F hHG.out.iDig hHG.out.fDig e sg X hHG.out.exOk.1]
  obtain ⟨iN, hiN⟩ : ∃ n : Nat, n = (I ++ ptText pt F).length := ⟨_, rfl⟩
  rw [← hiN]
  have hi1 : iN + 1 + (sg ++ X).length = s1.size := by
    rw [Lib.size_eq, HS1.out, hiN]; simp [Ex.text]; omega
  have hi2 : 0 ≤ (iN : Int) := by omega
  have hi3 : iN ≤ s1.size := by omega
  have hi4 : iN + 1 ≤ s1.size := by omega
  have HI := Lib.hid hiN
  have HI1 := Lib.hid hi1
  clear hiN hi1
  go_wp2_with fail
  go_quiet (fail)
  go_wp2_with fail
  generalize hdg : s1.extract 0 iN = dg
  generalize hxp : s1.extract (iN + 1) s1.size = xp
  have Hdg : Hid (dg.data.toList = I ++ ptText pt F) := by
    unfold Hid
    rw [← hdg, data_extract, HS1.out, HI.out, List.drop_zero, Nat.sub_zero, ← List.append_assoc, List.take_left]
  have Hxp : Hid (xp.data.toList = sg ++ X) := by
    unfold Hid
    have e1 : s1.data.toList = (I ++ ptText pt F ++ [e]) ++ (sg ++ X) := by rw [HS1.out]; simp [Ex.text]
    have e2 : iN + 1 = (I ++ ptText pt F ++ [e]).length := by rw [HI.out]; simp [Nat.add_assoc]
    rw [← hxp, data_extract, e1, e2, List.drop_left, List.take_of_length_le]
    have := HI1.out
    rw [e2] at this
    omega
  clear hdg hxp hi2 hi3 hi4
  have hdgs : dg.size ≤ 100000 := by
    rw [Lib.size_eq, Hdg.out, ← HI.out]; have := HI1.out; omega
  have hxps : xp.size ≤ 100000 := by
    rw [Lib.size_eq, Hxp.out]; have := HI1.out; omega
  obtain ⟨w2, hw2⟩ : ∃ w2, w2 = w1.drewN nq := ⟨_, rfl⟩
  rw [← hw2]
  have hb2 : Below w.heap.size w w2 := by rw [hw2]; exact below_drewN hb0 _
  have hR2 : Blk w2 w.heap.size 227 #[.bool false, .string ⟨#[]⟩, .int .i64 0] := by rw [hw2]; exact hR
  have hN2 : Blk w2 (w.heap.size + 1) 227 #[.bool neg, .string ⟨#[]⟩, .int .i64 0] := by rw [hw2]; exact hN
  have hG2 : Hid (Glob w2) := by rw [hw2]; exact ⟨hG1.out.next, hG1.out.maxLen, hG1.out.pow, hG1.out.size⟩
  clear hw2 hb0 hR hN hG1

  obtain ⟨mx, hmx⟩ := hG2.out.maxLen
  refine (Tryz.strings_Cut dg ⟨#[46]⟩ mx _ (by omega) hmx).mono ?_
  rw [Hdg.out, cut_pt I pt F hHG.out.iDig hHG.out.fNo]
  rintro e1 w3 ⟨rfl, nc, rfl⟩
  clear hmx
  dsimp only
  obtain ⟨up, hup⟩ : ∃ up : ByteArray, up = ⟨I.toArray⟩ := ⟨_, rfl⟩
  obtain ⟨bh, hbh⟩ : ∃ bh : ByteArray, bh = ⟨F.toArray⟩ := ⟨_, rfl⟩
  have Hup : Hid (up.data.toList = I) := by unfold Hid; rw [hup]
  have Hbh : Hid (bh.data.toList = F) := by unfold Hid; rw [hbh]
  rw [← hup, ← hbh]
  clear hup hbh
  obtain ⟨w3, hw3⟩ : ∃ w3, w3 = w2.drewN nc := ⟨_, rfl⟩
  rw [← hw3]
  have hb3 : Below w.heap.size w w3 := by rw [hw3]; exact below_drewN hb2 _
  have hR3 : Blk w3 w.heap.size 227 #[.bool false, .string ⟨#[]⟩, .int .i64 0] := by rw [hw3]; exact hR2
  have hN3 : Blk w3 (w.heap.size + 1) 227 #[.bool neg, .string ⟨#[]⟩, .int .i64 0] := by rw [hw3]; exact hN2
  clear hw3 hb2 hR2 hN2
  have hbhs : bh.size ≤ 100000 := by rw [Lib.size_eq, Hbh.out]; omega
  have hups : up.size ≤ 100000 := by rw [Lib.size_eq, Hup.out]; omega
  have c2 := hN3.cell 2
  have f2 := hN3.frozen 2
  simp only [List.getElem?_toArray, List.getElem?_cons_succ, List.getElem?_cons_zero] at c2
  go_wp2_with fail
  obtain ⟨w4, hw4⟩ : ∃ w4, w4 = w3.setCell ⟨w.heap.size + 1, 2, none⟩ (.int .i64 (-(bh.size : Int))) := ⟨_, rfl⟩
  rw [← hw4]
  have hb4 : Below w.heap.size w w4 := by rw [hw4]; exact hb3.setCell (by simp) _
  have hR4 : Blk w4 w.heap.size 227 #[.bool false, .string ⟨#[]⟩, .int .i64 0] := by rw [hw4]; exact hR3.far (by simp) _
  have hN4 : Blk w4 (w.heap.size + 1) 227 #[.bool neg, .string ⟨#[]⟩, .int .i64 (-(bh.size : Int))] := by rw [hw4]; exact hN3.set_ 2 _
  clear hw4 hb3 hR3 hN3 c2 f2
  refine (Tryz.strings_HasPrefix xp ⟨#[45]⟩ _).mono ?_
  rw [show Lib.hasPrefix (xp : ByteArray).data.toList [45] = true from by rw [Hxp.out, sign_neg sg X hHG.out.exOk.2.1 hHG.out.exOk.2.2.1 hHG.out.exOk.2.2.2]; simp [hsg]]
  rintro e1 w' ⟨rfl, rfl⟩
  go_wp2_with fail
  refine (Any.strings_Trim_laid Tryz.lays160 (by kernel_rfl) xp ⟨#[43, 45]⟩ _ (by omega) (by decide) (ascii_of_all (by decide))).mono ?_
  rintro e1 w5 ⟨rfl, hb⟩
  obtain ⟨xd, hxd⟩ : ∃ xd : ByteArray, xd = ⟨(Lib.trimS (xp : ByteArray).data.toList [43, 45]).toArray⟩ := ⟨_, rfl⟩
  rw [← hxd]
  have Hxd : Hid (xd.data.toList = X) := by unfold Hid; rw [hxd]; rw [Hxp.out]; exact trim_signs sg X hHG.out.exOk.2.1 hHG.out.exOk.2.2.1 hHG.out.exOk.2.2.2
  clear hxd
  have hb5 : Below w.heap.size w w5 := hb4.trans (hb.mono hb4.size)
  have hR5 := hR4.below hb hR4.lt
  have hN5 := hN4.below hb hN4.lt
  have l5 := hN5.lt
  clear hb hb4 hR4 hN4
  have hxds : xd.size ≤ 100000 := by rw [Lib.size_eq, Hxd.out]; have := HI1.out; simp at this; omega
  have hxdd : Hid (∀ (k : Nat) (h : k < xd.size), isD xd[k] = true) := fun k h => by
    have hm : xd[k] ∈ xd.data.toList := by
      have : xd.data.toList[k]? = some xd[k] := by rw [List.getElem?_eq_getElem (by simpa using h)]; rfl
      exact List.mem_of_getElem? this
    rw [Hxd.out] at hm
    exact hHG.out.exOk.2.2.2 _ hm
  go_wp2_with fail
  go_loopw [12] (fun b wr => ∃ (k : Nat), k ≤ xd.size ∧ b = .int .i64 (valP (xd.data.toList.take k) : Nat) ∧ wr = w5.iter xd k) (fun _ wr => xd.size - wr.iterPos w5.heap.size)
  case atStart => exact ⟨0, Nat.zero_le _, rfl, rfl⟩
  case round =>
    obtain ⟨k, hk, rfl, rfl⟩ := hrel
    by_cases hlt : k < xd.size
    · have hdk := hxdd.out k hlt
      obtain ⟨g1, g2⟩ := digit_bd xd[k] hdk
      have hnx := fun ty => run_next_ascii (P := Tryz.prog) w5 xd k ty hlt (ascii_dig _ hdk)
      have hsn : Hid (valP (xd.data.toList.take (k + 1)) = min (10 * valP (xd.data.toList.take k) + (xd[k].toNat - 48)) 1099511627776) := by
        unfold Hid; rw [take_snoc xd k hlt, valP_snoc]
      have hvl := valP_le (xd.data.toList.take k)
      generalize valP (xd.data.toList.take k) = V at hsn hvl
      clear hdk
      by_cases hmin : (10 * (V : Int) + ((xd[k].toNat : Int) - 48)) < 1099511627776
      all_goals
        go_wp2_with fail
        go_roundw
        case rel => exact ⟨k + 1, by omega, by rw [hsn.out]; congr 1; omega, rfl⟩
        case measure => simp; omega
    · have hkk : k = xd.size := by omega
      have hV : Hid (xd.data.toList.take k = X) := by
        unfold Hid
        rw [hkk, Lib.size_eq, List.take_length, Hxd.out]
      rw [hV.out]
      have hvl := valP_le X
      have hnx := fun ty => run_next_end (P := Tryz.prog) w5 xd k ty (by omega)
      obtain ⟨V, hVV⟩ : ∃ V, V = valP X := ⟨_, rfl⟩
      rw [← hVV]
      rw [← hVV] at hvl
      have HVV := Lib.hid hVV
      clear hVV hlt hk hkk
      have hb6 : Below w.heap.size w (w5.iter xd k) := hb5.alloc hb5.size _
      have hR6 : Blk (w5.iter xd k) w.heap.size 227 #[.bool false, .string ⟨#[]⟩, .int .i64 0] := hR5.alloc _
      have hN6 : Blk (w5.iter xd k) (w.heap.size + 1) 227 #[.bool neg, .string ⟨#[]⟩, .int .i64 (-(bh.size : Int))] := hN5.alloc _
      clear hb5 hR5 hN5
      have c2 := hN6.cell 2
      have f2 := hN6.frozen 2
      simp only [List.getElem?_toArray, List.getElem?_cons_succ, List.getElem?_cons_zero] at c2
      go_wp2_with fail
      obtain ⟨w7, hw7⟩ : ∃ w7, w7 = (w5.iter xd k).setCell ⟨w.heap.size + 1, 2, none⟩ (.int .i64 (-(bh.size : Int) + -(V : Int))) := ⟨_, rfl⟩
      rw [← hw7]
      have hxv : -(bh.size : Int) + -(V : Int) = -(F.length : Int) + xs := by
        rw [HXS.out, Lib.size_eq, Hbh.out, HVV.out]
        simp [Ex.val, hsg]
      rw [hxv] at hw7
      obtain ⟨x0, hx0⟩ : ∃ x0 : Int, x0 = -(F.length : Int) + xs := ⟨_, rfl⟩
      have hx0b : -1099511800000 ≤ x0 ∧ x0 ≤ 1099511800000 := by
        have : (F.length : Int) = bh.size := by rw [Lib.size_eq, Hbh.out]
        omega
      obtain ⟨hx0b, hx0c⟩ := hx0b
      rw [← hx0] at hw7
      have HX0 := Lib.hid hx0
      have hb7 : Below w.heap.size w w7 := by rw [hw7]; exact hb6.setCell (by simp) _
      have hR7 : Blk w7 w.heap.size 227 #[.bool false, .string ⟨#[]⟩, .int .i64 0] := by rw [hw7]; exact hR6.far (by simp) _
      have hN7 : Blk w7 (w.heap.size + 1) 227 #[.bool neg, .string ⟨#[]⟩, .int .i64 x0] := by rw [hw7]; exact hN6.set_ 2 _
      have hcat : (up ++ bh).data.toList = I ++ F := by rw [data_append, Hup.out, Hbh.out]
      have hcats : (up ++ bh).size ≤ 200000 := by rw [Lib.size_eq, hcat, List.length_append]; omega
      have HCAT := Lib.hid hcat
      clear hw7 hb6 hR6 hN6 c2 f2 hcat hxv hnx hx0 HXS HVV hvl
      refine (Tryz.strings_TrimLeft_one (up ++ bh) 48 (by decide) _).mono ?_
      rw [HCAT.out]
      rintro e1 w' ⟨rfl, rfl⟩
      obtain ⟨al, hal⟩ : ∃ al : ByteArray, al = ⟨(Lib.trimLeftB (I ++ F) 48).toArray⟩ := ⟨_, rfl⟩
      rw [← hal]
      have Hal : Hid (al.data.toList = ltrim (I ++ F)) := by unfold Hid; rw [hal]; rfl
      clear hal
      have hals : al.size ≤ 200000 := by
        rw [Lib.size_eq, Hal.out]
        have := ltrim_le (I ++ F)
        rw [Lib.size_eq, HCAT.out] at hcats
        omega
      clear hcats
      go_wp2_with fail
      refine (Tryz.strings_TrimRight_one al 48 (by decide) _ (by omega)).mono ?_
      rw [Hal.out]
      rintro e1 w' ⟨rfl, rfl⟩
      obtain ⟨dd, hdd⟩ : ∃ dd : ByteArray, dd = ⟨(Lib.trimRightB (ltrim (I ++ F)) 48).toArray⟩ := ⟨_, rfl⟩
      rw [← hdd]
      have Hdd : Hid (dd.data.toList = rtrim (ltrim (I ++ F))) := by unfold Hid; rw [hdd]; rfl
      clear hdd
      have hdds : dd.size ≤ al.size := by
        rw [Lib.size_eq, Lib.size_eq, Hal.out, Hdd.out]; exact rtrim_le _
      have r0 := hR7.cell 0
      have r1 := hR7.cell 1
      have r2 := hR7.cell 2
      have rf0 := hR7.frozen 0
      have rf1 := hR7.frozen 1
      have rf2 := hR7.frozen 2
      have n0 := hN7.cell 0
      have n1 := hN7.cell 1
      have n2 := hN7.cell 2
      have nf1 := hN7.frozen 1
      have nf2 := hN7.frozen 2
      simp only [List.getElem?_toArray, List.getElem?_cons_succ, List.getElem?_cons_zero] at r0 r1 r2 n0 n1 n2
      have hRF : Blk (((((w'.setCell ⟨w.heap.size + 1, 1, none⟩ (.string dd)).setCell ⟨w.heap.size + 1, 2, none⟩ (.int .i64 (x0 + (al.size - dd.size)))).setCell ⟨w.heap.size, 0, none⟩ (.bool false)).setCell ⟨w.heap.size, 1, none⟩ (.string ⟨#[]⟩)).setCell ⟨w.heap.size, 2, none⟩ (.int .i64 0)) w.heap.size 227 #[.bool false, .string ⟨#[]⟩, .int .i64 0] :=
        ((((hR7.far (p := ⟨w.heap.size + 1, 1, none⟩) (by simp) _).far (p := ⟨w.heap.size + 1, 2, none⟩) (by simp) _).set_ 0 _).set_ 1 _).set_ 2 _
      have HRF := Lib.hid hRF
      clear hRF
      have hfin : Hid (fin neg (I ++ F) x0 = if dd.data.toList = [] then (zero, 0) else if right ⟨neg, dd.data.toList, x0 + (al.size - dd.size)⟩ then (⟨neg, dd.data.toList, x0 + (al.size - dd.size)⟩, 0) else (zero, 4)) := by
        unfold Hid fin; rw [Hdd.out, Lib.size_eq, Lib.size_eq, Hdd.out, Hal.out]
      by_cases hD : dd.data.toList = []
      · have hde : dd.toList.isEmpty = true := by rw [isEmpty_iff, hD]; rfl
        have hf2 := hfin.out
        rw [if_pos hD] at hf2
        have HF2 := Lib.hid hf2
        clear hfin hf2 hD
        go_wp2_with fail
        refine bodyPost_ret (v := .tuple #[nv zero, .int .i64 0]) (by obtain ⟨a, b, c⟩ := res_cells HRF.out; simp [results, Tryz.results208, go_sem, nv, zero, a, b, c]) rfl ⟨by rw [← HX0.out, HF2.out], ?_⟩
        repeat (first | exact hb7 | refine Below.setCell ?_ (by simp) _)
      · have hde : dd.toList.isEmpty = false := by
          rw [isEmpty_iff]
          cases h : dd.data.toList with
          | nil => exact absurd h hD
          | cons _ _ => rfl
        have hf2 := hfin.out
        rw [if_neg hD] at hf2
        have HF2 := Lib.hid hf2
        clear hfin hf2 hD
        go_wp2_with fail
        refine (right_any neg dd (x0 + (al.size - dd.size)) _ (by omega)).mono ?_
        generalize right ⟨neg, dd.data.toList, x0 + (al.size - dd.size)⟩ = RR at HF2
        rintro e1 w8 ⟨rfl, hb⟩
        have hb8 : Below w.heap.size w w8 := by
          refine Below.trans ?_ (hb.mono ?_)
          · exact (hb7.setCell (p := ⟨w.heap.size + 1, 1, none⟩) (by simp) _).setCell (p := ⟨w.heap.size + 1, 2, none⟩) (by simp) _
          · simpa using hb7.size
        have hR8 : Blk w8 w.heap.size 227 #[.bool false, .string ⟨#[]⟩, .int .i64 0] := ((hR7.far (p := ⟨w.heap.size + 1, 1, none⟩) (by simp) _).far (p := ⟨w.heap.size + 1, 2, none⟩) (by simp) _).below hb (by simpa using hR7.lt)
        have hN8 : Blk w8 (w.heap.size + 1) 227 #[.bool neg, .string dd, .int .i64 (x0 + (al.size - dd.size))] := ((hN7.set_ 1 _).set_ 2 _).below hb (by simpa using hN7.lt)
        clear hb hb7 hR7 hN7 r0 r1 r2 rf0 rf1 rf2 n0 n1 n2 nf1 nf2
        have r0 := hR8.cell 0
        have r1 := hR8.cell 1
        have r2 := hR8.cell 2
        have rf0 := hR8.frozen 0
        have rf1 := hR8.frozen 1
        have rf2 := hR8.frozen 2
        have n0 := hN8.cell 0
        have n1 := hN8.cell 1
        have n2 := hN8.cell 2
        simp only [List.getElem?_toArray, List.getElem?_cons_succ, List.getElem?_cons_zero] at r0 r1 r2 n0 n1 n2
        cases RR with
        | false =>
          have HF3 : Hid (fin neg (I ++ F) x0 = (zero, 4)) := by have := HF2.out; rw [if_neg (by simp)] at this; exact this
          clear HF2
          go_wp2_with fail
          have hRF : Blk (((w8.setCell ⟨w.heap.size, 0, none⟩ (.bool false)).setCell ⟨w.heap.size, 1, none⟩ (.string ⟨#[]⟩)).setCell ⟨w.heap.size, 2, none⟩ (.int .i64 0)) w.heap.size 227 #[.bool false, .string ⟨#[]⟩, .int .i64 0] := ((hR8.set_ 0 _).set_ 1 _).set_ 2 _
          refine bodyPost_ret (v := .tuple #[nv zero, .int .i64 4]) (by obtain ⟨a, b, c⟩ := res_cells hRF; simp [results, Tryz.results208, go_sem, nv, zero, a, b, c]) rfl ⟨by rw [← HX0.out, HF3.out], ?_⟩
          repeat (first | exact hb8 | refine Below.setCell ?_ (by simp) _)
        | true =>
          have HF3 : Hid (fin neg (I ++ F) x0 = (⟨neg, dd.data.toList, x0 + (al.size - dd.size)⟩, 0)) := by have := HF2.out; rw [if_pos rfl] at this; exact this
          clear HF2
          go_wp2_with fail
          have hRF : Blk (((w8.setCell ⟨w.heap.size, 0, none⟩ (.bool neg)).setCell ⟨w.heap.size, 1, none⟩ (.string dd)).setCell ⟨w.heap.size, 2, none⟩ (.int .i64 (x0 + (al.size - dd.size)))) w.heap.size 227 #[.bool neg, .string dd, .int .i64 (x0 + (al.size - dd.size))] := ((hR8.set_ 0 _).set_ 1 _).set_ 2 _
          refine bodyPost_ret (v := .tuple #[.agg #[.bool neg, .string dd, .int .i64 (x0 + (al.size - dd.size))], .int .i64 0]) (by obtain ⟨a, b, c⟩ := res_cells hRF; simp [results, Tryz.results208, go_sem, a, b, c]) rfl ⟨by rw [← HX0.out, HF3.out]; dsimp only [nv], ?_⟩
          repeat (first | exact hb8 | refine Below.setCell ?_ (by simp) _)


/-- num.Parse AT A NUMBER's TEXT. -/
theorem parse_good (s : ByteArray) (w : World) (neg : Bool) (I : List UInt8) (pt : Bool) (F : List UInt8) (ex : Ex) (hg : NumPlain.Good I pt F ex) (hl : s.data.toList = render neg I pt F ex) (hsc : NumPlain.scan s.data.toList = s.data.toList.length) (hs : s.size ≤ 100000) (hG : Glob w) :
    Calls Tryz.prog 208 #[.string s] w fun e w' => e = .returned (.tuple #[nv (fin neg (I ++ F) (-(F.length : Int) + ex.val valP)).1, .int .i64 (fin neg (I ++ F) (-(F.length : Int) + ex.val valP)).2]) ∧ Below w.heap.size w w' := by
  cases ex with
  | no => exact parse_no s w neg I pt F _ rfl hg hl hsc hs hG
  | some e sg X =>
    by_cases h : sg = [45]
    · exact parse_some_down s w neg I pt F _ e sg X rfl h hg hl hsc hs hG
    · exact parse_some s w neg I pt F _ e sg X rfl h hg hl hsc hs hG

end Go.Proofs.YtdfihhebgllpcaaGreatDoor
