import Derived.Test.YtdfihhebgllpcaaGreatDoorAo23
import Derived.Test.YtdfihhebgllpcaaGreatDoorAo14

/- The walk of the reference's one. -/
namespace Go.Proofs.YtdfihhebgllpcaaGreatDoor
open Go.RowKit Go.Proofs.QuotePlain Go.Proofs.UtfPlain Go.Proofs.LexPlain

abbrev rtoldA (v : Value) (a x : Int) : Array Value := #[v, .int .i64 a, .int .i64 x]
theorem rone_res (B : Nat) (v : Value) (a x : Int) (W : World) (tmps : Array Value) (hB : Blk W B 178 (rtoldA v a x)) (h : tmps[4]? = some (.pointer (some ⟨B, 0, none⟩))) :
    (results Tryz.f188 tmps).run Tryz.prog W = .ok (.agg (rtoldA v a x)) W := by
  have c0 : W.cell? ⟨B, 0, none⟩ = some v := hB.cell 0
  have c1 : W.cell? ⟨B, 1, none⟩ = some (.int .i64 a) := hB.cell 1
  have c2 : W.cell? ⟨B, 2, none⟩ = some (.int .i64 x) := hB.cell 2
  simp [results, Tryz.results188, go_sem, h, c0, c1, c2]
/-- A token, or an error where no name stands. -/
def ROne (s : ByteArray) (k : Nat) (c : UInt8) (w : World) (e : Ending) (w' : World) : Prop :=
  ((∃ a x : Int, e = .returned (.agg (rtoldA (.slice none 0 0) a x)) ∧ x ≠ 0 ∧ letter c = false) ∨ ∃ K N : Nat, Tok (s.data.toList.drop k) K N ∧ RTok s k K N w e w') ∧ Below w.heap.size w w'
theorem blk_ne {w : World} {g B : Nat} {cs cs' : Array Value} (h : Blk w g 127 cs) (h' : Blk w B 178 cs') : g ≠ B := by
  rintro rfl
  have := h.symm.trans h'
  injection this with this
  injection this with _ h2 _
  exact absurd h2 (by decide)

set_option maxRecDepth 100000 in
set_option maxHeartbeats 4000000 in
theorem rone_line (s : ByteArray) (k : Nat) (w : World) (hs : s.size ≤ 100000) (hk : k < s.size) (c : UInt8) (hc : s[k] = c) (h : c = 10) :
    Calls Tryz.prog 188 #[.string s, .int .i64 k] w (ROne s k c w) := by
  have hdr : s.data.toList.drop k = c :: s.data.toList.drop (k + 1) := by
    rw [List.drop_eq_getElem_cons (by rw [← Lib.size_eq]; exact hk), ← hc]; rfl
  have hlen : (c :: s.data.toList.drop (k + 1)).length = s.size - k := by rw [← hdr, List.length_drop, ← Lib.size_eq]
  obtain ⟨n, hn⟩ : ∃ n : Int, n = (c.toNat : Int) := ⟨_, rfl⟩
  have hnd : ((s[k].toNat : Nat) : Int) = n := by rw [hc, hn]
  have n0 : 0 ≤ n := by omega
  have n1 : n < 256 := by have := c.toNat_lt; omega
  have hki : (k : Int) < (s.size : Int) := by omega
  have HT : Hid (Tok (s.data.toList.drop k) 5 1) := by unfold Hid; rw [hdr]; exact tok_other c _ 5 1 (by rw [h]; decide) (by decide) (by decide) (by simp)
  have CT := Lib.hid (fun w => rtoken_any s k 5 1 w (by omega) (by omega))
  have e10 : n = 10 := by rw [hn, h]; rfl
  subst e10
  clear hdr hlen hn hc h
  go_enter Tryz.func188, Tryz.ntmps188
  go_upto_region 1 with fail
  have hB0 := Blk.new w 178 (rtoldA (.slice none 0 0) 0 0)
  have hl0 : Below w.heap.size w (w.alloc (.cells (rtoldA (.slice none 0 0) 0 0) 178)) := (Below.refl _ _).alloc (Nat.le_refl _) _
  obtain ⟨W, hW⟩ : ∃ W, w.alloc (.cells (rtoldA (.slice none 0 0) 0 0) 178) = W := ⟨_, rfl⟩
  obtain ⟨B, hB⟩ : ∃ B, w.heap.size = B := ⟨_, rfl⟩
  rw [hW] at hB0 hl0 ⊢
  rw [hB] at hB0 hl0 ⊢
  have HB0 := Lib.hid hB0
  have HL0 := Lib.hid hl0
  have HBB := Lib.hid hB
  have hBl0 := hB0.lt
  clear hW hB0 hl0 hB
  go_wp2_with fail
  refine (CT.out _).mono ?_
  rintro e wt ⟨⟨g, rfl, hge, hg⟩, hb⟩
  have HGE := Lib.hid (Nat.le_trans HL0.out.size hge)
  have HBt := Lib.hid (HB0.out.below hb HB0.out.lt)
  have HLt := Lib.hid (HL0.out.trans (hb.mono (by have := HB0.out.lt; omega)))
  have HG := Lib.hid hg
  have hgB := blk_ne hg HBt.out
  clear hb hg hge
  have c0 : wt.cell? ⟨B, 0, none⟩ = some (.slice none 0 0) := HBt.out.cell 0
  have c1 : wt.cell? ⟨B, 1, none⟩ = some (.int .i64 0) := HBt.out.cell 1
  have c2 : wt.cell? ⟨B, 2, none⟩ = some (.int .i64 0) := HBt.out.cell 2
  have f0 : wt.frozen? ⟨B, 0, none⟩ = false := HBt.out.frozen 0
  have f1 : wt.frozen? ⟨B, 1, none⟩ = false := HBt.out.frozen 1
  have f2 : wt.frozen? ⟨B, 2, none⟩ = false := HBt.out.frozen 2
  go_wp2_with fail
  refine bodyPost_ret (rone_res B _ 0 0 _ _ (((HBt.out.set_ 0 _).set_ 1 _).set_ 2 _) rfl) rfl ⟨.inr ⟨_, _, HT.out, g, rfl, HGE.out, ?_⟩, ?_⟩
  · exact ((HG.out.far (p := ⟨B, 0, none⟩) hgB _).far (p := ⟨B, 1, none⟩) hgB _).far (p := ⟨B, 2, none⟩) hgB _
  · rw [HBB.out]
    exact (((HLt.out).setCell (p := ⟨B, 0, none⟩) (Nat.le_refl _) _).setCell (p := ⟨B, 1, none⟩) (Nat.le_refl _) _).setCell (p := ⟨B, 2, none⟩) (Nat.le_refl _) _
set_option maxRecDepth 100000 in
set_option maxHeartbeats 4000000 in
theorem rone_name (s : ByteArray) (k : Nat) (w : World) (hs : s.size ≤ 100000) (hk : k < s.size) (c : UInt8) (hc : s[k] = c) (h : letter c = true) :
    Calls Tryz.prog 188 #[.string s, .int .i64 k] w (ROne s k c w) := by
  have hdr : s.data.toList.drop k = c :: s.data.toList.drop (k + 1) := by
    rw [List.drop_eq_getElem_cons (by rw [← Lib.size_eq]; exact hk), ← hc]; rfl
  have hlen : (c :: s.data.toList.drop (k + 1)).length = s.size - k := by rw [← hdr, List.length_drop, ← Lib.size_eq]
  obtain ⟨n, hn⟩ : ∃ n : Int, n = (c.toNat : Int) := ⟨_, rfl⟩
  have hnd : ((s[k].toNat : Nat) : Int) = n := by rw [hc, hn]
  have n0 : 0 ≤ n := by omega
  have n1 : n < 256 := by have := c.toNat_lt; omega
  have hki : (k : Int) < (s.size : Int) := by omega
  have CL := Lib.hid (fun w => rletter_any c w)
  rw [h, ← hn] at CL
  have e10 : (n == 10) = false := by rw [beq_eq_false_iff_ne]; intro e; rw [hn] at e; have : c = 10 := UInt8.toNat_inj.1 (by show c.toNat = 10; omega); rw [this] at h; exact absurd h (by decide)
  have HDR := Lib.hid hdr
  have HLEN := Lib.hid hlen
  have HC := Lib.hid h
  clear hdr hlen hn hc h
  go_enter Tryz.func188, Tryz.ntmps188
  go_upto_region 1 with fail
  have hB0 := Blk.new w 178 (rtoldA (.slice none 0 0) 0 0)
  have hl0 : Below w.heap.size w (w.alloc (.cells (rtoldA (.slice none 0 0) 0 0) 178)) := (Below.refl _ _).alloc (Nat.le_refl _) _
  obtain ⟨W, hW⟩ : ∃ W, w.alloc (.cells (rtoldA (.slice none 0 0) 0 0) 178) = W := ⟨_, rfl⟩
  obtain ⟨B, hB⟩ : ∃ B, w.heap.size = B := ⟨_, rfl⟩
  rw [hW] at hB0 hl0 ⊢
  rw [hB] at hB0 hl0 ⊢
  have HB0 := Lib.hid hB0
  have HL0 := Lib.hid hl0
  have HBB := Lib.hid hB
  have hBl0 := hB0.lt
  clear hW hB0 hl0 hB
  go_wp2_with fail
  refine (CL.out _).mono ?_
  rintro e w2 ⟨rfl, rfl⟩
  go_wp2_with fail
  go_loop [5] (fun i => ∃ j : Nat, 1 ≤ j ∧ k + j ≤ s.size ∧ i = .int .i64 j ∧ Hid (∀ d ∈ (s.data.toList.drop (k + 1)).take (j - 1), word d = true)) (fun i => s.size - (intOf i).toNat)
  case atStart => exact ⟨1, by omega, by omega, rfl, Lib.hid (by simp)⟩
  case round =>
    obtain ⟨j, hj1, hj2, rfl, HK⟩ := hrel
    obtain ⟨m, hm⟩ : ∃ m : Nat, m = k + j := ⟨_, rfl⟩
    have hmi : (k : Int) + (j : Int) = (m : Int) := by omega
    have fin : (j - 1 = (s.data.toList.drop (k + 1)).length ∨ ∃ d, (s.data.toList.drop (k + 1))[j - 1]? = some d ∧ word d = false) → Hid (Tok (s.data.toList.drop k) 1 j) := fun h => by
      unfold Hid
      have h1 := nameLen_stop c (s.data.toList.drop (k + 1)) HC.out (j - 1) (by rw [List.length_drop, ← Lib.size_eq]; omega) HK.out h
      have h2 := tok_name c (s.data.toList.drop (k + 1)) HC.out
      rw [h1, ← HDR.out] at h2
      rw [show j = j - 1 + 1 by omega]; exact h2
    have CT := Lib.hid (fun w => rtoken_any s k 1 j w (by omega) (by omega))
    have HM := Lib.hid hm
    by_cases hlt : m < s.size
    · have hlt' : (m : Int) < (s.size : Int) := by omega
      obtain ⟨d, hd⟩ : ∃ d, s[m] = d := ⟨_, rfl⟩
      have hget : (s.data.toList.drop (k + 1))[j - 1]? = some d := by
        rw [List.getElem?_drop, show k + 1 + (j - 1) = m by omega, List.getElem?_eq_getElem (by rw [← Lib.size_eq]; exact hlt), ← hd]; rfl
      obtain ⟨v, hv⟩ : ∃ v : Int, v = (d.toNat : Int) := ⟨_, rfl⟩
      have hvd : ((s[m].toNat : Nat) : Int) = v := by rw [hd, hv]
      have go : word d = true → Hid (∀ d ∈ (s.data.toList.drop (k + 1)).take (j + 1 - 1), word d = true) := fun hw => by
        unfold Hid
        rw [show j + 1 - 1 = j - 1 + 1 by omega, List.take_add_one, hget]
        intro x hx
        rcases List.mem_append.1 hx with h | h
        · exact HK.out x h
        · simp at h; rw [h]; exact hw
      have CD := Lib.hid (fun w => rletter_any d w)
      rw [← hv] at CD
      by_cases hw : letter d = true
      · have G := go (by unfold word; rw [hw]; rfl)
        rw [hw] at CD
        clear go fin hget hw hd hv HK hm
        go_wp2_with fail
        refine (CD.out _).mono ?_
        rintro e w3 ⟨rfl, rfl⟩
        go_wp2_with fail
        go_round
        case rel => exact ⟨j + 1, by omega, by have := HM.out; omega, by go_num, G⟩
        case measure => have := HM.out; simp [intOf]; omega
      have hw2 := Bool.eq_false_iff.2 hw
      rw [hw2] at CD
      by_cases g1 : 48 ≤ v ∧ v ≤ 57
      · have G := go (by unfold word digit; rw [decide_eq_true (show 48 ≤ d.toNat by omega), decide_eq_true (show d.toNat ≤ 57 by omega)]; simp)
        obtain ⟨g1, g2⟩ := g1
        clear go fin hget hw hw2 hd hv HK hm
        go_wp2_with fail
        refine (CD.out _).mono ?_
        rintro e w3 ⟨rfl, rfl⟩
        go_wp2_with fail
        go_round
        case rel => exact ⟨j + 1, by omega, by have := HM.out; omega, by go_num, G⟩
        case measure => have := HM.out; simp [intOf]; omega
      have HT := fin (.inr ⟨d, hget, by unfold word digit; rw [hw2, Bool.false_or]; simp; omega⟩)
      have g2 : ¬ 48 ≤ v ∨ (48 ≤ v ∧ ¬ v ≤ 57) := by omega
      clear go fin hget hw hw2 hd hv HK g1 hm
      rcases g2 with g2 | ⟨g2, g3⟩
      all_goals (
        go_wp2_with fail
        refine (CD.out _).mono ?_
        rintro e w3 ⟨rfl, hw3⟩
        subst hw3
        go_wp2_with fail
        refine (CT.out _).mono ?_
        rintro e wt ⟨⟨g, rfl, hge, hg⟩, hb⟩
        have HGE := Lib.hid (Nat.le_trans HL0.out.size hge)
        have HBt := Lib.hid (HB0.out.below hb HB0.out.lt)
        have HLt := Lib.hid (HL0.out.trans (hb.mono (by have := HB0.out.lt; omega)))
        have HG := Lib.hid hg
        have hgB := blk_ne hg HBt.out
        clear hb hg hge
        have c0 : wt.cell? ⟨B, 0, none⟩ = some (.slice none 0 0) := HBt.out.cell 0
        have c1 : wt.cell? ⟨B, 1, none⟩ = some (.int .i64 0) := HBt.out.cell 1
        have c2 : wt.cell? ⟨B, 2, none⟩ = some (.int .i64 0) := HBt.out.cell 2
        have f0 : wt.frozen? ⟨B, 0, none⟩ = false := HBt.out.frozen 0
        have f1 : wt.frozen? ⟨B, 1, none⟩ = false := HBt.out.frozen 1
        have f2 : wt.frozen? ⟨B, 2, none⟩ = false := HBt.out.frozen 2
        go_wp2_with fail
        refine bodyPost_ret (rone_res B _ 0 0 _ _ (((HBt.out.set_ 0 _).set_ 1 _).set_ 2 _) rfl) rfl ⟨.inr ⟨_, _, HT.out, g, rfl, HGE.out, ?_⟩, ?_⟩
        · exact ((HG.out.far (p := ⟨B, 0, none⟩) hgB _).far (p := ⟨B, 1, none⟩) hgB _).far (p := ⟨B, 2, none⟩) hgB _
        · rw [HBB.out]
          exact (((HLt.out).setCell (p := ⟨B, 0, none⟩) (Nat.le_refl _) _).setCell (p := ⟨B, 1, none⟩) (Nat.le_refl _) _).setCell (p := ⟨B, 2, none⟩) (Nat.le_refl _) _)
    · have hlt' : ¬ (m : Int) < (s.size : Int) := by omega
      have HT := fin (.inl (by rw [List.length_drop, ← Lib.size_eq]; omega))
      clear fin HK hm
      go_wp2_with fail
      refine (CT.out _).mono ?_
      rintro e wt ⟨⟨g, rfl, hge, hg⟩, hb⟩
      have HGE := Lib.hid (Nat.le_trans HL0.out.size hge)
      have HBt := Lib.hid (HB0.out.below hb HB0.out.lt)
      have HLt := Lib.hid (HL0.out.trans (hb.mono (by have := HB0.out.lt; omega)))
      have HG := Lib.hid hg
      have hgB := blk_ne hg HBt.out
      clear hb hg hge
      have c0 : wt.cell? ⟨B, 0, none⟩ = some (.slice none 0 0) := HBt.out.cell 0
      have c1 : wt.cell? ⟨B, 1, none⟩ = some (.int .i64 0) := HBt.out.cell 1
      have c2 : wt.cell? ⟨B, 2, none⟩ = some (.int .i64 0) := HBt.out.cell 2
      have f0 : wt.frozen? ⟨B, 0, none⟩ = false := HBt.out.frozen 0
      have f1 : wt.frozen? ⟨B, 1, none⟩ = false := HBt.out.frozen 1
      have f2 : wt.frozen? ⟨B, 2, none⟩ = false := HBt.out.frozen 2
      go_wp2_with fail
      refine bodyPost_ret (rone_res B _ 0 0 _ _ (((HBt.out.set_ 0 _).set_ 1 _).set_ 2 _) rfl) rfl ⟨.inr ⟨_, _, HT.out, g, rfl, HGE.out, ?_⟩, ?_⟩
      · exact ((HG.out.far (p := ⟨B, 0, none⟩) hgB _).far (p := ⟨B, 1, none⟩) hgB _).far (p := ⟨B, 2, none⟩) hgB _
      · rw [HBB.out]
        exact (((HLt.out).setCell (p := ⟨B, 0, none⟩) (Nat.le_refl _) _).setCell (p := ⟨B, 1, none⟩) (Nat.le_refl _) _).setCell (p := ⟨B, 2, none⟩) (Nat.le_refl _) _
set_option maxRecDepth 100000 in
set_option maxHeartbeats 4000000 in
theorem rone_num (s : ByteArray) (k : Nat) (w : World) (hs : s.size ≤ 100000) (hk : k < s.size) (c : UInt8) (hc : s[k] = c) (h : letter c = false) (h1 : 48 ≤ c.toNat) (h2 : c.toNat ≤ 57) :
    Calls Tryz.prog 188 #[.string s, .int .i64 k] w (ROne s k c w) := by
  have h10 : c ≠ 10 := fun e => by rw [e] at h1; exact absurd h1 (by decide)
  have hdr : s.data.toList.drop k = c :: s.data.toList.drop (k + 1) := by
    rw [List.drop_eq_getElem_cons (by rw [← Lib.size_eq]; exact hk), ← hc]; rfl
  have hlen : (c :: s.data.toList.drop (k + 1)).length = s.size - k := by rw [← hdr, List.length_drop, ← Lib.size_eq]
  obtain ⟨n, hn⟩ : ∃ n : Int, n = (c.toNat : Int) := ⟨_, rfl⟩
  have hnd : ((s[k].toNat : Nat) : Int) = n := by rw [hc, hn]
  have n0 : 0 ≤ n := by omega
  have n1 : n < 256 := by have := c.toNat_lt; omega
  have hki : (k : Int) < (s.size : Int) := by omega
  have HNL := Lib.hid h
  have CL := Lib.hid (fun w => rletter_any c w)
  rw [h, ← hn] at CL
  have e10 : (n == 10) = false := by rw [beq_eq_false_iff_ne]; intro e; rw [hn] at e; exact h10 (UInt8.toNat_inj.1 (by show c.toNat = 10; omega))
  obtain ⟨S, hS⟩ : ∃ S : ByteArray, s.extract k s.size = S := ⟨_, rfl⟩
  have hSd : S.data.toList = s.data.toList.drop k := by
    rw [← hS, data_extract, List.take_of_length_le (by rw [List.length_drop, ← Lib.size_eq]; exact Nat.le_refl _)]
  have hSs : S.size = s.size - k := by rw [← hS, ByteArray.size_extract]; omega
  have hkle : k ≤ s.size := by omega
  have hklei : (k : Int) ≤ (s.size : Int) := by omega
  have g1 : 48 ≤ n := by omega
  have g2 : n ≤ 57 := by omega
  have hle := scan_le S.data.toList
  obtain ⟨N, hN⟩ : ∃ N, N = NumPlain.scan S.data.toList := ⟨_, rfl⟩
  rw [← hN, ← Lib.size_eq] at hle
  have CS : Hid (∀ w, Calls Tryz.prog 214 #[.string S] w fun e w' => e = .returned (.int .i64 (N : Int)) ∧ w = w') := fun w => by rw [hN]; exact rscan_any S w (by omega)
  obtain ⟨m, hm⟩ : ∃ m : Nat, m = k + N := ⟨_, rfl⟩
  have hmi : (k : Int) + (N : Int) = (m : Int) := by omega
  have hm5 : (m : Int) ≤ 1000000 := by omega
  have hms : m ≤ s.size := by omega
  have hkm : k ≤ m := by omega
  obtain ⟨X, hX⟩ : ∃ X : ByteArray, s.extract k m = X := ⟨_, rfl⟩
  have hXs : X.size ≤ 100000 := by rw [← hX, ByteArray.size_extract]; omega
  have hsl : ∀ W, (Instr.slice 9 (.string s) (some (.int .i64 (k : Int))) (some (.int .i64 (m : Int))) none).run Tryz.prog W = .ok (.string X) W := fun W => by
    have := run_slice_string (P := Tryz.prog) W 9 s .i64 .i64 (k : Int) (m : Int) (by kernel_rfl) (by omega) (by omega) (by omega)
    rw [← hX]
    simpa using this
  obtain ⟨R, hR⟩ := parsed_ex X.data.toList
  obtain ⟨x, hx⟩ : ∃ x : Int, x = R.2 := ⟨_, rfl⟩
  have CP : Hid (∀ w, Calls Tryz.prog 215 #[.string X] w fun e w' => e = .returned (.tuple #[nv R.1, .int .i64 x]) ∧ Below w.heap.size w w') := fun w => by rw [hx]; exact rparse_all X w R hR hXs
  have HT0 : Hid (x = 0 → Tok (s.data.toList.drop k) 2 N) := fun hx0 => by
    rw [hdr]
    refine tok_other c _ 2 N h (by decide) ?_ (by rw [hlen]; omega)
    refine Nat.pos_of_ne_zero fun hz => ?_
    have hXn : X.data.toList = [] := by rw [← hX, hm, hz, data_extract]; simp
    rcases hR with ⟨_, hR⟩ | ⟨neg, I, pt, F, ex, hg, hr, hsc, _⟩
    · rw [hx, hR] at hx0; exact absurd hx0 (by decide)
    · rw [hXn] at hr
      have h1 := congrArg List.length hr
      simp only [NumPlain.render, List.length_nil, List.length_append] at h1
      have h2 : I = [] := List.length_eq_zero_iff.1 (by omega)
      exact absurd h2 hg.iNe
  have CT := Lib.hid (fun w => rtoken_any s k 2 N w (by omega) (by omega))
  obtain ⟨vN, hv⟩ : ∃ v, nv R.1 = v := ⟨_, rfl⟩
  rw [hv] at CP
  unfold nv at hv
  subst hv
  clear hdr hlen hn hc h h10 h1 h2 hSd hSs hN hle hm hX hXs hR hx
  go_enter Tryz.func188, Tryz.ntmps188
  go_upto_region 1 with fail
  have hB0 := Blk.new w 178 (rtoldA (.slice none 0 0) 0 0)
  have hl0 : Below w.heap.size w (w.alloc (.cells (rtoldA (.slice none 0 0) 0 0) 178)) := (Below.refl _ _).alloc (Nat.le_refl _) _
  obtain ⟨W, hW⟩ : ∃ W, w.alloc (.cells (rtoldA (.slice none 0 0) 0 0) 178) = W := ⟨_, rfl⟩
  obtain ⟨B, hB⟩ : ∃ B, w.heap.size = B := ⟨_, rfl⟩
  rw [hW] at hB0 hl0 ⊢
  rw [hB] at hB0 hl0 ⊢
  have HB0 := Lib.hid hB0
  have HL0 := Lib.hid hl0
  have HBB := Lib.hid hB
  have hBl0 := hB0.lt
  clear hW hB0 hl0 hB
  go_wp2_with fail
  refine (CL.out _).mono ?_
  rintro e w2 ⟨rfl, hw2⟩
  subst hw2
  go_wp2_with fail
  refine (CS.out _).mono ?_
  rintro e w3 ⟨rfl, hw3⟩
  subst hw3
  go_wp2_with fail
  refine (CP.out _).mono ?_
  rintro e w4 ⟨rfl, hb4⟩
  have HB4 := Lib.hid (HB0.out.below hb4 HB0.out.lt)
  have HL4 := Lib.hid (HL0.out.trans (hb4.mono (by omega)))
  have hBl4 := HB4.out.lt
  have hBn4 : ¬ B = w4.heap.size := by omega
  clear hb4
  by_cases hx : x = 0
  case neg =>
    have hx1 : (x != 0) = true := by rw [bne_iff_ne]; exact hx
    have c0 : w4.cell? ⟨B, 0, none⟩ = some (.slice none 0 0) := HB4.out.cell 0
    have c1 : w4.cell? ⟨B, 1, none⟩ = some (.int .i64 0) := HB4.out.cell 1
    have c2 : w4.cell? ⟨B, 2, none⟩ = some (.int .i64 0) := HB4.out.cell 2
    have f0 : w4.frozen? ⟨B, 0, none⟩ = false := HB4.out.frozen 0
    have f1 : w4.frozen? ⟨B, 1, none⟩ = false := HB4.out.frozen 1
    have f2 : w4.frozen? ⟨B, 2, none⟩ = false := HB4.out.frozen 2
    go_wp2_with fail
    refine bodyPost_ret (rone_res B (.slice none 0 0) (k : Int) x _ _ ((((HB4.out.set_ 0 _).set_ 1 _).set_ 2 _).alloc _) rfl) rfl ⟨.inl ⟨(k : Int), x, rfl, hx, HNL.out⟩, ?_⟩
    rw [HBB.out]
    exact ((((HL4.out).setCell (p := ⟨B, 0, none⟩) (Nat.le_refl _) _).setCell (p := ⟨B, 1, none⟩) (Nat.le_refl _) _).setCell (p := ⟨B, 2, none⟩) (Nat.le_refl _) _).alloc (by simp; omega) _
  have HT : Hid (Tok (s.data.toList.drop k) 2 N) := HT0.out hx
  subst hx
  have HB5 := Lib.hid (HB4.out.alloc (.cells #[.bool R.1.neg, .string ⟨R.1.dig.toArray⟩, .int .i64 R.1.exp] 227))
  have HL5 := Lib.hid (HL4.out.alloc (by omega) (.cells #[.bool R.1.neg, .string ⟨R.1.dig.toArray⟩, .int .i64 R.1.exp] 227))
  go_wp2_with fail
  refine (CT.out _).mono ?_
  rintro e wt ⟨⟨g, rfl, hge, hg⟩, hb⟩
  have HGE := Lib.hid (Nat.le_trans HL5.out.size hge)
  have HBt := Lib.hid (HB5.out.below hb HB5.out.lt)
  have HLt := Lib.hid (HL5.out.trans (hb.mono (by have := HB5.out.lt; omega)))
  have HG := Lib.hid hg
  have hgB := blk_ne hg HBt.out
  clear hb hg hge
  have c0 : wt.cell? ⟨B, 0, none⟩ = some (.slice none 0 0) := HBt.out.cell 0
  have c1 : wt.cell? ⟨B, 1, none⟩ = some (.int .i64 0) := HBt.out.cell 1
  have c2 : wt.cell? ⟨B, 2, none⟩ = some (.int .i64 0) := HBt.out.cell 2
  have f0 : wt.frozen? ⟨B, 0, none⟩ = false := HBt.out.frozen 0
  have f1 : wt.frozen? ⟨B, 1, none⟩ = false := HBt.out.frozen 1
  have f2 : wt.frozen? ⟨B, 2, none⟩ = false := HBt.out.frozen 2
  go_wp2_with fail
  refine bodyPost_ret (rone_res B _ 0 0 _ _ (((HBt.out.set_ 0 _).set_ 1 _).set_ 2 _) rfl) rfl ⟨.inr ⟨_, _, HT.out, g, rfl, HGE.out, ?_⟩, ?_⟩
  · exact ((HG.out.far (p := ⟨B, 0, none⟩) hgB _).far (p := ⟨B, 1, none⟩) hgB _).far (p := ⟨B, 2, none⟩) hgB _
  · rw [HBB.out]
    exact (((HLt.out).setCell (p := ⟨B, 0, none⟩) (Nat.le_refl _) _).setCell (p := ⟨B, 1, none⟩) (Nat.le_refl _) _).setCell (p := ⟨B, 2, none⟩) (Nat.le_refl _) _
set_option maxRecDepth 100000 in
set_option maxHeartbeats 4000000 in
theorem rone_quot (s : ByteArray) (k : Nat) (w : World) (hs : s.size ≤ 100000) (hk : k < s.size) (c : UInt8) (hc : s[k] = c) (h : letter c = false) (h4 : c = 34) :
    Calls Tryz.prog 188 #[.string s, .int .i64 k] w (ROne s k c w) := by
  have h10 : c ≠ 10 := by rw [h4]; decide
  have hdr : s.data.toList.drop k = c :: s.data.toList.drop (k + 1) := by
    rw [List.drop_eq_getElem_cons (by rw [← Lib.size_eq]; exact hk), ← hc]; rfl
  have hlen : (c :: s.data.toList.drop (k + 1)).length = s.size - k := by rw [← hdr, List.length_drop, ← Lib.size_eq]
  obtain ⟨n, hn⟩ : ∃ n : Int, n = (c.toNat : Int) := ⟨_, rfl⟩
  have hnd : ((s[k].toNat : Nat) : Int) = n := by rw [hc, hn]
  have n0 : 0 ≤ n := by omega
  have n1 : n < 256 := by have := c.toNat_lt; omega
  have hki : (k : Int) < (s.size : Int) := by omega
  have HNL := Lib.hid h
  have CL := Lib.hid (fun w => rletter_any c w)
  rw [h, ← hn] at CL
  obtain ⟨S, hS⟩ : ∃ S : ByteArray, s.extract k s.size = S := ⟨_, rfl⟩
  have hSd : S.data.toList = s.data.toList.drop k := by
    rw [← hS, data_extract, List.take_of_length_le (by rw [List.length_drop, ← Lib.size_eq]; exact Nat.le_refl _)]
  have hSs : S.size = s.size - k := by rw [← hS, ByteArray.size_extract]; omega
  have hkle : k ≤ s.size := by omega
  have hklei : (k : Int) ≤ (s.size : Int) := by omega
  obtain ⟨E, hE⟩ : ∃ E, scanQ S.data.toList = E := ⟨_, rfl⟩
  have CQ := Lib.hid (fun w => rscan_any_q S w (by omega) E hE)
  have hok : (E.1 : Int) = 0 → 2 ≤ E.2.2 ∧ k + E.2.2 ≤ s.size := fun hx0 => by
    have := scanQ_ok S.data.toList (by rw [hE]; omega)
    rw [hE, ← Lib.size_eq] at this
    omega
  obtain ⟨N, hN⟩ : ∃ N, N = E.2.2 := ⟨_, rfl⟩
  obtain ⟨T, hT⟩ : ∃ T : ByteArray, T = ⟨E.2.1.toArray⟩ := ⟨_, rfl⟩
  obtain ⟨x, hx⟩ : ∃ x : Int, x = (E.1 : Int) := ⟨_, rfl⟩
  rw [← hT, ← hN, ← hx] at CQ
  rw [← hN, ← hx] at hok
  have HT0 : Hid (x = 0 → Tok (s.data.toList.drop k) 3 N) := fun hx0 => by
    have := hok hx0
    rw [hdr]
    exact tok_other c _ 3 _ h (by decide) (by omega) (by rw [hlen]; omega)
  have HOK := Lib.hid hok
  have e34 : n = 34 := by rw [hn, h4]; rfl
  subst e34
  clear hdr hlen hn hc h h10 h4 hSd hSs hE hN hT hx hok
  go_enter Tryz.func188, Tryz.ntmps188
  go_upto_region 1 with fail
  have hB0 := Blk.new w 178 (rtoldA (.slice none 0 0) 0 0)
  have hl0 : Below w.heap.size w (w.alloc (.cells (rtoldA (.slice none 0 0) 0 0) 178)) := (Below.refl _ _).alloc (Nat.le_refl _) _
  obtain ⟨W, hW⟩ : ∃ W, w.alloc (.cells (rtoldA (.slice none 0 0) 0 0) 178) = W := ⟨_, rfl⟩
  obtain ⟨B, hB⟩ : ∃ B, w.heap.size = B := ⟨_, rfl⟩
  rw [hW] at hB0 hl0 ⊢
  rw [hB] at hB0 hl0 ⊢
  have HB0 := Lib.hid hB0
  have HL0 := Lib.hid hl0
  have HBB := Lib.hid hB
  have hBl0 := hB0.lt
  clear hW hB0 hl0 hB
  go_wp2_with fail
  refine (CL.out _).mono ?_
  rintro e w2 ⟨rfl, hw2⟩
  subst hw2
  go_wp2_with fail
  refine (CQ.out _).mono ?_
  rintro e w4 ⟨rfl, hb4⟩
  have HB4 := Lib.hid (HB0.out.below hb4 HB0.out.lt)
  have HL4 := Lib.hid (HL0.out.trans (hb4.mono (by omega)))
  have hBl4 := HB4.out.lt
  have hBn4 : ¬ B = w4.heap.size := by omega
  clear hb4
  by_cases hx : x = 0
  case neg =>
    have hx1 : (x != 0) = true := by rw [bne_iff_ne]; exact hx
    have c0 : w4.cell? ⟨B, 0, none⟩ = some (.slice none 0 0) := HB4.out.cell 0
    have c1 : w4.cell? ⟨B, 1, none⟩ = some (.int .i64 0) := HB4.out.cell 1
    have c2 : w4.cell? ⟨B, 2, none⟩ = some (.int .i64 0) := HB4.out.cell 2
    have f0 : w4.frozen? ⟨B, 0, none⟩ = false := HB4.out.frozen 0
    have f1 : w4.frozen? ⟨B, 1, none⟩ = false := HB4.out.frozen 1
    have f2 : w4.frozen? ⟨B, 2, none⟩ = false := HB4.out.frozen 2
    go_wp2_with fail
    refine bodyPost_ret (rone_res B (.slice none 0 0) (k : Int) x _ _ ((((HB4.out.set_ 0 _).set_ 1 _).set_ 2 _).alloc _) rfl) rfl ⟨.inl ⟨(k : Int), x, rfl, hx, HNL.out⟩, ?_⟩
    rw [HBB.out]
    exact ((((HL4.out).setCell (p := ⟨B, 0, none⟩) (Nat.le_refl _) _).setCell (p := ⟨B, 1, none⟩) (Nat.le_refl _) _).setCell (p := ⟨B, 2, none⟩) (Nat.le_refl _) _).alloc (by simp; omega) _
  have HT : Hid (Tok (s.data.toList.drop k) 3 N) := HT0.out hx
  have hkN := (HOK.out hx).2
  have CT := Lib.hid (fun w => rtoken_any s k 3 N w (by omega) hkN)
  subst hx
  have HB5 := Lib.hid (HB4.out.alloc (.cells #[.string T, .int .i64 N, .int .i64 0] 109))
  have HL5 := Lib.hid (HL4.out.alloc (by omega) (.cells #[.string T, .int .i64 N, .int .i64 0] 109))
  go_wp2_with fail
  refine (CT.out _).mono ?_
  rintro e wt ⟨⟨g, rfl, hge, hg⟩, hb⟩
  have HGE := Lib.hid (Nat.le_trans HL5.out.size hge)
  have HBt := Lib.hid (HB5.out.below hb HB5.out.lt)
  have HLt := Lib.hid (HL5.out.trans (hb.mono (by have := HB5.out.lt; omega)))
  have HG := Lib.hid hg
  have hgB := blk_ne hg HBt.out
  clear hb hg hge
  have c0 : wt.cell? ⟨B, 0, none⟩ = some (.slice none 0 0) := HBt.out.cell 0
  have c1 : wt.cell? ⟨B, 1, none⟩ = some (.int .i64 0) := HBt.out.cell 1
  have c2 : wt.cell? ⟨B, 2, none⟩ = some (.int .i64 0) := HBt.out.cell 2
  have f0 : wt.frozen? ⟨B, 0, none⟩ = false := HBt.out.frozen 0
  have f1 : wt.frozen? ⟨B, 1, none⟩ = false := HBt.out.frozen 1
  have f2 : wt.frozen? ⟨B, 2, none⟩ = false := HBt.out.frozen 2
  go_wp2_with fail
  refine bodyPost_ret (rone_res B _ 0 0 _ _ (((HBt.out.set_ 0 _).set_ 1 _).set_ 2 _) rfl) rfl ⟨.inr ⟨_, _, HT.out, g, rfl, HGE.out, ?_⟩, ?_⟩
  · exact ((HG.out.far (p := ⟨B, 0, none⟩) hgB _).far (p := ⟨B, 1, none⟩) hgB _).far (p := ⟨B, 2, none⟩) hgB _
  · rw [HBB.out]
    exact (((HLt.out).setCell (p := ⟨B, 0, none⟩) (Nat.le_refl _) _).setCell (p := ⟨B, 1, none⟩) (Nat.le_refl _) _).setCell (p := ⟨B, 2, none⟩) (Nat.le_refl _) _
set_option maxRecDepth 100000 in
set_option maxHeartbeats 4000000 in
theorem rone_hash (s : ByteArray) (k : Nat) (w : World) (hs : s.size ≤ 100000) (hk : k < s.size) (c : UInt8) (hc : s[k] = c) (h : letter c = false) (h4 : c = 35) :
    Calls Tryz.prog 188 #[.string s, .int .i64 k] w (ROne s k c w) := by
  have h10 : c ≠ 10 := by rw [h4]; decide
  have hdr : s.data.toList.drop k = c :: s.data.toList.drop (k + 1) := by
    rw [List.drop_eq_getElem_cons (by rw [← Lib.size_eq]; exact hk), ← hc]; rfl
  have hlen : (c :: s.data.toList.drop (k + 1)).length = s.size - k := by rw [← hdr, List.length_drop, ← Lib.size_eq]
  obtain ⟨n, hn⟩ : ∃ n : Int, n = (c.toNat : Int) := ⟨_, rfl⟩
  have hnd : ((s[k].toNat : Nat) : Int) = n := by rw [hc, hn]
  have n0 : 0 ≤ n := by omega
  have n1 : n < 256 := by have := c.toNat_lt; omega
  have hki : (k : Int) < (s.size : Int) := by omega
  have HNL := Lib.hid h
  have CL := Lib.hid (fun w => rletter_any c w)
  rw [h, ← hn] at CL
  have CE := Lib.hid (fun w => rend_any s k w (by omega) hk (by rw [hc]; exact h10))
  have HDR := Lib.hid hdr
  have HLEN := Lib.hid hlen
  have HCB : Hid (LexPlain.blank s[k] = false) := by unfold Hid; rw [hc, h4]; decide
  have e35 : n = 35 := by rw [hn, h4]; rfl
  subst e35
  clear hdr hlen hn hc h h10 h4
  go_enter Tryz.func188, Tryz.ntmps188
  go_upto_region 1 with fail
  have hB0 := Blk.new w 178 (rtoldA (.slice none 0 0) 0 0)
  have hl0 : Below w.heap.size w (w.alloc (.cells (rtoldA (.slice none 0 0) 0 0) 178)) := (Below.refl _ _).alloc (Nat.le_refl _) _
  obtain ⟨W, hW⟩ : ∃ W, w.alloc (.cells (rtoldA (.slice none 0 0) 0 0) 178) = W := ⟨_, rfl⟩
  obtain ⟨B, hB⟩ : ∃ B, w.heap.size = B := ⟨_, rfl⟩
  rw [hW] at hB0 hl0 ⊢
  rw [hB] at hB0 hl0 ⊢
  have HB0 := Lib.hid hB0
  have HL0 := Lib.hid hl0
  have HBB := Lib.hid hB
  have hBl0 := hB0.lt
  clear hW hB0 hl0 hB
  go_wp2_with fail
  refine (CL.out _).mono ?_
  rintro e w2 ⟨rfl, hw2⟩
  subst hw2
  go_wp2_with fail
  refine (CE.out _).mono ?_
  rintro e w5 ⟨⟨E, rfl, hE1, hE2⟩, hw5⟩
  subst hw5
  go_wp2_with fail
  go_loop [10] (fun i => ∃ t : Nat, k < t ∧ t ≤ s.size ∧ i = .int .i64 t) (fun i => (intOf i).toNat)
  case atStart => exact ⟨E, hE1, hE2, rfl⟩
  case round =>
    obtain ⟨t, ht1, ht2, rfl⟩ := hrel
    obtain ⟨t1, ht3⟩ : ∃ t1 : Nat, t1 = t - 1 := ⟨_, rfl⟩
    have ht4 : (t : Int) - 1 = (t1 : Int) := by omega
    have ht5 : t1 < s.size := by omega
    have ht6 : (t1 : Int) < (s.size : Int) := by omega
    obtain ⟨d, hd⟩ : ∃ d, s[t1] = d := ⟨_, rfl⟩
    have CB := Lib.hid (fun w => rblank_any d w)
    have hd8 : d.toNat < 256 := d.toNat_lt
    by_cases hbk : LexPlain.blank d = true
    · rw [hbk] at CB
      have hne : t1 ≠ k := by
        rintro rfl
        have := HCB.out
        rw [hd, hbk] at this; cases this
      have ht7 : k < t1 := by omega
      have ht8 : t1 < t := by omega
      clear hbk hne ht3
      go_wp2_with fail
      refine (CB.out _).mono ?_
      rintro e w6 ⟨rfl, rfl⟩
      go_wp2_with fail
      go_round
      case rel => exact ⟨t1, ht7, by omega, by go_num⟩
      case measure => simp [intOf]; omega
    · rw [Bool.eq_false_iff.2 hbk] at CB
      have HT : Hid (Tok (s.data.toList.drop k) 6 (t - k)) := by
        unfold Hid
        rw [HDR.out]
        exact tok_other c _ 6 _ HNL.out (by decide) (by omega) (by rw [HLEN.out]; omega)
      clear hbk ht3
      go_wp2_with fail
      refine (CB.out _).mono ?_
      rintro e w6 ⟨rfl, hw6⟩
      subst hw6
      go_wp2_with fail
      refine (rcomment_any s k t 6 _ (by omega) (by omega) (by omega)).mono ?_
      rintro e wt ⟨hor, hb⟩
      have HBt := Lib.hid (HB0.out.below hb HB0.out.lt)
      have HLt := Lib.hid (HL0.out.trans (hb.mono (by omega)))
      clear hb
      have c0 : wt.cell? ⟨B, 0, none⟩ = some (.slice none 0 0) := HBt.out.cell 0
      have c1 : wt.cell? ⟨B, 1, none⟩ = some (.int .i64 0) := HBt.out.cell 1
      have c2 : wt.cell? ⟨B, 2, none⟩ = some (.int .i64 0) := HBt.out.cell 2
      have f0 : wt.frozen? ⟨B, 0, none⟩ = false := HBt.out.frozen 0
      have f1 : wt.frozen? ⟨B, 1, none⟩ = false := HBt.out.frozen 1
      have f2 : wt.frozen? ⟨B, 2, none⟩ = false := HBt.out.frozen 2
      rcases hor with ⟨a, x, rfl, hx⟩ | ⟨g, rfl, hge, hg⟩
      · have HX := Lib.hid hx
        clear hx
        go_wp2_with fail
        refine bodyPost_ret (rone_res B (.slice none 0 0) a x _ _ (((HBt.out.set_ 0 _).set_ 1 _).set_ 2 _) rfl) rfl ⟨.inl ⟨a, x, rfl, HX.out, HNL.out⟩, ?_⟩
        rw [HBB.out]
        exact (((HLt.out).setCell (p := ⟨B, 0, none⟩) (Nat.le_refl _) _).setCell (p := ⟨B, 1, none⟩) (Nat.le_refl _) _).setCell (p := ⟨B, 2, none⟩) (Nat.le_refl _) _
      have HG := Lib.hid hg
      have hgB := blk_ne hg HBt.out
      have HGE := Lib.hid (Nat.le_trans HL0.out.size hge)
      clear hg hge
      go_wp2_with fail
      refine bodyPost_ret (rone_res B _ 0 0 _ _ (((HBt.out.set_ 0 _).set_ 1 _).set_ 2 _) rfl) rfl ⟨.inr ⟨_, _, HT.out, g, rfl, HGE.out, ?_⟩, ?_⟩
      · exact ((HG.out.far (p := ⟨B, 0, none⟩) hgB _).far (p := ⟨B, 1, none⟩) hgB _).far (p := ⟨B, 2, none⟩) hgB _
      · rw [HBB.out]
        exact (((HLt.out).setCell (p := ⟨B, 0, none⟩) (Nat.le_refl _) _).setCell (p := ⟨B, 1, none⟩) (Nat.le_refl _) _).setCell (p := ⟨B, 2, none⟩) (Nat.le_refl _) _
set_option maxRecDepth 100000 in
set_option maxHeartbeats 4000000 in
theorem rone_slash (s : ByteArray) (k : Nat) (w : World) (hs : s.size ≤ 100000) (hk : k < s.size) (c : UInt8) (hc : s[k] = c) (h : letter c = false) (h4 : c = 47) (hp : Lib.hasPrefix (c :: s.data.toList.drop (k + 1)) [47, 47] = true) :
    Calls Tryz.prog 188 #[.string s, .int .i64 k] w (ROne s k c w) := by
  have h10 : c ≠ 10 := by rw [h4]; decide
  have hdr : s.data.toList.drop k = c :: s.data.toList.drop (k + 1) := by
    rw [List.drop_eq_getElem_cons (by rw [← Lib.size_eq]; exact hk), ← hc]; rfl
  have hlen : (c :: s.data.toList.drop (k + 1)).length = s.size - k := by rw [← hdr, List.length_drop, ← Lib.size_eq]
  obtain ⟨n, hn⟩ : ∃ n : Int, n = (c.toNat : Int) := ⟨_, rfl⟩
  have hnd : ((s[k].toNat : Nat) : Int) = n := by rw [hc, hn]
  have n0 : 0 ≤ n := by omega
  have n1 : n < 256 := by have := c.toNat_lt; omega
  have hki : (k : Int) < (s.size : Int) := by omega
  have HNL := Lib.hid h
  have CL := Lib.hid (fun w => rletter_any c w)
  rw [h, ← hn] at CL
  have CP : Hid (∀ w, Calls Tryz.prog 216 #[.string s, .int .i64 k, .string ⟨#[47, 47]⟩] w fun e w' => e = .returned (.bool true) ∧ w = w') := fun w => by
    have := ris_any s ⟨#[47, 47]⟩ k w (by omega) (by decide) (by omega)
    rw [hdr, show Lib.hasPrefix (c :: s.data.toList.drop (k + 1)) (⟨#[47, 47]⟩ : ByteArray).data.toList = true from hp] at this
    exact this
  have CE := Lib.hid (fun w => rend_any s k w (by omega) hk (by rw [hc]; exact h10))
  have HDR := Lib.hid hdr
  have HLEN := Lib.hid hlen
  have HCB : Hid (LexPlain.blank s[k] = false) := by unfold Hid; rw [hc, h4]; decide
  have e47 : n = 47 := by rw [hn, h4]; rfl
  subst e47
  clear hdr hlen hn hc h h10 h4 hp
  go_enter Tryz.func188, Tryz.ntmps188
  go_upto_region 1 with fail
  have hB0 := Blk.new w 178 (rtoldA (.slice none 0 0) 0 0)
  have hl0 : Below w.heap.size w (w.alloc (.cells (rtoldA (.slice none 0 0) 0 0) 178)) := (Below.refl _ _).alloc (Nat.le_refl _) _
  obtain ⟨W, hW⟩ : ∃ W, w.alloc (.cells (rtoldA (.slice none 0 0) 0 0) 178) = W := ⟨_, rfl⟩
  obtain ⟨B, hB⟩ : ∃ B, w.heap.size = B := ⟨_, rfl⟩
  rw [hW] at hB0 hl0 ⊢
  rw [hB] at hB0 hl0 ⊢
  have HB0 := Lib.hid hB0
  have HL0 := Lib.hid hl0
  have HBB := Lib.hid hB
  have hBl0 := hB0.lt
  clear hW hB0 hl0 hB
  go_wp2_with fail
  refine (CL.out _).mono ?_
  rintro e w2 ⟨rfl, hw2⟩
  subst hw2
  go_wp2_with fail
  refine (CP.out _).mono ?_
  rintro e w3 ⟨rfl, hw3⟩
  subst hw3
  go_wp2_with fail
  refine (CE.out _).mono ?_
  rintro e w5 ⟨⟨E, rfl, hE1, hE2⟩, hw5⟩
  subst hw5
  go_wp2_with fail
  go_loop [10] (fun i => ∃ t : Nat, k < t ∧ t ≤ s.size ∧ i = .int .i64 t) (fun i => (intOf i).toNat)
  case atStart => exact ⟨E, hE1, hE2, rfl⟩
  case round =>
    obtain ⟨t, ht1, ht2, rfl⟩ := hrel
    obtain ⟨t1, ht3⟩ : ∃ t1 : Nat, t1 = t - 1 := ⟨_, rfl⟩
    have ht4 : (t : Int) - 1 = (t1 : Int) := by omega
    have ht5 : t1 < s.size := by omega
    have ht6 : (t1 : Int) < (s.size : Int) := by omega
    obtain ⟨d, hd⟩ : ∃ d, s[t1] = d := ⟨_, rfl⟩
    have CB := Lib.hid (fun w => rblank_any d w)
    have hd8 : d.toNat < 256 := d.toNat_lt
    by_cases hbk : LexPlain.blank d = true
    · rw [hbk] at CB
      have hne : t1 ≠ k := by
        rintro rfl
        have := HCB.out
        rw [hd, hbk] at this; cases this
      have ht7 : k < t1 := by omega
      have ht8 : t1 < t := by omega
      clear hbk hne ht3
      go_wp2_with fail
      refine (CB.out _).mono ?_
      rintro e w6 ⟨rfl, rfl⟩
      go_wp2_with fail
      go_round
      case rel => exact ⟨t1, ht7, by omega, by go_num⟩
      case measure => simp [intOf]; omega
    · rw [Bool.eq_false_iff.2 hbk] at CB
      have HT : Hid (Tok (s.data.toList.drop k) 6 (t - k)) := by
        unfold Hid
        rw [HDR.out]
        exact tok_other c _ 6 _ HNL.out (by decide) (by omega) (by rw [HLEN.out]; omega)
      clear hbk ht3
      go_wp2_with fail
      refine (CB.out _).mono ?_
      rintro e w6 ⟨rfl, hw6⟩
      subst hw6
      go_wp2_with fail
      refine (rcomment_any s k t 6 _ (by omega) (by omega) (by omega)).mono ?_
      rintro e wt ⟨hor, hb⟩
      have HBt := Lib.hid (HB0.out.below hb HB0.out.lt)
      have HLt := Lib.hid (HL0.out.trans (hb.mono (by omega)))
      clear hb
      have c0 : wt.cell? ⟨B, 0, none⟩ = some (.slice none 0 0) := HBt.out.cell 0
      have c1 : wt.cell? ⟨B, 1, none⟩ = some (.int .i64 0) := HBt.out.cell 1
      have c2 : wt.cell? ⟨B, 2, none⟩ = some (.int .i64 0) := HBt.out.cell 2
      have f0 : wt.frozen? ⟨B, 0, none⟩ = false := HBt.out.frozen 0
      have f1 : wt.frozen? ⟨B, 1, none⟩ = false := HBt.out.frozen 1
      have f2 : wt.frozen? ⟨B, 2, none⟩ = false := HBt.out.frozen 2
      rcases hor with ⟨a, x, rfl, hx⟩ | ⟨g, rfl, hge, hg⟩
      · have HX := Lib.hid hx
        clear hx
        go_wp2_with fail
        refine bodyPost_ret (rone_res B (.slice none 0 0) a x _ _ (((HBt.out.set_ 0 _).set_ 1 _).set_ 2 _) rfl) rfl ⟨.inl ⟨a, x, rfl, HX.out, HNL.out⟩, ?_⟩
        rw [HBB.out]
        exact (((HLt.out).setCell (p := ⟨B, 0, none⟩) (Nat.le_refl _) _).setCell (p := ⟨B, 1, none⟩) (Nat.le_refl _) _).setCell (p := ⟨B, 2, none⟩) (Nat.le_refl _) _
      have HG := Lib.hid hg
      have hgB := blk_ne hg HBt.out
      have HGE := Lib.hid (Nat.le_trans HL0.out.size hge)
      clear hg hge
      go_wp2_with fail
      refine bodyPost_ret (rone_res B _ 0 0 _ _ (((HBt.out.set_ 0 _).set_ 1 _).set_ 2 _) rfl) rfl ⟨.inr ⟨_, _, HT.out, g, rfl, HGE.out, ?_⟩, ?_⟩
      · exact ((HG.out.far (p := ⟨B, 0, none⟩) hgB _).far (p := ⟨B, 1, none⟩) hgB _).far (p := ⟨B, 2, none⟩) hgB _
      · rw [HBB.out]
        exact (((HLt.out).setCell (p := ⟨B, 0, none⟩) (Nat.le_refl _) _).setCell (p := ⟨B, 1, none⟩) (Nat.le_refl _) _).setCell (p := ⟨B, 2, none⟩) (Nat.le_refl _) _
set_option maxRecDepth 100000 in
set_option maxHeartbeats 4000000 in
theorem rone_star (s : ByteArray) (k : Nat) (w : World) (hs : s.size ≤ 100000) (hk : k < s.size) (c : UInt8) (hc : s[k] = c) (h : letter c = false) (h4 : c = 47) (hp : Lib.hasPrefix (c :: s.data.toList.drop (k + 1)) [47, 47] = false) (hp3 : Lib.hasPrefix (c :: s.data.toList.drop (k + 1)) [47, 42] = true) :
    Calls Tryz.prog 188 #[.string s, .int .i64 k] w (ROne s k c w) := by
  have h10 : c ≠ 10 := by rw [h4]; decide
  have hdr : s.data.toList.drop k = c :: s.data.toList.drop (k + 1) := by
    rw [List.drop_eq_getElem_cons (by rw [← Lib.size_eq]; exact hk), ← hc]; rfl
  have hlen : (c :: s.data.toList.drop (k + 1)).length = s.size - k := by rw [← hdr, List.length_drop, ← Lib.size_eq]
  obtain ⟨n, hn⟩ : ∃ n : Int, n = (c.toNat : Int) := ⟨_, rfl⟩
  have hnd : ((s[k].toNat : Nat) : Int) = n := by rw [hc, hn]
  have n0 : 0 ≤ n := by omega
  have n1 : n < 256 := by have := c.toNat_lt; omega
  have hki : (k : Int) < (s.size : Int) := by omega
  have HNL := Lib.hid h
  have CL := Lib.hid (fun w => rletter_any c w)
  rw [h, ← hn] at CL
  have CP : Hid (∀ w, Calls Tryz.prog 216 #[.string s, .int .i64 k, .string ⟨#[47, 47]⟩] w fun e w' => e = .returned (.bool false) ∧ w = w') := fun w => by
    have := ris_any s ⟨#[47, 47]⟩ k w (by omega) (by decide) (by omega)
    rw [hdr, show Lib.hasPrefix (c :: s.data.toList.drop (k + 1)) (⟨#[47, 47]⟩ : ByteArray).data.toList = false from hp] at this
    exact this
  have CP3 : Hid (∀ w, Calls Tryz.prog 216 #[.string s, .int .i64 k, .string ⟨#[47, 42]⟩] w fun e w' => e = .returned (.bool true) ∧ w = w') := fun w => by
    have := ris_any s ⟨#[47, 42]⟩ k w (by omega) (by decide) (by omega)
    rw [hdr, show Lib.hasPrefix (c :: s.data.toList.drop (k + 1)) (⟨#[47, 42]⟩ : ByteArray).data.toList = true from hp3] at this
    exact this
  have CE := Lib.hid (fun w => rend_any s k w (by omega) hk (by rw [hc]; exact h10))
  have HDR := Lib.hid hdr
  have HLEN := Lib.hid hlen
  have e47 : n = 47 := by rw [hn, h4]; rfl
  subst e47
  obtain ⟨k2, hk2⟩ : ∃ k2 : Nat, k2 = k + 2 := ⟨_, rfl⟩
  have hk2i : (k : Int) + 2 = (k2 : Int) := by omega
  have HK2 := Lib.hid hk2
  clear hdr hlen hn hc h h10 h4 hp hp3 hk2
  go_enter Tryz.func188, Tryz.ntmps188
  go_upto_region 1 with fail
  have hB0 := Blk.new w 178 (rtoldA (.slice none 0 0) 0 0)
  have hl0 : Below w.heap.size w (w.alloc (.cells (rtoldA (.slice none 0 0) 0 0) 178)) := (Below.refl _ _).alloc (Nat.le_refl _) _
  obtain ⟨W, hW⟩ : ∃ W, w.alloc (.cells (rtoldA (.slice none 0 0) 0 0) 178) = W := ⟨_, rfl⟩
  obtain ⟨B, hB⟩ : ∃ B, w.heap.size = B := ⟨_, rfl⟩
  rw [hW] at hB0 hl0 ⊢
  rw [hB] at hB0 hl0 ⊢
  have HB0 := Lib.hid hB0
  have HL0 := Lib.hid hl0
  have HBB := Lib.hid hB
  have hBl0 := hB0.lt
  clear hW hB0 hl0 hB
  go_wp2_with fail
  refine (CL.out _).mono ?_
  rintro e w2 ⟨rfl, hw2⟩
  subst hw2
  go_wp2_with fail
  refine (CP.out _).mono ?_
  rintro e w3 ⟨rfl, hw3⟩
  subst hw3
  go_wp2_with fail
  refine (CP3.out _).mono ?_
  rintro e w4 ⟨rfl, hw4⟩
  subst hw4
  go_wp2_with fail
  refine (CE.out _).mono ?_
  rintro e w5 ⟨⟨E, rfl, hE1, hE2⟩, hw5⟩
  subst hw5
  go_wp2_with fail
  obtain ⟨S, hS⟩ : ∃ S : ByteArray, s.extract 0 E = S := ⟨_, rfl⟩
  have hSs : S.size = E := by rw [← hS, ByteArray.size_extract]; omega
  have hEi : (E : Int) ≤ (s.size : Int) := by omega
  have HSS := Lib.hid hSs
  clear hSs
  go_loop [12] (fun i => ∃ j : Nat, k2 ≤ j ∧ j ≤ s.size + 2 ∧ i = .int .i64 j) (fun i => s.size + 3 - (intOf i).toNat)
  case atStart => exact ⟨k2, by omega, by have := HK2.out; omega, rfl⟩
  case round =>
    obtain ⟨j, hj1, hj2, rfl⟩ := hrel
    by_cases hlt : j < E
    · have hlt' : (j : Int) < (E : Int) := by omega
      have CI := Lib.hid (fun w => ris_any S ⟨#[42, 47]⟩ j w (by have := HSS.out; omega) (by decide) (by have := HSS.out; omega))
      by_cases hb : Lib.hasPrefix (S.data.toList.drop j) (⟨#[42, 47]⟩ : ByteArray).data.toList = true
      · rw [hb] at CI
        have hlen2 : j + 2 ≤ E := by
          have := (List.isPrefixOf_iff_prefix.1 (show List.isPrefixOf [42, 47] (S.data.toList.drop j) = true from hb)).length_le
          rw [List.length_drop, ← Lib.size_eq, HSS.out] at this
          simp at this; omega
        obtain ⟨q, hq⟩ : ∃ q : Nat, q = j + 2 := ⟨_, rfl⟩
        have hqi : (j : Int) + 2 = (q : Int) := by omega
        have HT : Hid (Tok (s.data.toList.drop k) 7 (q - k)) := by
          unfold Hid
          rw [HDR.out]
          have := HK2.out
          exact tok_other c _ 7 _ HNL.out (by decide) (by omega) (by rw [HLEN.out]; omega)
        have hq1 : k ≤ q := by have := HK2.out; omega
        have hq2 : q ≤ s.size := by omega
        clear hb hq hlen2
        go_wp2_with fail
        refine (CI.out _).mono ?_
        rintro e w6 ⟨rfl, hw6⟩
        subst hw6
        go_wp2_with fail
        refine (rcomment_any s k q 7 _ (by omega) (by omega) (by omega)).mono ?_
        rintro e wt ⟨hor, hb⟩
        have HBt := Lib.hid (HB0.out.below hb HB0.out.lt)
        have HLt := Lib.hid (HL0.out.trans (hb.mono (by omega)))
        clear hb
        have c0 : wt.cell? ⟨B, 0, none⟩ = some (.slice none 0 0) := HBt.out.cell 0
        have c1 : wt.cell? ⟨B, 1, none⟩ = some (.int .i64 0) := HBt.out.cell 1
        have c2 : wt.cell? ⟨B, 2, none⟩ = some (.int .i64 0) := HBt.out.cell 2
        have f0 : wt.frozen? ⟨B, 0, none⟩ = false := HBt.out.frozen 0
        have f1 : wt.frozen? ⟨B, 1, none⟩ = false := HBt.out.frozen 1
        have f2 : wt.frozen? ⟨B, 2, none⟩ = false := HBt.out.frozen 2
        rcases hor with ⟨a, x, rfl, hx⟩ | ⟨g, rfl, hge, hg⟩
        · have HX := Lib.hid hx
          clear hx
          go_wp2_with fail
          refine bodyPost_ret (rone_res B (.slice none 0 0) a x _ _ (((HBt.out.set_ 0 _).set_ 1 _).set_ 2 _) rfl) rfl ⟨.inl ⟨a, x, rfl, HX.out, HNL.out⟩, ?_⟩
          rw [HBB.out]
          exact (((HLt.out).setCell (p := ⟨B, 0, none⟩) (Nat.le_refl _) _).setCell (p := ⟨B, 1, none⟩) (Nat.le_refl _) _).setCell (p := ⟨B, 2, none⟩) (Nat.le_refl _) _
        have HG := Lib.hid hg
        have hgB := blk_ne hg HBt.out
        have HGE := Lib.hid (Nat.le_trans HL0.out.size hge)
        clear hg hge
        go_wp2_with fail
        refine bodyPost_ret (rone_res B _ 0 0 _ _ (((HBt.out.set_ 0 _).set_ 1 _).set_ 2 _) rfl) rfl ⟨.inr ⟨_, _, HT.out, g, rfl, HGE.out, ?_⟩, ?_⟩
        · exact ((HG.out.far (p := ⟨B, 0, none⟩) hgB _).far (p := ⟨B, 1, none⟩) hgB _).far (p := ⟨B, 2, none⟩) hgB _
        · rw [HBB.out]
          exact (((HLt.out).setCell (p := ⟨B, 0, none⟩) (Nat.le_refl _) _).setCell (p := ⟨B, 1, none⟩) (Nat.le_refl _) _).setCell (p := ⟨B, 2, none⟩) (Nat.le_refl _) _
      · rw [Bool.eq_false_iff.2 hb] at CI
        clear hb
        go_wp2_with fail
        refine (CI.out _).mono ?_
        rintro e w6 ⟨rfl, rfl⟩
        go_wp2_with fail
        go_round
        case rel => exact ⟨j + 1, by omega, by omega, by go_num⟩
        case measure => simp [intOf]; omega
    · have hlt' : ¬ (j : Int) < (E : Int) := by omega
      have c0 : W.cell? ⟨B, 0, none⟩ = some (.slice none 0 0) := HB0.out.cell 0
      have c1 : W.cell? ⟨B, 1, none⟩ = some (.int .i64 0) := HB0.out.cell 1
      have c2 : W.cell? ⟨B, 2, none⟩ = some (.int .i64 0) := HB0.out.cell 2
      have f0 : W.frozen? ⟨B, 0, none⟩ = false := HB0.out.frozen 0
      have f1 : W.frozen? ⟨B, 1, none⟩ = false := HB0.out.frozen 1
      have f2 : W.frozen? ⟨B, 2, none⟩ = false := HB0.out.frozen 2
      go_wp2_with fail
      refine bodyPost_ret (rone_res B (.slice none 0 0) (k : Int) 2 _ _ (((HB0.out.set_ 0 _).set_ 1 _).set_ 2 _) rfl) rfl ⟨.inl ⟨(k : Int), 2, rfl, (by decide), HNL.out⟩, ?_⟩
      rw [HBB.out]
      exact (((HL0.out).setCell (p := ⟨B, 0, none⟩) (Nat.le_refl _) _).setCell (p := ⟨B, 1, none⟩) (Nat.le_refl _) _).setCell (p := ⟨B, 2, none⟩) (Nat.le_refl _) _
theorem two_at (j : Nat) (hj : j < 6) : ∃ X : ByteArray, X.size = 2 ∧ (#[.string ⟨#[61, 61]⟩, .string ⟨#[33, 61]⟩, .string ⟨#[60, 61]⟩, .string ⟨#[62, 61]⟩, .string ⟨#[38, 38]⟩, .string ⟨#[124, 124]⟩] : Array Value)[j]? = some (.string X) := by
  have hc : j = 0 ∨ j = 1 ∨ j = 2 ∨ j = 3 ∨ j = 4 ∨ j = 5 := by omega
  rcases hc with rfl | rfl | rfl | rfl | rfl | rfl
  · exact ⟨⟨#[61, 61]⟩, rfl, rfl⟩
  · exact ⟨⟨#[33, 61]⟩, rfl, rfl⟩
  · exact ⟨⟨#[60, 61]⟩, rfl, rfl⟩
  · exact ⟨⟨#[62, 61]⟩, rfl, rfl⟩
  · exact ⟨⟨#[38, 38]⟩, rfl, rfl⟩
  · exact ⟨⟨#[124, 124]⟩, rfl, rfl⟩
theorem one_at (j : Nat) (hj : j < 19) : ∃ X : ByteArray, X.size = 1 ∧ (#[.string ⟨#[61]⟩, .string ⟨#[60]⟩, .string ⟨#[62]⟩, .string ⟨#[43]⟩, .string ⟨#[45]⟩, .string ⟨#[42]⟩, .string ⟨#[47]⟩, .string ⟨#[37]⟩, .string ⟨#[33]⟩, .string ⟨#[63]⟩, .string ⟨#[58]⟩, .string ⟨#[44]⟩, .string ⟨#[46]⟩, .string ⟨#[40]⟩, .string ⟨#[41]⟩, .string ⟨#[91]⟩, .string ⟨#[93]⟩, .string ⟨#[123]⟩, .string ⟨#[125]⟩] : Array Value)[j]? = some (.string X) := by
  have hc : j = 0 ∨ j = 1 ∨ j = 2 ∨ j = 3 ∨ j = 4 ∨ j = 5 ∨ j = 6 ∨ j = 7 ∨ j = 8 ∨ j = 9 ∨ j = 10 ∨ j = 11 ∨ j = 12 ∨ j = 13 ∨ j = 14 ∨ j = 15 ∨ j = 16 ∨ j = 17 ∨ j = 18 := by omega
  rcases hc with rfl | rfl | rfl | rfl | rfl | rfl | rfl | rfl | rfl | rfl | rfl | rfl | rfl | rfl | rfl | rfl | rfl | rfl | rfl
  · exact ⟨⟨#[61]⟩, rfl, rfl⟩
  · exact ⟨⟨#[60]⟩, rfl, rfl⟩
  · exact ⟨⟨#[62]⟩, rfl, rfl⟩
  · exact ⟨⟨#[43]⟩, rfl, rfl⟩
  · exact ⟨⟨#[45]⟩, rfl, rfl⟩
  · exact ⟨⟨#[42]⟩, rfl, rfl⟩
  · exact ⟨⟨#[47]⟩, rfl, rfl⟩
  · exact ⟨⟨#[37]⟩, rfl, rfl⟩
  · exact ⟨⟨#[33]⟩, rfl, rfl⟩
  · exact ⟨⟨#[63]⟩, rfl, rfl⟩
  · exact ⟨⟨#[58]⟩, rfl, rfl⟩
  · exact ⟨⟨#[44]⟩, rfl, rfl⟩
  · exact ⟨⟨#[46]⟩, rfl, rfl⟩
  · exact ⟨⟨#[40]⟩, rfl, rfl⟩
  · exact ⟨⟨#[41]⟩, rfl, rfl⟩
  · exact ⟨⟨#[91]⟩, rfl, rfl⟩
  · exact ⟨⟨#[93]⟩, rfl, rfl⟩
  · exact ⟨⟨#[123]⟩, rfl, rfl⟩
  · exact ⟨⟨#[125]⟩, rfl, rfl⟩
set_option maxRecDepth 100000 in
set_option maxHeartbeats 4000000 in
theorem rone_sign (s : ByteArray) (k : Nat) (w : World) (hs : s.size ≤ 100000) (hk : k < s.size) (c : UInt8) (hc : s[k] = c) (h : letter c = false) (h10 : c ≠ 10) (hd : ¬ (48 ≤ c.toNat ∧ c.toNat ≤ 57)) (hq : c ≠ 34) (hh : c ≠ 35) (hp : Lib.hasPrefix (c :: s.data.toList.drop (k + 1)) [47, 47] = false) (hp3 : Lib.hasPrefix (c :: s.data.toList.drop (k + 1)) [47, 42] = false) :
    Calls Tryz.prog 188 #[.string s, .int .i64 k] w (ROne s k c w) := by
  have hdr : s.data.toList.drop k = c :: s.data.toList.drop (k + 1) := by
    rw [List.drop_eq_getElem_cons (by rw [← Lib.size_eq]; exact hk), ← hc]; rfl
  have hlen : (c :: s.data.toList.drop (k + 1)).length = s.size - k := by rw [← hdr, List.length_drop, ← Lib.size_eq]
  obtain ⟨n, hn⟩ : ∃ n : Int, n = (c.toNat : Int) := ⟨_, rfl⟩
  have hnd : ((s[k].toNat : Nat) : Int) = n := by rw [hc, hn]
  have n0 : 0 ≤ n := by omega
  have n1 : n < 256 := by have := c.toNat_lt; omega
  have hki : (k : Int) < (s.size : Int) := by omega
  have HNL := Lib.hid h
  have CL := Lib.hid (fun w => rletter_any c w)
  rw [h, ← hn] at CL
  have CP : Hid (∀ w, Calls Tryz.prog 216 #[.string s, .int .i64 k, .string ⟨#[47, 47]⟩] w fun e w' => e = .returned (.bool false) ∧ w = w') := fun w => by
    have := ris_any s ⟨#[47, 47]⟩ k w (by omega) (by decide) (by omega)
    rw [hdr, show Lib.hasPrefix (c :: s.data.toList.drop (k + 1)) (⟨#[47, 47]⟩ : ByteArray).data.toList = false from hp] at this
    exact this
  have CP3 : Hid (∀ w, Calls Tryz.prog 216 #[.string s, .int .i64 k, .string ⟨#[47, 42]⟩] w fun e w' => e = .returned (.bool false) ∧ w = w') := fun w => by
    have := ris_any s ⟨#[47, 42]⟩ k w (by omega) (by decide) (by omega)
    rw [hdr, show Lib.hasPrefix (c :: s.data.toList.drop (k + 1)) (⟨#[47, 42]⟩ : ByteArray).data.toList = false from hp3] at this
    exact this
  have e10 : (n == 10) = false := by rw [beq_eq_false_iff_ne]; intro e; rw [hn] at e; exact h10 (UInt8.toNat_inj.1 (by show c.toNat = 10; omega))
  have e34 : (n == 34) = false := by rw [beq_eq_false_iff_ne]; intro e; rw [hn] at e; exact hq (UInt8.toNat_inj.1 (by show c.toNat = 34; omega))
  have e35 : (n == 35) = false := by rw [beq_eq_false_iff_ne]; intro e; rw [hn] at e; exact hh (UInt8.toNat_inj.1 (by show c.toNat = 35; omega))
  have hdg : ¬ 48 ≤ n ∨ (48 ≤ n ∧ ¬ n ≤ 57) := by omega
  have HDR := Lib.hid hdr
  have HLEN := Lib.hid hlen
  have tk : Hid (∀ N, 1 ≤ N → k + N ≤ s.size → Tok (s.data.toList.drop k) 4 N) := fun N h1 h2 => by
    rw [HDR.out]
    exact tok_other c _ 4 _ HNL.out (by decide) h1 (by rw [HLEN.out]; omega)
  have isx : Hid (∀ X : ByteArray, Lib.hasPrefix (s.data.toList.drop k) X.data.toList = true → k + X.size ≤ s.size) := fun X hx => by
    have := (List.isPrefixOf_iff_prefix.1 (show List.isPrefixOf X.data.toList (s.data.toList.drop k) = true from hx)).length_le
    rw [List.length_drop, ← Lib.size_eq, ← Lib.size_eq] at this
    omega
  clear hdr hlen hn hc h h10 hd hq hh hp hp3
  rcases hdg with g | ⟨g, g'⟩
  all_goals (
    go_enter Tryz.func188, Tryz.ntmps188
    go_upto_region 1 with fail
    have hB0 := Blk.new w 178 (rtoldA (.slice none 0 0) 0 0)
    have hl0 : Below w.heap.size w (w.alloc (.cells (rtoldA (.slice none 0 0) 0 0) 178)) := (Below.refl _ _).alloc (Nat.le_refl _) _
    obtain ⟨W, hW⟩ : ∃ W, w.alloc (.cells (rtoldA (.slice none 0 0) 0 0) 178) = W := ⟨_, rfl⟩
    obtain ⟨B, hB⟩ : ∃ B, w.heap.size = B := ⟨_, rfl⟩
    rw [hW] at hB0 hl0 ⊢
    rw [hB] at hB0 hl0 ⊢
    have HB0 := Lib.hid hB0
    have HL0 := Lib.hid hl0
    have HBB := Lib.hid hB
    have hBl0 := hB0.lt
    clear hW hB0 hl0 hB
    go_wp2_with fail
    refine (CL.out _).mono ?_
    rintro e w2 ⟨rfl, hw2⟩
    subst hw2
    go_wp2_with fail
    refine (CP.out _).mono ?_
    rintro e w3 ⟨rfl, hw3⟩
    subst hw3
    go_wp2_with fail
    refine (CP3.out _).mono ?_
    rintro e w4 ⟨rfl, hw4⟩
    subst hw4
    go_wp2_with fail
    have hBn_W : ¬ B = W.heap.size := by have := HB0.out.lt; omega
    have hA := Blk.new W 9 #[.string ⟨#[61, 61]⟩, .string ⟨#[33, 61]⟩, .string ⟨#[60, 61]⟩, .string ⟨#[62, 61]⟩, .string ⟨#[38, 38]⟩, .string ⟨#[124, 124]⟩]
    have hBA := HB0.out.alloc (.cells #[.string ⟨#[61, 61]⟩, .string ⟨#[33, 61]⟩, .string ⟨#[60, 61]⟩, .string ⟨#[62, 61]⟩, .string ⟨#[38, 38]⟩, .string ⟨#[124, 124]⟩] 9)
    have hLA := HL0.out.alloc (by have := HB0.out.lt; omega) (.cells #[.string ⟨#[61, 61]⟩, .string ⟨#[33, 61]⟩, .string ⟨#[60, 61]⟩, .string ⟨#[62, 61]⟩, .string ⟨#[38, 38]⟩, .string ⟨#[124, 124]⟩] 9)
    obtain ⟨WN, hWN⟩ : ∃ WN, W.alloc (.cells #[.string ⟨#[61, 61]⟩, .string ⟨#[33, 61]⟩, .string ⟨#[60, 61]⟩, .string ⟨#[62, 61]⟩, .string ⟨#[38, 38]⟩, .string ⟨#[124, 124]⟩] 9) = WN := ⟨_, rfl⟩
    obtain ⟨BA, hBAe⟩ : ∃ BA, W.heap.size = BA := ⟨_, rfl⟩
    rw [hWN] at hA hBA hLA ⊢
    rw [hBAe] at hA ⊢
    have HA := Lib.hid hA
    have HBA := Lib.hid hBA
    have HLA := Lib.hid hLA
    clear hA hBA hLA hWN hBAe hBn_W
    go_loop [167] (fun i => ∃ j : Nat, j ≤ 6 ∧ i = .int .i64 j) (fun i => 6 - (intOf i).toNat)
    case atStart => exact ⟨0, by omega, rfl⟩
    case round =>
      obtain ⟨j, hj, rfl⟩ := hrel
      by_cases hj2 : j < 6
      · have hj3 : (j : Int) < 6 := by omega
        obtain ⟨X, hX1, hX2⟩ := two_at j hj2
        have hcell : WN.cell? ⟨BA, j, none⟩ = some (.string X) := (HA.out.cell j).trans hX2
        have CI := Lib.hid (fun w => ris_any s X k w (by omega) (by omega) (by omega))
        by_cases hb : Lib.hasPrefix (s.data.toList.drop k) X.data.toList = true
        · have hkx := isx.out X hb
          rw [hX1] at hkx
          rw [hb] at CI
          have HT := Lib.hid (tk.out 2 (by decide) hkx)
          have CT := Lib.hid (fun w => rtoken_any s k 4 2 w (by omega) hkx)
          clear hb hX2
          go_wp2_with fail
          refine (CI.out _).mono ?_
          rintro e w6 ⟨rfl, hw6⟩
          subst hw6
          go_wp2_with fail
          refine (CT.out _).mono ?_
          rintro e wt ⟨⟨g, rfl, hge, hg⟩, hb⟩
          have HGE := Lib.hid (Nat.le_trans HLA.out.size hge)
          have HBt := Lib.hid (HBA.out.below hb HBA.out.lt)
          have HLt := Lib.hid (HLA.out.trans (hb.mono (by have := HBA.out.lt; omega)))
          have HG := Lib.hid hg
          have hgB := blk_ne hg HBt.out
          clear hb hg hge
          have c0 : wt.cell? ⟨B, 0, none⟩ = some (.slice none 0 0) := HBt.out.cell 0
          have c1 : wt.cell? ⟨B, 1, none⟩ = some (.int .i64 0) := HBt.out.cell 1
          have c2 : wt.cell? ⟨B, 2, none⟩ = some (.int .i64 0) := HBt.out.cell 2
          have f0 : wt.frozen? ⟨B, 0, none⟩ = false := HBt.out.frozen 0
          have f1 : wt.frozen? ⟨B, 1, none⟩ = false := HBt.out.frozen 1
          have f2 : wt.frozen? ⟨B, 2, none⟩ = false := HBt.out.frozen 2
          go_wp2_with fail
          refine bodyPost_ret (rone_res B _ 0 0 _ _ (((HBt.out.set_ 0 _).set_ 1 _).set_ 2 _) rfl) rfl ⟨.inr ⟨_, _, HT.out, g, rfl, HGE.out, ?_⟩, ?_⟩
          · exact ((HG.out.far (p := ⟨B, 0, none⟩) hgB _).far (p := ⟨B, 1, none⟩) hgB _).far (p := ⟨B, 2, none⟩) hgB _
          · rw [HBB.out]
            exact (((HLt.out).setCell (p := ⟨B, 0, none⟩) (Nat.le_refl _) _).setCell (p := ⟨B, 1, none⟩) (Nat.le_refl _) _).setCell (p := ⟨B, 2, none⟩) (Nat.le_refl _) _
        · rw [Bool.eq_false_iff.2 hb] at CI
          clear hb hX2
          go_wp2_with fail
          refine (CI.out _).mono ?_
          rintro e w6 ⟨rfl, rfl⟩
          go_wp2_with fail
          go_round
          case rel => exact ⟨j + 1, by omega, by go_num⟩
          case measure => simp [intOf]; omega
      · have hj3 : ¬ (j : Int) < 6 := by omega
        clear hj2
        go_wp2_with fail
        have hBn_W : ¬ B = WN.heap.size := by have := HBA.out.lt; omega
        have hA := Blk.new WN 9 #[.string ⟨#[61]⟩, .string ⟨#[60]⟩, .string ⟨#[62]⟩, .string ⟨#[43]⟩, .string ⟨#[45]⟩, .string ⟨#[42]⟩, .string ⟨#[47]⟩, .string ⟨#[37]⟩, .string ⟨#[33]⟩, .string ⟨#[63]⟩, .string ⟨#[58]⟩, .string ⟨#[44]⟩, .string ⟨#[46]⟩, .string ⟨#[40]⟩, .string ⟨#[41]⟩, .string ⟨#[91]⟩, .string ⟨#[93]⟩, .string ⟨#[123]⟩, .string ⟨#[125]⟩]
        have hBA := HBA.out.alloc (.cells #[.string ⟨#[61]⟩, .string ⟨#[60]⟩, .string ⟨#[62]⟩, .string ⟨#[43]⟩, .string ⟨#[45]⟩, .string ⟨#[42]⟩, .string ⟨#[47]⟩, .string ⟨#[37]⟩, .string ⟨#[33]⟩, .string ⟨#[63]⟩, .string ⟨#[58]⟩, .string ⟨#[44]⟩, .string ⟨#[46]⟩, .string ⟨#[40]⟩, .string ⟨#[41]⟩, .string ⟨#[91]⟩, .string ⟨#[93]⟩, .string ⟨#[123]⟩, .string ⟨#[125]⟩] 9)
        have hLA := HLA.out.alloc (by have := HBA.out.lt; omega) (.cells #[.string ⟨#[61]⟩, .string ⟨#[60]⟩, .string ⟨#[62]⟩, .string ⟨#[43]⟩, .string ⟨#[45]⟩, .string ⟨#[42]⟩, .string ⟨#[47]⟩, .string ⟨#[37]⟩, .string ⟨#[33]⟩, .string ⟨#[63]⟩, .string ⟨#[58]⟩, .string ⟨#[44]⟩, .string ⟨#[46]⟩, .string ⟨#[40]⟩, .string ⟨#[41]⟩, .string ⟨#[91]⟩, .string ⟨#[93]⟩, .string ⟨#[123]⟩, .string ⟨#[125]⟩] 9)
        obtain ⟨WM, hWM⟩ : ∃ WM, WN.alloc (.cells #[.string ⟨#[61]⟩, .string ⟨#[60]⟩, .string ⟨#[62]⟩, .string ⟨#[43]⟩, .string ⟨#[45]⟩, .string ⟨#[42]⟩, .string ⟨#[47]⟩, .string ⟨#[37]⟩, .string ⟨#[33]⟩, .string ⟨#[63]⟩, .string ⟨#[58]⟩, .string ⟨#[44]⟩, .string ⟨#[46]⟩, .string ⟨#[40]⟩, .string ⟨#[41]⟩, .string ⟨#[91]⟩, .string ⟨#[93]⟩, .string ⟨#[123]⟩, .string ⟨#[125]⟩] 9) = WM := ⟨_, rfl⟩
        obtain ⟨BM, hBAe⟩ : ∃ BM, WN.heap.size = BM := ⟨_, rfl⟩
        rw [hWM] at hA hBA hLA ⊢
        rw [hBAe] at hA ⊢
        have HM := Lib.hid hA
        have HBM := Lib.hid hBA
        have HLM := Lib.hid hLA
        clear hA hBA hLA hWM hBAe hBn_W
        go_loop [181] (fun i => ∃ j : Nat, j ≤ 19 ∧ i = .int .i64 j) (fun i => 19 - (intOf i).toNat)
        case atStart => exact ⟨0, by omega, rfl⟩
        case round =>
          obtain ⟨j, hj, rfl⟩ := hrel
          by_cases hj2 : j < 19
          · have hj3 : (j : Int) < 19 := by omega
            obtain ⟨X, hX1, hX2⟩ := one_at j hj2
            have hcell : WM.cell? ⟨BM, j, none⟩ = some (.string X) := (HM.out.cell j).trans hX2
            have CI := Lib.hid (fun w => ris_any s X k w (by omega) (by omega) (by omega))
            by_cases hb : Lib.hasPrefix (s.data.toList.drop k) X.data.toList = true
            · have hkx := isx.out X hb
              rw [hX1] at hkx
              rw [hb] at CI
              have HT := Lib.hid (tk.out 1 (by decide) hkx)
              have CT := Lib.hid (fun w => rtoken_any s k 4 1 w (by omega) hkx)
              clear hb hX2
              go_wp2_with fail
              refine (CI.out _).mono ?_
              rintro e w6 ⟨rfl, hw6⟩
              subst hw6
              go_wp2_with fail
              refine (CT.out _).mono ?_
              rintro e wt ⟨⟨g, rfl, hge, hg⟩, hb⟩
              have HGE := Lib.hid (Nat.le_trans HLM.out.size hge)
              have HBt := Lib.hid (HBM.out.below hb HBM.out.lt)
              have HLt := Lib.hid (HLM.out.trans (hb.mono (by have := HBM.out.lt; omega)))
              have HG := Lib.hid hg
              have hgB := blk_ne hg HBt.out
              clear hb hg hge
              have c0 : wt.cell? ⟨B, 0, none⟩ = some (.slice none 0 0) := HBt.out.cell 0
              have c1 : wt.cell? ⟨B, 1, none⟩ = some (.int .i64 0) := HBt.out.cell 1
              have c2 : wt.cell? ⟨B, 2, none⟩ = some (.int .i64 0) := HBt.out.cell 2
              have f0 : wt.frozen? ⟨B, 0, none⟩ = false := HBt.out.frozen 0
              have f1 : wt.frozen? ⟨B, 1, none⟩ = false := HBt.out.frozen 1
              have f2 : wt.frozen? ⟨B, 2, none⟩ = false := HBt.out.frozen 2
              go_wp2_with fail
              refine bodyPost_ret (rone_res B _ 0 0 _ _ (((HBt.out.set_ 0 _).set_ 1 _).set_ 2 _) rfl) rfl ⟨.inr ⟨_, _, HT.out, g, rfl, HGE.out, ?_⟩, ?_⟩
              · exact ((HG.out.far (p := ⟨B, 0, none⟩) hgB _).far (p := ⟨B, 1, none⟩) hgB _).far (p := ⟨B, 2, none⟩) hgB _
              · rw [HBB.out]
                exact (((HLt.out).setCell (p := ⟨B, 0, none⟩) (Nat.le_refl _) _).setCell (p := ⟨B, 1, none⟩) (Nat.le_refl _) _).setCell (p := ⟨B, 2, none⟩) (Nat.le_refl _) _
            · rw [Bool.eq_false_iff.2 hb] at CI
              clear hb hX2
              go_wp2_with fail
              refine (CI.out _).mono ?_
              rintro e w6 ⟨rfl, rfl⟩
              go_wp2_with fail
              go_round
              case rel => exact ⟨j + 1, by omega, by go_num⟩
              case measure => simp [intOf]; omega
          · have hj3 : ¬ (j : Int) < 19 := by omega
            have c0 : WM.cell? ⟨B, 0, none⟩ = some (.slice none 0 0) := HBM.out.cell 0
            have c1 : WM.cell? ⟨B, 1, none⟩ = some (.int .i64 0) := HBM.out.cell 1
            have c2 : WM.cell? ⟨B, 2, none⟩ = some (.int .i64 0) := HBM.out.cell 2
            have f0 : WM.frozen? ⟨B, 0, none⟩ = false := HBM.out.frozen 0
            have f1 : WM.frozen? ⟨B, 1, none⟩ = false := HBM.out.frozen 1
            have f2 : WM.frozen? ⟨B, 2, none⟩ = false := HBM.out.frozen 2
            go_wp2_with fail
            refine bodyPost_ret (rone_res B (.slice none 0 0) (k : Int) 3 _ _ (((HBM.out.set_ 0 _).set_ 1 _).set_ 2 _) rfl) rfl ⟨.inl ⟨(k : Int), 3, rfl, (by decide), HNL.out⟩, ?_⟩
            rw [HBB.out]
            exact (((HLM.out).setCell (p := ⟨B, 0, none⟩) (Nat.le_refl _) _).setCell (p := ⟨B, 1, none⟩) (Nat.le_refl _) _).setCell (p := ⟨B, 2, none⟩) (Nat.le_refl _) _)
end Go.Proofs.YtdfihhebgllpcaaGreatDoor
