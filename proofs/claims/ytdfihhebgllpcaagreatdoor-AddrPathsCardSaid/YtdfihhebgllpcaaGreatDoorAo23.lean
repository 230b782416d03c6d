import Derived.Test.YtdfihhebgllpcaaGreatDoorAo22
import Derived.Test.YtdfihhebgllpcaaGreatDoorAo03

/- The walk of the reference's Scan. -/
namespace Go.Proofs.YtdfihhebgllpcaaGreatDoor
open Go.RowKit Go.Proofs.QuotePlain Go.Proofs.UtfPlain

set_option maxRecDepth 100000 in
set_option maxHeartbeats 4000000 in
theorem rscan_any_q (b : ByteArray) (w : World) (hs : b.size ≤ 1000000) (E : Nat × List UInt8 × Nat) (hE : scanQ b.data.toList = E) :
    Calls Tryz.prog 86 #[.string b] w fun e w' => e = .returned (.agg #[.string ⟨E.2.1.toArray⟩, .int .i64 E.2.2, .int .i64 E.1]) ∧ Below w.heap.size w w' := by
  have HE := Lib.hid hE
  clear hE
  go_enter Tryz.func86, Tryz.ntmps86
  go_upto_region 1 with fail
  have hB0 := Blk.new w 109 #[.string ⟨#[]⟩, .int .i64 0, .int .i64 0]
  have hl0 : Below w.heap.size w (w.alloc (.cells #[.string ⟨#[]⟩, .int .i64 0, .int .i64 0] 109)) := (Below.refl _ _).alloc (Nat.le_refl _) _
  obtain ⟨W, hW⟩ : ∃ W, w.alloc (.cells #[.string ⟨#[]⟩, .int .i64 0, .int .i64 0] 109) = W := ⟨_, rfl⟩
  obtain ⟨B, hB⟩ : ∃ B, w.heap.size = B := ⟨_, rfl⟩
  rw [hW] at hB0 hl0 ⊢
  rw [hB] at hB0 hl0 ⊢
  have HB0 := Lib.hid hB0
  have HL0 := Lib.hid hl0
  have HBB := Lib.hid hB
  clear hW hB0 hl0 hB
  have c0 : W.cell? ⟨B, 0, none⟩ = some (.string ⟨#[]⟩) := HB0.out.cell 0
  have c1 : W.cell? ⟨B, 1, none⟩ = some (.int .i64 0) := HB0.out.cell 1
  have c2 : W.cell? ⟨B, 2, none⟩ = some (.int .i64 0) := HB0.out.cell 2
  have f0 : W.frozen? ⟨B, 0, none⟩ = false := HB0.out.frozen 0
  have f1 : W.frozen? ⟨B, 1, none⟩ = false := HB0.out.frozen 1
  have f2 : W.frozen? ⟨B, 2, none⟩ = false := HB0.out.frozen 2
  by_cases h0 : 0 < b.size
  case neg =>
    have hz : E = (2, [], 0) := by
      rw [← HE.out, show b.data.toList = [] from List.length_eq_zero_iff.1 (by rw [← Lib.size_eq]; omega)]; rfl
    subst hz
    have h1 : b.size = 0 := by omega
    go_wp2_with fail
    refine bodyPost_ret (rscan_res B ⟨#[]⟩ 0 2 _ _ (((HB0.out.set_ 0 _).set_ 1 _).set_ 2 _) rfl) rfl ⟨rfl, ?_⟩
    rw [HBB.out]
    exact ((HL0.out.setCell (p := ⟨B, 0, none⟩) (Nat.le_refl _) _).setCell (p := ⟨B, 1, none⟩) (Nat.le_refl _) _).setCell (p := ⟨B, 2, none⟩) (Nat.le_refl _) _
  have h1 : ¬ b.size = 0 := by omega
  have h1' : ((b.size : Int) == 0) = false := by rw [beq_eq_false_iff_ne]; omega
  obtain ⟨c, hc⟩ : ∃ c, b[0] = c := ⟨_, rfl⟩
  have hc8 : c.toNat < 256 := c.toNat_lt
  have hl0 : b.data.toList = c :: b.data.toList.drop 1 := by
    have := List.drop_eq_getElem_cons (l := b.data.toList) (i := 0) (by rw [← Lib.size_eq]; exact h0)
    rw [List.drop_zero] at this
    rw [this, ← hc]; rfl
  by_cases hq : c = 34
  case neg =>
    have hz : E = (3, [], 0) := by rw [← HE.out, hl0, scanQ_no _ _ hq]
    subst hz
    obtain ⟨n, hn⟩ : ∃ n : Int, n = (c.toNat : Int) := ⟨_, rfl⟩
    have hnd : ((b[0].toNat : Nat) : Int) = n := by rw [hc, hn]
    have e1 : (n != 34) = true := by rw [bne_iff_ne]; intro e; exact hq (UInt8.toNat_inj.1 (by show c.toNat = 34; omega))
    clear hc hn hq hl0 hc8
    go_wp2_with fail
    refine bodyPost_ret (rscan_res B ⟨#[]⟩ 0 3 _ _ (((HB0.out.set_ 0 _).set_ 1 _).set_ 2 _) rfl) rfl ⟨rfl, ?_⟩
    rw [HBB.out]
    exact ((HL0.out.setCell (p := ⟨B, 0, none⟩) (Nat.le_refl _) _).setCell (p := ⟨B, 1, none⟩) (Nat.le_refl _) _).setCell (p := ⟨B, 2, none⟩) (Nat.le_refl _) _
  subst hq
  have HE1 : Hid (scanAt 1 [] (b.data.toList.drop 1) = E) := by
    unfold Hid
    rw [← HE.out, hl0, scanQ_yes]
    rfl
  clear HE hl0 c0 c1 c2 f0 f1 f2
  go_wp2_with fail
  go_loopw [3, 4] (fun s a wr => ∃ (k : Nat) (S : ByteArray), k ≤ b.size ∧ S.size ≤ k ∧ s = .string S ∧ a = .int .i64 k ∧ Hid (scanAt k S.data.toList (b.data.toList.drop k) = E) ∧ Hid (Blk wr B 109 #[.string ⟨#[]⟩, .int .i64 0, .int .i64 0]) ∧ Hid (Below B w wr)) (fun _ a _ => b.size - (intOf a).toNat)
  case atStart => exact ⟨1, ⟨#[]⟩, by omega, by decide, rfl, rfl, HE1, HB0, HL0⟩
  case round =>
    clear HE1 HB0 HL0 hc
    obtain ⟨k, S, hk, hS, rfl, rfl, HE, HB, HL⟩ := hrel
    obtain ⟨F, hF0⟩ : ∃ F, partF (b.data.toList.drop k) = F := ⟨_, rfl⟩
    obtain ⟨T, hT⟩ : ∃ T : ByteArray, T = ⟨F.2.1.toArray⟩ := ⟨_, rfl⟩
    have CP := Lib.hid (fun w => rpart_any b k w hs F hF0)
    rw [← hT] at CP
    by_cases hlt : k < b.size
    · have hlt' : (k : Int) < (b.size : Int) := by omega
      obtain ⟨c, hc⟩ : ∃ c, b[k] = c := ⟨_, rfl⟩
      have hdr : b.data.toList.drop k = c :: b.data.toList.drop (k + 1) := by
        rw [List.drop_eq_getElem_cons (by rw [← Lib.size_eq]; exact hlt), ← hc]; rfl
      by_cases hq : c = 34
      · subst hq
        have hz : E = (0, S.data.toList, k + 1) := by rw [← HE.out, hdr, scanAt_quote]
        subst hz
        have c0 : wr.cell? ⟨B, 0, none⟩ = some (.string ⟨#[]⟩) := HB.out.cell 0
        have c1 : wr.cell? ⟨B, 1, none⟩ = some (.int .i64 0) := HB.out.cell 1
        have c2 : wr.cell? ⟨B, 2, none⟩ = some (.int .i64 0) := HB.out.cell 2
        have f0 : wr.frozen? ⟨B, 0, none⟩ = false := HB.out.frozen 0
        have f1 : wr.frozen? ⟨B, 1, none⟩ = false := HB.out.frozen 1
        have f2 : wr.frozen? ⟨B, 2, none⟩ = false := HB.out.frozen 2
        clear hdr HE CP hT hF0
        go_wp2_with fail
        refine bodyPost_ret (rscan_res B S ((k : Int) + 1) 0 _ _ (((HB.out.set_ 0 _).set_ 1 _).set_ 2 _) rfl) rfl ⟨rfl, ?_⟩
        rw [HBB.out]
        exact ((HL.out.setCell (p := ⟨B, 0, none⟩) (Nat.le_refl _) _).setCell (p := ⟨B, 1, none⟩) (Nat.le_refl _) _).setCell (p := ⟨B, 2, none⟩) (Nat.le_refl _) _
      have hbad : Hid (F.1 ≠ 0 → E = (F.1, [], 0)) := fun h => by
        rw [← HE.out, hdr, scanAt_bad _ _ _ _ hq (by rw [← hdr, hF0]; exact h), ← hdr, hF0]
      have hgood : Hid (F.1 = 0 → 1 ≤ F.2.2 ∧ k + F.2.2 ≤ b.size ∧ F.2.1.length ≤ F.2.2 ∧ scanAt (k + F.2.2) (S.data.toList ++ F.2.1) (b.data.toList.drop (k + F.2.2)) = E) := fun h => by
        have h1 := part_ok _ (by rw [hF0]; exact h)
        rw [hF0, List.length_drop, ← Lib.size_eq] at h1
        refine ⟨h1.1, by omega, h1.2.2, ?_⟩
        rw [← HE.out, hdr, scanAt_step _ _ _ _ hq (by rw [← hdr, hF0]; exact h), ← hdr, hF0, List.drop_drop]
      obtain ⟨n, hn⟩ : ∃ n : Int, n = (c.toNat : Int) := ⟨_, rfl⟩
      have hnd : ((b[k].toNat : Nat) : Int) = n := by rw [hc, hn]
      have e1 : (n == 34) = false := by rw [beq_eq_false_iff_ne]; intro e; exact hq (UInt8.toNat_inj.1 (by show c.toNat = 34; omega))
      clear hdr HE hF0 hc hq hn
      go_wp2_with fail
      refine (CP.out _).mono ?_
      rintro e w2 ⟨rfl, hb⟩
      have HB2 := Lib.hid (HB.out.below hb HB.out.lt)
      have HL2 := Lib.hid (HL.out.trans (hb.mono (by have := HL.out.size; have := HBB.out; omega)))
      have hBl : B < w2.heap.size := HB2.out.lt
      have hBn : ¬ B = w2.heap.size := by omega
      clear hb
      by_cases hF : F.1 = 0
      case neg =>
        have hz := hbad.out hF
        obtain ⟨e0, he0⟩ : ∃ e0 : Int, e0 = (F.1 : Int) := ⟨_, rfl⟩
        have g1 : (e0 != 0) = true := by rw [bne_iff_ne]; omega
        have g2 : ¬ e0 = 0 := by omega
        subst hz
        rw [← he0]
        have HE0 := Lib.hid he0
        have c0 : w2.cell? ⟨B, 0, none⟩ = some (.string ⟨#[]⟩) := HB2.out.cell 0
        have c1 : w2.cell? ⟨B, 1, none⟩ = some (.int .i64 0) := HB2.out.cell 1
        have c2 : w2.cell? ⟨B, 2, none⟩ = some (.int .i64 0) := HB2.out.cell 2
        have f0 : w2.frozen? ⟨B, 0, none⟩ = false := HB2.out.frozen 0
        have f1 : w2.frozen? ⟨B, 1, none⟩ = false := HB2.out.frozen 1
        have f2 : w2.frozen? ⟨B, 2, none⟩ = false := HB2.out.frozen 2
        clear he0 hgood hbad hF
        go_wp2_with fail
        refine bodyPost_ret (rscan_res B ⟨#[]⟩ 0 e0 _ _ ((((HB2.out.set_ 0 _).set_ 1 _).set_ 2 _).alloc _) rfl) rfl ⟨congrArg (fun z => Ending.returned (.agg #[.string ⟨#[]⟩, .int .i64 0, .int .i64 z])) HE0.out, ?_⟩
        rw [HBB.out]
        exact (((HL2.out.setCell (p := ⟨B, 0, none⟩) (Nat.le_refl _) _).setCell (p := ⟨B, 1, none⟩) (Nat.le_refl _) _).setCell (p := ⟨B, 2, none⟩) (Nat.le_refl _) _).alloc (by simp; omega) _
      obtain ⟨g1, g2, g3, g4⟩ := hgood.out hF
      obtain ⟨m, hm⟩ : ∃ m, m = k + F.2.2 := ⟨_, rfl⟩
      rw [← hm] at g2 g4
      have hmi : (k : Int) + (F.2.2 : Int) = (m : Int) := by omega
      have hTs : T.size = F.2.1.length := by rw [hT, Lib.size_eq]
      have hsum : ¬ 9223372036854775807 < S.size + T.size := by omega
      have hsum2 : S.size + T.size ≤ m := by omega
      have hkm : k < m := by omega
      have hG : Hid (scanAt m (S ++ T).data.toList (b.data.toList.drop m) = E) := by
        unfold Hid
        rw [data_append, hT]; exact g4
      have hsz : (S ++ T).size ≤ m := by rw [ByteArray.size_append]; exact hsum2
      have HSZ := Lib.hid hsz
      rw [hF]
      have HX3 := Lib.hid (HB2.out.alloc (.cells #[.string T, .int .i64 (F.2.2 : Int), .int .i64 0] 109))
      have HY3 := Lib.hid (HL2.out.alloc (by omega) (.cells #[.string T, .int .i64 (F.2.2 : Int), .int .i64 0] 109))
      have HT := Lib.hid hT
      clear hT hTs hm g1 g3 g4 hgood hbad hF hsz
      go_wp2_with fail
      go_roundw
      case rel => exact ⟨m, S ++ T, g2, HSZ.out, rfl, rfl, hG, HX3, HY3⟩
      case measure => simp [intOf]; omega
    · have hlt' : ¬ (k : Int) < (b.size : Int) := by omega
      have hz0 : F = ptBad 2 := by
        rw [← hF0, List.drop_eq_nil_of_le (by rw [← Lib.size_eq]; omega)]; rfl
      have hbad : Hid (F.1 ≠ 0 → E = (F.1, [], 0)) := fun _ => by
        rw [← HE.out, List.drop_eq_nil_of_le (by rw [← Lib.size_eq]; omega), scanAt_nil, hz0]; rfl
      have hF2 : F.1 ≠ 0 := by rw [hz0]; decide
      clear HE hF0 hz0
      go_wp2_with fail
      refine (CP.out _).mono ?_
      rintro e w2 ⟨rfl, hb⟩
      have HB2 := Lib.hid (HB.out.below hb HB.out.lt)
      have HL2 := Lib.hid (HL.out.trans (hb.mono (by have := HL.out.size; have := HBB.out; omega)))
      have hBl : B < w2.heap.size := HB2.out.lt
      have hBn : ¬ B = w2.heap.size := by omega
      clear hb
      by_cases hF : F.1 = 0
      case neg =>
        have hz := hbad.out hF
        obtain ⟨e0, he0⟩ : ∃ e0 : Int, e0 = (F.1 : Int) := ⟨_, rfl⟩
        have g1 : (e0 != 0) = true := by rw [bne_iff_ne]; omega
        have g2 : ¬ e0 = 0 := by omega
        subst hz
        rw [← he0]
        have HE0 := Lib.hid he0
        have c0 : w2.cell? ⟨B, 0, none⟩ = some (.string ⟨#[]⟩) := HB2.out.cell 0
        have c1 : w2.cell? ⟨B, 1, none⟩ = some (.int .i64 0) := HB2.out.cell 1
        have c2 : w2.cell? ⟨B, 2, none⟩ = some (.int .i64 0) := HB2.out.cell 2
        have f0 : w2.frozen? ⟨B, 0, none⟩ = false := HB2.out.frozen 0
        have f1 : w2.frozen? ⟨B, 1, none⟩ = false := HB2.out.frozen 1
        have f2 : w2.frozen? ⟨B, 2, none⟩ = false := HB2.out.frozen 2
        clear he0 hbad hF
        go_wp2_with fail
        refine bodyPost_ret (rscan_res B ⟨#[]⟩ 0 e0 _ _ ((((HB2.out.set_ 0 _).set_ 1 _).set_ 2 _).alloc _) rfl) rfl ⟨congrArg (fun z => Ending.returned (.agg #[.string ⟨#[]⟩, .int .i64 0, .int .i64 z])) HE0.out, ?_⟩
        rw [HBB.out]
        exact (((HL2.out.setCell (p := ⟨B, 0, none⟩) (Nat.le_refl _) _).setCell (p := ⟨B, 1, none⟩) (Nat.le_refl _) _).setCell (p := ⟨B, 2, none⟩) (Nat.le_refl _) _).alloc (by simp; omega) _
      exact absurd hF hF2
end Go.Proofs.YtdfihhebgllpcaaGreatDoor

/- The walks of the reference's Letter, Blank, is, end, token. -/
namespace Go.Proofs.YtdfihhebgllpcaaGreatDoor
open Go.RowKit Go.Proofs.QuotePlain Go.Proofs.UtfPlain Go.Proofs.LexPlain

set_option maxHeartbeats 1000000 in
theorem rletter_any (c : UInt8) (w : World) : Calls Tryz.prog 213 #[.int .u8 (c.toNat : Int)] w fun e w' => e = .returned (.bool (letter c)) ∧ w = w' := by
  obtain ⟨r, hr⟩ : ∃ r, letter c = r := ⟨_, rfl⟩
  rw [hr]
  have h1 : r = (decide (c.toNat = 95) || (decide (97 ≤ c.toNat) && decide (c.toNat ≤ 122)) || (decide (65 ≤ c.toNat) && decide (c.toNat ≤ 90))) := by rw [← hr]; rfl
  have hc8 := c.toNat_lt
  obtain ⟨n, hn⟩ : ∃ n : Int, n = (c.toNat : Int) := ⟨_, rfl⟩
  rw [← hn]
  have hcase : (97 ≤ n ∧ n ≤ 122 ∧ r = true) ∨ (97 ≤ n ∧ 122 < n ∧ r = false) ∨ (n < 65 ∧ r = false) ∨ (65 ≤ n ∧ n ≤ 90 ∧ r = true) ∨ (90 < n ∧ n < 97 ∧ n ≠ 95 ∧ r = false) ∨ (n = 95 ∧ r = true) := by
    by_cases a1 : c.toNat = 95
    · right; right; right; right; right
      exact ⟨by omega, by rw [h1, decide_eq_true a1]; rfl⟩
    by_cases a2 : 97 ≤ c.toNat
    · by_cases a3 : c.toNat ≤ 122
      · left; exact ⟨by omega, by omega, by rw [h1, decide_eq_true a2, decide_eq_true a3]; simp⟩
      · right; left; exact ⟨by omega, by omega, by rw [h1, decide_eq_false a1, decide_eq_false a3, decide_eq_false (show ¬ c.toNat ≤ 90 by omega)]; simp⟩
    by_cases a4 : 65 ≤ c.toNat
    · by_cases a5 : c.toNat ≤ 90
      · right; right; right; left; exact ⟨by omega, by omega, by rw [h1, decide_eq_true a4, decide_eq_true a5]; simp⟩
      · right; right; right; right; left; exact ⟨by omega, by omega, by omega, by rw [h1, decide_eq_false a1, decide_eq_false a2, decide_eq_false a5]; simp⟩
    · right; right; left; exact ⟨by omega, by rw [h1, decide_eq_false a1, decide_eq_false a2, decide_eq_false a4]; rfl⟩
  clear h1 hn hr hc8
  rcases hcase with ⟨g1, g2, rfl⟩ | ⟨g1, g2, rfl⟩ | ⟨g1, rfl⟩ | ⟨g1, g2, rfl⟩ | ⟨g1, g2, g3, rfl⟩ | ⟨rfl, rfl⟩
  case inr.inr.inr.inr.inl =>
    have e1 : (n == 95) = false := by rw [beq_eq_false_iff_ne]; exact g3
    have d2 : decide (n ≤ 90) = false := decide_eq_false (by omega)
    go_enter Tryz.func213, Tryz.ntmps213
    go_wp2_with fail
    go_ret
    exact ⟨rfl, rfl⟩
  case inr.inl =>
    have e1 : (n == 95) = false := by rw [beq_eq_false_iff_ne]; omega
    have d1 : decide (n ≤ 122) = false := decide_eq_false (by omega)
    have d2 : decide (n ≤ 90) = false := decide_eq_false (by omega)
    go_enter Tryz.func213, Tryz.ntmps213
    go_wp2_with fail
    go_ret
    exact ⟨rfl, rfl⟩
  case inr.inr.inl =>
    have e1 : (n == 95) = false := by rw [beq_eq_false_iff_ne]; omega
    go_enter Tryz.func213, Tryz.ntmps213
    go_wp2_with fail
    go_ret
    exact ⟨rfl, rfl⟩
  all_goals
    go_enter Tryz.func213, Tryz.ntmps213
    go_wp2_with fail
    go_ret
    exact ⟨rfl, rfl⟩

set_option maxHeartbeats 1000000 in
theorem rblank_any (c : UInt8) (w : World) : Calls Tryz.prog 187 #[.int .u8 (c.toNat : Int)] w fun e w' => e = .returned (.bool (LexPlain.blank c)) ∧ w = w' := by
  obtain ⟨r, hr⟩ : ∃ r, LexPlain.blank c = r := ⟨_, rfl⟩
  rw [hr]
  have h1 : r = (decide (c.toNat = 32) || decide (c.toNat = 9) || decide (c.toNat = 13)) := by rw [← hr]; rfl
  obtain ⟨n, hn⟩ : ∃ n : Int, n = (c.toNat : Int) := ⟨_, rfl⟩
  rw [← hn]
  have hcase : (n = 32 ∧ r = true) ∨ (n = 9 ∧ r = true) ∨ (n = 13 ∧ r = true) ∨ ((n == 32) = false ∧ (n == 9) = false ∧ (n == 13) = false ∧ r = false) := by
    by_cases a1 : c.toNat = 32
    · left; exact ⟨by omega, by rw [h1, decide_eq_true a1]; rfl⟩
    by_cases a2 : c.toNat = 9
    · right; left; exact ⟨by omega, by rw [h1, decide_eq_true a2]; simp⟩
    by_cases a3 : c.toNat = 13
    · right; right; left; exact ⟨by omega, by rw [h1, decide_eq_true a3]; simp⟩
    right; right; right
    refine ⟨?_, ?_, ?_, by rw [h1, decide_eq_false a1, decide_eq_false a2, decide_eq_false a3]; rfl⟩
    all_goals rw [beq_eq_false_iff_ne]; omega
  clear h1 hn hr
  rcases hcase with ⟨rfl, rfl⟩ | ⟨rfl, rfl⟩ | ⟨rfl, rfl⟩ | ⟨g1, g2, g3, rfl⟩
  all_goals
    go_enter Tryz.func187, Tryz.ntmps187
    go_wp2_with fail
    go_ret
    exact ⟨rfl, rfl⟩

set_option maxHeartbeats 1000000 in
theorem ris_any (s X : ByteArray) (k : Nat) (w : World) (hs : s.size ≤ 1000000) (hX : X.size ≤ 1000000) (hk : k ≤ s.size) :
    Calls Tryz.prog 216 #[.string s, .int .i64 k, .string X] w fun e w' => e = .returned (.bool (Lib.hasPrefix (s.data.toList.drop k) X.data.toList)) ∧ w = w' := by
  obtain ⟨m, hm⟩ : ∃ m : Nat, m = k + X.size := ⟨_, rfl⟩
  have hmi : (k : Int) + (X.size : Int) = (m : Int) := by omega
  have hpre : Lib.hasPrefix (s.data.toList.drop k) X.data.toList = true ↔ X.data.toList = (s.data.toList.drop k).take X.size := by
    show List.isPrefixOf _ _ = true ↔ _
    rw [List.isPrefixOf_iff_prefix, List.prefix_iff_eq_take, ← Lib.size_eq]
  by_cases h1 : m ≤ s.size
  · have h1' : (m : Int) ≤ (s.size : Int) := by omega
    obtain ⟨T, hT⟩ : ∃ T : ByteArray, s.extract k m = T := ⟨_, rfl⟩
    have hTd : T.data.toList = (s.data.toList.drop k).take X.size := by rw [← hT, data_extract, hm, Nat.add_sub_cancel_left]
    rw [← hTd] at hpre
    have hkm : k ≤ m := by omega
    have hkmi : (k : Int) ≤ (m : Int) := by omega
    have hsl : ∀ W, (Instr.slice 9 (.string s) (some (.int .i64 (k : Int))) (some (.int .i64 (m : Int))) none).run Tryz.prog W = .ok (.string T) W := fun W => by
      have := run_slice_string (P := Tryz.prog) W 9 s .i64 .i64 (k : Int) (m : Int) (by kernel_rfl) (by omega) (by omega) (by omega)
      rw [← hT]
      simpa using this
    by_cases h2 : T = X
    · rw [hpre.2 (by rw [h2])]
      subst h2
      clear hpre hm hTd hT
      go_enter Tryz.func216, Tryz.ntmps216
      go_wp2_with fail
      go_ret
      exact ⟨rfl, rfl⟩
    · have hf : Lib.hasPrefix (s.data.toList.drop k) X.data.toList = false := by
        rw [← Bool.not_eq_true, hpre]
        exact fun h => h2 ((bytes_eta T _ h.symm).trans (bytes_eta X _ rfl).symm)
      rw [hf]
      have hne : (T.toList == X.toList) = false := by
        rw [beq_eq_false_iff_ne]
        intro h
        rw [Lib.toList_data, Lib.toList_data] at h
        exact h2 ((bytes_eta T _ h).trans (bytes_eta X _ rfl).symm)
      clear hpre hm hTd hT h2 hf
      go_enter Tryz.func216, Tryz.ntmps216
      go_wp2_with fail
      go_ret
      exact ⟨rfl, rfl⟩
  · have hf : Lib.hasPrefix (s.data.toList.drop k) X.data.toList = false := by
      rw [← Bool.not_eq_true, hpre]
      intro h
      have := congrArg List.length h
      rw [← Lib.size_eq, List.length_take, List.length_drop, ← Lib.size_eq] at this
      have h2 := Nat.min_le_right X.size (s.size - k)
      omega
    rw [hf]
    have h1' : ¬ (m : Int) ≤ (s.size : Int) := by omega
    clear hpre hm hf
    go_enter Tryz.func216, Tryz.ntmps216
    go_wp2_with fail
    go_ret
    exact ⟨rfl, rfl⟩

set_option maxHeartbeats 1000000 in
theorem rend_any (s : ByteArray) (k : Nat) (w : World) (hs : s.size ≤ 1000000) (hk : k < s.size) (hc : s[k] ≠ 10) :
    Calls Tryz.prog 217 #[.string s, .int .i64 k] w fun e w' => (∃ E : Nat, e = .returned (.int .i64 E) ∧ k < E ∧ E ≤ s.size) ∧ w = w' := by
  have HC := Lib.hid hc
  clear hc
  go_enter Tryz.func217, Tryz.ntmps217
  go_wp2_with fail
  go_loop [1] (fun i => ∃ j : Nat, k ≤ j ∧ j ≤ s.size ∧ i = .int .i64 j) (fun i => s.size - (intOf i).toNat)
  case atStart => exact ⟨k, by omega, by omega, rfl⟩
  case round =>
    obtain ⟨j, hj, hj2, rfl⟩ := hrel
    by_cases hlt : j < s.size
    · have hlt' : (j : Int) < (s.size : Int) := by omega
      obtain ⟨n, hn⟩ : ∃ n : Int, ((s[j].toNat : Nat) : Int) = n := ⟨_, rfl⟩
      by_cases h10 : n = 10
      · have hne : k < j := by
          rcases Nat.lt_or_ge k j with h | h
          · exact h
          · exfalso
            obtain rfl : j = k := by omega
            exact HC.out (UInt8.toNat_inj.1 (by show s[j].toNat = 10; omega))
        subst h10
        go_wp2_with fail
        go_ret
        exact ⟨⟨j, rfl, hne, hj2⟩, rfl⟩
      · have e1 : (n != 10) = true := by rw [bne_iff_ne]; exact h10
        go_wp2_with fail
        go_round
        case rel => exact ⟨j + 1, by omega, by omega, by go_num⟩
        case measure => simp [intOf]; omega
    · have hlt' : ¬ (j : Int) < (s.size : Int) := by omega
      go_wp2_with fail
      go_ret
      exact ⟨⟨j, rfl, by omega, hj2⟩, rfl⟩
end Go.Proofs.YtdfihhebgllpcaaGreatDoor

/- The walks of the reference's token, comment. -/
namespace Go.Proofs.YtdfihhebgllpcaaGreatDoor
open Go.RowKit Go.Proofs.QuotePlain Go.Proofs.UtfPlain Go.Proofs.LexPlain

theorem rtok_res (B : Nat) (v : Value) (a x : Int) (W : World) (tmps : Array Value) (hB : Blk W B 178 #[v, .int .i64 a, .int .i64 x]) (h : tmps[8]? = some (.pointer (some ⟨B, 0, none⟩))) :
    (results Tryz.f212 tmps).run Tryz.prog W = .ok (.agg #[v, .int .i64 a, .int .i64 x]) W := by
  have c0 : W.cell? ⟨B, 0, none⟩ = some v := hB.cell 0
  have c1 : W.cell? ⟨B, 1, none⟩ = some (.int .i64 a) := hB.cell 1
  have c2 : W.cell? ⟨B, 2, none⟩ = some (.int .i64 x) := hB.cell 2
  simp [results, Tryz.results212, go_sem, h, c0, c1, c2]
theorem rcom_res (B : Nat) (v : Value) (a x : Int) (W : World) (tmps : Array Value) (hB : Blk W B 178 #[v, .int .i64 a, .int .i64 x]) (h : tmps[8]? = some (.pointer (some ⟨B, 0, none⟩))) :
    (results Tryz.f218 tmps).run Tryz.prog W = .ok (.agg #[v, .int .i64 a, .int .i64 x]) W := by
  have c0 : W.cell? ⟨B, 0, none⟩ = some v := hB.cell 0
  have c1 : W.cell? ⟨B, 1, none⟩ = some (.int .i64 a) := hB.cell 1
  have c2 : W.cell? ⟨B, 2, none⟩ = some (.int .i64 x) := hB.cell 2
  simp [results, Tryz.results218, go_sem, h, c0, c1, c2]
/-- A token is told. -/
def RTok (s : ByteArray) (k K N : Nat) (w : World) (e : Ending) (w' : World) : Prop :=
  ∃ g, e = .returned (.agg #[.slice (some ⟨g, 0, none⟩) 1 1, .int .i64 0, .int .i64 0]) ∧ w.heap.size ≤ g ∧ Blk w' g 127 #[.int .i64 K, .string ⟨((s.data.toList.drop k).take N).toArray⟩, .int .i64 k]

set_option maxRecDepth 100000 in
set_option maxHeartbeats 2000000 in
theorem rtoken_any (s : ByteArray) (k K N : Nat) (w : World) (hs : s.size ≤ 1000000) (hm : k + N ≤ s.size) :
    Calls Tryz.prog 212 #[.string s, .int .i64 k, .int .i64 K, .int .i64 N] w fun e w' => RTok s k K N w e w' ∧ Below w.heap.size w w' := by
  obtain ⟨m, hm2⟩ : ∃ m : Nat, m = k + N := ⟨_, rfl⟩
  have hmi : (k : Int) + (N : Int) = (m : Int) := by omega
  obtain ⟨T, hT⟩ : ∃ T : ByteArray, s.extract k m = T := ⟨_, rfl⟩
  have hTT : Hid (T = ⟨((s.data.toList.drop k).take N).toArray⟩) := by
    refine bytes_eta _ _ ?_
    rw [← hT, data_extract, hm2, Nat.add_sub_cancel_left]
  have hkm : k ≤ m := by omega
  have hms : m ≤ s.size := by omega
  have hm5 : (m : Int) ≤ 1000000 := by omega
  have hsl : ∀ W, (Instr.slice 9 (.string s) (some (.int .i64 (k : Int))) (some (.int .i64 (m : Int))) none).run Tryz.prog W = .ok (.string T) W := fun W => by
    have := run_slice_string (P := Tryz.prog) W 9 s .i64 .i64 (k : Int) (m : Int) (by kernel_rfl) (by omega) (by omega) (by omega)
    rw [← hT]
    simpa using this
  clear hm hm2 hT
  go_enter Tryz.func212, Tryz.ntmps212
  go_upto_region 1 with fail
  have hB0 := Blk.new w 178 #[.slice none 0 0, .int .i64 0, .int .i64 0]
  have hl0 : Below w.heap.size w (w.alloc (.cells #[.slice none 0 0, .int .i64 0, .int .i64 0] 178)) := (Below.refl _ _).alloc (Nat.le_refl _) _
  obtain ⟨W, hW⟩ : ∃ W, w.alloc (.cells #[.slice none 0 0, .int .i64 0, .int .i64 0] 178) = W := ⟨_, rfl⟩
  obtain ⟨B, hB⟩ : ∃ B, w.heap.size = B := ⟨_, rfl⟩
  rw [hW] at hB0 hl0 ⊢
  rw [hB] at hB0 hl0 ⊢
  have HB0 := Lib.hid hB0
  have HL0 := Lib.hid hl0
  have HBB := Lib.hid hB
  have hBl := hB0.lt
  have hBn : ¬ B = W.heap.size := by omega
  clear hW hB0 hl0 hB
  have c0 : W.cell? ⟨B, 0, none⟩ = some (.slice none 0 0) := HB0.out.cell 0
  have c1 : W.cell? ⟨B, 1, none⟩ = some (.int .i64 0) := HB0.out.cell 1
  have c2 : W.cell? ⟨B, 2, none⟩ = some (.int .i64 0) := HB0.out.cell 2
  have f0 : W.frozen? ⟨B, 0, none⟩ = false := HB0.out.frozen 0
  have f1 : W.frozen? ⟨B, 1, none⟩ = false := HB0.out.frozen 1
  have f2 : W.frozen? ⟨B, 2, none⟩ = false := HB0.out.frozen 2
  go_wp2_with fail
  have hTok := Blk.new (((W.setCell ⟨B, 0, none⟩ (.slice (some ⟨W.heap.size, 0, none⟩) 1 1)).setCell ⟨B, 1, none⟩ (.int .i64 0)).setCell ⟨B, 2, none⟩ (.int .i64 0)) 127 #[.int .i64 K, .string T, .int .i64 k]
  refine bodyPost_ret (rtok_res B _ 0 0 _ _ ((((HB0.out.set_ 0 _).set_ 1 _).set_ 2 _).alloc _) rfl) rfl ⟨⟨W.heap.size, rfl, HL0.out.size, ?_⟩, ?_⟩
  · rw [← hTT.out]
    simpa using hTok
  · rw [HBB.out]
    exact (((HL0.out.setCell (p := ⟨B, 0, none⟩) (Nat.le_refl _) _).setCell (p := ⟨B, 1, none⟩) (Nat.le_refl _) _).setCell (p := ⟨B, 2, none⟩) (Nat.le_refl _) _).alloc (by simp; omega) _

set_option maxRecDepth 100000 in
set_option maxHeartbeats 4000000 in
theorem rcomment_any (s : ByteArray) (k E K : Nat) (w : World) (hs : s.size ≤ 1000000) (hk : k ≤ E) (hE : E ≤ s.size) :
    Calls Tryz.prog 218 #[.string s, .int .i64 k, .int .i64 E, .int .i64 K] w fun e w' => ((∃ a x : Int, e = .returned (.agg #[.slice none 0 0, .int .i64 a, .int .i64 x]) ∧ x ≠ 0) ∨ RTok s k K (E - k) w e w') ∧ Below w.heap.size w w' := by
  obtain ⟨T, hT⟩ : ∃ T : ByteArray, s.extract k E = T := ⟨_, rfl⟩
  have hTT : Hid (T = ⟨((s.data.toList.drop k).take (E - k)).toArray⟩) := by
    refine bytes_eta _ _ ?_
    rw [← hT, data_extract]
  obtain ⟨S, hS⟩ : ∃ S : ByteArray, s.extract 0 E = S := ⟨_, rfl⟩
  have hSs : S.size = E := by rw [← hS, ByteArray.size_extract]; omega
  have CO : Hid (∀ (i : Nat) (w : World), i ≤ E → Calls Tryz.prog 129 #[.string S, .int .i64 i] w fun e w' => (∃ v n : Nat, e = .returned (.tuple #[.int .i64 v, .int .i64 n]) ∧ i + n ≤ E) ∧ Below w.heap.size w w') := fun i w hi => by
    refine (rone_any S i w (by omega) (by omega)).mono ?_
    rintro e w' ⟨rfl, hb⟩
    have := one_size (S.data.toList.drop i)
    rw [List.length_drop, ← Lib.size_eq, hSs] at this
    exact ⟨⟨_, _, rfl, by omega⟩, hb⟩
  have hEi : (E : Int) ≤ (s.size : Int) := by omega
  have hki : (k : Int) ≤ (E : Int) := by omega
  clear hSs
  go_enter Tryz.func218, Tryz.ntmps218
  go_upto_region 1 with fail
  have hB0 := Blk.new w 178 #[.slice none 0 0, .int .i64 0, .int .i64 0]
  have hl0 : Below w.heap.size w (w.alloc (.cells #[.slice none 0 0, .int .i64 0, .int .i64 0] 178)) := (Below.refl _ _).alloc (Nat.le_refl _) _
  obtain ⟨W, hW⟩ : ∃ W, w.alloc (.cells #[.slice none 0 0, .int .i64 0, .int .i64 0] 178) = W := ⟨_, rfl⟩
  obtain ⟨B, hB⟩ : ∃ B, w.heap.size = B := ⟨_, rfl⟩
  rw [hW] at hB0 hl0 ⊢
  rw [hB] at hB0 hl0 ⊢
  have HB0 := Lib.hid hB0
  have HL0 := Lib.hid hl0
  have HBB := Lib.hid hB
  clear hW hB0 hl0 hB
  go_wp2_with fail
  go_loopw [9] (fun i wr => ∃ j : Nat, k ≤ j ∧ j ≤ E ∧ i = .int .i64 j ∧ Hid (Blk wr B 178 #[.slice none 0 0, .int .i64 0, .int .i64 0]) ∧ Hid (Below B w wr)) (fun i _ => E - (intOf i).toNat)
  case atStart => exact ⟨k, by omega, by omega, rfl, HB0, HL0⟩
  case round =>
    clear HB0 HL0
    obtain ⟨j, hj, hj2, rfl, HB, HL⟩ := hrel
    by_cases hlt : j < E
    · have hlt' : (j : Int) < (E : Int) := by omega
      go_wp2_with fail
      refine (CO.out j _ hj2).mono ?_
      rintro e w2 ⟨⟨v, n, rfl, hn⟩, hb⟩
      have HB2 := Lib.hid (HB.out.below hb HB.out.lt)
      have HL2 := Lib.hid (HL.out.trans (hb.mono (by have := HB.out.lt; omega)))
      have c0 : w2.cell? ⟨B, 0, none⟩ = some (.slice none 0 0) := HB2.out.cell 0
      have c1 : w2.cell? ⟨B, 1, none⟩ = some (.int .i64 0) := HB2.out.cell 1
      have c2 : w2.cell? ⟨B, 2, none⟩ = some (.int .i64 0) := HB2.out.cell 2
      have f0 : w2.frozen? ⟨B, 0, none⟩ = false := HB2.out.frozen 0
      have f1 : w2.frozen? ⟨B, 1, none⟩ = false := HB2.out.frozen 1
      have f2 : w2.frozen? ⟨B, 2, none⟩ = false := HB2.out.frozen 2
      clear hb
      by_cases hn0 : n = 0
      · subst hn0
        go_wp2_with fail
        refine bodyPost_ret (rcom_res B _ (j : Int) 7 _ _ (((HB2.out.set_ 0 _).set_ 1 _).set_ 2 _) rfl) rfl ⟨.inl ⟨_, 7, rfl, by decide⟩, ?_⟩
        rw [HBB.out]
        exact ((HL2.out.setCell (p := ⟨B, 0, none⟩) (Nat.le_refl _) _).setCell (p := ⟨B, 1, none⟩) (Nat.le_refl _) _).setCell (p := ⟨B, 2, none⟩) (Nat.le_refl _) _
      have hn1 : ((n : Int) == 0) = false := by rw [beq_eq_false_iff_ne]; omega
      have hn2 : ¬ (n : Int) = 0 := by omega
      obtain ⟨V, hV⟩ : ∃ V : Int, V = (v : Int) := ⟨_, rfl⟩
      rw [← hV]
      by_cases g1 : V < 32
      · by_cases g2 : V = 9
        · subst g2
          clear hV c0 c1 c2 f0 f1 f2
          go_wp2_with fail
          go_roundw
          case rel => exact ⟨j + n, by omega, by omega, by go_num, HB2, HL2⟩
          case measure => simp [intOf]; omega
        · have g3 : (V != 9) = true := by rw [bne_iff_ne]; exact g2
          clear hV
          go_wp2_with fail
          refine bodyPost_ret (rcom_res B _ (j : Int) 3 _ _ (((HB2.out.set_ 0 _).set_ 1 _).set_ 2 _) rfl) rfl ⟨.inl ⟨_, 3, rfl, by decide⟩, ?_⟩
          rw [HBB.out]
          exact ((HL2.out.setCell (p := ⟨B, 0, none⟩) (Nat.le_refl _) _).setCell (p := ⟨B, 1, none⟩) (Nat.le_refl _) _).setCell (p := ⟨B, 2, none⟩) (Nat.le_refl _) _
      · clear hV c0 c1 c2 f0 f1 f2
        go_wp2_with fail
        go_roundw
        case rel => exact ⟨j + n, by omega, by omega, by go_num, HB2, HL2⟩
        case measure => simp [intOf]; omega
    · have hlt' : ¬ (j : Int) < (E : Int) := by omega
      have hBl := HB.out.lt
      have hBn : ¬ B = wr.heap.size := by omega
      have c0 : wr.cell? ⟨B, 0, none⟩ = some (.slice none 0 0) := HB.out.cell 0
      have c1 : wr.cell? ⟨B, 1, none⟩ = some (.int .i64 0) := HB.out.cell 1
      have c2 : wr.cell? ⟨B, 2, none⟩ = some (.int .i64 0) := HB.out.cell 2
      have f0 : wr.frozen? ⟨B, 0, none⟩ = false := HB.out.frozen 0
      have f1 : wr.frozen? ⟨B, 1, none⟩ = false := HB.out.frozen 1
      have f2 : wr.frozen? ⟨B, 2, none⟩ = false := HB.out.frozen 2
      go_wp2_with fail
      have hTok := Blk.new (((wr.setCell ⟨B, 0, none⟩ (.slice (some ⟨wr.heap.size, 0, none⟩) 1 1)).setCell ⟨B, 1, none⟩ (.int .i64 0)).setCell ⟨B, 2, none⟩ (.int .i64 0)) 127 #[.int .i64 K, .string T, .int .i64 k]
      refine bodyPost_ret (rcom_res B _ 0 0 _ _ ((((HB.out.set_ 0 _).set_ 1 _).set_ 2 _).alloc _) rfl) rfl ⟨.inr ⟨wr.heap.size, rfl, HL.out.size, ?_⟩, ?_⟩
      · rw [← hTT.out]
        simpa using hTok
      · rw [HBB.out]
        exact (((HL.out.setCell (p := ⟨B, 0, none⟩) (Nat.le_refl _) _).setCell (p := ⟨B, 1, none⟩) (Nat.le_refl _) _).setCell (p := ⟨B, 2, none⟩) (Nat.le_refl _) _).alloc (by simp; omega) _
end Go.Proofs.YtdfihhebgllpcaaGreatDoor
