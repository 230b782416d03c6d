import Derived.Test.YtdfihhebgllpcaaGreatDoorAo03
import Derived.Test.YtdfihhebgllpcaaGreatDoorAo10
import Derived.Test.YtdfihhebgllpcaaGreatDoorAo04
import Derived.Test.YtdfihhebgllpcaaGreatDoorAo01
import Derived.WalkKit
import Derived.WalkSpells
import Derived.WalkLawsBesides
import Derived.Lib.Hide
import Derived.Deep.QuietTactic
import Derived.BigQuiet
import Derived.Shelf.Strings.SlTrimAscii
import Derived.Test.YtdfihhebgllpcaaGreatDoorAo05

/- The walks of lex.letter, lex.name. -/
namespace Go.Proofs.YtdfihhebgllpcaaGreatDoor
open Go.RowKit Go.Proofs.QuotePlain Go.Proofs.UtfPlain Go.Proofs.LexPlain

theorem letter_or (c : UInt8) : letter c = (decide (c.toNat = 95) || (decide (97 ≤ bits .or .u8 (c.toNat : Int) 32) && decide (bits .or .u8 (c.toNat : Int) 32 ≤ 122))) := by
  have := all_u8 (fun c => letter c == (decide (c.toNat = 95) || (decide (97 ≤ bits .or .u8 (c.toNat : Int) 32) && decide (bits .or .u8 (c.toNat : Int) 32 ≤ 122)))) (by decide +kernel) c
  simpa using this
set_option maxHeartbeats 1000000 in
theorem letter_any (c : UInt8) (w : World) : Calls Tryz.prog 205 #[.int .u8 (c.toNat : Int)] w fun e w' => e = .returned (.bool (letter c)) ∧ w = w' := by
  have hc8 : c.toNat < 256 := c.toNat_lt
  obtain ⟨L, hL⟩ : ∃ L, bits .or .u8 (c.toNat : Int) 32 = L := ⟨_, rfl⟩
  rw [letter_or c, hL]
  by_cases h1 : c.toNat = 95
  · rw [decide_eq_true h1, Bool.true_or]
    have e1 : (((c.toNat : Nat) : Int) == 95) = true := by rw [beq_iff_eq]; omega
    clear hL
    go_enter Tryz.func205, Tryz.ntmps205
    go_wp2_with fail
    go_ret
    exact ⟨rfl, rfl⟩
  rw [decide_eq_false h1, Bool.false_or]
  have e1 : (((c.toNat : Nat) : Int) == 95) = false := by rw [beq_eq_false_iff_ne]; omega
  by_cases h2 : 97 ≤ L
  · rw [decide_eq_true h2, Bool.true_and]
    by_cases h3 : L ≤ 122
    · rw [decide_eq_true h3]
      go_enter Tryz.func205, Tryz.ntmps205
      go_wp2_with fail
      go_ret
      exact ⟨rfl, rfl⟩
    · rw [decide_eq_false h3]
      have h4 : decide (L ≤ 122) = false := decide_eq_false h3
      go_enter Tryz.func205, Tryz.ntmps205
      go_wp2_with fail
      go_ret
      exact ⟨rfl, rfl⟩
  · rw [decide_eq_false h2, Bool.false_and]
    go_enter Tryz.func205, Tryz.ntmps205
    go_wp2_with fail
    go_ret
    exact ⟨rfl, rfl⟩

set_option maxRecDepth 100000 in
set_option maxHeartbeats 4000000 in
theorem name_any (s : ByteArray) (w : World) (c : UInt8) (r : List UInt8) (hl : s.data.toList = c :: r) (hc : letter c = true) (hs : s.size ≤ 1048576) :
    Calls Tryz.prog 206 #[.string s] w fun e w' => e = .returned (.int .i64 (nameLen (c :: r))) ∧ w = w' := by
  have hsz : s.size = r.length + 1 := by rw [Lib.size_eq, hl]; rfl
  have HL := Lib.hid hl
  have HC := Lib.hid hc
  have HSZ := Lib.hid hsz
  have hs0 : 0 < s.size := by omega
  clear hl hc hsz
  go_enter Tryz.func206, Tryz.ntmps206
  go_wp2_with fail
  go_loop [3] (fun n => ∃ k : Nat, k ≤ s.size ∧ n = .int .i64 k ∧ Hid (∀ d ∈ (c :: r).take k, word d = true)) (fun n => s.size - (intOf n).toNat)
  case atStart => exact ⟨0, by omega, rfl, Lib.hid (by simp)⟩
  case round =>
    obtain ⟨k, hk, rfl, HK⟩ := hrel
    have fin : (k = s.size ∨ ∃ d, (c :: r)[k]? = some d ∧ word d = false) → Hid (k = nameLen (c :: r)) := fun h => by
      unfold Hid
      have hk0 : k ≠ 0 := by
        rintro rfl
        rcases h with h | ⟨d, h1, h2⟩
        · omega
        · simp at h1; subst h1
          unfold word at h2; rw [HC.out] at h2; cases h2
      obtain ⟨j, rfl⟩ : ∃ j, k = j + 1 := ⟨k - 1, by omega⟩
      refine (nameLen_stop c r HC.out j (by rw [HSZ.out] at hk; omega) (fun d hd => HK.out d (by rw [List.take_succ_cons]; exact List.mem_cons_of_mem _ hd)) ?_).symm
      rcases h with h | ⟨d, h1, h2⟩
      · left; rw [HSZ.out] at h; omega
      · right; exact ⟨d, by simpa using h1, h2⟩
    by_cases hlt : k < s.size
    · have hlt' : (k : Int) < (s.size : Int) := by omega
      obtain ⟨d, hd⟩ : ∃ d, s[k] = d := ⟨_, rfl⟩
      have hd8 : d.toNat < 256 := d.toNat_lt
      have hg : (c :: r)[k]? = some d := by
        rw [← HL.out, List.getElem?_eq_getElem (by rw [← Lib.size_eq]; exact hlt), ← hd]; rfl
      have go : word d = true → Hid (∀ d ∈ (c :: r).take (k + 1), word d = true) := fun hw => by
        unfold Hid
        rw [List.take_add_one, hg]
        intro x hx
        rcases List.mem_append.1 hx with h | h
        · exact HK.out x h
        · simp at h; rw [h]; exact hw
      have CL := Lib.hid (fun w => letter_any d w)
      by_cases hw : letter d = true
      · have G := go (by unfold word; rw [hw]; rfl)
        rw [hw] at CL
        clear go fin hg hw
        go_wp2_with fail
        refine (CL.out _).mono ?_
        rintro e w1 ⟨rfl, rfl⟩
        go_wp2_with fail
        go_round
        case rel => exact ⟨k + 1, by omega, by go_num, G⟩
        case measure => simp [intOf]; omega
      have hw2 := Bool.eq_false_iff.2 hw
      rw [hw2] at CL
      have hk0 : k ≠ 0 := by
        rintro rfl
        simp at hg; subst hg
        rw [HC.out] at hw2; cases hw2
      have hk1 : (0 : Int) < (k : Int) := by omega
      have hk2 : 0 < k := by omega
      by_cases h1 : 48 ≤ d.toNat
      · have h1' : (48 : Int) ≤ (d.toNat : Int) := by omega
        by_cases h2 : d.toNat ≤ 57
        · have h2' : (d.toNat : Int) ≤ 57 := by omega
          have G := go (by unfold word digit; rw [decide_eq_true h1, decide_eq_true h2]; simp)
          clear go fin hg hw hw2 hk0
          go_wp2_with fail
          refine (CL.out _).mono ?_
          rintro e w1 ⟨rfl, rfl⟩
          go_wp2_with fail
          go_round
          case rel => exact ⟨k + 1, by omega, by go_num, G⟩
          case measure => simp [intOf]; omega
        · have h2' : ¬ (d.toNat : Int) ≤ 57 := by omega
          have h2'' : decide (d.toNat ≤ 57) = false := decide_eq_false h2
          have F := fin (.inr ⟨d, hg, by unfold word digit; rw [hw2, decide_eq_false h2]; simp⟩)
          clear go fin hg hw hw2 hk0
          go_wp2_with fail
          refine (CL.out _).mono ?_
          rintro e w1 ⟨rfl, rfl⟩
          go_wp2_with fail
          go_ret
          exact ⟨congrArg (fun z : Nat => Ending.returned (.int .i64 z)) F.out, rfl⟩
      · have h1' : ¬ (48 : Int) ≤ (d.toNat : Int) := by omega
        have F := fin (.inr ⟨d, hg, by unfold word digit; rw [hw2, decide_eq_false h1]; simp⟩)
        clear go fin hg hw hw2 hk0
        go_wp2_with fail
        refine (CL.out _).mono ?_
        rintro e w1 ⟨rfl, rfl⟩
        go_wp2_with fail
        go_ret
        exact ⟨congrArg (fun z : Nat => Ending.returned (.int .i64 z)) F.out, rfl⟩
    · have hlt' : ¬ (k : Int) < (s.size : Int) := by omega
      have F := fin (.inl (by omega))
      clear fin
      go_wp2_with fail
      go_ret
      exact ⟨congrArg (fun z : Nat => Ending.returned (.int .i64 z)) F.out, rfl⟩
end Go.Proofs.YtdfihhebgllpcaaGreatDoor

/- The walk of lex.remark. -/
namespace Go.Proofs.YtdfihhebgllpcaaGreatDoor
open Go.RowKit Go.Shelf Go.Proofs.QuotePlain Go.Proofs.UtfPlain Go.Proofs.LexPlain
attribute [local go_sem] Oper.semAt_some

/-- What is told of a token, as it lies. -/
abbrev toldA (k n b e : Int) : Array Value := #[.int .i64 k, .int .i64 n, .int .i64 b, .int .i64 e]
theorem rem_res (B : Nat) (k n b e : Int) (W : World) (tmps : Array Value) (hB : Blk W B 202 (toldA k n b e)) (h4 : tmps[4]? = some (.pointer (some ⟨B, 0, none⟩))) :
    (results Tryz.f210 tmps).run Tryz.prog W = .ok (.agg (toldA k n b e)) W := by
  have c0 : W.cell? ⟨B, 0, none⟩ = some (.int .i64 k) := hB.cell 0
  have c1 : W.cell? ⟨B, 1, none⟩ = some (.int .i64 n) := hB.cell 1
  have c2 : W.cell? ⟨B, 2, none⟩ = some (.int .i64 b) := hB.cell 2
  have c3 : W.cell? ⟨B, 3, none⟩ = some (.int .i64 e) := hB.cell 3
  simp [results, Tryz.results210, go_sem, h4, c0, c1, c2, c3]

theorem rem_fin {w W : World} {B D : Nat} (tmps : Array Value) (k n b x K sz : Int) (hB : Blk W B 202 (toldA k n b x)) (hL : Below B w W) (hBB : w.heap.size = B) (hK : W.heap[D]? = some (.deferred (some []))) (hD : B < D) (hx : x = 0 → k = K ∧ n = sz)
    (h4 : tmps[4]? = some (.pointer (some ⟨B, 0, none⟩))) :
    bodyPostM Fence.wide 5 Tryz.prog Tryz.f210 (fun e w' => (∃ k n b x : Int, e = .returned (.agg (toldA k n b x)) ∧ (x = 0 → k = K ∧ n = sz)) ∧ Below w.heap.size w w') .ret { tmps := tmps, defers := [{ target := .collected D, args := #[] }] } W := by
  refine ⟨by simp, .inl ⟨_, _, rfl, run_takeDeferred hK, ?_⟩⟩
  have hB' := ownFrom_blk (β := Unit) (B := D) hD () W _ (some D) hB (grownBy_putObj' W D (.deferred none)) (fun r e => by cases e; exact ⟨Nat.le_refl _, _, hK, rfl⟩)
  have hL' := ownFrom_below (β := Unit) (B := D) (show B ≤ w.heap.size by omega) (Nat.le_of_lt hD) () W _ (some D) hL (grownBy_putObj' W D (.deferred none)) (fun r e => by cases e; exact ⟨Nat.le_refl _, _, hK, rfl⟩)
  refine ⟨_, rem_res B k n b x _ tmps hB' h4, ⟨k, n, b, x, rfl, hx⟩, ?_⟩
  rw [hBB]; exact hL'

set_option maxRecDepth 100000 in
set_option maxHeartbeats 4000000 in
/-- A comment's text is a token, the whole of it, or none. -/
theorem remark_any (K : Int) (s : ByteArray) (w : World) (hF : FormsAt w) (hs : s.size ≤ 1048576) :
    Calls Tryz.prog 210 #[.int .i64 K, .string s] w fun e w' => (∃ k n b x : Int, e = .returned (.agg (toldA k n b x)) ∧ (x = 0 → k = K ∧ n = s.size)) ∧ Below w.heap.size w w' := by
  obtain ⟨bd, hbd⟩ : ∃ bd, bd = badAt 0 s.data.toList := ⟨_, rfl⟩
  have CB := Lib.hid (fun w hF => bad_any s w hF (by omega))
  rw [← hbd] at CB
  have HF := Lib.hid hF
  clear hF hbd
  refine (callsIn_wide (n := 5)).1 ?_
  refine callsIn_of_wp_marks Tryz.func210 rfl trivial ?_ rfl
  simp only [Tryz.ntmps210, List.size_toArray, List.length_cons, List.length_nil, Nat.reduceAdd, Nat.reduceSub, Array.replicate_succ, Array.replicate_zero, List.push_toArray, List.append_toArray, List.nil_append, List.cons_append]
  gi_wp2_with fail
  have hB0 := Blk.new w 202 (toldA 0 0 0 0)
  have hl0 : Below w.heap.size w (w.alloc (.cells (toldA 0 0 0 0) 202)) := (Below.refl _ _).alloc (Nat.le_refl _) _
  obtain ⟨W, hW⟩ : ∃ W, w.alloc (.cells (toldA 0 0 0 0) 202) = W := ⟨_, rfl⟩
  obtain ⟨B, hB⟩ : ∃ B, w.heap.size = B := ⟨_, rfl⟩
  rw [hW] at hB0 hl0 ⊢
  rw [hB] at hB0 hl0 ⊢
  have hF0 : FormsAt W := HF.out.below (hB ▸ hl0)
  refine ⟨trivial, ?_⟩
  refine (callsIn_wide.2 (CB.out W hF0)).mono ?_
  rintro e w1 ⟨rfl, hb⟩
  have HB1 := Lib.hid (hB0.below hb hB0.lt)
  have HL1 := Lib.hid (hl0.trans (hb.mono (by have := hB0.lt; omega)))
  have HF1 := Lib.hid (hF0.below hb)
  have HBB := Lib.hid hB
  clear hb hW hB0 hl0 hF0 hB
  gi_wp2_with fail
  refine ⟨trivial, ?_⟩
  refine (all_in _ _ _).mono ?_
  rintro e W1 ⟨rfl, hW1⟩
  obtain ⟨Bs, hBs⟩ : ∃ Bs, Bs = w1.heap.size := ⟨_, rfl⟩
  have HXS : Hid (Blk W1 Bs 9 #[.string s]) := by rw [hW1, hBs]; exact Blk.new _ _ _
  have hbl1 : Below w1.heap.size w1 W1 := by rw [hW1]; exact (Below.refl _ _).alloc (Nat.le_refl _) _
  have HB2 := Lib.hid (HB1.out.below hbl1 HB1.out.lt)
  have HF2 := Lib.hid (HF1.out.below hbl1)
  have HL2 := Lib.hid (HL1.out.trans (hbl1.mono (by have := HB1.out.lt; omega)))
  rw [← hBs]
  have hBs1 : Bs < W1.heap.size := HXS.out.lt
  have hB1 : B < W1.heap.size := HB2.out.lt
  clear hW1 hbl1 hBs
  gi_wp2_with fail
  refine wpIn_rangeFunc_ownF (α := Sc) rfl (by decide) (gf := 220) (lb := #[.pointer (some ⟨Bs, 0, none⟩)]) rfl trivial (enters_of Tryz.func220 (by kernel_rfl) rfl)
    (all_stops _ (by decide) s (by omega) Bs W1 HF2.out (HXS.out.cell 0) hBs1) kf_t (kf_b HF2.out.lt) (Below.refl _ _) (fun _ => rfl)
    (fun _ W => Hid (Blk W B 202 (toldA 0 0 0 0) ∧ Below B w W))
    (fun c _ W => Hid (∃ b : Int, c = .ret ∧ Blk W B 202 (toldA 0 0 b 3) ∧ Below B w W))
    ?hI ?hIx ?h0
    (fun x => { tmps := #[.int .i64 K, .string s, undef, undef, .pointer (some ⟨B, 0, none⟩), .int .i64 bd, .int .i64 (x.1.1 : Int), .int .i64 (x.1.2 : Int), .string s, .int .i64 bd, .string s, .func (.func 220) #[] #[.pointer (some ⟨Bs, 0, none⟩)], .int .i64 (x.1.1 : Int), .int .i64 (x.1.2 : Int), undef, undef, undef, undef, undef, undef, undef, undef, undef, undef, undef, undef, undef, undef, undef, undef], defers := [] }) ?assign ?body ?done ?stop
  case hI =>
    rintro pre W W' row ⟨h1, h2⟩ hg hr
    exact ⟨ownFrom_blk (β := Unit) hB1 () W W' row h1 hg hr, ownFrom_below (β := Unit) (by have := HBB.out; omega) (Nat.le_of_lt hB1) () W W' row h2 hg hr⟩
  case hIx =>
    rintro c pre W W' row ⟨b, rfl, h1, h2⟩ hg hr
    exact ⟨b, rfl, ownFrom_blk (β := Unit) hB1 () W W' row h1 hg hr, ownFrom_below (β := Unit) (by have := HBB.out; omega) (Nat.le_of_lt hB1) () W W' row h2 hg hr⟩
  case h0 => exact ⟨HB2.out, HL2.out⟩
  case assign =>
    intro l x W K hK
    unfold scEnc
    gi_wp2_with fail
    exact hK
  case body =>
    rintro l pre x W ⟨h1, h2⟩ _
    have H1 := Lib.hid h1
    have H2 := Lib.hid h2
    have c0 : W.cell? ⟨B, 0, none⟩ = some (.int .i64 0) := h1.cell 0
    have c1 : W.cell? ⟨B, 1, none⟩ = some (.int .i64 0) := h1.cell 1
    have c2 : W.cell? ⟨B, 2, none⟩ = some (.int .i64 0) := h1.cell 2
    have c3 : W.cell? ⟨B, 3, none⟩ = some (.int .i64 0) := h1.cell 3
    have f0 : W.frozen? ⟨B, 0, none⟩ = false := h1.frozen 0
    have f1 : W.frozen? ⟨B, 1, none⟩ = false := h1.frozen 1
    have f2 : W.frozen? ⟨B, 2, none⟩ = false := h1.frozen 2
    have f3 : W.frozen? ⟨B, 3, none⟩ = false := h1.frozen 3
    clear h1 h2
    obtain ⟨v, hv⟩ : ∃ v : Int, v = (x.1.2 : Int) := ⟨_, rfl⟩
    rw [← hv]
    by_cases g1 : v < 32
    · by_cases g2 : v = 9
      · subst g2
        clear hv
        gi_wp2_with fail
        exact ⟨KeepsOthers.refl _, rfl, H1.out, H2.out⟩
      · have g3 : (v != 9) = true := by rw [bne_iff_ne]; exact g2
        clear hv
        gi_wp2_with fail
        refine ⟨(((KeepsOthers.setCell _ _ _).trans (KeepsOthers.setCell _ _ _)).trans (KeepsOthers.setCell _ _ _)).trans (KeepsOthers.setCell _ _ _), (x.1.1 : Int), rfl, ?_, ?_⟩
        · exact (((H1.out.set_ 0 _).set_ 1 _).set_ 2 _).set_ 3 _
        · exact (((H2.out.setCell (p := ⟨B, 0, none⟩) (Nat.le_refl _) _).setCell (p := ⟨B, 1, none⟩) (Nat.le_refl _) _).setCell (p := ⟨B, 2, none⟩) (Nat.le_refl _) _).setCell (p := ⟨B, 3, none⟩) (Nat.le_refl _) _
    · clear hv
      gi_wp2_with fail
      exact ⟨KeepsOthers.refl _, rfl, H1.out, H2.out⟩
  case done =>
    rintro D xs W hD _ ⟨h1, h2⟩ hK
    have H1 := Lib.hid h1
    have H2 := Lib.hid h2
    have c0 : W.cell? ⟨B, 0, none⟩ = some (.int .i64 0) := h1.cell 0
    have c1 : W.cell? ⟨B, 1, none⟩ = some (.int .i64 0) := h1.cell 1
    have c2 : W.cell? ⟨B, 2, none⟩ = some (.int .i64 0) := h1.cell 2
    have c3 : W.cell? ⟨B, 3, none⟩ = some (.int .i64 0) := h1.cell 3
    have f0 : W.frozen? ⟨B, 0, none⟩ = false := h1.frozen 0
    have f1 : W.frozen? ⟨B, 1, none⟩ = false := h1.frozen 1
    have f2 : W.frozen? ⟨B, 2, none⟩ = false := h1.frozen 2
    have f3 : W.frozen? ⟨B, 3, none⟩ = false := h1.frozen 3
    clear h1 h2
    by_cases g1 : 0 ≤ bd
    · gi_wp2_with fail
      have hD1 : B < D := by omega
      refine rem_fin _ 0 0 bd 7 K s.size ((((H1.out.set_ 0 _).set_ 1 _).set_ 2 _).set_ 3 _) ((((H2.out.setCell (p := ⟨B, 0, none⟩) (Nat.le_refl _) _).setCell (p := ⟨B, 1, none⟩) (Nat.le_refl _) _).setCell (p := ⟨B, 2, none⟩) (Nat.le_refl _) _).setCell (p := ⟨B, 3, none⟩) (Nat.le_refl _) _) HBB.out (((((KeepsOthers.setCell _ ⟨B, 0, none⟩ _).trans (KeepsOthers.setCell _ ⟨B, 1, none⟩ _)).trans (KeepsOthers.setCell _ ⟨B, 2, none⟩ _)).trans (KeepsOthers.setCell _ ⟨B, 3, none⟩ _)).same D _ hK rfl) hD1 (by omega) rfl
    · gi_wp2_with fail
      have hD1 : B < D := by omega
      refine rem_fin _ K s.size 0 0 K s.size ((((H1.out.set_ 0 _).set_ 1 _).set_ 2 _).set_ 3 _) ((((H2.out.setCell (p := ⟨B, 0, none⟩) (Nat.le_refl _) _).setCell (p := ⟨B, 1, none⟩) (Nat.le_refl _) _).setCell (p := ⟨B, 2, none⟩) (Nat.le_refl _) _).setCell (p := ⟨B, 3, none⟩) (Nat.le_refl _) _) HBB.out (((((KeepsOthers.setCell _ ⟨B, 0, none⟩ _).trans (KeepsOthers.setCell _ ⟨B, 1, none⟩ _)).trans (KeepsOthers.setCell _ ⟨B, 2, none⟩ _)).trans (KeepsOthers.setCell _ ⟨B, 3, none⟩ _)).same D _ hK rfl) hD1 (fun _ => ⟨rfl, rfl⟩) rfl
  case stop =>
    rintro D c pre W hD _ ⟨b, rfl, h1, h2⟩ hK
    have H1 := Lib.hid h1
    have H2 := Lib.hid h2
    clear h1 h2
    gi_wp2_with fail
    exact rem_fin _ 0 0 b 3 K s.size H1.out H2.out HBB.out hK (by omega) (by omega) rfl
end Go.Proofs.YtdfihhebgllpcaaGreatDoor

/- The walks of num.kind, num.Scan. -/
namespace Go.Proofs.YtdfihhebgllpcaaGreatDoor
open Go.RowKit Go.Proofs.NumPlain

/-- The package-level variables' cells, as they lie. -/
structure Glob (w : World) : Prop where
  next : ∀ q k, q < 9 → k < 6 → w.cell? ⟨10, q * 6 + k, none⟩ = some (.int .i64 (nxt q k))
  maxLen : ∃ m, w.cell? ⟨0, 0, none⟩ = some (.int .i64 m)
  pow : Lib.TabIs Tryz.prog w "internal/strconv.uint64pow10" .u64 Lib.pow10Tab
  size : 11 ≤ w.heap.size
theorem Glob.below {w w' : World} (h : Glob w) (hb : Below w.heap.size w w') : Glob w' := by
  have hs := h.size
  refine ⟨fun q k hq hk => ?_, ?_, ?_, Nat.le_trans hs hb.size⟩
  · rw [hb.cell (by show 10 < _; omega)]; exact h.next q k hq hk
  · obtain ⟨m, hm⟩ := h.maxLen
    exact ⟨m, by rw [hb.cell (by show 0 < _; omega)]; exact hm⟩
  · have hp := h.pow
    unfold Lib.TabIs World.var? at *
    rw [show Tryz.prog.globalNamed "internal/strconv.uint64pow10" = some 1 from by kernel_rfl] at *
    simp only [Option.bind_some] at *
    rw [hb.block _ (by omega)]; exact hp

theorem kind_nat (c : UInt8) : kind c = if 49 ≤ c.toNat ∧ c.toNat ≤ 57 then 1 else if c.toNat = 63 then -1 else if c.toNat = 69 then 3 else Lib.indexByte [48, 63, 46, 101, 43, 45] c := by
  have := all_u8 (fun c => decide (kind c = if 49 ≤ c.toNat ∧ c.toNat ≤ 57 then 1 else if c.toNat = 63 then -1 else if c.toNat = 69 then 3 else Lib.indexByte [48, 63, 46, 101, 43, 45] c)) (by decide +kernel) c
  simpa only [decide_eq_true_eq] using this

set_option maxHeartbeats 400000 in
theorem kind_any (c : UInt8) (w : World) :
    Calls Tryz.prog 221 #[.int .u8 c.toNat] w fun e w' => e = .returned (.int .i64 (kind c)) ∧ w = w' := by
  have hk := Lib.hid (kind_nat c)
  generalize kind c = K at hk ⊢
  by_cases h1 : 49 ≤ c.toNat ∧ c.toNat ≤ 57
  · have e : Hid (K = 1) := by have := hk.out; rw [if_pos h1] at this; exact this
    obtain ⟨a, b⟩ := h1
    rw [e.out]
    go_enter Tryz.func221, Tryz.ntmps221
    go_wp2_with fail
    go_ret
    exact ⟨rfl, rfl⟩
  · have hk2 : Hid (K = if c.toNat = 63 then -1 else if c.toNat = 69 then 3 else Lib.indexByte [48, 63, 46, 101, 43, 45] c) := by have := hk.out; rw [if_neg h1] at this; exact this
    clear hk
    have hx : (((c.toNat : Int)).toNat.toUInt8) = c := by simp
    have HX := Lib.hid hx
    clear hx
    have h3 : (c.toNat : Int) < 49 ∨ 57 < (c.toNat : Int) := by omega
    clear h1
    by_cases hq : c.toNat = 63
    · have e : Hid (K = -1) := by have := hk2.out; rw [if_pos hq] at this; exact this
      have z : (((c.toNat : Nat) : Int) == 63) = true := by simp [hq]
      have z1 : 49 ≤ (c.toNat : Int) := by omega
      have z2 : 57 < (c.toNat : Int) := by omega
      clear hq h3
      rw [e.out]
      go_enter Tryz.func221, Tryz.ntmps221
      go_wp2_with fail
      refine (Tryz.strings_IndexByte _ _ _).mono ?_
      rintro e w' ⟨rfl, rfl⟩
      go_wp2_with fail
      go_ret
      exact ⟨rfl, rfl⟩
    · have z : (((c.toNat : Nat) : Int) == 63) = false := by simp; omega
      have hk3 : Hid (K = if c.toNat = 69 then 3 else Lib.indexByte [48, 63, 46, 101, 43, 45] c) := by have := hk2.out; rw [if_neg hq] at this; exact this
      clear hk2 hq
      by_cases hr : c.toNat = 69
      · have e : Hid (K = 3) := by have := hk3.out; rw [if_pos hr] at this; exact this
        have y : (((c.toNat : Nat) : Int) == 69) = true := by simp [hr]
        have z1 : 49 ≤ (c.toNat : Int) := by omega
        have z2 : 57 < (c.toNat : Int) := by omega
        clear hr h3
        rw [e.out]
        go_enter Tryz.func221, Tryz.ntmps221
        go_wp2_with fail
        refine (Tryz.strings_IndexByte _ _ _).mono ?_
        rintro e w' ⟨rfl, rfl⟩
        go_wp2_with fail
        go_ret
        exact ⟨rfl, rfl⟩
      · have y : (((c.toNat : Nat) : Int) == 69) = false := by simp; omega
        have hk4 : Hid (K = Lib.indexByte [48, 63, 46, 101, 43, 45] c) := by have := hk3.out; rw [if_neg hr] at this; exact this
        clear hk3 hr
        rw [hk4.out]
        rcases h3 with h3 | h3
        · go_enter Tryz.func221, Tryz.ntmps221
          go_wp2_with fail
          refine (Tryz.strings_IndexByte _ _ _).mono ?_
          rw [HX.out]
          rintro e w' ⟨rfl, rfl⟩
          go_wp2_with fail
          go_ret
          exact ⟨rfl, rfl⟩
        · have z1 : 49 ≤ (c.toNat : Int) := by omega
          go_enter Tryz.func221, Tryz.ntmps221
          go_wp2_with fail
          refine (Tryz.strings_IndexByte _ _ _).mono ?_
          rw [HX.out]
          rintro e w' ⟨rfl, rfl⟩
          go_wp2_with fail
          go_ret
          exact ⟨rfl, rfl⟩
end Go.Proofs.YtdfihhebgllpcaaGreatDoor

/- The walk of num.Scan. -/
namespace Go.Proofs.YtdfihhebgllpcaaGreatDoor
open Go.RowKit Go.Proofs.NumPlain

theorem drop_data (s : ByteArray) (k : Nat) (h : k < s.size) : s.data.toList.drop k = s[k] :: s.data.toList.drop (k + 1) := by
  rw [List.drop_eq_getElem_cons (by simpa using h)]
  rfl
theorem nxt_lt (q k : Nat) (hq : q < 9) (hk : k < 6) : nxt q k < 9 := by
  have : ∀ q, q < 9 → ∀ k, k < 6 → nxt q k < 9 := by decide
  exact this q hq k hk
theorem kind_le (c : UInt8) : kind c ≤ 5 := by
  rcases kinds c with ⟨k, _⟩ | ⟨k, _⟩ | ⟨k, _⟩ | ⟨k, _⟩ | ⟨k, _⟩ | ⟨k, _⟩ | ⟨k, _⟩ <;> omega
theorem acc_no {q : Nat} (h : acc q = false) : ((q : Int) == 2) = false ∧ ((q : Int) == 3) = false ∧ ((q : Int) == 5) = false ∧ ((q : Int) == 8) = false := by
  simp [acc] at h
  refine ⟨?_, ?_, ?_, ?_⟩ <;> simp <;> omega
theorem acc_yes {q : Nat} (h : acc q = true) : q = 2 ∨ q = 3 ∨ q = 5 ∨ q = 8 := by
  simp [acc] at h; omega

set_option maxHeartbeats 2000000 in
theorem scan_any (s : ByteArray) (w : World) (hs : s.size ≤ 9223372036854775807) (hG : Glob w) :
    Calls Tryz.prog 207 #[.string s] w fun e w' => e = .returned (.int .i64 (NumPlain.scan s.data.toList)) ∧ w = w' := by
  have hN := Lib.hid hG.next
  clear hG
  have hS := Lib.hid (dfa_scan s.data.toList)
  rw [← hS.out]
  clear hS
  go_enter Tryz.func207, Tryz.ntmps207
  go_wp2_with fail
  go_loop [9, 3, 4] (fun i q e => ∃ k Q E : Nat, k ≤ s.size ∧ Q < 9 ∧ i = .int .i64 k ∧ q = .int .i64 Q ∧ e = .int .i64 E ∧ Hid (dfa 0 0 0 s.data.toList = dfa Q k E (s.data.toList.drop k))) (fun i _ _ => s.size - (intOf i).toNat)
  case atStart => exact ⟨0, 0, 0, Nat.zero_le _, by omega, rfl, rfl, rfl, rfl⟩
  case round =>
    obtain ⟨k, Q, E, hk, hQ, rfl, rfl, rfl, hd⟩ := hrel
    by_cases hlt : k < s.size
    · have hdr := Lib.hid (drop_data s k hlt)
      have hK5 := kind_le s[k]
      have hstep : Hid (dfa 0 0 0 s.data.toList = if kind s[k] < 0 then E else if nxt Q (kind s[k]).toNat = 0 then E else dfa (nxt Q (kind s[k]).toNat) (k + 1) (if acc (nxt Q (kind s[k]).toNat) then k + 1 else E) (s.data.toList.drop (k + 1))) := by
        have := hd.out; rw [hdr.out] at this; exact this
      clear hd hdr
      go_wp2_with fail
      refine (kind_any s[k] _).mono ?_
      generalize kind s[k] = K at hstep hK5 ⊢
      rintro e w' ⟨rfl, rfl⟩
      by_cases hneg : K < 0
      · have hst : Hid (dfa 0 0 0 s.data.toList = E) := by have := hstep.out; rw [if_pos hneg] at this; exact this
        clear hstep
        go_wp2_with fail
        go_ret
        exact ⟨by rw [hst.out]; rfl, rfl⟩
      · obtain ⟨kk, rfl⟩ : ∃ kk : Nat, K = kk := ⟨K.toNat, by omega⟩
        have hkk : kk < 6 := by omega
        have hcell := hN.out Q kk hQ hkk
        have hnx := nxt_lt Q kk hQ hkk
        have hst0 : Hid (dfa 0 0 0 s.data.toList = if nxt Q kk = 0 then E else dfa (nxt Q kk) (k + 1) (if acc (nxt Q kk) then k + 1 else E) (s.data.toList.drop (k + 1))) := by have := hstep.out; rw [if_neg hneg] at this; exact this
        clear hstep
        generalize nxt Q kk = Q' at hcell hnx hst0
        by_cases hz : Q' = 0
        · have hst : Hid (dfa 0 0 0 s.data.toList = E) := by have := hst0.out; rw [if_pos hz] at this; exact this
          clear hst0
          subst hz
          go_wp2_with fail
          go_ret
          exact ⟨by rw [hst.out]; rfl, rfl⟩
        · have hst : Hid (dfa 0 0 0 s.data.toList = dfa Q' (k + 1) (if acc Q' then k + 1 else E) (s.data.toList.drop (k + 1))) := by have := hst0.out; rw [if_neg hz] at this; exact this
          clear hst0
          have hzb : ((Q' : Int) == 0) = false := by simp; omega
          clear hz
          cases ha : acc Q' with
          | false =>
            have hst2 : Hid (dfa 0 0 0 s.data.toList = dfa Q' (k + 1) E (s.data.toList.drop (k + 1))) := by have := hst.out; rw [ha] at this; exact this
            obtain ⟨a1, a2, a3, a4⟩ := acc_no ha
            clear ha hst
            go_wp2_with fail
            go_round
            case rel => exact ⟨k + 1, Q', E, by omega, hnx, by go_num, rfl, rfl, hst2⟩
            case measure => simp [intOf]; omega
          | true =>
            have hst2 : Hid (dfa 0 0 0 s.data.toList = dfa Q' (k + 1) (k + 1) (s.data.toList.drop (k + 1))) := by have := hst.out; rw [ha] at this; exact this
            have ha' := acc_yes ha
            clear ha hst
            rcases ha' with rfl | rfl | rfl | rfl
            all_goals
              go_wp2_with fail
              go_round
              case rel => exact ⟨k + 1, _, k + 1, by omega, by omega, by go_num, rfl, by go_num, hst2⟩
              case measure => simp [intOf]; omega
    · have hst : Hid (dfa 0 0 0 s.data.toList = E) := by
        have := hd.out
        rw [List.drop_eq_nil_of_le (by simp; omega)] at this
        exact this
      clear hd
      go_wp2_with fail
      go_ret
      exact ⟨by rw [hst.out]; rfl, rfl⟩
end Go.Proofs.YtdfihhebgllpcaaGreatDoor

/- The walk of num.Right. -/
namespace Go.Proofs.YtdfihhebgllpcaaGreatDoor
open Go.RowKit Go.Proofs.NumPlain

set_option maxHeartbeats 2000000 in
theorem right_none (neg : Bool) (x : Int) (w : World) :
    Calls Tryz.prog 226 #[.agg #[.bool neg, .string ⟨#[]⟩, .int .i64 x]] w fun e w' => e = .returned (.bool (!neg && x == 0)) ∧ Below w.heap.size w w' := by
  go_enter Tryz.func226, Tryz.ntmps226
  go_wp2_with fail
  all_goals
    go_ret
    exact ⟨by simp_all, (Below.refl _ _).alloc (Nat.le_refl _) _⟩

theorem get_first (d : ByteArray) (h : 0 < d.size) : d.data.toList.head? = some d[0] := by
  rw [List.head?_eq_getElem?, List.getElem?_eq_getElem (by simpa using h)]; rfl
theorem get_last (d : ByteArray) (h : 0 < d.size) : d.data.toList.getLast? = some d[d.size - 1] := by
  rw [List.getLast?_eq_getElem?, List.getElem?_eq_getElem (by rw [← Lib.size_eq]; omega)]
  simp
  rfl
theorem ne_48 (c : UInt8) : ((some c : Option UInt8) != some 48) = (((c.toNat : Nat) : Int) != 48) := by
  have := all_u8 (fun c => ((some c : Option UInt8) != some 48) == (((c.toNat : Nat) : Int) != 48)) (by decide +kernel) c
  simpa using this

set_option maxHeartbeats 4000000 in
theorem right_walk (neg : Bool) (d : ByteArray) (x : Int) (w : World) (hs : d.size ≤ 9223372036854775807) (h0 : 0 < d.size) :
    Calls Tryz.prog 226 #[.agg #[.bool neg, .string d, .int .i64 x]] w fun e w' => e = .returned (.bool (right ⟨neg, d.data.toList, x⟩)) ∧ Below w.heap.size w w' := by
  have hne : d.data.toList ≠ [] := fun h => by
    have : d.size = 0 := by rw [Lib.size_eq, h]; rfl
    omega
  have hR := right_some neg d.data.toList x hne
  rw [get_first d h0, get_last d h0, ne_48, ne_48, ← Lib.size_eq] at hR
  have HR := Lib.hid hR
  clear hR
  have hemp : d.toList.isEmpty = false := by rw [isEmpty_iff]; cases h : d.data.toList with | nil => exact absurd h hne | cons _ _ => rfl
  clear hne
  obtain ⟨D, hD⟩ : ∃ D, right ⟨neg, d.data.toList, x⟩ = D := ⟨_, rfl⟩
  rw [hD]
  have hD : Hid (D = (decide (d.size ≤ 1000) && d.data.toList.all isD && (((d[0].toNat : Nat) : Int) != 48) && (((d[d.size - 1].toNat : Nat) : Int) != 48) && decide (x ≤ 10000) && decide (-10000 ≤ x))) := by rw [← hD]; exact HR.out
  clear HR
  by_cases h1 : d.size ≤ 1000
  · cases h2 : d.data.toList.all isD
    · have hv : D = false := by have := hD.out; rw [this]; simp [h1, h2]
      rw [hv]
      clear hD hv
      go_enter Tryz.func226, Tryz.ntmps226
      go_wp2_with fail
      refine (Any.strings_Trim_laid Tryz.lays160 (by kernel_rfl) _ _ _ hs (by decide) (ascii_of_all (by decide))).mono ?_
      rintro e w1 ⟨rfl, hb⟩
      have hbb := Lib.hid hb
      obtain ⟨hc, hf⟩ := bcell hb
      clear hb
      obtain ⟨T, hT⟩ : ∃ T : ByteArray, T = ⟨(Lib.trimS d.data.toList [48, 49, 50, 51, 52, 53, 54, 55, 56, 57]).toArray⟩ := ⟨_, rfl⟩
      rw [← hT]
      have hTe : T.toList.isEmpty = false := by
        rw [isEmpty_iff, hT]
        cases hq : Lib.trimS d.data.toList [48, 49, 50, 51, 52, 53, 54, 55, 56, 57] with
        | nil => exact absurd ((trimS_digits _).1 hq) (by simp [h2])
        | cons _ _ => rfl
      clear hT hf
      go_wp2_with fail
      go_ret
      exact ⟨by first | rfl | (simp; omega), ((Below.refl _ _).alloc (Nat.le_refl _) _).trans (hbb.out.mono (by simp))⟩
    · cases h3 : (((d[0].toNat : Nat) : Int) != 48)
      · have hv : D = false := by have := hD.out; rw [this]; simp [h1, h2, h3]
        rw [hv]
        clear hD hv
        go_enter Tryz.func226, Tryz.ntmps226
        go_wp2_with fail
        refine (Any.strings_Trim_laid Tryz.lays160 (by kernel_rfl) _ _ _ hs (by decide) (ascii_of_all (by decide))).mono ?_
        rintro e w1 ⟨rfl, hb⟩
        have hbb := Lib.hid hb
        obtain ⟨hc, hf⟩ := bcell hb
        clear hb
        obtain ⟨T, hT⟩ : ∃ T : ByteArray, T = ⟨(Lib.trimS d.data.toList [48, 49, 50, 51, 52, 53, 54, 55, 56, 57]).toArray⟩ := ⟨_, rfl⟩
        rw [← hT]
        have hTe : T.toList.isEmpty = true := by
          rw [isEmpty_iff, hT]
          rw [(trimS_digits _).2 h2]; rfl
        clear hT hf
        go_wp2_with fail
        go_ret
        exact ⟨by first | rfl | (simp; omega), ((Below.refl _ _).alloc (Nat.le_refl _) _).trans (hbb.out.mono (by simp))⟩
      · cases h4 : (((d[d.size - 1].toNat : Nat) : Int) != 48)
        · have hv : D = false := by have := hD.out; rw [this]; simp [h1, h2, h3, h4]
          rw [hv]
          clear hD hv
          go_enter Tryz.func226, Tryz.ntmps226
          go_wp2_with fail
          refine (Any.strings_Trim_laid Tryz.lays160 (by kernel_rfl) _ _ _ hs (by decide) (ascii_of_all (by decide))).mono ?_
          rintro e w1 ⟨rfl, hb⟩
          have hbb := Lib.hid hb
          obtain ⟨hc, hf⟩ := bcell hb
          clear hb
          obtain ⟨T, hT⟩ : ∃ T : ByteArray, T = ⟨(Lib.trimS d.data.toList [48, 49, 50, 51, 52, 53, 54, 55, 56, 57]).toArray⟩ := ⟨_, rfl⟩
          rw [← hT]
          have hTe : T.toList.isEmpty = true := by
            rw [isEmpty_iff, hT]
            rw [(trimS_digits _).2 h2]; rfl
          clear hT hf
          go_wp2_with fail
          go_ret
          exact ⟨by first | rfl | (simp; omega), ((Below.refl _ _).alloc (Nat.le_refl _) _).trans (hbb.out.mono (by simp))⟩
        · by_cases h5 : x ≤ 10000
          · by_cases h6 : -10000 ≤ x
            · have hv : D = true := by have := hD.out; rw [this]; simp [h1, h2, h3, h4, h5, h6]
              rw [hv]
              clear hD hv
              go_enter Tryz.func226, Tryz.ntmps226
              go_wp2_with fail
              refine (Any.strings_Trim_laid Tryz.lays160 (by kernel_rfl) _ _ _ hs (by decide) (ascii_of_all (by decide))).mono ?_
              rintro e w1 ⟨rfl, hb⟩
              have hbb := Lib.hid hb
              obtain ⟨hc, hf⟩ := bcell hb
              clear hb
              obtain ⟨T, hT⟩ : ∃ T : ByteArray, T = ⟨(Lib.trimS d.data.toList [48, 49, 50, 51, 52, 53, 54, 55, 56, 57]).toArray⟩ := ⟨_, rfl⟩
              rw [← hT]
              have hTe : T.toList.isEmpty = true := by
                rw [isEmpty_iff, hT]
                rw [(trimS_digits _).2 h2]; rfl
              clear hT hf
              go_wp2_with fail
              go_ret
              exact ⟨by first | rfl | (simp; omega), ((Below.refl _ _).alloc (Nat.le_refl _) _).trans (hbb.out.mono (by simp))⟩
            · have hv : D = false := by have := hD.out; rw [this]; simp [h1, h2, h3, h4, h5, h6]
              rw [hv]
              clear hD hv
              go_enter Tryz.func226, Tryz.ntmps226
              go_wp2_with fail
              refine (Any.strings_Trim_laid Tryz.lays160 (by kernel_rfl) _ _ _ hs (by decide) (ascii_of_all (by decide))).mono ?_
              rintro e w1 ⟨rfl, hb⟩
              have hbb := Lib.hid hb
              obtain ⟨hc, hf⟩ := bcell hb
              clear hb
              obtain ⟨T, hT⟩ : ∃ T : ByteArray, T = ⟨(Lib.trimS d.data.toList [48, 49, 50, 51, 52, 53, 54, 55, 56, 57]).toArray⟩ := ⟨_, rfl⟩
              rw [← hT]
              have hTe : T.toList.isEmpty = true := by
                rw [isEmpty_iff, hT]
                rw [(trimS_digits _).2 h2]; rfl
              clear hT hf
              go_wp2_with fail
              go_ret
              exact ⟨by first | rfl | (simp; omega), ((Below.refl _ _).alloc (Nat.le_refl _) _).trans (hbb.out.mono (by simp))⟩
          · have hv : D = false := by have := hD.out; rw [this]; simp [h1, h2, h3, h4, h5]
            rw [hv]
            clear hD hv
            go_enter Tryz.func226, Tryz.ntmps226
            go_wp2_with fail
            refine (Any.strings_Trim_laid Tryz.lays160 (by kernel_rfl) _ _ _ hs (by decide) (ascii_of_all (by decide))).mono ?_
            rintro e w1 ⟨rfl, hb⟩
            have hbb := Lib.hid hb
            obtain ⟨hc, hf⟩ := bcell hb
            clear hb
            obtain ⟨T, hT⟩ : ∃ T : ByteArray, T = ⟨(Lib.trimS d.data.toList [48, 49, 50, 51, 52, 53, 54, 55, 56, 57]).toArray⟩ := ⟨_, rfl⟩
            rw [← hT]
            have hTe : T.toList.isEmpty = true := by
              rw [isEmpty_iff, hT]
              rw [(trimS_digits _).2 h2]; rfl
            clear hT hf
            go_wp2_with fail
            go_ret
            exact ⟨by first | rfl | (simp; omega), ((Below.refl _ _).alloc (Nat.le_refl _) _).trans (hbb.out.mono (by simp))⟩
  · have hv : D = false := by have := hD.out; rw [this]; simp [h1]
    rw [hv]
    clear hD hv
    go_enter Tryz.func226, Tryz.ntmps226
    go_wp2_with fail
    go_ret
    exact ⟨rfl, (Below.refl _ _).alloc (Nat.le_refl _) _⟩

/-- num.Right at every number. -/
theorem right_any (neg : Bool) (d : ByteArray) (x : Int) (w : World) (hs : d.size ≤ 9223372036854775807) :
    Calls Tryz.prog 226 #[.agg #[.bool neg, .string d, .int .i64 x]] w fun e w' => e = .returned (.bool (right ⟨neg, d.data.toList, x⟩)) ∧ Below w.heap.size w w' := by
  by_cases h0 : 0 < d.size
  · exact right_walk neg d x w hs h0
  · obtain ⟨⟨l⟩⟩ := d
    cases l with
    | nil => exact right_none neg x w
    | cons c r => exact absurd (show 0 < (ByteArray.mk ⟨c :: r⟩).size by show 0 < (c :: r).length; simp) h0
end Go.Proofs.YtdfihhebgllpcaaGreatDoor

/- The walk of num.Parse: up to the loop over the power's digits. -/
namespace Go.Proofs.YtdfihhebgllpcaaGreatDoor
open Go.RowKit Go.Proofs.NumPlain

/-- A number as a value. -/
def nv (n : Nm) : Value := .agg #[.bool n.neg, .string ⟨n.dig.toArray⟩, .int .i64 n.exp]

set_option maxHeartbeats 2000000 in
theorem parse_form (s : ByteArray) (w : World) (hs : s.size ≤ 9223372036854775807) (hG : Glob w) (hb : s.data.toList = [] ∨ NumPlain.scan s.data.toList < s.size) :
    Calls Tryz.prog 208 #[.string s] w fun e w' => e = .returned (.tuple #[nv zero, .int .i64 3]) ∧ Below w.heap.size w w' := by
  unfold nv
  by_cases h0 : s.data.toList = []
  · have hemp : s.toList.isEmpty = true := by rw [isEmpty_of _ _ h0]; rfl
    clear h0 hb hG
    go_enter Tryz.func208, Tryz.ntmps208
    go_wp2_with fail
    exact bodyPost_ret (v := .tuple #[.agg #[.bool false, .string ⟨#[]⟩, .int .i64 0], .int .i64 3]) (by simp [results, Tryz.results208, go_sem]) rfl ⟨rfl, (Below.refl _ _).alloc (Nat.le_refl _) _⟩
  · have hlt : NumPlain.scan s.data.toList < s.size := by rcases hb with h | h; exact absurd h h0; exact h
    have hemp : s.toList.isEmpty = false := by
      rw [isEmpty_iff]
      cases h : s.data.toList with
      | nil => exact absurd h h0
      | cons _ _ => rfl
    clear h0 hb
    have hG' : Glob (w.alloc (.cells #[.bool false, .string ⟨#[]⟩, .int .i64 0] 227)) := hG.below ((Below.refl _ _).alloc (Nat.le_refl _) _)
    have HG := Lib.hid hG'
    clear hG hG'
    go_enter Tryz.func208, Tryz.ntmps208
    go_wp2_with fail
    refine (scan_any s _ hs HG.out).mono ?_
    generalize NumPlain.scan s.data.toList = L at hlt ⊢
    rintro e w' ⟨rfl, rfl⟩
    go_wp2_with fail
    exact bodyPost_ret (v := .tuple #[.agg #[.bool false, .string ⟨#[]⟩, .int .i64 0], .int .i64 3]) (by simp [results, Tryz.results208, go_sem]) rfl ⟨rfl, (Below.refl _ _).alloc (Nat.le_refl _) _⟩
end Go.Proofs.YtdfihhebgllpcaaGreatDoor
