import Derived.Test.YtdfihhebgllpcaaGreatDoorAo14
import Derived.Lib.ItoaLen
import Derived.Lib.AppendIntMem
import Derived.Laws.IdiomStrings
import Derived.Test.YtdfihhebgllpcaaGreatDoorAo18
import Derived.Test.YtdfihhebgllpcaaGreatDoorAo25

/- The walk of strconv.FormatUint at base 10 (the shelf has no contract for it): after the shelf's own proof for FormatInt. -/
namespace Go.Proofs.YtdfihhebgllpcaaGreatDoor
open Go.RowKit Go.Sort Go.Proofs.NumPlain

theorem below_growF {B : Nat} {a w : World} (h : Below B a w) (hB : B ≤ w.heap.size) (k : Nat) (os : Array Obj) : Below B a (Sort.grow (w.drewN k) os) := by
  refine ⟨h.os, h.tape, h.output, by rw [Sort.size_grow]; exact Nat.le_trans h.size (Nat.le_add_right _ _), fun b hb => ?_⟩
  exact (Sort.heap_grow_old (w.drewN k) os (k := b) (show b < w.heap.size by omega)).trans (h.block b hb)

set_option maxHeartbeats 6400000 in
set_option maxRecDepth 100000 in
theorem formatIn_any (u : Nat) (w : World) (hu64 : u < 18446744073709551616) (hG : Glob w) :
    Calls Tryz.prog 120 #[.int .u64 u, .int .i64 10] w fun e w' => e = .returned (.string ⟨(Lib.decDigits u).toArray⟩) ∧ Below w.heap.size w w' := by
  obtain ⟨S, hS⟩ : ∃ S : ByteArray, S = ⟨(Lib.decDigits u).toArray⟩ := ⟨_, rfl⟩
  rw [← hS]
  have HS := Lib.hid hS
  by_cases hs : u < 100
  · have hc : IntKind.i64.wrap (u : Int) = (u : Int) := IntWalk.i64_in _ (by omega)
    have hlt : (u : Int) < 100 := by omega
    have CS : Hid (∀ w, Calls Tryz.prog 146 #[.int .i64 u] w fun e w' => e = .returned (.string S) ∧ w' = w) := fun w => by rw [hS]; exact Tryz.internal_strconv_small u hs w
    clear hS HS hs hu64 hG
    go_enter Tryz.func120, Tryz.ntmps120
    go_wp2_with fail
    refine (CS.out _).mono ?_
    rintro e w1 ⟨rfl, rfl⟩
    go_wp2_with fail
    go_ret
    exact ⟨rfl, Below.refl _ _⟩
  · have hge : ¬ (u : Int) < 100 := by omega
    have hu1 : 1 ≤ u := by omega
    have hnd20 : Lib.nDigits u ≤ 20 := Lib.nDigits_le20 u hu64
    have hal : Tryz.prog.arrayLen 168 = 24 := by kernel_rfl
    have hsl : ∀ W, (Instr.sliceAt 168 (.pointer (some ⟨w.heap.size, 0, none⟩)) none (some (.int .i64 (Lib.nDigits u : Int))) none).run Tryz.prog W = .ok (.slice (some ⟨w.heap.size, 0, none⟩) (Lib.nDigits u) 24) W := fun W => by
      rw [run_sliceAt_array_h W 168 ⟨w.heap.size, 0, none⟩ (by kernel_rfl) .i64 (Lib.nDigits u : Int) (by omega) (by rw [hal]; omega)]
      go_simp
    have hH0 := Lib.holds_zero0 w 168 (Lib.nDigits u) (by omega)
    have hfmt := Tryz.internal_strconv_formatBase10 w.heap.size 0 24 u (Array.replicate (Lib.nDigits u) 0) (w.alloc (.cells Lib.zeros24 168)) hH0 (by rw [Array.size_replicate]; exact Lib.lt_pow_nDigits u) hu64 (by rw [Array.size_replicate]; omega)
    rw [Array.size_replicate] at hfmt
    have ND : Hid (∀ w, Glob w → Calls Tryz.prog 147 #[.int .u64 u] w fun e w' => e = .returned (.int .i64 (Lib.nDigits u)) ∧ w' = w) := fun w hG => Tryz.internal_strconv_numDigits u hu1 hu64 w hG.pow
    have HH0 := Lib.hid hH0
    have HF := Lib.hid hfmt
    have HG := Lib.hid (hG.below ((Below.refl w.heap.size w).alloc (Nat.le_refl _) (.cells Lib.zeros24 168)))
    clear hH0 hal hfmt hG hS hs hu64
    go_enter Tryz.func120, Tryz.ntmps120
    go_wp2_with fail
    refine (ND.out _ HG.out).mono ?_
    rintro e w1 ⟨rfl, rfl⟩
    go_wp2_with fail
    refine HF.out.mono ?_
    rintro e w' ⟨rfl, k, v', dk, rfl, hF⟩
    have hcv : (convert 112 9 (.slice (some ⟨w.heap.size, 0, none⟩) (Lib.nDigits u) 24)).run Tryz.prog ((putRow (fun (b : UInt8) => Value.int .u8 (b.toNat : Int)) (w.alloc (.cells Lib.zeros24 168)) w.heap.size 0 dk).drewN k) = .ok (.string S) ((putRow (fun (b : UInt8) => Value.int .u8 (b.toNat : Int)) (w.alloc (.cells Lib.zeros24 168)) w.heap.size 0 dk).drewN k) := by
      rw [HS.out]
      have h := run_convert_bytes_back (P := Tryz.prog) ((putRow (fun (b : UInt8) => Value.int .u8 (b.toNat : Int)) (w.alloc (.cells Lib.zeros24 168)) w.heap.size 0 dk).drewN k) 112 9 5 ⟨w.heap.size, 0, none⟩ 24 (Lib.decDigits u) (by kernel_rfl) (by kernel_rfl) (by kernel_rfl) (fun j hj => by
        rw [Lib.row_is_numeral hF j hj, Lib.add_plain, World.cell?_drewN]
        exact cell?_putRow (fun (b : UInt8) => Value.int .u8 (b.toNat : Int)) _ w.heap.size 0 _ dk HH0.out (by rw [hF.size, Array.size_replicate]) j (by rw [hF.size]; rw [Lib.decDigits_length] at hj; exact hj))
      rw [Lib.decDigits_length] at h
      exact h
    obtain ⟨os, eo⟩ := Lib.fin_at w (.cells Lib.zeros24 168) dk k 0
    have HEO := Lib.hid eo
    clear eo HF HH0 ND HG
    go_wp2_with fail
    go_ret
    refine ⟨rfl, ?_⟩
    rw [HEO.out]
    exact below_growF (Below.refl _ _) (Nat.le_refl _) k os

set_option maxHeartbeats 400000 in
theorem format_any (u : Nat) (w : World) (hu64 : u < 18446744073709551616) (hG : Glob w) :
    Calls Tryz.prog 88 #[.int .u64 u, .int .i64 10] w fun e w' => e = .returned (.string ⟨(Lib.decDigits u).toArray⟩) ∧ Below w.heap.size w w' := by
  obtain ⟨S, hS⟩ : ∃ S : ByteArray, S = ⟨(Lib.decDigits u).toArray⟩ := ⟨_, rfl⟩
  have CF := Lib.hid (formatIn_any u w hu64 hG)
  rw [← hS] at CF ⊢
  clear hS hu64 hG
  go_enter Tryz.func88, Tryz.ntmps88
  go_wp2_with fail
  refine CF.out.mono ?_
  rintro e w1 ⟨rfl, hb⟩
  go_wp2_with fail
  go_ret
  exact ⟨rfl, hb⟩
end Go.Proofs.YtdfihhebgllpcaaGreatDoor

/- The walk of addr.Print. -/
namespace Go.Proofs.YtdfihhebgllpcaaGreatDoor
open Go.RowKit Go.Proofs.QuotePlain Go.Proofs.UtfPlain Go.Proofs.LexPlain Go.Proofs.AddrPlain

/-- A right address is no great text. -/
theorem name_pos (l : List UInt8) (h : isName l = true) : 0 < l.length := by
  cases l with
  | nil => cases h
  | cons _ _ => simp
theorem flat_steps_len (p : List ByteArray) (h : ∀ X ∈ p, X.size ≤ 100000) : (p.flatMap stepP).length ≤ p.length * 100008 := by
  induction p with
  | nil => simp
  | cons m p ih =>
    rw [List.flatMap_cons, List.length_append, List.length_cons]
    have h1 := ih (fun X hX => h X (by simp [hX]))
    have h2 : (stepP m).length ≤ 100008 := by
      have := h m (by simp)
      unfold stepP modL
      simp; omega
    omega
theorem path_snoc (p : List ByteArray) (j : Nat) (X : ByteArray) (h : p[j]? = some X) : (p.take (j + 1)).flatMap stepP = (p.take j).flatMap stepP ++ stepP X := by
  rw [List.take_add_one, h]
  simp [List.flatMap_append]

theorem isB_below {B b : Nat} {l : List UInt8} {w w' : World} (h : IsB B b l w) (hb : Below w.heap.size w w') : IsB B b l w' := by
  rcases h with ⟨h1, v, h2, h3, h4⟩ | ⟨h1, v, h2, h3, h4⟩
  · exact .inl ⟨h1, v, (hb.block b (Blk.lt h2)).trans h2, h3.kept (grown_of_below hb) (by cases v.ownBlock <;> simp), h4⟩
  · exact .inr ⟨h1, v, (hb.block b (Blk.lt h2)).trans h2, h3.kept (grown_of_below hb) (by cases v.ownBlock <;> simp), h4⟩
theorem size_data (s : ByteArray) (l : List UInt8) (h : s.data.toList = l) : s.size = l.length := by rw [Lib.size_eq, h]

set_option maxRecDepth 100000 in
set_option maxHeartbeats 8000000 in
theorem aprint_right (pv : Value) (a : Ad) (w : World) (hG : LexG w) (hP : StrS w w.heap.size pv a.path) (hA : AdB a) (hr : rightA a = true) (S : ByteArray) (hS : S.data.toList = headP a ++ keyP a) :
    Calls Tryz.prog 41 #[.agg (adV pv a)] w fun e w' => e = .returned (.string S) ∧ Below w.heap.size w w' := by
  have hl := (Below.refl w.heap.size w).alloc (Nat.le_refl _) (.cells (adV pv a) 29)
  have HL := Lib.hid hl
  have HG := Lib.hid (hG.below hl)
  have hB0 := Blk.new w 29 (adV pv a)
  have HB := Lib.hid hB0
  have HP : Hid (StrS (w.alloc (.cells (adV pv a) 29)) (w.alloc (.cells (adV pv a) 29)).heap.size pv a.path) := hP.far hl
  obtain ⟨ao, cap, hpv⟩ := hP.len
  have CR : Hid (∀ W, LexG W → StrS W W.heap.size pv a.path → Calls Tryz.prog 42 #[.agg (adV pv a)] W fun e w' => e = .returned (.bool true) ∧ Below W.heap.size W w') := fun W hG hS => by
    rw [← hr]; exact aright_any pv a W hG hS hA
  have hparts := right_parts a hr
  have hpl := hparts.1
  have HPS : Hid (∀ X ∈ a.path, X.size ≤ 100000) := hA.ps
  have hty := hA.ty
  have hnm := hA.nm
  have hwd := hA.wd
  have HPC : Hid (a.place < 18446744073709551616) := hA.pc
  have HKO := Lib.hid hparts.2.2.2.2.2
  have HS := Lib.hid hS
  have hFL := flat_steps_len a.path hA.ps
  obtain ⟨pth, ty, nm, key, place, word⟩ := a
  dsimp only at *
  obtain ⟨m, hm⟩ : ∃ m, pth.length = m := ⟨_, rfl⟩
  rw [hm] at hpv hpl hFL
  subst hpv
  have HM := Lib.hid hm
  have HFL := Lib.hid hFL
  unfold adV at HL HG HB HP CR ⊢
  dsimp only at HL HG HB HP CR ⊢
  clear hl hG hB0 hP hr hparts hA hS hm hFL
  obtain ⟨W, hW⟩ : ∃ W, w.alloc (.cells #[.slice ao m cap, .string ty, .string nm, .int .i64 key, .int .u64 ((place : Nat) : Int), .string word] 29) = W := ⟨_, rfl⟩
  obtain ⟨B, hBB⟩ : ∃ B, w.heap.size = B := ⟨_, rfl⟩
  rw [hW] at HL HG HB HP
  rw [hBB] at HL HB ⊢
  have HBB := Lib.hid hBB
  have hBW : B ≤ W.heap.size := by rw [← hW, ← hBB]; simp
  go_enter Tryz.func41, Tryz.ntmps41
  go_upto_region 1 with fail
  clear hW hBB
  obtain ⟨a0, a1, a2, a3, a4, a5⟩ := ad_cells (a := ⟨pth, ty, nm, key, place, word⟩) HB.out
  dsimp only at a0 a1 a2 a3 a4 a5
  go_wp2_with fail
  refine (CR.out _ HG.out HP.out).mono ?_
  rintro e w2 ⟨rfl, hb⟩
  have HL2 := Lib.hid (HL.out.trans (hb.mono hBW))
  have HB2 := Lib.hid (HB.out.below hb HB.out.lt)
  have HG2 := Lib.hid (HG.out.below hb)
  have HP2 := Lib.hid (HP.out.far hb)
  clear hb CR HL HB HG HP a0 a1 a2 a3 a4 a5
  have hB2 : B ≤ w2.heap.size := Nat.le_of_lt HB2.out.lt
  go_upto_region 4 with fail
  have hI0 := isB_new w2
  obtain ⟨b, hbb⟩ : ∃ b, w2.heap.size = b := ⟨_, rfl⟩
  have hl4 := (Below.refl b w2).alloc (by omega) (.cells #[.pointer none, .slice none 0 0] 114)
  obtain ⟨W4, hW4⟩ : ∃ W4, w2.alloc (.cells #[.pointer none, .slice none 0 0] 114) = W4 := ⟨_, rfl⟩
  have HG2' : Hid (∀ W, Below b w2 W → LexG W) := fun W h => by rw [← hbb] at h; exact HG2.out.below h
  have hB4 := HB2.out.below hl4 (by rw [← hbb]; exact HB2.out.lt)
  have hp2 := HP2.out
  rw [hW4] at hI0 hl4 hB4 ⊢
  rw [hbb] at hI0 hp2 hB2 ⊢
  have HI := Lib.hid hI0
  have H4 := Lib.hid hl4
  have HP2 := Lib.hid hp2
  have HB4 := Lib.hid hB4
  have hBb : B < b := by rw [← hbb]; exact HB2.out.lt
  have HBb := Lib.hid hbb
  have HBL : Hid (∀ W, Below b w2 W → Blk W B 29 #[.slice ao m cap, .string ty, .string nm, .int .i64 key, .int .u64 ((place : Nat) : Int), .string word]) := fun W h => HB2.out.below h hBb
  have HWL : Hid (∀ W, Below b w2 W → Below B w W) := fun W h => HL2.out.trans (h.mono (by omega))
  obtain ⟨a0, a1, a2, a3, a4, a5⟩ := ad_cells (a := ⟨pth, ty, nm, key, place, word⟩) HB4.out
  dsimp only at a0 a1 a2 a3 a4 a5
  clear hI0 hl4 hp2 hB4 hbb hW4 HG2 HL2 HB2 HB4
  go_wp2_with fail
  go_loopw [5, 14] (fun _ i wr => ∃ j : Nat, j ≤ m ∧ i = .int .i64 j ∧ Hid (IsB b b ((pth.take j).flatMap stepP) wr) ∧ Hid (Below b w2 wr)) (fun _ i _ => m - (intOf i).toNat)
  case atStart => exact ⟨0, Nat.zero_le _, rfl, HI, H4⟩
  case round =>
    clear HI H4 a0 a1 a2 a3 a4 a5
    obtain ⟨j, hj, rfl, HI, HW⟩ := hrel
    have hbW : b ≤ wr.heap.size := by have := HW.out.size; have := HBb.out; omega
    have hlenj : ((pth.take j).flatMap stepP).length ≤ 2000160 := by
      have h1 := flat_steps_len (pth.take j) (fun X hX => HPS.out X (List.mem_of_mem_take hX))
      rw [List.length_take] at h1
      have h2 := HM.out
      have : min j pth.length * 100008 ≤ 20 * 100008 := Nat.mul_le_mul_right _ (by omega)
      omega
    by_cases hlt : j < m
    · have hlt' : (j : Int) < (m : Int) := by omega
      obtain ⟨X, hX⟩ : ∃ X, pth[j]? = some X := ⟨_, List.getElem?_eq_getElem (by rw [HM.out]; exact hlt)⟩
      have hXs := HPS.out X (List.mem_of_getElem? hX)
      obtain ⟨ao', cap', hv', h2⟩ := HP2.out.below HW.out
      rw [HM.out] at hv'
      injection hv' with h3 _ h3c
      subst h3c
      obtain ⟨ad, h4, h5, h6⟩ := h2 j X hX
      rw [← h3] at h4
      subst h4
      have HSN := Lib.hid (path_snoc pth j X hX)
      clear h2 h3 h5 hX
      obtain ⟨T, hT⟩ : ∃ T : ByteArray, (((⟨#[109, 111, 100, 117, 108, 101, 46]⟩ : ByteArray) ++ X) ++ (⟨#[46]⟩ : ByteArray)) = T := ⟨_, rfl⟩
      have hTd : T.data.toList = stepP X := by rw [← hT, data_append, data_append]; rfl
      have hTs : T.size ≤ 100008 := by
        rw [size_data T _ hTd]; unfold stepP modL
        simp; omega
      have HTd := Lib.hid hTd
      clear hTd
      go_wp2_with fail
      refine (sb_string b b _ T _ HI.out (by omega) hbW).mono ?_
      clear hT
      rintro e w5 ⟨rfl, hi, hb⟩
      have HI5 : Hid (IsB b b ((pth.take (j + 1)).flatMap stepP) w5) := by
        unfold Hid
        rw [HSN.out, ← HTd.out]
        exact hi
      have HW5 := Lib.hid (HW.out.trans hb)
      clear hi hb HI HSN
      go_wp2_with fail
      go_roundw
      case rel => exact ⟨j + 1, by omega, by go_num, HI5, HW5⟩
      case measure => simp [intOf]; omega
    · have hlt' : ¬ (j : Int) < (m : Int) := by omega
      obtain rfl : j = m := by omega
      have hI : IsB b b (pth.flatMap stepP) wr := by
        have := HI.out
        rw [List.take_of_length_le (by rw [HM.out]; omega)] at this; exact this
      have hlenf : (pth.flatMap stepP).length ≤ 2000160 := by
        rw [List.take_of_length_le (by rw [HM.out]; omega)] at hlenj; exact hlenj
      have HI := Lib.hid hI
      obtain ⟨a0, a1, a2, a3, a4, a5⟩ := ad_cells (a := ⟨pth, ty, nm, key, place, word⟩) (HBL.out _ HW.out)
      dsimp only at a0 a1 a2 a3 a4 a5
      clear hI hlenj
      obtain ⟨T, hT⟩ : ∃ T : ByteArray, ((ty ++ (⟨#[46]⟩ : ByteArray)) ++ nm) = T := ⟨_, rfl⟩
      have e1 : T.data.toList = ty.data.toList ++ 46 :: nm.data.toList := by
        rw [← hT, data_append, data_append]; simp
      have hTs : T.size ≤ 200001 := by
        rw [size_data T _ e1]
        simp; omega
      have E1 := Lib.hid e1
      clear e1
      go_wp2_with fail
      refine (sb_string b b _ T _ HI.out (by omega) hbW).mono ?_
      clear hT
      rintro e w5 ⟨rfl, hi, hb⟩
      have e1 := E1.out
      rw [e1] at hi
      have HI5 : Hid (IsB b b (headP ⟨pth, ty, nm, key, place, word⟩) w5) := hi
      have hl5 : (headP ⟨pth, ty, nm, key, place, word⟩).length ≤ 2300000 := by
        unfold headP
        simp at hlenf ⊢; omega
      have HW5 := Lib.hid (HW.out.trans hb)
      have hbW5 : b ≤ w5.heap.size := Nat.le_trans hbW hb.size
      obtain ⟨a0', a1', a2', a3', a4', a5'⟩ := ad_cells (a := ⟨pth, ty, nm, key, place, word⟩) (HBL.out _ HW5.out)
      dsimp only at a0' a1' a2' a3' a4' a5'
      clear hi hb HI HW hlenf a0 a1 a2 a3 a4 a5 hbW e1
      have hko := HKO.out
      unfold keyOk at hko
      simp only [Bool.or_eq_true, Bool.and_eq_true, decide_eq_true_eq, List.isEmpty_iff] at hko
      rcases hko with (⟨⟨h1, h2⟩, h3⟩ | ⟨h1, h3⟩) | ⟨⟨h1, h2⟩, h3⟩
      · subst h1
        clear h2 h3
        go_wp2_with fail
        refine (sb_text b b _ _ HI5.out hbW5).mono ?_
        rintro e w6 ⟨rfl, hb⟩
        have HW6 := Lib.hid (HW5.out.trans hb)
        clear hb
        go_wp2_with fail
        go_ret
        refine ⟨?_, HWL.out _ HW6.out⟩
        rw [bytes_eta S _ HS.out]
        have : keyP ⟨pth, ty, nm, 0, place, word⟩ = [] := rfl
        rw [this, List.append_nil]
        rfl
      · subst h1
        clear h3
        have CF := Lib.hid (format_any place w5 HPC.out (HG2'.out _ HW5.out).gl)
        obtain ⟨D, hD⟩ : ∃ D : ByteArray, D = ⟨(Lib.decDigits place).toArray⟩ := ⟨_, rfl⟩
        have hDs : D.size ≤ 20 := by
          rw [hD, Lib.size_eq]
          simp [Lib.decDigits_length]
          exact Lib.nDigits_le20 place HPC.out
        rw [← hD] at CF
        have hDd : D.data.toList = Lib.decDigits place := by rw [hD]
        obtain ⟨T, hT⟩ : ∃ T : ByteArray, (((⟨#[91]⟩ : ByteArray) ++ D) ++ (⟨#[93]⟩ : ByteArray)) = T := ⟨_, rfl⟩
        have hTd : T.data.toList = 91 :: (Lib.decDigits place ++ [93]) := by rw [← hT, data_append, data_append, hDd]; rfl
        have hTs : T.size ≤ 22 := by
          rw [size_data T _ hTd, ← hDd]; simp; omega
        have HTd := Lib.hid hTd
        clear hD hDd hTd
        go_wp2_with fail
        refine CF.out.mono ?_
        rintro e w6 ⟨rfl, hb⟩
        have HI6 := Lib.hid (isB_below HI5.out hb)
        have HW6 := Lib.hid (HW5.out.trans (hb.mono hbW5))
        have hbW6 : b ≤ w6.heap.size := Nat.le_trans hbW5 hb.size
        clear hb HI5 HW5 CF
        go_wp2_with fail
        refine (sb_string b b _ T _ HI6.out (by omega) hbW6).mono ?_
        clear hT
        rintro e w7 ⟨rfl, hi, hb⟩
        have HI7 := Lib.hid hi
        have HW7 := Lib.hid (HW6.out.trans hb)
        have hbW7 : b ≤ w7.heap.size := Nat.le_trans hbW6 hb.size
        clear hb hi HI6 HW6
        go_wp2_with fail
        refine (sb_text b b _ _ HI7.out hbW7).mono ?_
        rintro e w8 ⟨rfl, hb⟩
        have HW8 := Lib.hid (HW7.out.trans hb)
        clear hb
        go_wp2_with fail
        go_ret
        refine ⟨?_, HWL.out _ HW8.out⟩
        rw [bytes_eta S _ HS.out, HTd.out]
        rfl
      · subst h1
        have CF := Lib.hid (qprint_any word w5 (HG2'.out _ HW5.out).fm (by omega) h3)
        obtain ⟨D, hD⟩ : ∃ D : ByteArray, D = ⟨(qprint word.data.toList).toArray⟩ := ⟨_, rfl⟩
        have hDd : D.data.toList = qprint word.data.toList := by rw [hD]
        have hDs : D.size ≤ 600002 := by
          rw [size_data D _ hDd]
          unfold qprint
          have := flat_len word.data.toList
          rw [← Lib.size_eq] at this
          rw [List.length_cons, List.length_append, List.length_singleton]; omega
        rw [← hD] at CF
        obtain ⟨T, hT⟩ : ∃ T : ByteArray, (((⟨#[91]⟩ : ByteArray) ++ D) ++ (⟨#[93]⟩ : ByteArray)) = T := ⟨_, rfl⟩
        have hTd : T.data.toList = 91 :: (qprint word.data.toList ++ [93]) := by rw [← hT, data_append, data_append, hDd]; rfl
        have hTs : T.size ≤ 600004 := by
          rw [size_data T _ hTd, ← hDd]; simp; omega
        have HTd := Lib.hid hTd
        clear hD hDd hTd h2 h3
        go_wp2_with fail
        refine CF.out.mono ?_
        rintro e w6 ⟨rfl, hb⟩
        have HI6 := Lib.hid (isB_below HI5.out hb)
        have HW6 := Lib.hid (HW5.out.trans (hb.mono hbW5))
        have hbW6 : b ≤ w6.heap.size := Nat.le_trans hbW5 hb.size
        clear hb HI5 HW5 CF
        go_wp2_with fail
        refine (sb_string b b _ T _ HI6.out (by omega) hbW6).mono ?_
        clear hT
        rintro e w7 ⟨rfl, hi, hb⟩
        have HI7 := Lib.hid hi
        have HW7 := Lib.hid (HW6.out.trans hb)
        have hbW7 : b ≤ w7.heap.size := Nat.le_trans hbW6 hb.size
        clear hb hi HI6 HW6
        go_wp2_with fail
        refine (sb_text b b _ _ HI7.out hbW7).mono ?_
        rintro e w8 ⟨rfl, hb⟩
        have HW8 := Lib.hid (HW7.out.trans hb)
        clear hb
        go_wp2_with fail
        go_ret
        refine ⟨?_, HWL.out _ HW8.out⟩
        rw [bytes_eta S _ HS.out, HTd.out]
        rfl

set_option maxRecDepth 100000 in
set_option maxHeartbeats 1000000 in
theorem aprint_wrong (pv : Value) (a : Ad) (w : World) (hG : LexG w) (hP : StrS w w.heap.size pv a.path) (hA : AdB a) (hr : rightA a = false) :
    Calls Tryz.prog 41 #[.agg (adV pv a)] w fun e w' => e = .returned (.string ⟨#[]⟩) ∧ Below w.heap.size w w' := by
  have hl := (Below.refl w.heap.size w).alloc (Nat.le_refl _) (.cells (adV pv a) 29)
  have HL := Lib.hid hl
  have C := Lib.hid (aright_any pv a _ (hG.below hl) (hP.far hl) hA)
  rw [hr] at C
  clear hG hP hA hl hr
  unfold adV at C HL ⊢
  go_enter Tryz.func41, Tryz.ntmps41
  go_wp2_with fail
  refine C.out.mono ?_
  rintro e w2 ⟨rfl, hb⟩
  have HL2 := Lib.hid (HL.out.trans (hb.mono HL.out.size))
  clear hb HL C
  go_wp2_with fail
  go_ret
  exact ⟨rfl, HL2.out⟩
/-- addr.Print. -/
theorem aprint_any (pv : Value) (a : Ad) (w : World) (hG : LexG w) (hP : StrS w w.heap.size pv a.path) (hA : AdB a) :
    Calls Tryz.prog 41 #[.agg (adV pv a)] w fun e w' => e = .returned (.string (mk (printA a))) ∧ Below w.heap.size w w' := by
  by_cases hr : rightA a = true
  · refine aprint_right pv a w hG hP hA hr _ ?_
    rw [mk_data]; unfold printA; rw [if_pos hr]
  · have hr := Bool.eq_false_iff.2 hr
    have e : printA a = [] := (print_nil a).2 hr
    rw [e]
    exact aprint_wrong pv a w hG hP hA hr
end Go.Proofs.YtdfihhebgllpcaaGreatDoor

/- The walks of the reference's Digits and Print of addresses. -/
namespace Go.Proofs.YtdfihhebgllpcaaGreatDoor
open Go.RowKit Go.Proofs.QuotePlain Go.Proofs.UtfPlain Go.Proofs.LexPlain Go.Proofs.AddrPlain

theorem conv_1 (W : World) (g : Nat) (c : UInt8) (n : Int) (hn : n = (c.toNat : Int)) (h : W.cell? ⟨g, 0, none⟩ = some (.int .u8 n)) :
    (convert 112 9 (.slice (some ⟨g, 0, none⟩) 1 1)).run Tryz.prog W = .ok (.string ⟨#[c]⟩) W := by
  subst hn
  have := run_convert_bytes_back (P := Tryz.prog) W 112 9 5 ⟨g, 0, none⟩ 1 [c] (by kernel_rfl) (by kernel_rfl) (by kernel_rfl) (by
    intro j hj
    have : j = 0 := by simp at hj; exact hj
    subst this
    exact h)
  exact this
theorem dig_b (n : Nat) (h : n < 10) : (UInt8.ofNat (48 + n)).toNat = 48 + n := by
  simp; omega
theorem u64_w (n : Int) (h : 0 ≤ n) (h2 : n < 18446744073709551616) : IntKind.u64.wrap n = n := by
  simp [IntKind.wrap, IntKind.bits, IntKind.signed]; omega

set_option maxRecDepth 100000 in
set_option maxHeartbeats 4000000 in
theorem radigits_any : ∀ (n : Nat) (w : World), n < 18446744073709551616 →
    Calls Tryz.prog 65 #[.int .u64 ((n : Nat) : Int)] w fun e w' => e = .returned (.string ⟨(Lib.decDigits n).toArray⟩) ∧ Below w.heap.size w w' := by
  intro n
  induction n using Nat.strongRecOn with
  | _ n ih =>
    intro w hn
    obtain ⟨r, hr⟩ : ∃ r, n % 10 = r := ⟨_, rfl⟩
    have hr9 : r < 10 := by omega
    have h48 : IntKind.u8.wrap (48 + (r : Int)) = 48 + (r : Int) := by simp [IntKind.wrap, IntKind.bits, IntKind.signed]; omega
    have hm1 : (n : Int).tmod 10 = (r : Int) := by rw [Int.tmod_eq_emod_of_nonneg (by omega)]; omega
    have hm2 : (n : Int) % 10 = (r : Int) := by omega
    have h64 : IntKind.u64.wrap (48 + (r : Int)) = 48 + (r : Int) := u64_w _ (by omega) (by omega)
    have h64r : IntKind.u64.wrap (r : Int) = (r : Int) := u64_w _ (by omega) (by omega)
    obtain ⟨S, hS⟩ : ∃ S : ByteArray, S = ⟨#[UInt8.ofNat (48 + r)]⟩ := ⟨_, rfl⟩
    have hSs : S.size = 1 := by rw [hS]; rfl
    have hc : (convert 112 9 (.slice (some ⟨w.heap.size, 0, none⟩) 1 1)).run Tryz.prog (w.alloc (.cells #[.int .u8 (48 + (r : Int))] 5)) = .ok (.string S) (w.alloc (.cells #[.int .u8 (48 + (r : Int))] 5)) := by
      rw [hS]
      exact conv_1 _ _ _ _ (by rw [dig_b r hr9]; rfl) ((Blk.new w 5 #[.int .u8 (48 + (r : Int))]).cell 0)
    have hl : Below w.heap.size w (w.alloc (.cells #[.int .u8 (48 + (r : Int))] 5)) := (Below.refl _ _).alloc (Nat.le_refl _) _
    have HL := Lib.hid hl
    by_cases h : n < 10
    · have hS2 : Hid (S = ⟨(Lib.decDigits n).toArray⟩) := by
        unfold Hid; rw [hS, Lib.decDigits_one h, ← hr, Nat.mod_eq_of_lt h]
      have hge : ¬ (n : Int) ≥ 10 := by omega
      have hge2 : decide ((n : Int) < 10) = true := decide_eq_true (by omega)
      clear hS hl ih hr
      go_enter Tryz.func65, Tryz.ntmps65
      go_wp2_with fail
      go_ret
      exact ⟨congrArg (fun S => Ending.returned (.string S)) hS2.out, HL.out⟩
    · obtain ⟨q, hq⟩ : ∃ q, n / 10 = q := ⟨_, rfl⟩
      have hd1 : (n : Int).tdiv 10 = (q : Int) := by rw [Int.tdiv_eq_ediv_of_nonneg (by omega)]; omega
      have hd2 : (n : Int) / 10 = (q : Int) := by omega
      have hqw : IntKind.u64.wrap (q : Int) = (q : Int) := u64_w _ (by omega) (by omega)
      have hge : (n : Int) ≥ 10 := by omega
      have hge2 : decide ((n : Int) < 10) = false := decide_eq_false (by omega)
      have CI := Lib.hid (ih q (by omega) (w.alloc (.cells #[.int .u8 (48 + (r : Int))] 5)) (by omega))
      obtain ⟨D, hD⟩ : ∃ D : ByteArray, D = ⟨(Lib.decDigits q).toArray⟩ := ⟨_, rfl⟩
      rw [← hD] at CI
      have hDs : D.size ≤ 20 := by
        rw [hD, Lib.size_eq]
        show (Lib.decDigits q).length ≤ 20
        rw [Lib.decDigits_length]; exact Lib.nDigits_le20 q (by omega)
      have hcat : ¬ 9223372036854775807 < D.size + S.size := by omega
      have HF : Hid (D ++ S = ⟨(Lib.decDigits n).toArray⟩) := by
        unfold Hid
        apply bytes_eta
        rw [data_append, hD, hS]
        show Lib.decDigits q ++ [UInt8.ofNat (48 + r)] = _
        conv => rhs; rw [Lib.decDigits, dif_neg h]
        rw [hq, hr]
      clear hS hl ih hr hq hD
      go_enter Tryz.func65, Tryz.ntmps65
      go_wp2_with fail
      refine CI.out.mono ?_
      rintro e w2 ⟨rfl, hb⟩
      have HL2 := Lib.hid (HL.out.trans (hb.mono HL.out.size))
      clear hb CI
      go_wp2_with fail
      go_ret
      exact ⟨congrArg (fun S => Ending.returned (.string S)) HF.out, HL2.out⟩
end Go.Proofs.YtdfihhebgllpcaaGreatDoor

/- The walk of the reference's Print of addresses. -/
namespace Go.Proofs.YtdfihhebgllpcaaGreatDoor
open Go.RowKit Go.Proofs.QuotePlain Go.Proofs.UtfPlain Go.Proofs.LexPlain Go.Proofs.AddrPlain

set_option maxRecDepth 100000 in
set_option maxHeartbeats 8000000 in
theorem raprint_right (pv : Value) (a : Ad) (w : World) (hP : StrS w w.heap.size pv a.path) (hA : AdB a) (hr : rightA a = true) (S : ByteArray) (hS : S.data.toList = headP a ++ keyP a) :
    Calls Tryz.prog 31 #[.agg (adV pv a)] w fun e w' => e = .returned (.string S) ∧ Below w.heap.size w w' := by
  have hl := (Below.refl w.heap.size w).alloc (Nat.le_refl _) (.cells (adV pv a) 29)
  have HL := Lib.hid hl
  have HB := Lib.hid (Blk.new w 29 (adV pv a))
  have HP : Hid (StrS (w.alloc (.cells (adV pv a) 29)) (w.alloc (.cells (adV pv a) 29)).heap.size pv a.path) := hP.far hl
  obtain ⟨ao, cap, hpv⟩ := hP.len
  have CR : Hid (∀ W, StrS W W.heap.size pv a.path → Calls Tryz.prog 43 #[.agg (adV pv a)] W fun e w' => e = .returned (.bool true) ∧ Below W.heap.size W w') := fun W hS => by
    rw [← hr]; exact raright_any pv a W hS hA
  have hparts := right_parts a hr
  have hpl := hparts.1
  have HPS : Hid (∀ X ∈ a.path, X.size ≤ 100000) := hA.ps
  have hty := hA.ty
  have hnm := hA.nm
  have hwd := hA.wd
  have HPC : Hid (a.place < 18446744073709551616) := hA.pc
  have HKO := Lib.hid hparts.2.2.2.2.2
  have HS := Lib.hid hS
  obtain ⟨pth, ty, nm, key, place, word⟩ := a
  dsimp only at *
  obtain ⟨m, hm⟩ : ∃ m, pth.length = m := ⟨_, rfl⟩
  rw [hm] at hpv hpl
  subst hpv
  have HM := Lib.hid hm
  unfold adV at HL HB HP CR ⊢
  dsimp only at HL HB HP CR ⊢
  clear hl hP hr hparts hA hS hm
  obtain ⟨W, hW⟩ : ∃ W, w.alloc (.cells #[.slice ao m cap, .string ty, .string nm, .int .i64 key, .int .u64 ((place : Nat) : Int), .string word] 29) = W := ⟨_, rfl⟩
  obtain ⟨B, hBB⟩ : ∃ B, w.heap.size = B := ⟨_, rfl⟩
  have hBW : B ≤ W.heap.size := by rw [← hW, ← hBB]; simp
  rw [hW] at HL HB HP
  rw [hBB] at HL HB ⊢
  go_enter Tryz.func31, Tryz.ntmps31
  go_upto_region 1 with fail
  clear hW hBB
  obtain ⟨a0, a1, a2, a3, a4, a5⟩ := ad_cells (a := ⟨pth, ty, nm, key, place, word⟩) HB.out
  dsimp only at a0 a1 a2 a3 a4 a5
  go_wp2_with fail
  refine (CR.out _ HP.out).mono ?_
  rintro e w2 ⟨rfl, hb⟩
  have HL2 := Lib.hid (HL.out.trans (hb.mono hBW))
  have HB2 := Lib.hid (HB.out.below hb HB.out.lt)
  have HP2 := Lib.hid (HP.out.far hb)
  have hBW2 : B ≤ w2.heap.size := Nat.le_trans hBW hb.size
  clear hb CR HL HB HP a0 a1 a2 a3 a4 a5 hBW
  obtain ⟨a0, a1, a2, a3, a4, a5⟩ := ad_cells (a := ⟨pth, ty, nm, key, place, word⟩) HB2.out
  dsimp only at a0 a1 a2 a3 a4 a5
  go_wp2_with fail
  go_loop [3, 4] (fun t i => ∃ (j : Nat) (T : ByteArray), j ≤ m ∧ i = .int .i64 j ∧ t = .string T ∧ T.size ≤ j * 100008 ∧ Hid (T.data.toList = (pth.take j).flatMap stepP)) (fun _ i => m - (intOf i).toNat)
  case atStart => exact ⟨0, ⟨#[]⟩, Nat.zero_le _, rfl, rfl, by decide, Lib.hid (by simp)⟩
  case round =>
    obtain ⟨j, T, hj, rfl, rfl, hTs, HT⟩ := hrel
    have hTs2 : T.size ≤ 2000160 := by
      have : j * 100008 ≤ 20 * 100008 := Nat.mul_le_mul_right _ (by omega)
      omega
    by_cases hlt : j < m
    · have hlt' : (j : Int) < (m : Int) := by omega
      obtain ⟨X, hX⟩ : ∃ X, pth[j]? = some X := ⟨_, List.getElem?_eq_getElem (by rw [HM.out]; exact hlt)⟩
      have hXs := HPS.out X (List.mem_of_getElem? hX)
      obtain ⟨ao', cap', hv', h2⟩ := HP2.out
      rw [HM.out] at hv'
      injection hv' with h3 _ h3c
      subst h3c
      obtain ⟨ad, h4, h5, h6⟩ := h2 j X hX
      rw [← h3] at h4
      subst h4
      have HSN := Lib.hid (path_snoc pth j X hX)
      clear h2 h3 h5 hX
      obtain ⟨U, hU⟩ : ∃ U : ByteArray, (((T ++ (⟨#[109, 111, 100, 117, 108, 101, 46]⟩ : ByteArray)) ++ X) ++ (⟨#[46]⟩ : ByteArray)) = U := ⟨_, rfl⟩
      have hUd : U.data.toList = T.data.toList ++ stepP X := by
        rw [← hU, data_append, data_append, data_append]
        unfold stepP modL; simp
      have hUs : U.size ≤ T.size + 100008 := by
        rw [size_data U _ hUd, List.length_append, ← Lib.size_eq]; unfold stepP modL
        simp; omega
      have HU : Hid (U.data.toList = (pth.take (j + 1)).flatMap stepP) := by unfold Hid; rw [hUd, HT.out, HSN.out]
      clear hUd HSN
      have k1 : (T ++ (⟨#[109, 111, 100, 117, 108, 101, 46]⟩ : ByteArray)).size ≤ T.size + 7 := by rw [ByteArray.size_append]; exact Nat.le_refl _
      go_wp2_with fail
      clear hU
      go_round
      case rel => exact ⟨j + 1, U, by omega, by go_num, rfl, by omega, HU⟩
      case measure => simp [intOf]; omega
    · have hlt' : ¬ (j : Int) < (m : Int) := by omega
      obtain rfl : j = m := by omega
      have HT2 : Hid (T.data.toList = pth.flatMap stepP) := by
        have := HT.out
        rw [List.take_of_length_le (by rw [HM.out]; omega)] at this; exact this
      obtain ⟨U, hU⟩ : ∃ U : ByteArray, (((T ++ ty) ++ (⟨#[46]⟩ : ByteArray)) ++ nm) = U := ⟨_, rfl⟩
      have hUd : U.data.toList = headP ⟨pth, ty, nm, key, place, word⟩ := by
        rw [← hU, data_append, data_append, data_append, HT2.out]
        unfold headP; simp
      have hUs : U.size ≤ 2200161 := by
        rw [← hU, ByteArray.size_append, ByteArray.size_append, ByteArray.size_append]
        show T.size + ty.size + 1 + nm.size ≤ _
        omega
      have HU := Lib.hid hUd
      clear hUd HT
      have hko := HKO.out
      unfold keyOk at hko
      simp only [Bool.or_eq_true, Bool.and_eq_true, decide_eq_true_eq, List.isEmpty_iff] at hko
      rcases hko with (⟨⟨h1, h2⟩, h3⟩ | ⟨h1, h3⟩) | ⟨⟨h1, h2⟩, h3⟩
      · subst h1
        clear h2 h3
        go_wp2_with fail
        go_ret
        refine ⟨?_, HL2.out⟩
        rw [bytes_eta S _ HS.out]
        have : keyP ⟨pth, ty, nm, 0, place, word⟩ = [] := rfl
        rw [this, List.append_nil, ← HU.out]
        rfl
      · subst h1
        clear h3
        have CF := Lib.hid (radigits_any place w2 HPC.out)
        obtain ⟨D, hD⟩ : ∃ D : ByteArray, D = ⟨(Lib.decDigits place).toArray⟩ := ⟨_, rfl⟩
        have hDs : D.size ≤ 20 := by
          rw [hD, Lib.size_eq]
          show (Lib.decDigits place).length ≤ 20
          rw [Lib.decDigits_length]
          exact Lib.nDigits_le20 place HPC.out
        rw [← hD] at CF
        have hDd : D.data.toList = Lib.decDigits place := by rw [hD]
        have HF : Hid ((((U ++ (⟨#[91]⟩ : ByteArray)) ++ D) ++ (⟨#[93]⟩ : ByteArray)) = S) := by
          unfold Hid
          rw [bytes_eta S _ HS.out]
          apply bytes_eta
          rw [data_append, data_append, data_append, HU.out, hDd]
          show _ = headP _ ++ (91 :: (Lib.decDigits place ++ [93]))
          simp
        have k1 : (U ++ (⟨#[91]⟩ : ByteArray)).size ≤ U.size + 1 := by rw [ByteArray.size_append]; exact Nat.le_refl _
        have k2 : ((U ++ (⟨#[91]⟩ : ByteArray)) ++ D).size ≤ U.size + 1 + D.size := by rw [ByteArray.size_append]; omega
        clear hD hDd
        go_wp2_with fail
        refine CF.out.mono ?_
        rintro e w6 ⟨rfl, hb⟩
        have HL6 := Lib.hid (HL2.out.trans (hb.mono hBW2))
        have HB6 := Lib.hid (HB2.out.below hb HB2.out.lt)
        clear hb CF a0 a1 a2 a3 a4 a5
        obtain ⟨a0, a1, a2, a3, a4, a5⟩ := ad_cells (a := ⟨pth, ty, nm, 1, place, word⟩) HB6.out
        dsimp only at a0 a1 a2 a3 a4 a5
        go_wp2_with fail
        go_ret
        exact ⟨congrArg (fun S => Ending.returned (.string S)) HF.out, HL6.out⟩
      · subst h1
        have CF := Lib.hid (rqprint_any word w2 (by omega))
        obtain ⟨D, hD⟩ : ∃ D : ByteArray, D = ⟨(qprint word.data.toList).toArray⟩ := ⟨_, rfl⟩
        have hDd : D.data.toList = qprint word.data.toList := by rw [hD]
        have hDs : D.size ≤ 600002 := by
          rw [size_data D _ hDd]
          unfold qprint
          have := flat_len word.data.toList
          rw [← Lib.size_eq] at this
          rw [List.length_cons, List.length_append, List.length_singleton]; omega
        rw [← hD] at CF
        have HF : Hid ((((U ++ (⟨#[91]⟩ : ByteArray)) ++ D) ++ (⟨#[93]⟩ : ByteArray)) = S) := by
          unfold Hid
          rw [bytes_eta S _ HS.out]
          apply bytes_eta
          rw [data_append, data_append, data_append, HU.out, hDd]
          show _ = headP _ ++ (91 :: (qprint word.data.toList ++ [93]))
          simp
        have k1 : (U ++ (⟨#[91]⟩ : ByteArray)).size ≤ U.size + 1 := by rw [ByteArray.size_append]; exact Nat.le_refl _
        have k2 : ((U ++ (⟨#[91]⟩ : ByteArray)) ++ D).size ≤ U.size + 1 + D.size := by rw [ByteArray.size_append]; omega
        clear hD hDd h2 h3
        go_wp2_with fail
        refine CF.out.mono ?_
        rintro e w6 ⟨rfl, hb⟩
        have HL6 := Lib.hid (HL2.out.trans (hb.mono hBW2))
        clear hb CF a0 a1 a2 a3 a4 a5
        go_wp2_with fail
        go_ret
        exact ⟨congrArg (fun S => Ending.returned (.string S)) HF.out, HL6.out⟩

set_option maxRecDepth 100000 in
set_option maxHeartbeats 1000000 in
theorem raprint_wrong (pv : Value) (a : Ad) (w : World) (hP : StrS w w.heap.size pv a.path) (hA : AdB a) (hr : rightA a = false) :
    Calls Tryz.prog 31 #[.agg (adV pv a)] w fun e w' => e = .returned (.string ⟨#[]⟩) ∧ Below w.heap.size w w' := by
  have hl := (Below.refl w.heap.size w).alloc (Nat.le_refl _) (.cells (adV pv a) 29)
  have HL := Lib.hid hl
  have C := Lib.hid (raright_any pv a _ (hP.far hl) hA)
  rw [hr] at C
  clear hP hA hl hr
  unfold adV at C HL ⊢
  go_enter Tryz.func31, Tryz.ntmps31
  go_wp2_with fail
  refine C.out.mono ?_
  rintro e w2 ⟨rfl, hb⟩
  have HL2 := Lib.hid (HL.out.trans (hb.mono HL.out.size))
  clear hb HL C
  go_wp2_with fail
  go_ret
  exact ⟨rfl, HL2.out⟩
/-- The reference's Print. -/
theorem raprint_any (pv : Value) (a : Ad) (w : World) (hP : StrS w w.heap.size pv a.path) (hA : AdB a) :
    Calls Tryz.prog 31 #[.agg (adV pv a)] w fun e w' => e = .returned (.string (mk (printA a))) ∧ Below w.heap.size w w' := by
  by_cases hr : rightA a = true
  · refine raprint_right pv a w hP hA hr _ ?_
    rw [mk_data]; unfold printA; rw [if_pos hr]
  · have hr := Bool.eq_false_iff.2 hr
    have e : printA a = [] := (print_nil a).2 hr
    rw [e]
    exact raprint_wrong pv a w hP hA hr
end Go.Proofs.YtdfihhebgllpcaaGreatDoor
