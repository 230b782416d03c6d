/- The walk of strconv.FormatUint at base 10 (the shelf has no contract for it): after the shelf's own proof for FormatInt. -/
import Derived.Test.YtffcmfhicefahaaDoorPrint1
import Derived.Lib.AppendIntMem
import Derived.Laws.IdiomStrings
namespace Go.Proofs.YtffcmfhicefahaaDoor
open Go.RowKit Go.Sort Go.Proofs.NumPlain

set_option maxHeartbeats 6400000 in
set_option maxRecDepth 100000 in
theorem formatIn_any (u : Nat) (w : World) (hu64 : u < 18446744073709551616) (hG : Glob w) :
    Calls Tryd.prog 67 #[.int .u64 u, .int .i64 10] w fun e w' => e = .returned (.string ⟨(Lib.decDigits u).toArray⟩) ∧ Below w.heap.size w w' := by
  obtain ⟨S, hS⟩ : ∃ S : ByteArray, S = ⟨(Lib.decDigits u).toArray⟩ := ⟨_, rfl⟩
  rw [← hS]
  have HS := Lib.hid hS
  by_cases hs : u < 100
  · have hc : IntKind.i64.wrap (u : Int) = (u : Int) := IntWalk.i64_in _ (by omega)
    have hlt : (u : Int) < 100 := by omega
    have CS : Hid (∀ w, Calls Tryd.prog 88 #[.int .i64 u] w fun e w' => e = .returned (.string S) ∧ w' = w) := fun w => by rw [hS]; exact Tryd.internal_strconv_small u hs w
    clear hS HS hs hu64 hG
    go_enter Tryd.func67, Tryd.ntmps67
    go_wp2_with fail
    refine (CS.out _).mono ?_
    rintro e w1 ⟨rfl, rfl⟩
    go_wp2_with fail
    go_ret
    exact ⟨rfl, Below.refl _ _⟩
  · have hge : ¬ (u : Int) < 100 := by omega
    have hu1 : 1 ≤ u := by omega
    have hnd20 : Lib.nDigits u ≤ 20 := Lib.nDigits_le20 u hu64
    have hal : Tryd.prog.arrayLen 105 = 24 := by kernel_rfl
    have hsl : ∀ W, (Instr.sliceAt 105 (.pointer (some ⟨w.heap.size, 0, none⟩)) none (some (.int .i64 (Lib.nDigits u : Int))) none).run Tryd.prog W = .ok (.slice (some ⟨w.heap.size, 0, none⟩) (Lib.nDigits u) 24) W := fun W => by
      rw [run_sliceAt_array_h W 105 ⟨w.heap.size, 0, none⟩ (by kernel_rfl) .i64 (Lib.nDigits u : Int) (by omega) (by rw [hal]; omega)]
      go_simp
    have hH0 := Lib.holds_zero0 w 105 (Lib.nDigits u) (by omega)
    have hfmt := Tryd.internal_strconv_formatBase10 w.heap.size 0 24 u (Array.replicate (Lib.nDigits u) 0) (w.alloc (.cells Lib.zeros24 105)) hH0 (by rw [Array.size_replicate]; exact Lib.lt_pow_nDigits u) hu64 (by rw [Array.size_replicate]; omega)
    rw [Array.size_replicate] at hfmt
    have ND : Hid (∀ w, Glob w → Calls Tryd.prog 89 #[.int .u64 u] w fun e w' => e = .returned (.int .i64 (Lib.nDigits u)) ∧ w' = w) := fun w hG => Tryd.internal_strconv_numDigits u hu1 hu64 w hG.pow
    have HH0 := Lib.hid hH0
    have HF := Lib.hid hfmt
    have HG := Lib.hid (hG.below ((Below.refl w.heap.size w).alloc (Nat.le_refl _) (.cells Lib.zeros24 105)))
    clear hH0 hal hfmt hG hS hs hu64
    go_enter Tryd.func67, Tryd.ntmps67
    go_wp2_with fail
    refine (ND.out _ HG.out).mono ?_
    rintro e w1 ⟨rfl, rfl⟩
    go_wp2_with fail
    refine HF.out.mono ?_
    rintro e w' ⟨rfl, k, v', dk, rfl, hF⟩
    have hcv : (convert 58 9 (.slice (some ⟨w.heap.size, 0, none⟩) (Lib.nDigits u) 24)).run Tryd.prog ((putRow (fun (b : UInt8) => Value.int .u8 (b.toNat : Int)) (w.alloc (.cells Lib.zeros24 105)) w.heap.size 0 dk).drewN k) = .ok (.string S) ((putRow (fun (b : UInt8) => Value.int .u8 (b.toNat : Int)) (w.alloc (.cells Lib.zeros24 105)) w.heap.size 0 dk).drewN k) := by
      rw [HS.out]
      have h := run_convert_bytes_back (P := Tryd.prog) ((putRow (fun (b : UInt8) => Value.int .u8 (b.toNat : Int)) (w.alloc (.cells Lib.zeros24 105)) w.heap.size 0 dk).drewN k) 58 9 5 ⟨w.heap.size, 0, none⟩ 24 (Lib.decDigits u) (by kernel_rfl) (by kernel_rfl) (by kernel_rfl) (fun j hj => by
        rw [Lib.row_is_numeral hF j hj, Lib.add_plain, World.cell?_drewN]
        exact cell?_putRow (fun (b : UInt8) => Value.int .u8 (b.toNat : Int)) _ w.heap.size 0 _ dk HH0.out (by rw [hF.size, Array.size_replicate]) j (by rw [hF.size]; rw [Lib.decDigits_length] at hj; exact hj))
      rw [Lib.decDigits_length] at h
      exact h
    obtain ⟨os, eo⟩ := Lib.fin_at w (.cells Lib.zeros24 105) dk k 0
    have HEO := Lib.hid eo
    clear eo HF HH0 ND HG
    go_wp2_with fail
    go_ret
    refine ⟨rfl, ?_⟩
    rw [HEO.out]
    exact below_grow (Below.refl _ _) (Nat.le_refl _) k os

set_option maxHeartbeats 400000 in
theorem format_any (u : Nat) (w : World) (hu64 : u < 18446744073709551616) (hG : Glob w) :
    Calls Tryd.prog 43 #[.int .u64 u, .int .i64 10] w fun e w' => e = .returned (.string ⟨(Lib.decDigits u).toArray⟩) ∧ Below w.heap.size w w' := by
  obtain ⟨S, hS⟩ : ∃ S : ByteArray, S = ⟨(Lib.decDigits u).toArray⟩ := ⟨_, rfl⟩
  have CF := Lib.hid (formatIn_any u w hu64 hG)
  rw [← hS] at CF ⊢
  clear hS hu64 hG
  go_enter Tryd.func43, Tryd.ntmps43
  go_wp2_with fail
  refine CF.out.mono ?_
  rintro e w1 ⟨rfl, hb⟩
  go_wp2_with fail
  go_ret
  exact ⟨rfl, hb⟩
end Go.Proofs.YtffcmfhicefahaaDoor
