/- The reference's Digits, noughts. -/
import Derived.Test.YtffcmfhicefahaaDoorPrint1
import Derived.Laws.IdiomStrings
namespace Go.Proofs.YtffcmfhicefahaaDoor
open Go.RowKit Go.Proofs.NumPlain

theorem conv_one (W : World) (g : Nat) (c : UInt8) (n : Int) (hn : n = (c.toNat : Int)) (h : W.cell? ⟨g, 0, none⟩ = some (.int .u8 n)) :
    (convert 58 9 (.slice (some ⟨g, 0, none⟩) 1 1)).run Tryd.prog W = .ok (.string ⟨#[c]⟩) W := by
  subst hn
  have := run_convert_bytes_back (P := Tryd.prog) W 58 9 5 ⟨g, 0, none⟩ 1 [c] (by kernel_rfl) (by kernel_rfl) (by kernel_rfl) (by
    intro j hj
    have : j = 0 := by simp at hj; exact hj
    subst this
    exact h)
  exact this

theorem dig_byte (n : Nat) (h : n < 10) : (UInt8.ofNat (48 + n)).toNat = 48 + n := by
  simp; omega

set_option maxRecDepth 100000 in
set_option maxHeartbeats 2000000 in
theorem digits_small (n : Nat) (w : World) (h : n < 10) :
    Calls Tryd.prog 18 #[.int .i64 n] w fun e w' => e = .returned (.string ⟨(Lib.decDigits n).toArray⟩) ∧ Below w.heap.size w w' := by
  rw [Lib.decDigits_one h]
  have h48 : IntKind.u8.wrap (48 + (n : Int)) = 48 + (n : Int) := by simp [IntKind.wrap, IntKind.bits, IntKind.signed]; omega
  have hlt : (n : Int) ≤ 9 := by omega
  obtain ⟨g, hg⟩ : ∃ g, g = w.heap.size := ⟨_, rfl⟩
  obtain ⟨S, hS⟩ : ∃ S : ByteArray, S = ⟨#[UInt8.ofNat (48 + n)]⟩ := ⟨_, rfl⟩
  have hc : (convert 58 9 (.slice (some ⟨w.heap.size, 0, none⟩) 1 1)).run Tryd.prog (w.alloc (.cells #[.int .u8 (48 + (n : Int))] 5)) = .ok (.string S) (w.alloc (.cells #[.int .u8 (48 + (n : Int))] 5)) := by
    rw [hS]
    exact conv_one _ _ _ _ (by rw [dig_byte n h]; rfl) ((Blk.new w 5 #[.int .u8 (48 + (n : Int))]).cell 0)
  have HS := Lib.hid hS
  clear hS
  go_enter Tryd.func18, Tryd.ntmps18
  go_wp2_with fail
  go_ret
  exact ⟨congrArg (fun S => Ending.returned (.string S)) HS.out, (Below.refl _ _).alloc (Nat.le_refl _) _⟩

set_option maxRecDepth 100000 in
set_option maxHeartbeats 4000000 in
theorem digits_step (n q r : Nat) (D : ByteArray) (w : World) (h : 10 ≤ n) (hn : n ≤ 1000000000000) (hq : q = n / 10) (hr : r = n % 10) (hD : D.size ≤ 100)
    (ih : ∀ w, Calls Tryd.prog 18 #[.int .i64 q] w fun e w' => e = .returned (.string D) ∧ Below w.heap.size w w') :
    Calls Tryd.prog 18 #[.int .i64 n] w fun e w' => e = .returned (.string (D ++ ⟨#[UInt8.ofNat (48 + r)]⟩)) ∧ Below w.heap.size w w' := by
  have hr9 : r < 10 := by omega
  have h48 : IntKind.u8.wrap (48 + (r : Int)) = 48 + (r : Int) := by simp [IntKind.wrap, IntKind.bits, IntKind.signed]; omega
  have h64 : IntKind.i64.wrap (48 + (r : Int)) = 48 + (r : Int) := IntWalk.i64_in _ (by omega)
  have hge : ¬ (n : Int) < 10 := by omega
  have hdiv : (n : Int).tdiv 10 = (q : Int) := by rw [Int.tdiv_eq_ediv_of_nonneg (by omega)]; omega
  have hmod : (n : Int).tmod 10 = (r : Int) := by rw [Int.tmod_eq_emod_of_nonneg (by omega)]; omega
  have hwq : IntKind.i64.wrap (q : Int) = (q : Int) := IntWalk.i64_in _ (by omega)
  have hwr : IntKind.i64.wrap (r : Int) = (r : Int) := IntWalk.i64_in _ (by omega)
  obtain ⟨S, hS⟩ : ∃ S : ByteArray, S = ⟨#[UInt8.ofNat (48 + r)]⟩ := ⟨_, rfl⟩
  have hSs : S.size = 1 := by rw [hS]; rfl
  have hcat : ¬ 9223372036854775807 < D.size + S.size := by omega
  rw [← hS]
  have hc : ∀ W : World, ∀ g, W.cell? ⟨g, 0, none⟩ = some (.int .u8 (48 + (r : Int))) → (convert 58 9 (.slice (some ⟨g, 0, none⟩) 1 1)).run Tryd.prog W = .ok (.string S) W := fun W g hW => by
    rw [hS]
    exact conv_one _ _ _ _ (by rw [dig_byte r hr9]; rfl) hW
  have HI : Hid (∀ w, Calls Tryd.prog 18 #[.int .i64 q] w fun e w' => e = .returned (.string D) ∧ Below w.heap.size w w') := ih
  clear hS hq hr h hn ih hr9
  go_enter Tryd.func18, Tryd.ntmps18
  go_wp2_with fail
  go_region_with (first
    | (go_at_call 18; refine (HI.out _).mono ?_; rintro e' w2 ⟨rfl, hb2⟩; have hk := (bcell hb2).1; have hk2 := hb2.size))
  all_goals (
    go_wp2_with fail
    go_ret
    refine ⟨rfl, ?_⟩
    first
    | exact ((Below.refl _ _).drew.trans hb2).alloc hk2 _
    | exact ((Below.refl w.heap.size w).drew.alloc (Nat.le_refl _) _).trans (hb2.mono (by simp))
    | exact ((Below.refl w.heap.size w).alloc (Nat.le_refl _) _).drew.trans (hb2.mono (by simp)))

theorem digits_any : ∀ (n : Nat) (w : World), n ≤ 1000000000000 →
    Calls Tryd.prog 18 #[.int .i64 n] w fun e w' => e = .returned (.string ⟨(Lib.decDigits n).toArray⟩) ∧ Below w.heap.size w w' := by
  intro n
  induction n using Nat.strongRecOn with
  | _ n ih =>
    intro w hn
    by_cases h : n < 10
    · exact digits_small n w h
    · have hs : (⟨(Lib.decDigits (n / 10)).toArray⟩ : ByteArray).size ≤ 100 := by
        rw [Lib.size_eq]
        show (Lib.decDigits (n / 10)).length ≤ 100
        rw [Lib.decDigits_length]
        have := Lib.nDigits_le20 (n / 10) (by omega)
        omega
      refine (digits_step n (n / 10) (n % 10) ⟨(Lib.decDigits (n / 10)).toArray⟩ w (by omega) hn rfl rfl hs (fun w => ih (n / 10) (by omega) w (by omega))).mono ?_
      rintro e w' ⟨rfl, hb⟩
      refine ⟨congrArg Ending.returned (bytes_ret _ _ ?_), hb⟩
      rw [data_append]
      have he : Lib.decDigits n = Lib.decDigits (n / 10) ++ [UInt8.ofNat (48 + n % 10)] := by rw [Lib.decDigits, dif_neg h]
      rw [he]

set_option maxHeartbeats 1000000 in
theorem noughts_any (k : Nat) (R : ByteArray) (w : World) (hk : k ≤ 100) (hR : R.data.toList = List.replicate k 48) :
    Calls Tryd.prog 37 #[.int .i64 k] w fun e w' => e = .returned (.string R) ∧ w = w' := by
  have HR := Lib.hid hR
  clear hR
  go_enter Tryd.func37, Tryd.ntmps37
  go_wp2_with fail
  go_loop [3, 4] (fun s i => ∃ (j : Nat) (d : ByteArray), j ≤ k ∧ d.size = j ∧ s = .string d ∧ i = .int .i64 j ∧ Hid (d.data.toList = List.replicate j 48)) (fun _ i => k - (intOf i).toNat)
  case atStart => exact ⟨0, ⟨#[]⟩, by omega, rfl, rfl, rfl, rfl⟩
  case round =>
    obtain ⟨j, d, hj, hd, rfl, rfl, hl⟩ := hrel
    by_cases hlt : j < k
    · have hlt2 : (j : Int) < (k : Int) := by omega
      have hcat : ¬ 9223372036854775807 < d.size + 1 := by omega
      go_wp2_with fail
      go_round
      case rel =>
        refine ⟨j + 1, d ++ ⟨#[48]⟩, by omega, by rw [ByteArray.size_append, hd]; rfl, rfl, by go_num, ?_⟩
        unfold Hid
        rw [data_append, hl.out, List.replicate_succ']
      case measure => simp [intOf]; omega
    · have hge : ¬ (j : Int) < (k : Int) := by omega
      have hjk : j = k := by omega
      have HJ := Lib.hid hjk
      clear hjk
      go_wp2_with fail
      go_ret
      refine ⟨congrArg (fun S => Ending.returned (.string S)) ?_, rfl⟩
      rw [bytes_eta d _ hl.out, bytes_eta R _ HR.out, HJ.out]
end Go.Proofs.YtffcmfhicefahaaDoor
