/- The walks of num.kind, num.Scan. -/
import Derived.Test.YtffcmfhicefahaaDoorShelf
import Derived.Test.YtffcmfhicefahaaDoorNumParse
import Derived.WalkKit
import Derived.WalkSpells
import Derived.WalkLawsBesides
import Derived.Lib.Hide
import Derived.Deep.QuietTactic
import Derived.BigQuiet
import Derived.Shelf.Strings.SlTrimAscii
namespace Go.Proofs.YtffcmfhicefahaaDoor
open Go.RowKit Go.Proofs.NumPlain

/-- The package-level variables' cells, as they lie. -/
structure Glob (w : World) : Prop where
  next : ∀ q k, q < 9 → k < 6 → w.cell? ⟨0, q * 6 + k, none⟩ = some (.int .i64 (nxt q k))
  maxLen : ∃ m, w.cell? ⟨1, 0, none⟩ = some (.int .i64 m)
  pow : Lib.TabIs Tryd.prog w "internal/strconv.uint64pow10" .u64 Lib.pow10Tab
  size : 9 ≤ w.heap.size
theorem Glob.below {w w' : World} (h : Glob w) (hb : Below w.heap.size w w') : Glob w' := by
  have hs := h.size
  refine ⟨fun q k hq hk => ?_, ?_, ?_, Nat.le_trans hs hb.size⟩
  · rw [hb.cell (by show 0 < _; omega)]; exact h.next q k hq hk
  · obtain ⟨m, hm⟩ := h.maxLen
    exact ⟨m, by rw [hb.cell (by show 1 < _; omega)]; exact hm⟩
  · have hp := h.pow
    unfold Lib.TabIs World.var? at *
    rw [show Tryd.prog.globalNamed "internal/strconv.uint64pow10" = some 4 from by kernel_rfl] at *
    simp only [Option.bind_some] at *
    rw [hb.block _ (by omega)]; exact hp

theorem kind_nat (c : UInt8) : kind c = if 49 ≤ c.toNat ∧ c.toNat ≤ 57 then 1 else if c.toNat = 63 then -1 else if c.toNat = 69 then 3 else Lib.indexByte [48, 63, 46, 101, 43, 45] c := by
  have := all_u8 (fun c => decide (kind c = if 49 ≤ c.toNat ∧ c.toNat ≤ 57 then 1 else if c.toNat = 63 then -1 else if c.toNat = 69 then 3 else Lib.indexByte [48, 63, 46, 101, 43, 45] c)) (by decide +kernel) c
  simpa only [decide_eq_true_eq] using this

set_option maxHeartbeats 400000 in
theorem kind_any (c : UInt8) (w : World) :
    Calls Tryd.prog 33 #[.int .u8 c.toNat] w fun e w' => e = .returned (.int .i64 (kind c)) ∧ w = w' := by
  have hk := Lib.hid (kind_nat c)
  generalize kind c = K at hk ⊢
  by_cases h1 : 49 ≤ c.toNat ∧ c.toNat ≤ 57
  · have e : Hid (K = 1) := by have := hk.out; rw [if_pos h1] at this; exact this
    obtain ⟨a, b⟩ := h1
    rw [e.out]
    go_enter Tryd.func33, Tryd.ntmps33
    go_wp2_with fail
    go_ret
    exact ⟨rfl, rfl⟩
  · have hk2 : Hid (K = if c.toNat = 63 then -1 else if c.toNat = 69 then 3 else Lib.indexByte [48, 63, 46, 101, 43, 45] c) := by have := hk.out; rw [if_neg h1] at this; exact this
    clear hk
    have hx : (((c.toNat : Int)).toNat.toUInt8) = c := by simp
    have HX := Lib.hid hx
    clear hx
    have h3 : (c.toNat : Int) < 49 ∨ 57 < (c.toNat : Int) := by omega
    clear h1
    by_cases hq : c.toNat = 63
    · have e : Hid (K = -1) := by have := hk2.out; rw [if_pos hq] at this; exact this
      have z : (((c.toNat : Nat) : Int) == 63) = true := by simp [hq]
      have z1 : 49 ≤ (c.toNat : Int) := by omega
      have z2 : 57 < (c.toNat : Int) := by omega
      clear hq h3
      rw [e.out]
      go_enter Tryd.func33, Tryd.ntmps33
      go_wp2_with fail
      refine (Tryd.strings_IndexByte _ _ _).mono ?_
      rintro e w' ⟨rfl, rfl⟩
      go_wp2_with fail
      go_ret
      exact ⟨rfl, rfl⟩
    · have z : (((c.toNat : Nat) : Int) == 63) = false := by simp; omega
      have hk3 : Hid (K = if c.toNat = 69 then 3 else Lib.indexByte [48, 63, 46, 101, 43, 45] c) := by have := hk2.out; rw [if_neg hq] at this; exact this
      clear hk2 hq
      by_cases hr : c.toNat = 69
      · have e : Hid (K = 3) := by have := hk3.out; rw [if_pos hr] at this; exact this
        have y : (((c.toNat : Nat) : Int) == 69) = true := by simp [hr]
        have z1 : 49 ≤ (c.toNat : Int) := by omega
        have z2 : 57 < (c.toNat : Int) := by omega
        clear hr h3
        rw [e.out]
        go_enter Tryd.func33, Tryd.ntmps33
        go_wp2_with fail
        refine (Tryd.strings_IndexByte _ _ _).mono ?_
        rintro e w' ⟨rfl, rfl⟩
        go_wp2_with fail
        go_ret
        exact ⟨rfl, rfl⟩
      · have y : (((c.toNat : Nat) : Int) == 69) = false := by simp; omega
        have hk4 : Hid (K = Lib.indexByte [48, 63, 46, 101, 43, 45] c) := by have := hk3.out; rw [if_neg hr] at this; exact this
        clear hk3 hr
        rw [hk4.out]
        rcases h3 with h3 | h3
        · go_enter Tryd.func33, Tryd.ntmps33
          go_wp2_with fail
          refine (Tryd.strings_IndexByte _ _ _).mono ?_
          rw [HX.out]
          rintro e w' ⟨rfl, rfl⟩
          go_wp2_with fail
          go_ret
          exact ⟨rfl, rfl⟩
        · have z1 : 49 ≤ (c.toNat : Int) := by omega
          go_enter Tryd.func33, Tryd.ntmps33
          go_wp2_with fail
          refine (Tryd.strings_IndexByte _ _ _).mono ?_
          rw [HX.out]
          rintro e w' ⟨rfl, rfl⟩
          go_wp2_with fail
          go_ret
          exact ⟨rfl, rfl⟩
end Go.Proofs.YtffcmfhicefahaaDoor
