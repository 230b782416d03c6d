import Derived.Test.YtdfihhebgllpcaaGreatDoorAo06
import Derived.Test.YtdfihhebgllpcaaGreatDoorAo03
import Derived.Laws.IdiomStrings
import Derived.LoopN

/- The walk of quote's reader.unit. -/
namespace Go.Proofs.YtdfihhebgllpcaaGreatDoor
open Go.RowKit Go.Proofs.QuotePlain Go.Proofs.UtfPlain

theorem or16 (n d : Nat) (hn : n < 1048576) (hd : d < 16) : bits .or .i64 ((n : Int) * 16) (d : Int) = ((n * 16 + d : Nat) : Int) := by
  have e2 : ((n : Int) * 16) = ((n * 16 : Nat) : Int) := by omega
  rw [e2]
  have h1 : (BitVec.ofInt 64 ((n * 16 : Nat) : Int)).toNat = n * 16 := by
    rw [BitVec.ofInt_natCast, BitVec.toNat_ofNat]; exact Nat.mod_eq_of_lt (by omega)
  have h2 : (BitVec.ofInt 64 (d : Int)).toNat = d := by
    rw [BitVec.ofInt_natCast, BitVec.toNat_ofNat]; exact Nat.mod_eq_of_lt (by omega)
  show IntKind.i64.wrap ((BitVec.ofInt 64 ((n * 16 : Nat) : Int) ||| BitVec.ofInt 64 (d : Int)).toNat : Int) = _
  have h3 : n * 16 ||| d = n * 16 + d := by
    have := Nat.shiftLeft_add_eq_or_of_lt (i := 4) (b := d) (by omega) n
    rw [Nat.shiftLeft_eq] at this
    exact this.symm
  rw [BitVec.toNat_or, h1, h2, h3]
  exact IntWalk.i64_in _ (by omega)
theorem index_dig (c : UInt8) (n k : Int) (hn : n = (c.toNat : Int)) (hk : Lib.indexByte digits c = k) (w : World) : Calls Tryz.prog 122 #[.string ⟨#[48, 49, 50, 51, 52, 53, 54, 55, 56, 57, 97, 98, 99, 100, 101, 102]⟩, .int .u8 n] w fun e w' => e = .returned (.int .i64 k) ∧ w = w' := by
  subst hn
  refine (Tryz.strings_IndexByte ⟨#[48, 49, 50, 51, 52, 53, 54, 55, 56, 57, 97, 98, 99, 100, 101, 102]⟩ (c.toNat : Int) w).mono ?_
  rintro e w' ⟨rfl, rfl⟩
  refine ⟨?_, rfl⟩
  rw [Int.toNat_natCast, show c.toNat.toUInt8 = c from by simp, ← hk]
  rfl
/-- A reading's end: what was read, and the reader is so many bytes on; or it gave up. -/
def UEnd (v : Value) (code : Nat) (g : Nat) (b : ByteArray) (k : Nat) (w : World) (e : Ending) (w' : World) : Prop :=
  (code = 0 ∧ e = .returned v ∧ Rdr w' g b k ∧ Turn g w w') ∨ (code ≠ 0 ∧ e = gaveUp code ∧ Turn g w w')

set_option maxRecDepth 100000 in
set_option maxHeartbeats 4000000 in
theorem unit_any (g : Nat) (b : ByteArray) (k : Nat) (w : World) (hs : b.size ≤ 1000000) (hR : Rdr w g b k) (U : Nat × Nat) (hU : unitF 4 0 (b.data.toList.drop k) = U) :
    Calls Tryz.prog 199 #[.pointer (some ⟨g, 0, none⟩)] w (UEnd (.int .i64 U.2) U.1 g b (k + 4) w) := by
  have HU := Lib.hid hU
  have HR := Lib.hid hR
  clear hU hR
  go_enter Tryz.func199, Tryz.ntmps199
  go_wp2_with fail
  go_loopw [3, 6] (fun a i wr => ∃ (j n : Nat), j ≤ 4 ∧ a = .int .i64 n ∧ i = .int .i64 j ∧ Hid (n < 16 ^ j) ∧ Hid (U = unitF (4 - j) n ((b.data.toList.drop k).drop j)) ∧ Hid (Rdr wr g b (k + j)) ∧ Hid (Turn g w wr)) (fun _ i _ => 4 - (intOf i).toNat)
  case atStart => exact ⟨0, 0, by omega, rfl, rfl, Lib.hid (by decide), Lib.hid HU.out.symm, HR, Lib.hid (Turn.refl _ _)⟩
  case round =>
    clear HR
    obtain ⟨j, n, hj, rfl, rfl, HN, HJ, HR, HW⟩ := hrel
    by_cases hj4 : j < 4
    · have hj4' : (j : Int) < 4 := by omega
      by_cases hkb : k + j < b.size
      · obtain ⟨c, hc⟩ : ∃ c, b[k + j] = c := ⟨_, rfl⟩
        have hc8 : c.toNat < 256 := c.toNat_lt
        have hdr : (b.data.toList.drop k).drop j = c :: (b.data.toList.drop k).drop (j + 1) := by
          rw [List.drop_drop, List.drop_drop, List.drop_eq_getElem_cons (by rw [← Lib.size_eq]; exact hkb), ← hc]; rfl
        have C := Lib.hid (rbyte_yes g b (k + j) wr hs HR.out hkb)
        rw [hc] at C
        obtain ⟨q, hq⟩ : ∃ q, 4 - j = q + 1 := ⟨3 - j, by omega⟩
        have hst : U = if hexv c < 16 then unitF q (n * 16 + hexv c) ((b.data.toList.drop k).drop (j + 1)) else (3, 0) := by
          rw [HJ.out, hdr, hq]; rfl
        have hI := hex_index c
        by_cases hx : hexv c < 16
        · rw [if_pos hx] at hst hI
          obtain ⟨D, hD⟩ : ∃ D, D = hexv c := ⟨_, rfl⟩
          rw [← hD] at hst hI hx
          have hn1 : n < 4096 := Nat.lt_of_lt_of_le HN.out (Nat.le_trans (Nat.pow_le_pow_right (by omega) (show j ≤ 3 by omega)) (by decide))
          obtain ⟨N, hN⟩ : ∃ N, N = n * 16 + D := ⟨_, rfl⟩
          have hor : bits .or .i64 ((n : Int) * 16) (D : Int) = (N : Int) := by rw [hN]; exact or16 n D (by omega) hx
          have HNN : Hid (N < 16 ^ (j + 1)) := by
            unfold Hid
            have := HN.out
            rw [Nat.pow_succ]; omega
          have hq2 : q = 4 - (j + 1) := by omega
          rw [← hN, hq2] at hst
          have HST := Lib.hid hst
          have hKK : (k + j) + 1 = k + (j + 1) := by omega
          rw [hKK] at C
          have hD0 : (0 : Int) ≤ (D : Int) := by omega
          by_cases hAF : 65 ≤ c.toNat ∧ c.toNat ≤ 70
          · have CI : Hid (∀ w, Calls Tryz.prog 122 #[.string ⟨#[48, 49, 50, 51, 52, 53, 54, 55, 56, 57, 97, 98, 99, 100, 101, 102]⟩, .int .u8 ((c.toNat : Int) + 32)] w fun e w' => e = .returned (.int .i64 (D : Int)) ∧ w = w') := fun w => index_dig (lower c) _ _ (lower_up c hAF).symm hI w
            obtain ⟨a1, a2⟩ := hAF
            have a3 : (65 : Int) ≤ (c.toNat : Int) := by omega
            have a4 : (c.toNat : Int) ≤ 70 := by omega
            have a5 : IntKind.u8.wrap ((c.toNat : Int) + 32) = (c.toNat : Int) + 32 := by simp [IntKind.wrap, IntKind.bits, IntKind.signed]; omega
            clear a1 a2
            clear HJ hst hI hdr hq hq2 hN hD HN hc hKK hx
            go_wp2_with fail
            refine C.out.mono ?_
            rintro e w1 ⟨rfl, h1, h2⟩
            have H1 := Lib.hid h1
            have H2 := Lib.hid (HW.out.trans h2)
            clear h1 h2
            go_wp2_with fail
            refine (CI.out _).mono ?_
            rintro e w2 ⟨rfl, rfl⟩
            go_wp2_with fail
            refine (must_yes 3 _).mono ?_
            rintro e w3 ⟨rfl, rfl⟩
            go_wp2_with fail
            go_roundw
            case rel => exact ⟨j + 1, N, by omega, rfl, by go_num, HNN, HST, H1, H2⟩
            case measure => simp [intOf]; omega
          · have CI : Hid (∀ w, Calls Tryz.prog 122 #[.string ⟨#[48, 49, 50, 51, 52, 53, 54, 55, 56, 57, 97, 98, 99, 100, 101, 102]⟩, .int .u8 (c.toNat : Int)] w fun e w' => e = .returned (.int .i64 (D : Int)) ∧ w = w') := fun w => index_dig (lower c) _ _ (by rw [lower_id c hAF]) hI w
            have a4 : ¬ (65 : Int) ≤ (c.toNat : Int) ∨ ¬ (c.toNat : Int) ≤ 70 := by omega
            clear hAF
            clear HJ hst hI hdr hq hq2 hN hD HN hc hKK hx
            rcases a4 with a4 | a4
            all_goals
              go_wp2_with fail
              refine C.out.mono ?_
              rintro e w1 ⟨rfl, h1, h2⟩
              have H1 := Lib.hid h1
              have H2 := Lib.hid (HW.out.trans h2)
              clear h1 h2
              go_wp2_with fail
              refine (CI.out _).mono ?_
              rintro e w2 ⟨rfl, rfl⟩
              go_wp2_with fail
              refine (must_yes 3 _).mono ?_
              rintro e w3 ⟨rfl, rfl⟩
              go_wp2_with fail
              go_roundw
              case rel => exact ⟨j + 1, N, by omega, rfl, by go_num, HNN, HST, H1, H2⟩
              case measure => simp [intOf]; omega
        · rw [if_neg hx] at hst hI
          subst hst
          by_cases hAF : 65 ≤ c.toNat ∧ c.toNat ≤ 70
          · have CI : Hid (∀ w, Calls Tryz.prog 122 #[.string ⟨#[48, 49, 50, 51, 52, 53, 54, 55, 56, 57, 97, 98, 99, 100, 101, 102]⟩, .int .u8 ((c.toNat : Int) + 32)] w fun e w' => e = .returned (.int .i64 (-1)) ∧ w = w') := fun w => index_dig (lower c) _ _ (lower_up c hAF).symm hI w
            obtain ⟨a1, a2⟩ := hAF
            have a3 : (65 : Int) ≤ (c.toNat : Int) := by omega
            have a4 : (c.toNat : Int) ≤ 70 := by omega
            have a5 : IntKind.u8.wrap ((c.toNat : Int) + 32) = (c.toNat : Int) + 32 := by simp [IntKind.wrap, IntKind.bits, IntKind.signed]; omega
            clear a1 a2
            clear HJ hI hdr hq HN hc hx
            go_wp2_with fail
            refine C.out.mono ?_
            rintro e w1 ⟨rfl, h1, h2⟩
            have H1 := Lib.hid h1
            have H2 := Lib.hid (HW.out.trans h2)
            clear h1 h2
            go_wp2_with fail
            refine (CI.out _).mono ?_
            rintro e w2 ⟨rfl, rfl⟩
            go_wp2_with fail
            refine (must_no 3 _).mono ?_
            rintro e w3 ⟨rfl, rfl⟩
            go_wp2_with fail
            exact ⟨rfl, .inr ⟨by decide, rfl, H2.out⟩⟩
          · have CI : Hid (∀ w, Calls Tryz.prog 122 #[.string ⟨#[48, 49, 50, 51, 52, 53, 54, 55, 56, 57, 97, 98, 99, 100, 101, 102]⟩, .int .u8 (c.toNat : Int)] w fun e w' => e = .returned (.int .i64 (-1)) ∧ w = w') := fun w => index_dig (lower c) _ _ (by rw [lower_id c hAF]) hI w
            have a4 : ¬ (65 : Int) ≤ (c.toNat : Int) ∨ ¬ (c.toNat : Int) ≤ 70 := by omega
            clear hAF
            clear HJ hI hdr hq HN hc hx
            rcases a4 with a4 | a4
            all_goals
              go_wp2_with fail
              refine C.out.mono ?_
              rintro e w1 ⟨rfl, h1, h2⟩
              have H1 := Lib.hid h1
              have H2 := Lib.hid (HW.out.trans h2)
              clear h1 h2
              go_wp2_with fail
              refine (CI.out _).mono ?_
              rintro e w2 ⟨rfl, rfl⟩
              go_wp2_with fail
              refine (must_no 3 _).mono ?_
              rintro e w3 ⟨rfl, rfl⟩
              go_wp2_with fail
              exact ⟨rfl, .inr ⟨by decide, rfl, H2.out⟩⟩
      · have hz : U = (2, 0) := by
          rw [HJ.out, List.drop_drop, List.drop_eq_nil_of_le (by rw [← Lib.size_eq]; omega)]
          obtain ⟨q, hq⟩ : ∃ q, 4 - j = q + 1 := ⟨3 - j, by omega⟩
          rw [hq]; rfl
        have C := Lib.hid (rbyte_no g b (k + j) wr HR.out (by omega))
        subst hz
        clear HJ HN hkb hj4
        go_wp2_with fail
        refine C.out.mono ?_
        rintro e w1 ⟨rfl, h2⟩
        have H2 := Lib.hid (HW.out.trans h2)
        clear h2
        go_wp2_with fail
        exact ⟨rfl, .inr ⟨by decide, rfl, H2.out⟩⟩
    · have hj4' : ¬ (j : Int) < 4 := by omega
      obtain rfl : j = 4 := by omega
      have hz : U = (0, n) := HJ.out
      subst hz
      clear HJ HN hj4
      go_wp2_with fail
      go_ret
      exact .inl ⟨rfl, rfl, HR.out, HW.out⟩
end Go.Proofs.YtdfihhebgllpcaaGreatDoor

/- The walks of the reference's Put and guess. -/
namespace Go.Proofs.YtdfihhebgllpcaaGreatDoor
open Go.RowKit Go.Proofs.UtfPlain

theorem conv_list (W : World) (g : Nat) (l : List UInt8) (k : Nat) (hk : k = l.length) (h : ∀ j (hj : j < l.length), W.cell? ⟨g, j, none⟩ = some (.int .u8 (l[j].toNat : Int))) :
    (convert 112 9 (.slice (some ⟨g, 0, none⟩) k k)).run Tryz.prog W = .ok (.string ⟨l.toArray⟩) W := by
  subst hk
  refine run_convert_bytes_back (P := Tryz.prog) W 112 9 5 ⟨g, 0, none⟩ l.length l (by kernel_rfl) (by kernel_rfl) (by kernel_rfl) ?_
  intro j hj
  have := h j hj
  rw [show (⟨g, 0, none⟩ : Addr).add j = ⟨g, j, none⟩ from by simp [Addr.add]; omega]
  exact this
theorem byte_toNat (n : Int) (h0 : 0 ≤ n) (h1 : n < 256) : ((byte n).toNat : Int) = n := ((byte_eq n h0 h1 _).1 rfl).symm

theorem conv1 (W : World) (g : Nat) (x : Int) (h : 0 ≤ x ∧ x < 256) (c : W.cell? ⟨g, 0, none⟩ = some (.int .u8 x)) :
    (convert 112 9 (.slice (some ⟨g, 0, none⟩) 1 1)).run Tryz.prog W = .ok (.string ⟨#[byte x]⟩) W := by
  refine conv_list W g [byte x] 1 rfl fun j hj => ?_
  obtain rfl : j = 0 := by simp at hj; exact hj
  rw [c]; simp only [List.getElem_cons_zero]; rw [byte_toNat x h.1 h.2]
theorem conv2 (W : World) (g : Nat) (x y : Int) (h : 0 ≤ x ∧ x < 256) (k : 0 ≤ y ∧ y < 256) (c : W.cell? ⟨g, 0, none⟩ = some (.int .u8 x)) (d : W.cell? ⟨g, 1, none⟩ = some (.int .u8 y)) :
    (convert 112 9 (.slice (some ⟨g, 0, none⟩) 2 2)).run Tryz.prog W = .ok (.string ⟨#[byte x, byte y]⟩) W := by
  refine conv_list W g [byte x, byte y] 2 rfl fun j hj => ?_
  have hj' : j = 0 ∨ j = 1 := by simp at hj; omega
  rcases hj' with rfl | rfl
  · rw [c]; simp only [List.getElem_cons_zero]; rw [byte_toNat x h.1 h.2]
  · rw [d]; simp only [List.getElem_cons_zero, List.getElem_cons_succ]; rw [byte_toNat y k.1 k.2]
theorem conv3 (W : World) (g : Nat) (x y z : Int) (h : 0 ≤ x ∧ x < 256) (k : 0 ≤ y ∧ y < 256) (l : 0 ≤ z ∧ z < 256) (c : W.cell? ⟨g, 0, none⟩ = some (.int .u8 x)) (d : W.cell? ⟨g, 1, none⟩ = some (.int .u8 y)) (e : W.cell? ⟨g, 2, none⟩ = some (.int .u8 z)) :
    (convert 112 9 (.slice (some ⟨g, 0, none⟩) 3 3)).run Tryz.prog W = .ok (.string ⟨#[byte x, byte y, byte z]⟩) W := by
  refine conv_list W g [byte x, byte y, byte z] 3 rfl fun j hj => ?_
  have hj' : j = 0 ∨ j = 1 ∨ j = 2 := by simp at hj; omega
  rcases hj' with rfl | rfl | rfl
  · rw [c]; simp only [List.getElem_cons_zero]; rw [byte_toNat x h.1 h.2]
  · rw [d]; simp only [List.getElem_cons_zero, List.getElem_cons_succ]; rw [byte_toNat y k.1 k.2]
  · rw [e]; simp only [List.getElem_cons_zero, List.getElem_cons_succ]; rw [byte_toNat z l.1 l.2]
theorem conv4 (W : World) (g : Nat) (x y z v : Int) (h : 0 ≤ x ∧ x < 256) (k : 0 ≤ y ∧ y < 256) (l : 0 ≤ z ∧ z < 256) (m : 0 ≤ v ∧ v < 256) (c : W.cell? ⟨g, 0, none⟩ = some (.int .u8 x)) (d : W.cell? ⟨g, 1, none⟩ = some (.int .u8 y)) (e : W.cell? ⟨g, 2, none⟩ = some (.int .u8 z)) (f : W.cell? ⟨g, 3, none⟩ = some (.int .u8 v)) :
    (convert 112 9 (.slice (some ⟨g, 0, none⟩) 4 4)).run Tryz.prog W = .ok (.string ⟨#[byte x, byte y, byte z, byte v]⟩) W := by
  refine conv_list W g [byte x, byte y, byte z, byte v] 4 rfl fun j hj => ?_
  have hj' : j = 0 ∨ j = 1 ∨ j = 2 ∨ j = 3 := by simp at hj; omega
  rcases hj' with rfl | rfl | rfl | rfl
  · rw [c]; simp only [List.getElem_cons_zero]; rw [byte_toNat x h.1 h.2]
  · rw [d]; simp only [List.getElem_cons_zero, List.getElem_cons_succ]; rw [byte_toNat y k.1 k.2]
  · rw [e]; simp only [List.getElem_cons_zero, List.getElem_cons_succ]; rw [byte_toNat z l.1 l.2]
  · rw [f]; simp only [List.getElem_cons_zero, List.getElem_cons_succ]; rw [byte_toNat v m.1 m.2]

set_option maxRecDepth 100000 in
set_option maxHeartbeats 4000000 in
theorem rput_any (c : Int) (w : World) (h0 : -1000000000 ≤ c) (h1 : c ≤ 1000000000) :
    Calls Tryz.prog 158 #[.int .i64 c] w fun e w' => e = .returned (.string ⟨(put c).toArray⟩) ∧ Below w.heap.size w w' := by
  unfold put
  by_cases c1 : c < 0
  · rw [if_pos (.inl c1)]
    go_enter Tryz.func158, Tryz.ntmps158
    go_wp2_with fail
    go_ret
    exact ⟨rfl, Below.refl _ _⟩
  by_cases c2 : 1114111 < c
  · rw [if_pos (.inr (.inl c2))]
    go_enter Tryz.func158, Tryz.ntmps158
    go_wp2_with fail
    go_ret
    exact ⟨rfl, Below.refl _ _⟩
  by_cases c3 : 55296 ≤ c ∧ c ≤ 57343
  · rw [if_pos (.inr (.inr c3))]
    obtain ⟨c3, c4⟩ := c3
    go_enter Tryz.func158, Tryz.ntmps158
    go_wp2_with fail
    go_ret
    exact ⟨rfl, Below.refl _ _⟩
  rw [if_neg (by omega)]
  by_cases d1 : c < 128
  · rw [if_pos d1]
    have c4 : ¬ 55296 ≤ c := by omega
    clear c3
    have hc : ∀ (W : World) g, W.cell? ⟨g, 0, none⟩ = some (.int .u8 c) → (convert 112 9 (.slice (some ⟨g, 0, none⟩) 1 1)).run Tryz.prog W = .ok (.string ⟨#[byte c]⟩) W := fun W g k0 => conv1 W g c (by omega) k0
    go_enter Tryz.func158, Tryz.ntmps158
    go_wp2_with fail
    go_ret
    exact ⟨rfl, (Below.refl _ _).alloc (Nat.le_refl _) _⟩
  by_cases d2 : c < 2048
  · rw [if_neg d1, if_pos d2]
    have c4 : ¬ 55296 ≤ c := by omega
    clear c3
    have hc : ∀ (W : World) g, W.cell? ⟨g, 0, none⟩ = some (.int .u8 (192 + c / 64)) → W.cell? ⟨g, 1, none⟩ = some (.int .u8 (128 + c % 64)) → (convert 112 9 (.slice (some ⟨g, 0, none⟩) 2 2)).run Tryz.prog W = .ok (.string ⟨#[byte (192 + c / 64), byte (128 + c % 64)]⟩) W := fun W g k0 k1 => conv2 W g (192 + c / 64) (128 + c % 64) (by omega) (by omega) k0 k1
    go_enter Tryz.func158, Tryz.ntmps158
    go_wp2_with fail
    go_ret
    exact ⟨rfl, (Below.refl _ _).alloc (Nat.le_refl _) _⟩
  by_cases d3 : c < 65536
  · rw [if_neg d1, if_neg d2, if_pos d3]
    by_cases c4 : 55296 ≤ c
    · have c5 : ¬ c ≤ 57343 := fun h => c3 ⟨c4, h⟩
      clear c3
      have hc : ∀ (W : World) g, W.cell? ⟨g, 0, none⟩ = some (.int .u8 (224 + c / 4096)) → W.cell? ⟨g, 1, none⟩ = some (.int .u8 (128 + c / 64 % 64)) → W.cell? ⟨g, 2, none⟩ = some (.int .u8 (128 + c % 64)) → (convert 112 9 (.slice (some ⟨g, 0, none⟩) 3 3)).run Tryz.prog W = .ok (.string ⟨#[byte (224 + c / 4096), byte (128 + c / 64 % 64), byte (128 + c % 64)]⟩) W := fun W g k0 k1 k2 => conv3 W g (224 + c / 4096) (128 + c / 64 % 64) (128 + c % 64) (by omega) (by omega) (by omega) k0 k1 k2
      go_enter Tryz.func158, Tryz.ntmps158
      go_wp2_with fail
      go_ret
      exact ⟨rfl, (Below.refl _ _).alloc (Nat.le_refl _) _⟩
    · clear c3
      have hc : ∀ (W : World) g, W.cell? ⟨g, 0, none⟩ = some (.int .u8 (224 + c / 4096)) → W.cell? ⟨g, 1, none⟩ = some (.int .u8 (128 + c / 64 % 64)) → W.cell? ⟨g, 2, none⟩ = some (.int .u8 (128 + c % 64)) → (convert 112 9 (.slice (some ⟨g, 0, none⟩) 3 3)).run Tryz.prog W = .ok (.string ⟨#[byte (224 + c / 4096), byte (128 + c / 64 % 64), byte (128 + c % 64)]⟩) W := fun W g k0 k1 k2 => conv3 W g (224 + c / 4096) (128 + c / 64 % 64) (128 + c % 64) (by omega) (by omega) (by omega) k0 k1 k2
      go_enter Tryz.func158, Tryz.ntmps158
      go_wp2_with fail
      go_ret
      exact ⟨rfl, (Below.refl _ _).alloc (Nat.le_refl _) _⟩
  · rw [if_neg d1, if_neg d2, if_neg d3]
    have c4 : 55296 ≤ c := by omega
    have c5 : ¬ c ≤ 57343 := by omega
    clear c3
    have hc : ∀ (W : World) g, W.cell? ⟨g, 0, none⟩ = some (.int .u8 (240 + c / 262144)) → W.cell? ⟨g, 1, none⟩ = some (.int .u8 (128 + c / 4096 % 64)) → W.cell? ⟨g, 2, none⟩ = some (.int .u8 (128 + c / 64 % 64)) → W.cell? ⟨g, 3, none⟩ = some (.int .u8 (128 + c % 64)) → (convert 112 9 (.slice (some ⟨g, 0, none⟩) 4 4)).run Tryz.prog W = .ok (.string ⟨#[byte (240 + c / 262144), byte (128 + c / 4096 % 64), byte (128 + c / 64 % 64), byte (128 + c % 64)]⟩) W := fun W g k0 k1 k2 k3 => conv4 W g (240 + c / 262144) (128 + c / 4096 % 64) (128 + c / 64 % 64) (128 + c % 64) (by omega) (by omega) (by omega) (by omega) k0 k1 k2 k3
    go_enter Tryz.func158, Tryz.ntmps158
    go_wp2_with fail
    go_ret
    exact ⟨rfl, (Below.refl _ _).alloc (Nat.le_refl _) _⟩
end Go.Proofs.YtdfihhebgllpcaaGreatDoor

/- The walk of utf.Put. -/
namespace Go.Proofs.YtdfihhebgllpcaaGreatDoor
open Go.RowKit Go.Proofs.UtfPlain

theorem or_mark (k q : Nat) (x : Int) (h0 : 0 ≤ x) (h1 : x < 2 ^ k) (hk : 2 ^ k * q + 2 ^ k < 4294967296) : bits .or .i64 ((2 ^ k * q : Nat) : Int) x = ((2 ^ k * q : Nat) : Int) + x := by
  obtain ⟨d, rfl⟩ := Int.eq_ofNat_of_zero_le h0
  have hd : d < 2 ^ k := by exact_mod_cast h1
  have e1 : (BitVec.ofInt 64 ((2 ^ k * q : Nat) : Int)).toNat = 2 ^ k * q := by
    rw [BitVec.ofInt_natCast, BitVec.toNat_ofNat]; exact Nat.mod_eq_of_lt (by omega)
  have e2 : (BitVec.ofInt 64 (d : Int)).toNat = d := by
    rw [BitVec.ofInt_natCast, BitVec.toNat_ofNat]; exact Nat.mod_eq_of_lt (by omega)
  show IntKind.i64.wrap ((BitVec.ofInt 64 ((2 ^ k * q : Nat) : Int) ||| BitVec.ofInt 64 (d : Int)).toNat : Int) = _
  have h3 : 2 ^ k * q ||| d = 2 ^ k * q + d := (Nat.two_pow_add_eq_or_of_lt hd q).symm
  rw [BitVec.toNat_or, e1, e2, h3, IntWalk.i64_in _ (by omega)]
  omega
theorem and_63 (x : Int) (h0 : 0 ≤ x) (h1 : x < 4294967296) : bits .and .i64 x 63 = x % 64 := by
  obtain ⟨d, rfl⟩ := Int.eq_ofNat_of_zero_le h0
  have e1 : (BitVec.ofInt 64 (d : Int)).toNat = d := by
    rw [BitVec.ofInt_natCast, BitVec.toNat_ofNat]; exact Nat.mod_eq_of_lt (by omega)
  show IntKind.i64.wrap ((BitVec.ofInt 64 (d : Int) &&& BitVec.ofInt 64 63).toNat : Int) = _
  have h3 : d &&& 63 = d % 64 := Nat.and_two_pow_sub_one_eq_mod d 6
  rw [BitVec.toNat_and, e1, show (BitVec.ofInt 64 63).toNat = 63 from rfl, h3, IntWalk.i64_in _ (by omega)]
  omega
theorem put_byte : (Tryz.prog.info? 5).map (fun i => (i.zero, i.size, i.bytes)) = some (some (.int .u8 0), 1, 1) := by kernel_rfl
theorem put_conv (W : World) (B : Nat) (v : Value) (l : List UInt8) (h : W.ownsRow B 5 1 v l.length (l.map fun b => .int .u8 (b.toNat : Int))) (hl : l ≠ []) :
    (convert 112 9 v).run Tryz.prog W = .ok (.string ⟨l.toArray⟩) W := by
  obtain ⟨g, cap, rfl⟩ : ∃ g cap, v = .slice (some ⟨g, 0, none⟩) l.length cap := by
    rcases h.2 with ⟨_, h0⟩ | ⟨g, cap, cur, hv, _⟩
    · exact absurd (List.length_eq_zero_iff.1 h0) hl
    · exact ⟨g, cap, hv⟩
  refine run_convert_bytes_back (P := Tryz.prog) W 112 9 5 ⟨g, 0, none⟩ cap l (by kernel_rfl) (by kernel_rfl) (by kernel_rfl) ?_
  intro j hj
  refine h.cells rfl j _ ?_
  rw [List.getElem?_map, List.getElem?_eq_getElem hj]; rfl

set_option maxRecDepth 100000 in
set_option maxHeartbeats 4000000 in
theorem put_0 (V : Nat) (hs : scalar V = true) (h1 : 0 ≤ V) (h2 : V < 128) (w : World) (hF : FormsAt w) :
    Calls Tryz.prog 200 #[.int .i64 (V : Int)] w fun e w' => e = .returned (.tuple #[.string ⟨(put (V : Int)).toArray⟩, .bool true]) ∧ Below w.heap.size w w' := by
  have CS := Lib.hid (scalar_any V w)
  rw [hs] at CS
  obtain ⟨c, hc⟩ : ∃ c : Int, c = (V : Int) := ⟨_, rfl⟩
  have hput : put (V : Int) = [byte (c)] := by
    have := (scalar_iff V).1 hs
    rw [hc] 
    unfold put
    rw [if_neg (by omega), if_pos (by omega)]
  rw [hput, ← hc]
  rw [← hc] at CS
  have g1 : (0 : Int) ≤ c := by omega
  have g2 : c < 128 := by omega
  clear hs h1 h2 hput hc
  have HF := Lib.hid hF
  have k0 := hF.cell 0
  have k1 := hF.cell 1
  have k2 := hF.cell 2
  clear hF
  go_enter Tryz.func200, Tryz.ntmps200
  go_wp2_with fail
  refine CS.out.mono ?_
  rintro e w1 ⟨rfl, rfl⟩
  go_wp2_with fail
  refine wp_loop_rounds 1 ?_
  rw [rounds_succ]
  go_wp2_with fail
  have hor : bits .or .i64 0 c = c := by have := or_mark 7 0 c (by omega) (by omega) (by decide); simpa using this
  go_region
  all_goals go_wp2_with fail
  have hcv : ∀ (W : World) g, W.cell? ⟨g, 0, none⟩ = some (.int .u8 c) → (convert 112 9 (.slice (some ⟨g, 0, none⟩) 1 1)).run Tryz.prog W = .ok (.string ⟨#[byte c]⟩) W := fun W g k0 => conv1 W g c (by omega) k0
  refine wp_loop_rounds 1 ?_
  rw [rounds_succ]
  go_wp2_with fail
  go_ret2
  exact ⟨rfl, (((Below.refl _ _).alloc (Nat.le_refl _) _).alloc (by simp) _).drew⟩
set_option maxRecDepth 100000 in
set_option maxHeartbeats 4000000 in
theorem put_1 (V : Nat) (hs : scalar V = true) (h1 : 128 ≤ V) (h2 : V < 2048) (w : World) (hF : FormsAt w) :
    Calls Tryz.prog 200 #[.int .i64 (V : Int)] w fun e w' => e = .returned (.tuple #[.string ⟨(put (V : Int)).toArray⟩, .bool true]) ∧ Below w.heap.size w w' := by
  have CS := Lib.hid (scalar_any V w)
  rw [hs] at CS
  obtain ⟨c, hc⟩ : ∃ c : Int, c = (V : Int) := ⟨_, rfl⟩
  have hput : put (V : Int) = [byte (192 + c / 64), byte (128 + c % 64)] := by
    have := (scalar_iff V).1 hs
    rw [hc] 
    unfold put
    rw [if_neg (by omega), if_neg (by omega), if_pos (by omega)]
  rw [hput, ← hc]
  rw [← hc] at CS
  have g1 : (128 : Int) ≤ c := by omega
  have g2 : c < 2048 := by omega
  clear hs h1 h2 hput hc
  have HF := Lib.hid hF
  have k0 := hF.cell 0
  have k1 := hF.cell 1
  have k2 := hF.cell 2
  have k3 := hF.cell 3
  have k4 := hF.cell 4
  have k5 := hF.cell 5
  clear hF
  go_enter Tryz.func200, Tryz.ntmps200
  go_wp2_with fail
  refine CS.out.mono ?_
  rintro e w1 ⟨rfl, rfl⟩
  go_wp2_with fail
  refine wp_loop_rounds 2 ?_
  rw [rounds_succ]
  go_wp2_with fail
  rw [rounds_succ]
  go_wp2_with fail
  have hor : bits .or .i64 192 (c / 64) = 192 + c / 64 := or_mark 6 3 (c / 64) (by omega) (by omega) (by decide)
  go_region
  all_goals go_wp2_with fail
  obtain ⟨i0, hi, hz0, hz1, hz2⟩ := info_parts put_byte
  have hb0 : Below w.heap.size w ((w.alloc (.cells #[.int .i64 2048, .int .i64 192, .int .i64 1] 208)).alloc (.cells #[.int .u8 (192 + c / 64)] 5)).drew := (((Below.refl _ _).alloc (Nat.le_refl _) _).alloc (by simp) _).drew
  have ho0 : ((w.alloc (.cells #[.int .i64 2048, .int .i64 192, .int .i64 1] 208)).alloc (.cells #[.int .u8 (192 + c / 64)] 5)).drew.ownsRow w.heap.size 5 1 (.slice (some ⟨w.heap.size + 1, 0, none⟩) 1 1) 1 [.int .u8 (192 + c / 64)] := ⟨rfl, .inr ⟨w.heap.size + 1, 1, #[.int .u8 (192 + c / 64)], rfl, by omega, by have := heap_alloc_new (w.alloc (.cells #[.int .i64 2048, .int .i64 192, .int .i64 1] 208)) (.cells #[.int .u8 (192 + c / 64)] 5); rw [World.size_alloc] at this; exact this, by omega, by decide, rfl, rfl⟩⟩
  have hm0 : Blk ((w.alloc (.cells #[.int .i64 2048, .int .i64 192, .int .i64 1] 208)).alloc (.cells #[.int .u8 (192 + c / 64)] 5)).drew w.heap.size 208 #[.int .i64 2048, .int .i64 192, .int .i64 1] := ((Blk.new w _ _).alloc _).drew
  obtain ⟨W0, hW0⟩ : ∃ W0, ((w.alloc (.cells #[.int .i64 2048, .int .i64 192, .int .i64 1] 208)).alloc (.cells #[.int .u8 (192 + c / 64)] 5)).drew = W0 := ⟨_, rfl⟩
  rw [hW0] at hb0 ho0 hm0 ⊢
  clear hW0 hm0
  refine wp_loop_rounds 2 ?_
  rw [rounds_succ]
  have hor0 : bits .or .i64 128 (c % 64) = 128 + c % 64 := or_mark 6 2 (c % 64) (by omega) (by omega) (by decide)
  have hand0 : bits .and .i64 (c) 63 = c % 64 := and_63 _ (by omega) (by omega)
  go_wp2_with (at_builtin; refine wpList_append_own _ rfl _ _ 112 rfl w.heap.size 5 i0 (.int .u8 0) 1 1 Tryz.underlying112 hi hz0 hz1 hz2 rfl (by decide) _ _ _ rfl (ho0.alloc _) ⟨W0.heap.size, 0, none⟩ 1 1 [.int .u8 (128 + c % 64)] rfl rfl ?c10 ?c20 ?c30 ?c40 ?c50 ?_)
  case c10 =>
    intro j u hj
    match j, hj with
    | 0, hj => simp at hj; subst hj; simp [Addr.add]
  case c20 => intro u hu; simp at hu; subst hu; rfl
  case c30 => unfold maxLen; omega
  case c40 => omega
  case c50 => have := hb0.size; simp; omega
  intro v1 W1 hown hgrow _
  have ho1 : W1.ownsRow w.heap.size 5 1 v1 2 [.int .u8 (192 + c / 64), .int .u8 (128 + c % 64)] := hown
  have hb1 : Below w.heap.size w W1 := (hb0.alloc hb0.size _).grown hgrow (by have := hb0.size; simp; omega) (fun k hk => (ho0.lt k hk).1)
  clear hown hgrow hor0 hand0 ho0 hb0
  have hcv := put_conv W1 w.heap.size v1 [byte (192 + c / 64), byte (128 + c % 64)] (by simp only [List.map_cons, List.map_nil]; rw [byte_toNat (192 + c / 64) (by omega) (by omega), byte_toNat (128 + c % 64) (by omega) (by omega)]; exact ho1) (by simp)
  go_wp2_with fail
  rw [rounds_succ]
  go_wp2_with fail
  go_ret2
  exact ⟨rfl, hb1⟩
set_option maxRecDepth 100000 in
set_option maxHeartbeats 4000000 in
theorem put_2 (V : Nat) (hs : scalar V = true) (h1 : 2048 ≤ V) (h2 : V < 65536) (w : World) (hF : FormsAt w) :
    Calls Tryz.prog 200 #[.int .i64 (V : Int)] w fun e w' => e = .returned (.tuple #[.string ⟨(put (V : Int)).toArray⟩, .bool true]) ∧ Below w.heap.size w w' := by
  have CS := Lib.hid (scalar_any V w)
  rw [hs] at CS
  obtain ⟨c, hc⟩ : ∃ c : Int, c = (V : Int) := ⟨_, rfl⟩
  have hput : put (V : Int) = [byte (224 + c / 4096), byte (128 + c / 64 % 64), byte (128 + c % 64)] := by
    have := (scalar_iff V).1 hs
    rw [hc] 
    unfold put
    rw [if_neg (by omega), if_neg (by omega), if_neg (by omega), if_pos (by omega)]
  rw [hput, ← hc]
  rw [← hc] at CS
  have g1 : (2048 : Int) ≤ c := by omega
  have g2 : c < 65536 := by omega
  clear hs h1 h2 hput hc
  have HF := Lib.hid hF
  have k0 := hF.cell 0
  have k1 := hF.cell 1
  have k2 := hF.cell 2
  have k3 := hF.cell 3
  have k4 := hF.cell 4
  have k5 := hF.cell 5
  have k6 := hF.cell 6
  have k7 := hF.cell 7
  have k8 := hF.cell 8
  clear hF
  go_enter Tryz.func200, Tryz.ntmps200
  go_wp2_with fail
  refine CS.out.mono ?_
  rintro e w1 ⟨rfl, rfl⟩
  go_wp2_with fail
  refine wp_loop_rounds 3 ?_
  rw [rounds_succ]
  go_wp2_with fail
  rw [rounds_succ]
  go_wp2_with fail
  rw [rounds_succ]
  go_wp2_with fail
  have hor : bits .or .i64 224 (c / 4096) = 224 + c / 4096 := or_mark 5 7 (c / 4096) (by omega) (by omega) (by decide)
  go_region
  all_goals go_wp2_with fail
  obtain ⟨i0, hi, hz0, hz1, hz2⟩ := info_parts put_byte
  have hb0 : Below w.heap.size w ((w.alloc (.cells #[.int .i64 65536, .int .i64 224, .int .i64 2] 208)).alloc (.cells #[.int .u8 (224 + c / 4096)] 5)).drew := (((Below.refl _ _).alloc (Nat.le_refl _) _).alloc (by simp) _).drew
  have ho0 : ((w.alloc (.cells #[.int .i64 65536, .int .i64 224, .int .i64 2] 208)).alloc (.cells #[.int .u8 (224 + c / 4096)] 5)).drew.ownsRow w.heap.size 5 1 (.slice (some ⟨w.heap.size + 1, 0, none⟩) 1 1) 1 [.int .u8 (224 + c / 4096)] := ⟨rfl, .inr ⟨w.heap.size + 1, 1, #[.int .u8 (224 + c / 4096)], rfl, by omega, by have := heap_alloc_new (w.alloc (.cells #[.int .i64 65536, .int .i64 224, .int .i64 2] 208)) (.cells #[.int .u8 (224 + c / 4096)] 5); rw [World.size_alloc] at this; exact this, by omega, by decide, rfl, rfl⟩⟩
  have hm0 : Blk ((w.alloc (.cells #[.int .i64 65536, .int .i64 224, .int .i64 2] 208)).alloc (.cells #[.int .u8 (224 + c / 4096)] 5)).drew w.heap.size 208 #[.int .i64 65536, .int .i64 224, .int .i64 2] := ((Blk.new w _ _).alloc _).drew
  obtain ⟨W0, hW0⟩ : ∃ W0, ((w.alloc (.cells #[.int .i64 65536, .int .i64 224, .int .i64 2] 208)).alloc (.cells #[.int .u8 (224 + c / 4096)] 5)).drew = W0 := ⟨_, rfl⟩
  rw [hW0] at hb0 ho0 hm0 ⊢
  clear hW0 hm0
  refine wp_loop_rounds 3 ?_
  rw [rounds_succ]
  have hor0 : bits .or .i64 128 (c / 64 % 64) = 128 + c / 64 % 64 := or_mark 6 2 (c / 64 % 64) (by omega) (by omega) (by decide)
  have hand0 : bits .and .i64 (c / 64) 63 = c / 64 % 64 := and_63 _ (by omega) (by omega)
  go_wp2_with (at_builtin; refine wpList_append_own _ rfl _ _ 112 rfl w.heap.size 5 i0 (.int .u8 0) 1 1 Tryz.underlying112 hi hz0 hz1 hz2 rfl (by decide) _ _ _ rfl (ho0.alloc _) ⟨W0.heap.size, 0, none⟩ 1 1 [.int .u8 (128 + c / 64 % 64)] rfl rfl ?c10 ?c20 ?c30 ?c40 ?c50 ?_)
  case c10 =>
    intro j u hj
    match j, hj with
    | 0, hj => simp at hj; subst hj; simp [Addr.add]
  case c20 => intro u hu; simp at hu; subst hu; rfl
  case c30 => unfold maxLen; omega
  case c40 => omega
  case c50 => have := hb0.size; simp; omega
  intro v1 W1 hown hgrow _
  have ho1 : W1.ownsRow w.heap.size 5 1 v1 2 [.int .u8 (224 + c / 4096), .int .u8 (128 + c / 64 % 64)] := hown
  have hb1 : Below w.heap.size w W1 := (hb0.alloc hb0.size _).grown hgrow (by have := hb0.size; simp; omega) (fun k hk => (ho0.lt k hk).1)
  clear hown hgrow hor0 hand0 ho0 hb0
  go_wp2_with fail
  rw [rounds_succ]
  have hor1 : bits .or .i64 128 (c % 64) = 128 + c % 64 := or_mark 6 2 (c % 64) (by omega) (by omega) (by decide)
  have hand1 : bits .and .i64 (c) 63 = c % 64 := and_63 _ (by omega) (by omega)
  go_wp2_with (at_builtin; refine wpList_append_own _ rfl _ _ 112 rfl w.heap.size 5 i0 (.int .u8 0) 1 1 Tryz.underlying112 hi hz0 hz1 hz2 rfl (by decide) _ _ _ rfl (ho1.alloc _) ⟨W1.heap.size, 0, none⟩ 1 1 [.int .u8 (128 + c % 64)] rfl rfl ?c11 ?c21 ?c31 ?c41 ?c51 ?_)
  case c11 =>
    intro j u hj
    match j, hj with
    | 0, hj => simp at hj; subst hj; simp [Addr.add]
  case c21 => intro u hu; simp at hu; subst hu; rfl
  case c31 => unfold maxLen; omega
  case c41 => omega
  case c51 => have := hb1.size; simp; omega
  intro v2 W2 hown hgrow _
  have ho2 : W2.ownsRow w.heap.size 5 1 v2 3 [.int .u8 (224 + c / 4096), .int .u8 (128 + c / 64 % 64), .int .u8 (128 + c % 64)] := hown
  have hb2 : Below w.heap.size w W2 := (hb1.alloc hb1.size _).grown hgrow (by have := hb1.size; simp; omega) (fun k hk => (ho1.lt k hk).1)
  clear hown hgrow hor1 hand1 ho1 hb1
  have hcv := put_conv W2 w.heap.size v2 [byte (224 + c / 4096), byte (128 + c / 64 % 64), byte (128 + c % 64)] (by simp only [List.map_cons, List.map_nil]; rw [byte_toNat (224 + c / 4096) (by omega) (by omega), byte_toNat (128 + c / 64 % 64) (by omega) (by omega), byte_toNat (128 + c % 64) (by omega) (by omega)]; exact ho2) (by simp)
  go_wp2_with fail
  rw [rounds_succ]
  go_wp2_with fail
  go_ret2
  exact ⟨rfl, hb2⟩
set_option maxRecDepth 100000 in
set_option maxHeartbeats 4000000 in
theorem put_3 (V : Nat) (hs : scalar V = true) (h1 : 65536 ≤ V) (h2 : V < 1114112) (w : World) (hF : FormsAt w) :
    Calls Tryz.prog 200 #[.int .i64 (V : Int)] w fun e w' => e = .returned (.tuple #[.string ⟨(put (V : Int)).toArray⟩, .bool true]) ∧ Below w.heap.size w w' := by
  have CS := Lib.hid (scalar_any V w)
  rw [hs] at CS
  obtain ⟨c, hc⟩ : ∃ c : Int, c = (V : Int) := ⟨_, rfl⟩
  have hput : put (V : Int) = [byte (240 + c / 262144), byte (128 + c / 4096 % 64), byte (128 + c / 64 % 64), byte (128 + c % 64)] := by
    have := (scalar_iff V).1 hs
    rw [hc] 
    unfold put
    rw [if_neg (by omega), if_neg (by omega), if_neg (by omega), if_neg (by omega)]
  rw [hput, ← hc]
  rw [← hc] at CS
  have g1 : (65536 : Int) ≤ c := by omega
  have g2 : c < 1114112 := by omega
  clear hs h1 h2 hput hc
  have HF := Lib.hid hF
  have k0 := hF.cell 0
  have k1 := hF.cell 1
  have k2 := hF.cell 2
  have k3 := hF.cell 3
  have k4 := hF.cell 4
  have k5 := hF.cell 5
  have k6 := hF.cell 6
  have k7 := hF.cell 7
  have k8 := hF.cell 8
  have k9 := hF.cell 9
  have k10 := hF.cell 10
  have k11 := hF.cell 11
  clear hF
  go_enter Tryz.func200, Tryz.ntmps200
  go_wp2_with fail
  refine CS.out.mono ?_
  rintro e w1 ⟨rfl, rfl⟩
  go_wp2_with fail
  refine wp_loop_rounds 4 ?_
  rw [rounds_succ]
  go_wp2_with fail
  rw [rounds_succ]
  go_wp2_with fail
  rw [rounds_succ]
  go_wp2_with fail
  rw [rounds_succ]
  go_wp2_with fail
  have hor : bits .or .i64 240 (c / 262144) = 240 + c / 262144 := or_mark 4 15 (c / 262144) (by omega) (by omega) (by decide)
  go_region
  all_goals go_wp2_with fail
  obtain ⟨i0, hi, hz0, hz1, hz2⟩ := info_parts put_byte
  have hb0 : Below w.heap.size w ((w.alloc (.cells #[.int .i64 1114112, .int .i64 240, .int .i64 3] 208)).alloc (.cells #[.int .u8 (240 + c / 262144)] 5)).drew := (((Below.refl _ _).alloc (Nat.le_refl _) _).alloc (by simp) _).drew
  have ho0 : ((w.alloc (.cells #[.int .i64 1114112, .int .i64 240, .int .i64 3] 208)).alloc (.cells #[.int .u8 (240 + c / 262144)] 5)).drew.ownsRow w.heap.size 5 1 (.slice (some ⟨w.heap.size + 1, 0, none⟩) 1 1) 1 [.int .u8 (240 + c / 262144)] := ⟨rfl, .inr ⟨w.heap.size + 1, 1, #[.int .u8 (240 + c / 262144)], rfl, by omega, by have := heap_alloc_new (w.alloc (.cells #[.int .i64 1114112, .int .i64 240, .int .i64 3] 208)) (.cells #[.int .u8 (240 + c / 262144)] 5); rw [World.size_alloc] at this; exact this, by omega, by decide, rfl, rfl⟩⟩
  have hm0 : Blk ((w.alloc (.cells #[.int .i64 1114112, .int .i64 240, .int .i64 3] 208)).alloc (.cells #[.int .u8 (240 + c / 262144)] 5)).drew w.heap.size 208 #[.int .i64 1114112, .int .i64 240, .int .i64 3] := ((Blk.new w _ _).alloc _).drew
  obtain ⟨W0, hW0⟩ : ∃ W0, ((w.alloc (.cells #[.int .i64 1114112, .int .i64 240, .int .i64 3] 208)).alloc (.cells #[.int .u8 (240 + c / 262144)] 5)).drew = W0 := ⟨_, rfl⟩
  rw [hW0] at hb0 ho0 hm0 ⊢
  clear hW0 hm0
  refine wp_loop_rounds 4 ?_
  rw [rounds_succ]
  have hor0 : bits .or .i64 128 (c / 4096 % 64) = 128 + c / 4096 % 64 := or_mark 6 2 (c / 4096 % 64) (by omega) (by omega) (by decide)
  have hand0 : bits .and .i64 (c / 4096) 63 = c / 4096 % 64 := and_63 _ (by omega) (by omega)
  go_wp2_with (at_builtin; refine wpList_append_own _ rfl _ _ 112 rfl w.heap.size 5 i0 (.int .u8 0) 1 1 Tryz.underlying112 hi hz0 hz1 hz2 rfl (by decide) _ _ _ rfl (ho0.alloc _) ⟨W0.heap.size, 0, none⟩ 1 1 [.int .u8 (128 + c / 4096 % 64)] rfl rfl ?c10 ?c20 ?c30 ?c40 ?c50 ?_)
  case c10 =>
    intro j u hj
    match j, hj with
    | 0, hj => simp at hj; subst hj; simp [Addr.add]
  case c20 => intro u hu; simp at hu; subst hu; rfl
  case c30 => unfold maxLen; omega
  case c40 => omega
  case c50 => have := hb0.size; simp; omega
  intro v1 W1 hown hgrow _
  have ho1 : W1.ownsRow w.heap.size 5 1 v1 2 [.int .u8 (240 + c / 262144), .int .u8 (128 + c / 4096 % 64)] := hown
  have hb1 : Below w.heap.size w W1 := (hb0.alloc hb0.size _).grown hgrow (by have := hb0.size; simp; omega) (fun k hk => (ho0.lt k hk).1)
  clear hown hgrow hor0 hand0 ho0 hb0
  go_wp2_with fail
  rw [rounds_succ]
  have hor1 : bits .or .i64 128 (c / 64 % 64) = 128 + c / 64 % 64 := or_mark 6 2 (c / 64 % 64) (by omega) (by omega) (by decide)
  have hand1 : bits .and .i64 (c / 64) 63 = c / 64 % 64 := and_63 _ (by omega) (by omega)
  go_wp2_with (at_builtin; refine wpList_append_own _ rfl _ _ 112 rfl w.heap.size 5 i0 (.int .u8 0) 1 1 Tryz.underlying112 hi hz0 hz1 hz2 rfl (by decide) _ _ _ rfl (ho1.alloc _) ⟨W1.heap.size, 0, none⟩ 1 1 [.int .u8 (128 + c / 64 % 64)] rfl rfl ?c11 ?c21 ?c31 ?c41 ?c51 ?_)
  case c11 =>
    intro j u hj
    match j, hj with
    | 0, hj => simp at hj; subst hj; simp [Addr.add]
  case c21 => intro u hu; simp at hu; subst hu; rfl
  case c31 => unfold maxLen; omega
  case c41 => omega
  case c51 => have := hb1.size; simp; omega
  intro v2 W2 hown hgrow _
  have ho2 : W2.ownsRow w.heap.size 5 1 v2 3 [.int .u8 (240 + c / 262144), .int .u8 (128 + c / 4096 % 64), .int .u8 (128 + c / 64 % 64)] := hown
  have hb2 : Below w.heap.size w W2 := (hb1.alloc hb1.size _).grown hgrow (by have := hb1.size; simp; omega) (fun k hk => (ho1.lt k hk).1)
  clear hown hgrow hor1 hand1 ho1 hb1
  go_wp2_with fail
  rw [rounds_succ]
  have hor2 : bits .or .i64 128 (c % 64) = 128 + c % 64 := or_mark 6 2 (c % 64) (by omega) (by omega) (by decide)
  have hand2 : bits .and .i64 (c) 63 = c % 64 := and_63 _ (by omega) (by omega)
  go_wp2_with (at_builtin; refine wpList_append_own _ rfl _ _ 112 rfl w.heap.size 5 i0 (.int .u8 0) 1 1 Tryz.underlying112 hi hz0 hz1 hz2 rfl (by decide) _ _ _ rfl (ho2.alloc _) ⟨W2.heap.size, 0, none⟩ 1 1 [.int .u8 (128 + c % 64)] rfl rfl ?c12 ?c22 ?c32 ?c42 ?c52 ?_)
  case c12 =>
    intro j u hj
    match j, hj with
    | 0, hj => simp at hj; subst hj; simp [Addr.add]
  case c22 => intro u hu; simp at hu; subst hu; rfl
  case c32 => unfold maxLen; omega
  case c42 => omega
  case c52 => have := hb2.size; simp; omega
  intro v3 W3 hown hgrow _
  have ho3 : W3.ownsRow w.heap.size 5 1 v3 4 [.int .u8 (240 + c / 262144), .int .u8 (128 + c / 4096 % 64), .int .u8 (128 + c / 64 % 64), .int .u8 (128 + c % 64)] := hown
  have hb3 : Below w.heap.size w W3 := (hb2.alloc hb2.size _).grown hgrow (by have := hb2.size; simp; omega) (fun k hk => (ho2.lt k hk).1)
  clear hown hgrow hor2 hand2 ho2 hb2
  have hcv := put_conv W3 w.heap.size v3 [byte (240 + c / 262144), byte (128 + c / 4096 % 64), byte (128 + c / 64 % 64), byte (128 + c % 64)] (by simp only [List.map_cons, List.map_nil]; rw [byte_toNat (240 + c / 262144) (by omega) (by omega), byte_toNat (128 + c / 4096 % 64) (by omega) (by omega), byte_toNat (128 + c / 64 % 64) (by omega) (by omega), byte_toNat (128 + c % 64) (by omega) (by omega)]; exact ho3) (by simp)
  go_wp2_with fail
  rw [rounds_succ]
  go_wp2_with fail
  go_ret2
  exact ⟨rfl, hb3⟩
theorem put_any (V : Nat) (hs : scalar V = true) (w : World) (hF : FormsAt w) :
    Calls Tryz.prog 200 #[.int .i64 (V : Int)] w fun e w' => e = .returned (.tuple #[.string ⟨(put (V : Int)).toArray⟩, .bool true]) ∧ Below w.heap.size w w' := by
  have hb : V < 1114112 := by
    unfold scalar at hs; simp at hs; omega
  by_cases h1 : V < 128
  · exact put_0 V hs (by omega) h1 w hF
  by_cases h2 : V < 2048
  · exact put_1 V hs (by omega) h2 w hF
  by_cases h3 : V < 65536
  · exact put_2 V hs (by omega) h3 w hF
  exact put_3 V hs (by omega) hb w hF
end Go.Proofs.YtdfihhebgllpcaaGreatDoor
