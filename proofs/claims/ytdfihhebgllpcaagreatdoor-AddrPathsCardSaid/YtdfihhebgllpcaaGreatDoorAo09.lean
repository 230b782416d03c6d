import Derived.Test.YtdfihhebgllpcaaGreatDoorAo07
import Derived.Test.YtdfihhebgllpcaaGreatDoorAo03
import Derived.Test.YtdfihhebgllpcaaGreatDoorAo08

/- quote's reader.escape. -/
namespace Go.Proofs.YtdfihhebgllpcaaGreatDoor
open Go.RowKit Go.Proofs.QuotePlain Go.Proofs.UtfPlain

/-- What a sign behind a backslash stands for, by its place among the signs. -/
def signsL : List UInt8 := [34, 92, 47, 98, 102, 110, 114, 116]
def meansL : List UInt8 := [34, 92, 47, 8, 12, 10, 13, 9]
theorem sign_at (d : UInt8) : (unshort d = [] ∧ Lib.indexByte signsL d = -1) ∨ ∃ k : Nat, k < 8 ∧ Lib.indexByte signsL d = (k : Int) ∧ unshort d = (meansL.drop k).take 1 ∧ unshort d ≠ [] := by
  have := all_u8 (fun d => (decide (unshort d = []) && decide (Lib.indexByte signsL d = -1)) || ((List.range 8).any fun k => decide (Lib.indexByte signsL d = (k : Int)) && (decide ((unshort d) = (meansL.drop k).take 1) && !decide (unshort d = [])))) (by decide +kernel) d
  simp only [Bool.or_eq_true, Bool.and_eq_true, decide_eq_true_eq, List.any_eq_true, List.mem_range, Bool.not_eq_true', decide_eq_false_iff_not] at this
  rcases this with h | ⟨k, h1, h2, h3, h4⟩
  · exact .inl h
  · exact .inr ⟨k, h1, h2, h3, h4⟩
theorem index_sign (c : UInt8) (k : Int) (hk : Lib.indexByte signsL c = k) (w : World) : Calls Tryz.prog 122 #[.string ⟨#[34, 92, 47, 98, 102, 110, 114, 116]⟩, .int .u8 (c.toNat : Int)] w fun e w' => e = .returned (.int .i64 k) ∧ w = w' := by
  refine (Tryz.strings_IndexByte ⟨#[34, 92, 47, 98, 102, 110, 114, 116]⟩ (c.toNat : Int) w).mono ?_
  rintro e w' ⟨rfl, rfl⟩
  refine ⟨?_, rfl⟩
  rw [Int.toNat_natCast, show c.toNat.toUInt8 = c from by simp, ← hk]
  rfl
theorem means_at (k : Nat) : (⟨#[34, 92, 47, 8, 12, 10, 13, 9]⟩ : ByteArray).extract k (k + 1) = ⟨((meansL.drop k).take 1).toArray⟩ := by
  refine bytes_eta _ _ ?_
  rw [data_extract, Nat.add_sub_cancel_left]
  rfl

set_option maxRecDepth 100000 in
set_option maxHeartbeats 2000000 in
theorem esc_end (g : Nat) (b : ByteArray) (k : Nat) (w : World) (hR : Rdr w g b k) (hk : b.size ≤ k) :
    Calls Tryz.prog 177 #[.pointer (some ⟨g, 0, none⟩)] w fun e w' => e = gaveUp 2 ∧ Turn g w w' := by
  have C := Lib.hid (rbyte_no g b k w hR hk)
  clear hR
  go_enter Tryz.func177, Tryz.ntmps177
  go_wp2_with fail
  refine C.out.mono ?_
  rintro e w1 ⟨rfl, h2⟩
  have H2 := Lib.hid h2
  clear h2
  go_wp2_with fail
  exact ⟨rfl, rfl, H2.out⟩
set_option maxRecDepth 100000 in
set_option maxHeartbeats 2000000 in
theorem besc_short (g : Nat) (b : ByteArray) (k : Nat) (w : World) (hs : b.size ≤ 1000000) (hR : Rdr w g b k) (hk : k < b.size) (d : UInt8) (hd : b[k] = d) (K : Nat) (hK : K < 8) (hI : Lib.indexByte signsL d = (K : Int)) :
    Calls Tryz.prog 177 #[.pointer (some ⟨g, 0, none⟩)] w fun e w' => e = .returned (.string ⟨((meansL.drop K).take 1).toArray⟩) ∧ Rdr w' g b (k + 1) ∧ Turn g w w' := by
  have C := Lib.hid (rbyte_yes g b k w hs hR hk)
  rw [hd] at C
  have hd8 : d.toNat < 256 := d.toNat_lt
  have CI := Lib.hid (fun w => index_sign d _ hI w)
  clear hR hd hI
  have hK0 : (0 : Int) ≤ (K : Int) := by omega
  obtain ⟨M, hM1⟩ : ∃ M : Nat, M = K + 1 := ⟨_, rfl⟩
  have hM2 : (K : Int) + 1 = (M : Int) := by omega
  have hM3 : M ≤ 8 := by omega
  have hM4 : K ≤ M := by omega
  have hM := means_at K
  rw [← hM1] at hM
  have HM := Lib.hid hM
  clear hM hM1
  have hsl : ∀ W, (Instr.slice 9 (.string ⟨#[34, 92, 47, 8, 12, 10, 13, 9]⟩) (some (.int .i64 (K : Int))) (some (.int .i64 (M : Int))) none).run Tryz.prog W = .ok (.string ((⟨#[34, 92, 47, 8, 12, 10, 13, 9]⟩ : ByteArray).extract K M)) W := fun W => by
    have h8 : (⟨#[34, 92, 47, 8, 12, 10, 13, 9]⟩ : ByteArray).size = 8 := rfl
    have := run_slice_string (P := Tryz.prog) W 9 ⟨#[34, 92, 47, 8, 12, 10, 13, 9]⟩ .i64 .i64 (K : Int) (M : Int) (by kernel_rfl) (by omega) (by omega) (by rw [h8]; omega)
    simpa using this
  go_enter Tryz.func177, Tryz.ntmps177
  go_wp2_with fail
  refine C.out.mono ?_
  rintro e w1 ⟨rfl, h1, h2⟩
  have H1 := Lib.hid h1
  have H2 := Lib.hid h2
  clear h1 h2
  go_wp2_with fail
  refine (CI.out _).mono ?_
  rintro e w2 ⟨rfl, rfl⟩
  go_wp2_with fail
  go_ret
  exact ⟨congrArg (fun z => Ending.returned (.string z)) HM.out, H1.out, H2.out⟩
set_option maxRecDepth 100000 in
set_option maxHeartbeats 2000000 in
theorem esc_not (g : Nat) (b : ByteArray) (k : Nat) (w : World) (hs : b.size ≤ 1000000) (hR : Rdr w g b k) (hk : k < b.size) (d : UInt8) (hd : b[k] = d) (hI : Lib.indexByte signsL d = -1) (hu : d ≠ 117) :
    Calls Tryz.prog 177 #[.pointer (some ⟨g, 0, none⟩)] w fun e w' => e = gaveUp 3 ∧ Turn g w w' := by
  have C := Lib.hid (rbyte_yes g b k w hs hR hk)
  rw [hd] at C
  have hd8 : d.toNat < 256 := d.toNat_lt
  have CI := Lib.hid (fun w => index_sign d _ hI w)
  clear hR hd hI
  have hne : ((d.toNat : Int) == 117) = false := by
    rw [beq_eq_false_iff_ne]; intro e; exact hu (UInt8.toNat_inj.1 (by show d.toNat = 117; omega))
  have hne2 : ¬ d.toNat = 117 := fun e => hu (UInt8.toNat_inj.1 e)
  go_enter Tryz.func177, Tryz.ntmps177
  go_wp2_with fail
  refine C.out.mono ?_
  rintro e w1 ⟨rfl, h1, h2⟩
  have H1 := Lib.hid h1
  have H2 := Lib.hid h2
  clear h1 h2
  go_wp2_with fail
  refine (CI.out _).mono ?_
  rintro e w2 ⟨rfl, rfl⟩
  go_wp2_with fail
  refine (must_no 3 _).mono ?_
  rintro e w3 ⟨rfl, rfl⟩
  go_wp2_with fail
  exact ⟨rfl, rfl, H2.out⟩
set_option maxRecDepth 100000 in
set_option maxHeartbeats 2000000 in
theorem esc_u_err (g : Nat) (b : ByteArray) (k : Nat) (w : World) (hs : b.size ≤ 1000000) (hR : Rdr w g b k) (hk : k < b.size) (hd : b[k] = 117) (U : Nat × Nat) (hU : unitF 4 0 (b.data.toList.drop (k + 1)) = U) (h : U.1 ≠ 0) :
    Calls Tryz.prog 177 #[.pointer (some ⟨g, 0, none⟩)] w fun e w' => e = gaveUp U.1 ∧ Turn g w w' := by
  have C := Lib.hid (rbyte_yes g b k w hs hR hk)
  rw [hd] at C
  have CI := Lib.hid (fun w => index_sign 117 (-1) (by decide) w)
  have CU := Lib.hid (fun w (h : Rdr w g b (k + 1)) => unit_any g b (k + 1) w hs h U hU)
  clear hR hd hU
  have HH := Lib.hid h
  clear h
  go_enter Tryz.func177, Tryz.ntmps177
  go_wp2_with fail
  refine C.out.mono ?_
  rintro e w1 ⟨rfl, h1, h2⟩
  have H1 := Lib.hid h1
  have H2 := Lib.hid h2
  clear h1 h2
  go_wp2_with fail
  refine (CI.out _).mono ?_
  rintro e w2 ⟨rfl, rfl⟩
  go_wp2_with fail
  refine (must_yes 3 _).mono ?_
  rintro e w2 ⟨rfl, rfl⟩
  go_wp2_with fail
  refine (CU.out _ H1.out).mono ?_
  rintro e w3 (⟨h0, _⟩ | ⟨_, rfl, h3⟩)
  · exact absurd h0 HH.out
  have H3 := Lib.hid (H2.out.trans h3)
  clear h3
  go_wp2_with fail
  exact ⟨rfl, rfl, H3.out⟩
set_option maxRecDepth 100000 in
set_option maxHeartbeats 2000000 in
theorem esc_u_low (g : Nat) (b : ByteArray) (k : Nat) (w : World) (hs : b.size ≤ 1000000) (hR : Rdr w g b k) (hk : k < b.size) (hd : b[k] = 117) (U : Nat × Nat) (hU : unitF 4 0 (b.data.toList.drop (k + 1)) = U) (h : U.1 = 0) (ha : 56320 ≤ U.2) (hb : U.2 ≤ 57343) :
    Calls Tryz.prog 177 #[.pointer (some ⟨g, 0, none⟩)] w fun e w' => e = gaveUp 3 ∧ Turn g w w' := by
  obtain ⟨n, hn⟩ : ∃ n : Int, n = (U.2 : Int) := ⟨_, rfl⟩
  have C := Lib.hid (rbyte_yes g b k w hs hR hk)
  rw [hd] at C
  have CI := Lib.hid (fun w => index_sign 117 (-1) (by decide) w)
  have CU := Lib.hid (fun w (h : Rdr w g b (k + 1)) => unit_any g b (k + 1) w hs h U hU)
  clear hR hd hU
  have HH := Lib.hid h
  rw [← hn] at CU
  have ha1 : ¬ n < 56320 := by omega
  have hb1 : ¬ (57343 : Int) < n := by omega
  have ha2 : decide (n < 56320) = false := decide_eq_false ha1
  have hb2 : decide (57343 < n) = false := decide_eq_false hb1
  clear h hn
  go_enter Tryz.func177, Tryz.ntmps177
  go_wp2_with fail
  refine C.out.mono ?_
  rintro e w1 ⟨rfl, h1, h2⟩
  have H1 := Lib.hid h1
  have H2 := Lib.hid h2
  clear h1 h2
  go_wp2_with fail
  refine (CI.out _).mono ?_
  rintro e w2 ⟨rfl, rfl⟩
  go_wp2_with fail
  refine (must_yes 3 _).mono ?_
  rintro e w2 ⟨rfl, rfl⟩
  go_wp2_with fail
  refine (CU.out _ H1.out).mono ?_
  rintro e w3 (⟨_, rfl, h1, h3⟩ | ⟨h0, _⟩)
  case inr => exact absurd HH.out h0
  have R3 := Lib.hid h1
  have T3 := Lib.hid (H2.out.trans h3)
  clear h1 h3
  go_wp2_with fail
  refine (must_no 3 _).mono ?_
  rintro e w4 ⟨rfl, rfl⟩
  go_wp2_with fail
  exact ⟨rfl, rfl, T3.out⟩
set_option maxRecDepth 100000 in
set_option maxHeartbeats 2000000 in
theorem esc_u_a (g : Nat) (b : ByteArray) (k : Nat) (w : World) (hs : b.size ≤ 1000000) (hR : Rdr w g b k) (hk : k < b.size) (hd : b[k] = 117) (U : Nat × Nat) (hU : unitF 4 0 (b.data.toList.drop (k + 1)) = U) (hF : FormsAt w) (hg : 2 ≠ g) (h : U.1 = 0) (ha : U.2 < 55296) :
    Calls Tryz.prog 177 #[.pointer (some ⟨g, 0, none⟩)] w fun e w' => e = .returned (.string ⟨(put (U.2 : Int)).toArray⟩) ∧ Rdr w' g b (k + 1 + 4) ∧ Turn g w w' := by
  obtain ⟨n, hn⟩ : ∃ n : Int, n = (U.2 : Int) := ⟨_, rfl⟩
  have C := Lib.hid (rbyte_yes g b k w hs hR hk)
  rw [hd] at C
  have CI := Lib.hid (fun w => index_sign 117 (-1) (by decide) w)
  have CU := Lib.hid (fun w (h : Rdr w g b (k + 1)) => unit_any g b (k + 1) w hs h U hU)
  clear hR hd hU
  have HH := Lib.hid h
  have hsc : scalar U.2 = true := by unfold scalar; simp; omega
  have CP := Lib.hid (fun w hF => put_any U.2 hsc w hF)
  rw [← hn] at CU CP ⊢
  have HF := Lib.hid hF
  have a1 : n < 56320 := by omega
  have a2 : ¬ (55296 : Int) ≤ n := by omega
  clear h hF hsc ha hn
  go_enter Tryz.func177, Tryz.ntmps177
  go_wp2_with fail
  refine C.out.mono ?_
  rintro e w1 ⟨rfl, h1, h2⟩
  have H1 := Lib.hid h1
  have H2 := Lib.hid h2
  clear h1 h2
  go_wp2_with fail
  refine (CI.out _).mono ?_
  rintro e w2 ⟨rfl, rfl⟩
  go_wp2_with fail
  refine (must_yes 3 _).mono ?_
  rintro e w2 ⟨rfl, rfl⟩
  go_wp2_with fail
  refine (CU.out _ H1.out).mono ?_
  rintro e w3 (⟨_, rfl, h1, h3⟩ | ⟨h0, _⟩)
  case inr => exact absurd HH.out h0
  have R3 := Lib.hid h1
  have T3 := Lib.hid (H2.out.trans h3)
  clear h1 h3
  go_wp2_with fail
  refine (must_yes 3 _).mono ?_
  rintro e w4 ⟨rfl, rfl⟩
  go_wp2_with fail
  refine (CP.out _ ((HF.out).turn T3.out hg)).mono ?_
  rintro e w5 ⟨rfl, h5⟩
  have R5 := Lib.hid (R3.out.below h5 R3.out.lt)
  have T5 := Lib.hid (T3.out.trans (Turn.of_below h5))
  clear h5
  go_wp2_with fail
  go_ret
  exact ⟨rfl, R5.out, T5.out⟩
set_option maxRecDepth 100000 in
set_option maxHeartbeats 2000000 in
theorem esc_u_b (g : Nat) (b : ByteArray) (k : Nat) (w : World) (hs : b.size ≤ 1000000) (hR : Rdr w g b k) (hk : k < b.size) (hd : b[k] = 117) (U : Nat × Nat) (hU : unitF 4 0 (b.data.toList.drop (k + 1)) = U) (hF : FormsAt w) (hg : 2 ≠ g) (h : U.1 = 0) (ha : 57343 < U.2) (hb : U.2 < 65536) :
    Calls Tryz.prog 177 #[.pointer (some ⟨g, 0, none⟩)] w fun e w' => e = .returned (.string ⟨(put (U.2 : Int)).toArray⟩) ∧ Rdr w' g b (k + 1 + 4) ∧ Turn g w w' := by
  obtain ⟨n, hn⟩ : ∃ n : Int, n = (U.2 : Int) := ⟨_, rfl⟩
  have C := Lib.hid (rbyte_yes g b k w hs hR hk)
  rw [hd] at C
  have CI := Lib.hid (fun w => index_sign 117 (-1) (by decide) w)
  have CU := Lib.hid (fun w (h : Rdr w g b (k + 1)) => unit_any g b (k + 1) w hs h U hU)
  clear hR hd hU
  have HH := Lib.hid h
  have hsc : scalar U.2 = true := by unfold scalar; simp; omega
  have CP := Lib.hid (fun w hF => put_any U.2 hsc w hF)
  rw [← hn] at CU CP ⊢
  have HF := Lib.hid hF
  have a1 : ¬ n < 56320 := by omega
  have a2 : (57343 : Int) < n := by omega
  have a3 : (55296 : Int) ≤ n := by omega
  clear h hF hsc ha hn hb
  go_enter Tryz.func177, Tryz.ntmps177
  go_wp2_with fail
  refine C.out.mono ?_
  rintro e w1 ⟨rfl, h1, h2⟩
  have H1 := Lib.hid h1
  have H2 := Lib.hid h2
  clear h1 h2
  go_wp2_with fail
  refine (CI.out _).mono ?_
  rintro e w2 ⟨rfl, rfl⟩
  go_wp2_with fail
  refine (must_yes 3 _).mono ?_
  rintro e w2 ⟨rfl, rfl⟩
  go_wp2_with fail
  refine (CU.out _ H1.out).mono ?_
  rintro e w3 (⟨_, rfl, h1, h3⟩ | ⟨h0, _⟩)
  case inr => exact absurd HH.out h0
  have R3 := Lib.hid h1
  have T3 := Lib.hid (H2.out.trans h3)
  clear h1 h3
  go_wp2_with fail
  refine (must_yes 3 _).mono ?_
  rintro e w4 ⟨rfl, rfl⟩
  go_wp2_with fail
  refine (CP.out _ ((HF.out).turn T3.out hg)).mono ?_
  rintro e w5 ⟨rfl, h5⟩
  have R5 := Lib.hid (R3.out.below h5 R3.out.lt)
  have T5 := Lib.hid (T3.out.trans (Turn.of_below h5))
  clear h5
  go_wp2_with fail
  go_ret
  exact ⟨rfl, R5.out, T5.out⟩
set_option maxRecDepth 100000 in
set_option maxHeartbeats 2000000 in
theorem esc_h1 (g : Nat) (b : ByteArray) (k : Nat) (w : World) (hs : b.size ≤ 1000000) (hR : Rdr w g b k) (hk : k < b.size) (hd : b[k] = 117) (U : Nat × Nat) (hU : unitF 4 0 (b.data.toList.drop (k + 1)) = U) (h : U.1 = 0) (ha : 55296 ≤ U.2) (hb : U.2 < 56320) (hx : b.size ≤ k + 1 + 4) :
    Calls Tryz.prog 177 #[.pointer (some ⟨g, 0, none⟩)] w fun e w' => e = gaveUp 2 ∧ Turn g w w' := by
  obtain ⟨n, hn⟩ : ∃ n : Int, n = (U.2 : Int) := ⟨_, rfl⟩
  have C := Lib.hid (rbyte_yes g b k w hs hR hk)
  rw [hd] at C
  have CI := Lib.hid (fun w => index_sign 117 (-1) (by decide) w)
  have CU := Lib.hid (fun w (h : Rdr w g b (k + 1)) => unit_any g b (k + 1) w hs h U hU)
  clear hR hd hU
  have HH := Lib.hid h
  rw [← hn] at CU
  have a1 : n < 56320 := by omega
  have a2 : (55296 : Int) ≤ n := by omega
  clear h hn
  have CE := Lib.hid (fun w (hR : Rdr w g b (k + 1 + 4)) => rexact_end g b (k + 1 + 4) 92 w hR hx)
  clear hx
  go_enter Tryz.func177, Tryz.ntmps177
  go_wp2_with fail
  refine C.out.mono ?_
  rintro e w1 ⟨rfl, h1, h2⟩
  have H1 := Lib.hid h1
  have H2 := Lib.hid h2
  clear h1 h2
  go_wp2_with fail
  refine (CI.out _).mono ?_
  rintro e w2 ⟨rfl, rfl⟩
  go_wp2_with fail
  refine (must_yes 3 _).mono ?_
  rintro e w2 ⟨rfl, rfl⟩
  go_wp2_with fail
  refine (CU.out _ H1.out).mono ?_
  rintro e w3 (⟨_, rfl, h1, h3⟩ | ⟨h0, _⟩)
  case inr => exact absurd HH.out h0
  have R3 := Lib.hid h1
  have T3 := Lib.hid (H2.out.trans h3)
  clear h1 h3
  go_wp2_with fail
  refine (must_yes 3 _).mono ?_
  rintro e w4 ⟨rfl, rfl⟩
  go_wp2_with fail
  refine (CE.out _ R3.out).mono ?_
  rintro e w5 ⟨rfl, h5⟩
  have T5 := Lib.hid (T3.out.trans h5)
  clear h5
  go_wp2_with fail
  exact ⟨rfl, rfl, T5.out⟩
set_option maxRecDepth 100000 in
set_option maxHeartbeats 2000000 in
theorem esc_h2 (g : Nat) (b : ByteArray) (k : Nat) (w : World) (hs : b.size ≤ 1000000) (hR : Rdr w g b k) (hk : k < b.size) (hd : b[k] = 117) (U : Nat × Nat) (hU : unitF 4 0 (b.data.toList.drop (k + 1)) = U) (h : U.1 = 0) (ha : 55296 ≤ U.2) (hb : U.2 < 56320) (hx : k + 1 + 4 < b.size) (x : UInt8) (hbx : b[k + 1 + 4] = x) (hne : x ≠ 92) :
    Calls Tryz.prog 177 #[.pointer (some ⟨g, 0, none⟩)] w fun e w' => e = gaveUp 3 ∧ Turn g w w' := by
  obtain ⟨n, hn⟩ : ∃ n : Int, n = (U.2 : Int) := ⟨_, rfl⟩
  have C := Lib.hid (rbyte_yes g b k w hs hR hk)
  rw [hd] at C
  have CI := Lib.hid (fun w => index_sign 117 (-1) (by decide) w)
  have CU := Lib.hid (fun w (h : Rdr w g b (k + 1)) => unit_any g b (k + 1) w hs h U hU)
  clear hR hd hU
  have HH := Lib.hid h
  rw [← hn] at CU
  have a1 : n < 56320 := by omega
  have a2 : (55296 : Int) ≤ n := by omega
  clear h hn
  have CE := Lib.hid (fun w (hR : Rdr w g b (k + 1 + 4)) => rexact_no g b (k + 1 + 4) 92 x w hs hR hx hbx hne)
  clear hx hbx hne
  go_enter Tryz.func177, Tryz.ntmps177
  go_wp2_with fail
  refine C.out.mono ?_
  rintro e w1 ⟨rfl, h1, h2⟩
  have H1 := Lib.hid h1
  have H2 := Lib.hid h2
  clear h1 h2
  go_wp2_with fail
  refine (CI.out _).mono ?_
  rintro e w2 ⟨rfl, rfl⟩
  go_wp2_with fail
  refine (must_yes 3 _).mono ?_
  rintro e w2 ⟨rfl, rfl⟩
  go_wp2_with fail
  refine (CU.out _ H1.out).mono ?_
  rintro e w3 (⟨_, rfl, h1, h3⟩ | ⟨h0, _⟩)
  case inr => exact absurd HH.out h0
  have R3 := Lib.hid h1
  have T3 := Lib.hid (H2.out.trans h3)
  clear h1 h3
  go_wp2_with fail
  refine (must_yes 3 _).mono ?_
  rintro e w4 ⟨rfl, rfl⟩
  go_wp2_with fail
  refine (CE.out _ R3.out).mono ?_
  rintro e w5 ⟨rfl, h5⟩
  have T5 := Lib.hid (T3.out.trans h5)
  clear h5
  go_wp2_with fail
  exact ⟨rfl, rfl, T5.out⟩
set_option maxRecDepth 100000 in
set_option maxHeartbeats 2000000 in
theorem esc_h3 (g : Nat) (b : ByteArray) (k : Nat) (w : World) (hs : b.size ≤ 1000000) (hR : Rdr w g b k) (hk : k < b.size) (hd : b[k] = 117) (U : Nat × Nat) (hU : unitF 4 0 (b.data.toList.drop (k + 1)) = U) (h : U.1 = 0) (ha : 55296 ≤ U.2) (hb : U.2 < 56320) (hx : k + 1 + 4 < b.size) (hbx : b[k + 1 + 4] = 92) (hy : b.size ≤ k + 1 + 4 + 1) :
    Calls Tryz.prog 177 #[.pointer (some ⟨g, 0, none⟩)] w fun e w' => e = gaveUp 2 ∧ Turn g w w' := by
  obtain ⟨n, hn⟩ : ∃ n : Int, n = (U.2 : Int) := ⟨_, rfl⟩
  have C := Lib.hid (rbyte_yes g b k w hs hR hk)
  rw [hd] at C
  have CI := Lib.hid (fun w => index_sign 117 (-1) (by decide) w)
  have CU := Lib.hid (fun w (h : Rdr w g b (k + 1)) => unit_any g b (k + 1) w hs h U hU)
  clear hR hd hU
  have HH := Lib.hid h
  rw [← hn] at CU
  have a1 : n < 56320 := by omega
  have a2 : (55296 : Int) ≤ n := by omega
  clear h hn
  have CY := Lib.hid (fun w (hR : Rdr w g b (k + 1 + 4)) => rexact_yes g b (k + 1 + 4) 92 w hs hR hx hbx)
  have CE := Lib.hid (fun w (hR : Rdr w g b (k + 1 + 4 + 1)) => rexact_end g b (k + 1 + 4 + 1) 117 w hR hy)
  clear hx hbx hy
  go_enter Tryz.func177, Tryz.ntmps177
  go_wp2_with fail
  refine C.out.mono ?_
  rintro e w1 ⟨rfl, h1, h2⟩
  have H1 := Lib.hid h1
  have H2 := Lib.hid h2
  clear h1 h2
  go_wp2_with fail
  refine (CI.out _).mono ?_
  rintro e w2 ⟨rfl, rfl⟩
  go_wp2_with fail
  refine (must_yes 3 _).mono ?_
  rintro e w2 ⟨rfl, rfl⟩
  go_wp2_with fail
  refine (CU.out _ H1.out).mono ?_
  rintro e w3 (⟨_, rfl, h1, h3⟩ | ⟨h0, _⟩)
  case inr => exact absurd HH.out h0
  have R3 := Lib.hid h1
  have T3 := Lib.hid (H2.out.trans h3)
  clear h1 h3
  go_wp2_with fail
  refine (must_yes 3 _).mono ?_
  rintro e w4 ⟨rfl, rfl⟩
  go_wp2_with fail
  refine (CY.out _ R3.out).mono ?_
  rintro e w5 ⟨rfl, h5, h6⟩
  have R4 := Lib.hid h5
  have T4 := Lib.hid (T3.out.trans h6)
  clear h5 h6
  go_wp2_with fail
  refine (CE.out _ R4.out).mono ?_
  rintro e w6 ⟨rfl, h5⟩
  have T5 := Lib.hid (T4.out.trans h5)
  clear h5
  go_wp2_with fail
  exact ⟨rfl, rfl, T5.out⟩
set_option maxRecDepth 100000 in
set_option maxHeartbeats 2000000 in
theorem esc_h4 (g : Nat) (b : ByteArray) (k : Nat) (w : World) (hs : b.size ≤ 1000000) (hR : Rdr w g b k) (hk : k < b.size) (hd : b[k] = 117) (U : Nat × Nat) (hU : unitF 4 0 (b.data.toList.drop (k + 1)) = U) (h : U.1 = 0) (ha : 55296 ≤ U.2) (hb : U.2 < 56320) (hx : k + 1 + 4 < b.size) (hbx : b[k + 1 + 4] = 92) (hy : k + 1 + 4 + 1 < b.size) (y : UInt8) (hby : b[k + 1 + 4 + 1] = y) (hne : y ≠ 117) :
    Calls Tryz.prog 177 #[.pointer (some ⟨g, 0, none⟩)] w fun e w' => e = gaveUp 3 ∧ Turn g w w' := by
  obtain ⟨n, hn⟩ : ∃ n : Int, n = (U.2 : Int) := ⟨_, rfl⟩
  have C := Lib.hid (rbyte_yes g b k w hs hR hk)
  rw [hd] at C
  have CI := Lib.hid (fun w => index_sign 117 (-1) (by decide) w)
  have CU := Lib.hid (fun w (h : Rdr w g b (k + 1)) => unit_any g b (k + 1) w hs h U hU)
  clear hR hd hU
  have HH := Lib.hid h
  rw [← hn] at CU
  have a1 : n < 56320 := by omega
  have a2 : (55296 : Int) ≤ n := by omega
  clear h hn
  have CY := Lib.hid (fun w (hR : Rdr w g b (k + 1 + 4)) => rexact_yes g b (k + 1 + 4) 92 w hs hR hx hbx)
  have CE := Lib.hid (fun w (hR : Rdr w g b (k + 1 + 4 + 1)) => rexact_no g b (k + 1 + 4 + 1) 117 y w hs hR hy hby hne)
  clear hx hbx hy hby hne
  go_enter Tryz.func177, Tryz.ntmps177
  go_wp2_with fail
  refine C.out.mono ?_
  rintro e w1 ⟨rfl, h1, h2⟩
  have H1 := Lib.hid h1
  have H2 := Lib.hid h2
  clear h1 h2
  go_wp2_with fail
  refine (CI.out _).mono ?_
  rintro e w2 ⟨rfl, rfl⟩
  go_wp2_with fail
  refine (must_yes 3 _).mono ?_
  rintro e w2 ⟨rfl, rfl⟩
  go_wp2_with fail
  refine (CU.out _ H1.out).mono ?_
  rintro e w3 (⟨_, rfl, h1, h3⟩ | ⟨h0, _⟩)
  case inr => exact absurd HH.out h0
  have R3 := Lib.hid h1
  have T3 := Lib.hid (H2.out.trans h3)
  clear h1 h3
  go_wp2_with fail
  refine (must_yes 3 _).mono ?_
  rintro e w4 ⟨rfl, rfl⟩
  go_wp2_with fail
  refine (CY.out _ R3.out).mono ?_
  rintro e w5 ⟨rfl, h5, h6⟩
  have R4 := Lib.hid h5
  have T4 := Lib.hid (T3.out.trans h6)
  clear h5 h6
  go_wp2_with fail
  refine (CE.out _ R4.out).mono ?_
  rintro e w6 ⟨rfl, h5⟩
  have T5 := Lib.hid (T4.out.trans h5)
  clear h5
  go_wp2_with fail
  exact ⟨rfl, rfl, T5.out⟩
set_option maxRecDepth 100000 in
set_option maxHeartbeats 2000000 in
theorem esc_h5 (g : Nat) (b : ByteArray) (k : Nat) (w : World) (hs : b.size ≤ 1000000) (hR : Rdr w g b k) (hk : k < b.size) (hd : b[k] = 117) (U : Nat × Nat) (hU : unitF 4 0 (b.data.toList.drop (k + 1)) = U) (h : U.1 = 0) (ha : 55296 ≤ U.2) (hb : U.2 < 56320) (hx : k + 1 + 4 < b.size) (hbx : b[k + 1 + 4] = 92) (hy : k + 1 + 4 + 1 < b.size) (hby : b[k + 1 + 4 + 1] = 117) (X : Nat × Nat) (hX : unitF 4 0 (b.data.toList.drop (k + 1 + 4 + 1 + 1)) = X) (hq : X.1 ≠ 0) :
    Calls Tryz.prog 177 #[.pointer (some ⟨g, 0, none⟩)] w fun e w' => e = gaveUp X.1 ∧ Turn g w w' := by
  obtain ⟨n, hn⟩ : ∃ n : Int, n = (U.2 : Int) := ⟨_, rfl⟩
  have C := Lib.hid (rbyte_yes g b k w hs hR hk)
  rw [hd] at C
  have CI := Lib.hid (fun w => index_sign 117 (-1) (by decide) w)
  have CU := Lib.hid (fun w (h : Rdr w g b (k + 1)) => unit_any g b (k + 1) w hs h U hU)
  clear hR hd hU
  have HH := Lib.hid h
  rw [← hn] at CU
  have a1 : n < 56320 := by omega
  have a2 : (55296 : Int) ≤ n := by omega
  clear h hn
  have CY := Lib.hid (fun w (hR : Rdr w g b (k + 1 + 4)) => rexact_yes g b (k + 1 + 4) 92 w hs hR hx hbx)
  have CZ := Lib.hid (fun w (hR : Rdr w g b (k + 1 + 4 + 1)) => rexact_yes g b (k + 1 + 4 + 1) 117 w hs hR hy hby)
  have CX := Lib.hid (fun w (h : Rdr w g b (k + 1 + 4 + 1 + 1)) => unit_any g b (k + 1 + 4 + 1 + 1) w hs h X hX)
  have HQ := Lib.hid hq
  clear hx hbx hy hby hX hq
  go_enter Tryz.func177, Tryz.ntmps177
  go_wp2_with fail
  refine C.out.mono ?_
  rintro e w1 ⟨rfl, h1, h2⟩
  have H1 := Lib.hid h1
  have H2 := Lib.hid h2
  clear h1 h2
  go_wp2_with fail
  refine (CI.out _).mono ?_
  rintro e w2 ⟨rfl, rfl⟩
  go_wp2_with fail
  refine (must_yes 3 _).mono ?_
  rintro e w2 ⟨rfl, rfl⟩
  go_wp2_with fail
  refine (CU.out _ H1.out).mono ?_
  rintro e w3 (⟨_, rfl, h1, h3⟩ | ⟨h0, _⟩)
  case inr => exact absurd HH.out h0
  have R3 := Lib.hid h1
  have T3 := Lib.hid (H2.out.trans h3)
  clear h1 h3
  go_wp2_with fail
  refine (must_yes 3 _).mono ?_
  rintro e w4 ⟨rfl, rfl⟩
  go_wp2_with fail
  refine (CY.out _ R3.out).mono ?_
  rintro e w5 ⟨rfl, h5, h6⟩
  have R4 := Lib.hid h5
  have T4 := Lib.hid (T3.out.trans h6)
  clear h5 h6
  go_wp2_with fail
  refine (CZ.out _ R4.out).mono ?_
  rintro e w6 ⟨rfl, h5, h6⟩
  have R5 := Lib.hid h5
  have T5 := Lib.hid (T4.out.trans h6)
  clear h5 h6
  go_wp2_with fail
  refine (CX.out _ R5.out).mono ?_
  rintro e w7 (⟨h0, _⟩ | ⟨_, rfl, h3⟩)
  · exact absurd h0 HQ.out
  have T7 := Lib.hid (T5.out.trans h3)
  clear h3
  go_wp2_with fail
  exact ⟨rfl, rfl, T7.out⟩
set_option maxRecDepth 100000 in
set_option maxHeartbeats 2000000 in
theorem esc_h6 (g : Nat) (b : ByteArray) (k : Nat) (w : World) (hs : b.size ≤ 1000000) (hR : Rdr w g b k) (hk : k < b.size) (hd : b[k] = 117) (U : Nat × Nat) (hU : unitF 4 0 (b.data.toList.drop (k + 1)) = U) (h : U.1 = 0) (ha : 55296 ≤ U.2) (hb : U.2 < 56320) (hx : k + 1 + 4 < b.size) (hbx : b[k + 1 + 4] = 92) (hy : k + 1 + 4 + 1 < b.size) (hby : b[k + 1 + 4 + 1] = 117) (X : Nat × Nat) (hX : unitF 4 0 (b.data.toList.drop (k + 1 + 4 + 1 + 1)) = X) (hq : X.1 = 0) (hz : X.2 < 56320) :
    Calls Tryz.prog 177 #[.pointer (some ⟨g, 0, none⟩)] w fun e w' => e = gaveUp 3 ∧ Turn g w w' := by
  obtain ⟨n, hn⟩ : ∃ n : Int, n = (U.2 : Int) := ⟨_, rfl⟩
  obtain ⟨m, hm⟩ : ∃ m : Int, m = (X.2 : Int) := ⟨_, rfl⟩
  have C := Lib.hid (rbyte_yes g b k w hs hR hk)
  rw [hd] at C
  have CI := Lib.hid (fun w => index_sign 117 (-1) (by decide) w)
  have CU := Lib.hid (fun w (h : Rdr w g b (k + 1)) => unit_any g b (k + 1) w hs h U hU)
  clear hR hd hU
  have HH := Lib.hid h
  rw [← hn] at CU
  have a1 : n < 56320 := by omega
  have a2 : (55296 : Int) ≤ n := by omega
  clear h hn
  have CY := Lib.hid (fun w (hR : Rdr w g b (k + 1 + 4)) => rexact_yes g b (k + 1 + 4) 92 w hs hR hx hbx)
  have CZ := Lib.hid (fun w (hR : Rdr w g b (k + 1 + 4 + 1)) => rexact_yes g b (k + 1 + 4 + 1) 117 w hs hR hy hby)
  have CX := Lib.hid (fun w (h : Rdr w g b (k + 1 + 4 + 1 + 1)) => unit_any g b (k + 1 + 4 + 1 + 1) w hs h X hX)
  have HQ := Lib.hid hq
  rw [← hm] at CX
  have z1 : ¬ (56320 : Int) ≤ m := by omega
  clear hx hbx hy hby hX hq hm hz
  go_enter Tryz.func177, Tryz.ntmps177
  go_wp2_with fail
  refine C.out.mono ?_
  rintro e w1 ⟨rfl, h1, h2⟩
  have H1 := Lib.hid h1
  have H2 := Lib.hid h2
  clear h1 h2
  go_wp2_with fail
  refine (CI.out _).mono ?_
  rintro e w2 ⟨rfl, rfl⟩
  go_wp2_with fail
  refine (must_yes 3 _).mono ?_
  rintro e w2 ⟨rfl, rfl⟩
  go_wp2_with fail
  refine (CU.out _ H1.out).mono ?_
  rintro e w3 (⟨_, rfl, h1, h3⟩ | ⟨h0, _⟩)
  case inr => exact absurd HH.out h0
  have R3 := Lib.hid h1
  have T3 := Lib.hid (H2.out.trans h3)
  clear h1 h3
  go_wp2_with fail
  refine (must_yes 3 _).mono ?_
  rintro e w4 ⟨rfl, rfl⟩
  go_wp2_with fail
  refine (CY.out _ R3.out).mono ?_
  rintro e w5 ⟨rfl, h5, h6⟩
  have R4 := Lib.hid h5
  have T4 := Lib.hid (T3.out.trans h6)
  clear h5 h6
  go_wp2_with fail
  refine (CZ.out _ R4.out).mono ?_
  rintro e w6 ⟨rfl, h5, h6⟩
  have R5 := Lib.hid h5
  have T5 := Lib.hid (T4.out.trans h6)
  clear h5 h6
  go_wp2_with fail
  refine (CX.out _ R5.out).mono ?_
  rintro e w7 (⟨_, rfl, h1, h3⟩ | ⟨h0, _⟩)
  case inr => exact absurd HQ.out h0
  have R7 := Lib.hid h1
  have T7 := Lib.hid (T5.out.trans h3)
  clear h1 h3
  go_wp2_with fail
  refine (must_no 3 _).mono ?_
  rintro e w8 ⟨rfl, rfl⟩
  go_wp2_with fail
  exact ⟨rfl, rfl, T7.out⟩
set_option maxRecDepth 100000 in
set_option maxHeartbeats 2000000 in
theorem esc_h7 (g : Nat) (b : ByteArray) (k : Nat) (w : World) (hs : b.size ≤ 1000000) (hR : Rdr w g b k) (hk : k < b.size) (hd : b[k] = 117) (U : Nat × Nat) (hU : unitF 4 0 (b.data.toList.drop (k + 1)) = U) (h : U.1 = 0) (ha : 55296 ≤ U.2) (hb : U.2 < 56320) (hx : k + 1 + 4 < b.size) (hbx : b[k + 1 + 4] = 92) (hy : k + 1 + 4 + 1 < b.size) (hby : b[k + 1 + 4 + 1] = 117) (X : Nat × Nat) (hX : unitF 4 0 (b.data.toList.drop (k + 1 + 4 + 1 + 1)) = X) (hq : X.1 = 0) (hz : 57343 < X.2) :
    Calls Tryz.prog 177 #[.pointer (some ⟨g, 0, none⟩)] w fun e w' => e = gaveUp 3 ∧ Turn g w w' := by
  obtain ⟨n, hn⟩ : ∃ n : Int, n = (U.2 : Int) := ⟨_, rfl⟩
  obtain ⟨m, hm⟩ : ∃ m : Int, m = (X.2 : Int) := ⟨_, rfl⟩
  have C := Lib.hid (rbyte_yes g b k w hs hR hk)
  rw [hd] at C
  have CI := Lib.hid (fun w => index_sign 117 (-1) (by decide) w)
  have CU := Lib.hid (fun w (h : Rdr w g b (k + 1)) => unit_any g b (k + 1) w hs h U hU)
  clear hR hd hU
  have HH := Lib.hid h
  rw [← hn] at CU
  have a1 : n < 56320 := by omega
  have a2 : (55296 : Int) ≤ n := by omega
  clear h hn
  have CY := Lib.hid (fun w (hR : Rdr w g b (k + 1 + 4)) => rexact_yes g b (k + 1 + 4) 92 w hs hR hx hbx)
  have CZ := Lib.hid (fun w (hR : Rdr w g b (k + 1 + 4 + 1)) => rexact_yes g b (k + 1 + 4 + 1) 117 w hs hR hy hby)
  have CX := Lib.hid (fun w (h : Rdr w g b (k + 1 + 4 + 1 + 1)) => unit_any g b (k + 1 + 4 + 1 + 1) w hs h X hX)
  have HQ := Lib.hid hq
  rw [← hm] at CX
  have z1 : (56320 : Int) ≤ m := by omega
  have z2 : ¬ m ≤ 57343 := by omega
  have z3 : decide (m ≤ 57343) = false := decide_eq_false z2
  clear hx hbx hy hby hX hq hm hz
  go_enter Tryz.func177, Tryz.ntmps177
  go_wp2_with fail
  refine C.out.mono ?_
  rintro e w1 ⟨rfl, h1, h2⟩
  have H1 := Lib.hid h1
  have H2 := Lib.hid h2
  clear h1 h2
  go_wp2_with fail
  refine (CI.out _).mono ?_
  rintro e w2 ⟨rfl, rfl⟩
  go_wp2_with fail
  refine (must_yes 3 _).mono ?_
  rintro e w2 ⟨rfl, rfl⟩
  go_wp2_with fail
  refine (CU.out _ H1.out).mono ?_
  rintro e w3 (⟨_, rfl, h1, h3⟩ | ⟨h0, _⟩)
  case inr => exact absurd HH.out h0
  have R3 := Lib.hid h1
  have T3 := Lib.hid (H2.out.trans h3)
  clear h1 h3
  go_wp2_with fail
  refine (must_yes 3 _).mono ?_
  rintro e w4 ⟨rfl, rfl⟩
  go_wp2_with fail
  refine (CY.out _ R3.out).mono ?_
  rintro e w5 ⟨rfl, h5, h6⟩
  have R4 := Lib.hid h5
  have T4 := Lib.hid (T3.out.trans h6)
  clear h5 h6
  go_wp2_with fail
  refine (CZ.out _ R4.out).mono ?_
  rintro e w6 ⟨rfl, h5, h6⟩
  have R5 := Lib.hid h5
  have T5 := Lib.hid (T4.out.trans h6)
  clear h5 h6
  go_wp2_with fail
  refine (CX.out _ R5.out).mono ?_
  rintro e w7 (⟨_, rfl, h1, h3⟩ | ⟨h0, _⟩)
  case inr => exact absurd HQ.out h0
  have R7 := Lib.hid h1
  have T7 := Lib.hid (T5.out.trans h3)
  clear h1 h3
  go_wp2_with fail
  refine (must_no 3 _).mono ?_
  rintro e w8 ⟨rfl, rfl⟩
  go_wp2_with fail
  exact ⟨rfl, rfl, T7.out⟩
set_option maxRecDepth 100000 in
set_option maxHeartbeats 2000000 in
theorem esc_h8 (g : Nat) (b : ByteArray) (k : Nat) (w : World) (hs : b.size ≤ 1000000) (hR : Rdr w g b k) (hk : k < b.size) (hd : b[k] = 117) (U : Nat × Nat) (hU : unitF 4 0 (b.data.toList.drop (k + 1)) = U) (h : U.1 = 0) (ha : 55296 ≤ U.2) (hb : U.2 < 56320) (hx : k + 1 + 4 < b.size) (hbx : b[k + 1 + 4] = 92) (hy : k + 1 + 4 + 1 < b.size) (hby : b[k + 1 + 4 + 1] = 117) (X : Nat × Nat) (hX : unitF 4 0 (b.data.toList.drop (k + 1 + 4 + 1 + 1)) = X) (hF : FormsAt w) (hg : 2 ≠ g) (hq : X.1 = 0) (hz : 56320 ≤ X.2) (hz2 : X.2 ≤ 57343) :
    Calls Tryz.prog 177 #[.pointer (some ⟨g, 0, none⟩)] w fun e w' => e = .returned (.string ⟨(put (65536 + ((U.2 : Int) - 55296) * 1024 + (X.2 : Int) - 56320)).toArray⟩) ∧ Rdr w' g b (k + 1 + 4 + 1 + 1 + 4) ∧ Turn g w w' := by
  obtain ⟨V, hV⟩ : ∃ V : Nat, V = 65536 + (U.2 - 55296) * 1024 + X.2 - 56320 := ⟨_, rfl⟩
  have hV2 : 65536 + ((U.2 : Int) - 55296) * 1024 + (X.2 : Int) - 56320 = (V : Int) := by omega
  have hsc : scalar V = true := by unfold scalar; simp; omega
  have CP := Lib.hid (fun w hF => put_any V hsc w hF)
  have HF := Lib.hid hF
  obtain ⟨v, hv⟩ : ∃ v : Int, v = (V : Int) := ⟨_, rfl⟩
  rw [← hv] at hV2 CP
  rw [hV2]
  obtain ⟨n, hn⟩ : ∃ n : Int, n = (U.2 : Int) := ⟨_, rfl⟩
  obtain ⟨m, hm⟩ : ∃ m : Int, m = (X.2 : Int) := ⟨_, rfl⟩
  have C := Lib.hid (rbyte_yes g b k w hs hR hk)
  rw [hd] at C
  have CI := Lib.hid (fun w => index_sign 117 (-1) (by decide) w)
  have CU := Lib.hid (fun w (h : Rdr w g b (k + 1)) => unit_any g b (k + 1) w hs h U hU)
  clear hR hd hU
  have HH := Lib.hid h
  rw [← hn] at CU hV2
  have a1 : n < 56320 := by omega
  have a2 : (55296 : Int) ≤ n := by omega
  clear h hn
  have CY := Lib.hid (fun w (hR : Rdr w g b (k + 1 + 4)) => rexact_yes g b (k + 1 + 4) 92 w hs hR hx hbx)
  have CZ := Lib.hid (fun w (hR : Rdr w g b (k + 1 + 4 + 1)) => rexact_yes g b (k + 1 + 4 + 1) 117 w hs hR hy hby)
  have CX := Lib.hid (fun w (h : Rdr w g b (k + 1 + 4 + 1 + 1)) => unit_any g b (k + 1 + 4 + 1 + 1) w hs h X hX)
  have HQ := Lib.hid hq
  rw [← hm] at CX hV2
  have z1 : (56320 : Int) ≤ m := by omega
  have z2 : m ≤ 57343 := by omega
  clear hF hx hbx hy hby hX hq hm hz hz2 hV hsc hv
  go_enter Tryz.func177, Tryz.ntmps177
  go_wp2_with fail
  refine C.out.mono ?_
  rintro e w1 ⟨rfl, h1, h2⟩
  have H1 := Lib.hid h1
  have H2 := Lib.hid h2
  clear h1 h2
  go_wp2_with fail
  refine (CI.out _).mono ?_
  rintro e w2 ⟨rfl, rfl⟩
  go_wp2_with fail
  refine (must_yes 3 _).mono ?_
  rintro e w2 ⟨rfl, rfl⟩
  go_wp2_with fail
  refine (CU.out _ H1.out).mono ?_
  rintro e w3 (⟨_, rfl, h1, h3⟩ | ⟨h0, _⟩)
  case inr => exact absurd HH.out h0
  have R3 := Lib.hid h1
  have T3 := Lib.hid (H2.out.trans h3)
  clear h1 h3
  go_wp2_with fail
  refine (must_yes 3 _).mono ?_
  rintro e w4 ⟨rfl, rfl⟩
  go_wp2_with fail
  refine (CY.out _ R3.out).mono ?_
  rintro e w5 ⟨rfl, h5, h6⟩
  have R4 := Lib.hid h5
  have T4 := Lib.hid (T3.out.trans h6)
  clear h5 h6
  go_wp2_with fail
  refine (CZ.out _ R4.out).mono ?_
  rintro e w6 ⟨rfl, h5, h6⟩
  have R5 := Lib.hid h5
  have T5 := Lib.hid (T4.out.trans h6)
  clear h5 h6
  go_wp2_with fail
  refine (CX.out _ R5.out).mono ?_
  rintro e w7 (⟨_, rfl, h1, h3⟩ | ⟨h0, _⟩)
  case inr => exact absurd HQ.out h0
  have R7 := Lib.hid h1
  have T7 := Lib.hid (T5.out.trans h3)
  clear h1 h3
  go_wp2_with fail
  refine (must_yes 3 _).mono ?_
  rintro e w8 ⟨rfl, rfl⟩
  go_wp2_with fail
  refine (CP.out _ ((HF.out).turn T7.out hg)).mono ?_
  rintro e w9 ⟨rfl, h5⟩
  have R5 := Lib.hid (R7.out.below h5 R7.out.lt)
  have T5 := Lib.hid (T7.out.trans (Turn.of_below h5))
  clear h5
  go_wp2_with fail
  go_ret
  exact ⟨rfl, R5.out, T5.out⟩
/-- What stands behind a backslash, at every text. -/
theorem esc_any (g : Nat) (b : ByteArray) (k : Nat) (w : World) (hs : b.size ≤ 1000000) (hF : FormsAt w) (hg : 2 ≠ g) (hR : Rdr w g b k) (E : Pt) (hE : escF (b.data.toList.drop k) = E) :
    Calls Tryz.prog 177 #[.pointer (some ⟨g, 0, none⟩)] w (UEnd (.string ⟨E.2.1.toArray⟩) E.1 g b (k + (E.2.2 - 1)) w) := by
  subst hE
  have hget : ∀ j (hj : j < b.size), b.data.toList.drop j = b[j] :: b.data.toList.drop (j + 1) := fun j hj => by
    rw [List.drop_eq_getElem_cons (by rw [← Lib.size_eq]; exact hj)]; rfl
  have hend : ∀ j, b.size ≤ j → b.data.toList.drop j = [] := fun j hj => List.drop_eq_nil_of_le (by rw [← Lib.size_eq]; omega)
  by_cases hk : k < b.size
  case neg =>
    rw [hend k (by omega)]
    refine (esc_end g b k w hR (by omega)).mono fun e w' h => .inr ⟨by decide, h.1, h.2⟩
  rw [hget k hk]
  obtain ⟨d, hd⟩ : ∃ d, b[k] = d := ⟨_, rfl⟩
  rw [hd]
  rcases sign_at d with ⟨h1, h2⟩ | ⟨K, hK, hI, hu, hne⟩
  case inr =>
    have e1 : escF (d :: b.data.toList.drop (k + 1)) = (0, unshort d, 2) := if_pos hne
    rw [e1, hu]
    exact (besc_short g b k w hs hR hk d hd K hK hI).mono fun e w' h => .inl ⟨rfl, h.1, h.2.1, h.2.2⟩
  by_cases hu : d = 117
  case neg =>
    have e1 : escF (d :: b.data.toList.drop (k + 1)) = ptBad 3 := by unfold escF; dsimp only; rw [if_neg (by rw [h1]; exact fun h => h rfl), if_neg hu]
    rw [e1]
    exact (esc_not g b k w hs hR hk d hd h2 hu).mono fun e w' h => .inr ⟨by decide, h.1, h.2⟩
  subst hu
  have e1 : escF (117 :: b.data.toList.drop (k + 1)) = codedF (b.data.toList.drop (k + 1)) := by unfold escF; dsimp only; rw [if_neg (by rw [h1]; exact fun h => h rfl), if_pos rfl]
  rw [e1]
  clear e1 h1 h2
  obtain ⟨U, hU⟩ : ∃ U, unitF 4 0 (b.data.toList.drop (k + 1)) = U := ⟨_, rfl⟩
  have hlt : U.2 < 65536 := by have := unitF_lt 4 0 (b.data.toList.drop (k + 1)); rw [hU] at this; exact this
  unfold codedF
  rw [hU]
  by_cases h : U.1 = 0
  case neg =>
    rw [if_pos h]
    exact (esc_u_err g b k w hs hR hk hd U hU h).mono fun e w' h' => .inr ⟨h, h'.1, h'.2⟩
  rw [if_neg (by rw [h]; exact fun h => h rfl)]
  by_cases ha : 56320 ≤ U.2 ∧ U.2 ≤ 57343
  · rw [if_pos ha]
    exact (esc_u_low g b k w hs hR hk hd U hU h ha.1 ha.2).mono fun e w' h => .inr ⟨by decide, h.1, h.2⟩
  rw [if_neg ha]
  by_cases hb : U.2 < 55296
  · rw [if_pos (.inl hb)]
    exact (esc_u_a g b k w hs hR hk hd U hU hF hg h hb).mono fun e w' h => .inl ⟨rfl, h.1, h.2.1, h.2.2⟩
  by_cases hc : 57343 < U.2
  · rw [if_pos (.inr hc)]
    exact (esc_u_b g b k w hs hR hk hd U hU hF hg h hc hlt).mono fun e w' h => .inl ⟨rfl, h.1, h.2.1, h.2.2⟩
  rw [if_neg (by omega), List.drop_drop]
  have ha2 : 55296 ≤ U.2 := by omega
  have hb2 : U.2 < 56320 := by omega
  by_cases hx : k + 1 + 4 < b.size
  case neg =>
    rw [hend _ (by omega)]
    exact (esc_h1 g b k w hs hR hk hd U hU h ha2 hb2 (by omega)).mono fun e w' h => .inr ⟨(show ¬ (2 : Nat) = 0 by decide), h.1, h.2⟩
  rw [hget _ hx]
  obtain ⟨x, hbx⟩ : ∃ x, b[k + 1 + 4] = x := ⟨_, rfl⟩
  rw [hbx]
  unfold lowF
  dsimp only
  by_cases hx2 : x = 92
  case neg =>
    rw [if_pos hx2]
    exact (esc_h2 g b k w hs hR hk hd U hU h ha2 hb2 hx x hbx hx2).mono fun e w' h => .inr ⟨by decide, h.1, h.2⟩
  subst hx2
  rw [if_neg (fun h => h rfl)]
  by_cases hy : k + 1 + 4 + 1 < b.size
  case neg =>
    rw [hend _ (by omega)]
    exact (esc_h3 g b k w hs hR hk hd U hU h ha2 hb2 hx hbx (by omega)).mono fun e w' h => .inr ⟨(show ¬ (2 : Nat) = 0 by decide), h.1, h.2⟩
  rw [hget _ hy]
  obtain ⟨y, hby⟩ : ∃ y, b[k + 1 + 4 + 1] = y := ⟨_, rfl⟩
  rw [hby]
  dsimp only
  by_cases hy2 : y = 117
  case neg =>
    rw [if_pos hy2]
    exact (esc_h4 g b k w hs hR hk hd U hU h ha2 hb2 hx hbx hy y hby hy2).mono fun e w' h => .inr ⟨by decide, h.1, h.2⟩
  subst hy2
  rw [if_neg (fun h => h rfl)]
  obtain ⟨X, hX⟩ : ∃ X, unitF 4 0 (b.data.toList.drop (k + 1 + 4 + 1 + 1)) = X := ⟨_, rfl⟩
  rw [hX]
  by_cases hq : X.1 = 0
  case neg =>
    rw [if_pos hq]
    exact (esc_h5 g b k w hs hR hk hd U hU h ha2 hb2 hx hbx hy hby X hX hq).mono fun e w' h' => .inr ⟨hq, h'.1, h'.2⟩
  rw [if_neg (by rw [hq]; exact fun h => h rfl)]
  by_cases hz : X.2 < 56320
  · rw [if_neg (by omega)]
    exact (esc_h6 g b k w hs hR hk hd U hU h ha2 hb2 hx hbx hy hby X hX hq hz).mono fun e w' h => .inr ⟨by decide, h.1, h.2⟩
  by_cases hz2 : 57343 < X.2
  · rw [if_neg (by omega)]
    exact (esc_h7 g b k w hs hR hk hd U hU h ha2 hb2 hx hbx hy hby X hX hq hz2).mono fun e w' h => .inr ⟨by decide, h.1, h.2⟩
  rw [if_pos (by omega)]
  exact (esc_h8 g b k w hs hR hk hd U hU h ha2 hb2 hx hbx hy hby X hX hF hg hq (by omega) (by omega)).mono fun e w' h => .inl ⟨rfl, h.1, h.2.1, h.2.2⟩
end Go.Proofs.YtdfihhebgllpcaaGreatDoor
