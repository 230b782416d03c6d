/- The walks of the reference's Whole and Of. -/
import Derived.Test.YtffcmfhicefahaaDoorWhole1
import Derived.Test.YtffcmfhicefahaaDoorRef7
namespace Go.Proofs.YtffcmfhicefahaaDoor
open Go.RowKit Go.Proofs.NumPlain

set_option maxHeartbeats 4000000 in
theorem rwhole_no (neg : Bool) (d : ByteArray) (x : Int) (w : World) (hs : d.size ≤ 9223372036854775806)
    (hf : right ⟨neg, d.data.toList, x⟩ = false ∨ (right ⟨neg, d.data.toList, x⟩ = true ∧ d.size ≤ 1000 ∧ x ≤ 10000 ∧ (neg = true ∨ (neg = false ∧ (x < 0 ∨ (0 ≤ x ∧ 20 < x + d.size)))))) :
    Calls Tryd.prog 22 #[.agg #[.bool neg, .string d, .int .i64 x]] w fun e w' => e = .returned (.tuple #[.int .u64 0, .bool false]) ∧ Below w.heap.size w w' := by
  rcases hf with hr | ⟨hr, hd1, hx1, hn | ⟨hn, hx | ⟨hx, hx2⟩⟩⟩
  · have HR := Lib.hid hr
    clear hr
    go_enter Tryd.func22, Tryd.ntmps22
    go_wp2_with fail
    refine (rright_any neg d x _ hs).mono ?_
    rw [HR.out]
    rintro e w1 ⟨rfl, hb⟩
    have HW := Lib.hid (((Below.refl w.heap.size w).alloc (Nat.le_refl _) (.cells #[.bool neg, .string d, .int .i64 x] 24)).trans (hb.mono (by simp)))
    clear hb
    go_wp2_with fail
    go_ret2
    exact ⟨rfl, HW.out⟩
  all_goals
    have HR := Lib.hid hr
    subst hn
    clear hr
    go_enter Tryd.func22, Tryd.ntmps22
    go_wp2_with fail
    refine (rright_any _ d x _ hs).mono ?_
    rw [HR.out]
    rintro e w1 ⟨rfl, hb⟩
    have HB1 := Lib.hid ((Blk.new w 24 #[.bool _, .string d, .int .i64 x]).below hb (by simp))
    have c0 := HB1.out.cell 0
    have c1 := HB1.out.cell 1
    have c2 := HB1.out.cell 2
    have HW := Lib.hid (((Below.refl w.heap.size w).alloc (Nat.le_refl _) (.cells #[.bool _, .string d, .int .i64 x] 24)).trans (hb.mono (by simp)))
    clear hb
    go_wp2_with fail
    go_ret2
    exact ⟨rfl, HW.out⟩

theorem u64_in (n : Int) (h : 0 ≤ n ∧ n < 18446744073709551616) : IntKind.u64.wrap n = n := by
  simp [IntKind.wrap, IntKind.bits, IntKind.signed]; omega
theorem room_of (acc dn : Nat) (A Dn : Int) (hA : A = acc) (hD : Dn = dn) : acc * 10 + dn < 18446744073709551616 ↔ A ≤ (18446744073709551615 - Dn) / 10 := by
  omega
theorem room_le (acc dn : Nat) (A Dn : Int) (hA : A = acc) (hD : Dn = dn) (h : acc * 10 + dn < 18446744073709551616) : IntKind.u64.wrap (A * 10) = A * 10 ∧ IntKind.u64.wrap (A * 10 + Dn) = ((acc * 10 + dn : Nat) : Int) := by
  constructor <;> rw [u64_in _ (by omega)] <;> omega

def Told (D : List UInt8) (V : Int) (B : Bool) : Prop := match run64 0 D with | some v => V = v ∧ B = true | none => V = 0 ∧ B = false
theorem told_none {D : List UInt8} {V : Int} {B : Bool} (h : Told D V B) (h0 : run64 0 D = none) : V = 0 ∧ B = false := by
  unfold Told at h; rw [h0] at h; exact h
theorem told_some {D : List UInt8} {V : Int} {B : Bool} {v : Nat} (h : Told D V B) (h0 : run64 0 D = some v) : V = v ∧ B = true := by
  unfold Told at h; rw [h0] at h; exact h

set_option maxRecDepth 100000 in
set_option maxHeartbeats 8000000 in
theorem rwhole_yes (d : ByteArray) (e : Nat) (w : World) (hr : right ⟨false, d.data.toList, (e : Int)⟩ = true) (hd : d.size ≤ 1000) (he : (e : Int) + d.size ≤ 20) (V : Int) (B : Bool) (hV : Told (digs ⟨false, d.data.toList, (e : Int)⟩) V B) :
    Calls Tryd.prog 22 #[.agg #[.bool false, .string d, .int .i64 e]] w fun e w' => e = .returned (.tuple #[.int .u64 V, .bool B]) ∧ Below w.heap.size w w' := by
  obtain ⟨D, hD⟩ : ∃ D, D = digs ⟨false, d.data.toList, (e : Int)⟩ := ⟨_, rfl⟩
  have hlen : D.length = d.size + e := by rw [hD, digs_length _ e rfl, Lib.size_eq]
  rw [← hD] at hV
  have CA : Hid (∀ (j : Nat) (w : World), j < D.length → Calls Tryd.prog 42 #[.agg #[.bool false, .string d, .int .i64 e], .int .i64 ((e : Int) + d.size - 1 - j)] w fun e w' => e = .returned (.int .u8 ((D.getD j 48).toNat : Nat)) ∧ Below w.heap.size w w') := fun j w hj => by
    have h := at_any false d e ((e : Int) + d.size - 1 - j) w hd ⟨by omega, by omega⟩ ⟨by omega, by omega⟩
    have h2 := at_digs ⟨false, d.data.toList, (e : Int)⟩ e rfl j (by rw [← Lib.size_eq]; omega)
    rw [← hD] at h2
    rw [← h2]
    have h3 : ((d.data.toList.length : Nat) : Int) + (e : Int) - 1 - (j : Int) = (e : Int) + d.size - 1 - j := by rw [← Lib.size_eq]; omega
    rw [h3]
    exact h
  have hdg : Hid (∀ j, 48 ≤ (D.getD j 48).toNat ∧ (D.getD j 48).toNat ≤ 57) := fun j => by rw [hD]; exact digs_isD _ hr j
  have hdr : Hid (∀ j, j < D.length → D.drop j = D.getD j 48 :: D.drop (j + 1)) := fun j hj => by rw [hD] at hj ⊢; exact digs_drop _ j hj
  obtain ⟨L, hL⟩ : ∃ L : Nat, L = D.length := ⟨_, rfl⟩
  have hLe : (e : Int) + d.size = L := by omega
  have hL20 : L ≤ 20 := by omega
  have hd0 : d.size ≤ L := by omega
  have he0 : e ≤ L := by omega
  have hng : ¬ (20 : Int) < (e : Int) + d.size := by omega
  have HL := Lib.hid hL
  have HLE := Lib.hid hLe
  have HR := Lib.hid hr
  have HV := Lib.hid hV
  have HS := Lib.hid hd
  clear hD hlen hV hr hL hLe hd he
  go_enter Tryd.func22, Tryd.ntmps22
  go_wp2_with fail
  refine (rright_any false d e _ (by have := HS.out; omega)).mono ?_
  rw [HR.out]
  rintro e' w1 ⟨rfl, hb⟩
  have HB1 := Lib.hid ((Blk.new w 24 #[.bool false, .string d, .int .i64 e]).below hb (by simp))
  have c0 := HB1.out.cell 0
  have c1 := HB1.out.cell 1
  have c2 := HB1.out.cell 2
  have HW := Lib.hid (((Below.refl w.heap.size w).alloc (Nat.le_refl _) (.cells #[.bool false, .string d, .int .i64 e] 24)).trans (hb.mono (by simp)))
  clear hb
  go_wp2_with fail
  go_loopw [4, 5] (fun a p wr => ∃ (j acc : Nat) (A P : Int), j ≤ L ∧ Hid (P = (e : Int) + d.size - 1 - j) ∧ P ≤ 30 ∧ -2 ≤ P ∧ a = .int .u64 A ∧ p = .int .i64 P ∧ Hid (A = acc) ∧ Hid (acc < 18446744073709551616) ∧ Hid (run64 0 D = run64 acc (D.drop j)) ∧ Hid (Blk wr w.heap.size 24 #[.bool false, .string d, .int .i64 e]) ∧ Hid (Below w.heap.size w wr)) (fun _ p _ => (intOf p + 10001).toNat)
  case atStart => exact ⟨0, 0, 0, (e : Int) + d.size - 1, by omega, Lib.hid (by omega), by omega, by omega, rfl, rfl, rfl, Lib.hid (by omega), Lib.hid rfl, HB1, HW⟩
  case round =>
    clear HB1 HW c0 c1 c2 hng
    obtain ⟨j, acc, A, P, hj, HP, hp1, hp2, rfl, rfl, HAA, HA, HJ, HB, HW⟩ := hrel
    have c0 := HB.out.cell 0
    have c1 := HB.out.cell 1
    have c2 := HB.out.cell 2
    by_cases hlt : 0 ≤ P
    · have hjl : j < D.length := by have := HP.out; have := HLE.out; have := HL.out; omega
      obtain ⟨c, hc⟩ : ∃ c, c = D.getD j 48 := ⟨_, rfl⟩
      have hc9 := hdg.out j
      rw [← hc] at hc9
      obtain ⟨dn, hdn⟩ : ∃ dn : Nat, c.toNat = 48 + dn := ⟨c.toNat - 48, by omega⟩
      have hdn9 : dn ≤ 9 := by omega
      obtain ⟨Dn, hDn⟩ : ∃ Dn : Int, Dn = dn := ⟨_, rfl⟩
      obtain ⟨C, hC⟩ : ∃ C : Int, C = 48 + Dn := ⟨_, rfl⟩
      have CA2 : Hid (∀ (w : World), Calls Tryd.prog 42 #[.agg #[.bool false, .string d, .int .i64 e], .int .i64 P] w fun e w' => e = .returned (.int .u8 C) ∧ Below w.heap.size w w') := fun w => by
        have h := CA.out j w hjl
        rw [← hc, ← HP.out, hdn] at h
        rw [hC, hDn]
        exact h
      have hdrop := hdr.out j hjl
      rw [← hc] at hdrop
      have hrun : run64 0 D = if acc * 10 + dn < 18446744073709551616 then run64 (acc * 10 + dn) (D.drop (j + 1)) else none := by
        rw [HJ.out, hdrop, run64_cons, hdn, Nat.add_sub_cancel_left]
      have HJL := Lib.hid hjl
      have e0 : (C - 48) % 256 = Dn := by omega
      have e1 : 0 ≤ Dn := by omega
      have e2 : Dn ≤ 9 := by omega
      by_cases hroom : acc * 10 + dn < 18446744073709551616
      · have hq := (room_of acc dn A Dn HAA.out hDn).1 hroom
        obtain ⟨g1, g2⟩ := room_le acc dn A Dn HAA.out hDn hroom
        obtain ⟨AN, hAN⟩ : ∃ AN : Int, AN = ((acc * 10 + dn : Nat) : Int) := ⟨_, rfl⟩
        rw [← hAN] at g2
        have hrun2 := hrun
        rw [if_pos hroom] at hrun2
        have HRUN2 := Lib.hid hrun2
        have HROOM := Lib.hid hroom
        have HAN := Lib.hid hAN
        clear hrun hrun2 hroom hAN hdrop hjl hc hdn hc9 hdn9 hDn hC HA HJ HAA
        go_wp2_with fail
        refine (CA2.out _).mono ?_
        rintro e' w2 ⟨rfl, hb⟩
        have HB2 := Lib.hid (HB.out.below hb HB.out.lt)
        have HW2 := Lib.hid (HW.out.trans (hb.mono HW.out.size))
        clear hb HB HW c0 c1 c2
        go_wp2_with fail
        go_roundw
        case rel => exact ⟨j + 1, acc * 10 + dn, AN, P - 1, by have := HJL.out; have := HL.out; omega, Lib.hid (by have := HP.out; omega), by omega, by omega, rfl, by go_num, HAN, HROOM, HRUN2, HB2, HW2⟩
        case measure => simp [intOf]; omega
      · have hq : (18446744073709551615 - Dn) / 10 < A := Int.not_le.1 fun h => hroom ((room_of acc dn A Dn HAA.out hDn).2 h)
        rw [if_neg hroom] at hrun
        obtain ⟨rfl, rfl⟩ := told_none HV.out hrun
        clear hrun hroom hdrop hjl hc hdn hc9 hdn9 hDn hC HA HJ HAA
        go_wp2_with fail
        refine (CA2.out _).mono ?_
        rintro e' w2 ⟨rfl, hb⟩
        have HW2 := Lib.hid (HW.out.trans (hb.mono HW.out.size))
        clear hb HB HW c0 c1 c2
        go_wp2_with fail
        go_ret2
        exact ⟨rfl, HW2.out⟩
    · have hjl : D.length ≤ j := by have := HP.out; have := HLE.out; have := HL.out; omega
      have hrun := HJ.out
      rw [List.drop_eq_nil_of_le hjl, show run64 acc [] = some acc from rfl] at hrun
      obtain ⟨hv, rfl⟩ := told_some HV.out hrun
      have HVV := Lib.hid (HAA.out.trans hv.symm)
      clear hv hrun hjl HAA HA HJ
      go_wp2_with fail
      go_ret2
      exact ⟨congrArg (fun v => Ending.returned (.tuple #[.int .u64 v, .bool true])) HVV.out, HW.out⟩

theorem rwhole_any (neg : Bool) (d : ByteArray) (x : Int) (w : World) (hs : d.size ≤ 9223372036854775806) :
    Calls Tryd.prog 22 #[.agg #[.bool neg, .string d, .int .i64 x]] w fun e w' => e = .returned (.tuple #[.int .u64 (wv ⟨neg, d.data.toList, x⟩), .bool (wb ⟨neg, d.data.toList, x⟩)]) ∧ Below w.heap.size w w' := by
  have none_of : whole ⟨neg, d.data.toList, x⟩ = none → wv ⟨neg, d.data.toList, x⟩ = 0 ∧ wb ⟨neg, d.data.toList, x⟩ = false := fun h => by unfold wv wb; rw [h]; exact ⟨rfl, rfl⟩
  by_cases hr : right ⟨neg, d.data.toList, x⟩ = true
  · have hb : d.size ≤ 1000 ∧ x ≤ 10000 := by
      by_cases h0 : d.data.toList = []
      · rw [h0] at hr
        obtain ⟨_, rfl⟩ := right_nil _ _ hr
        rw [Lib.size_eq, h0]; exact ⟨by simp, by omega⟩
      · obtain ⟨b1, b2, _⟩ := right_bd _ _ _ h0 hr
        rw [← Lib.size_eq] at b1
        exact ⟨b1, b2⟩
    cases neg with
    | true =>
      obtain ⟨e1, e2⟩ := none_of (by unfold whole; rw [fits_parts, hr]; rfl)
      rw [e1, e2]
      exact rwhole_no true d x w hs (.inr ⟨hr, hb.1, hb.2, .inl rfl⟩)
    | false =>
      by_cases hx : x < 0
      · obtain ⟨e1, e2⟩ := none_of (by unfold whole; rw [fits_parts, hr, decide_eq_false (by omega : ¬ 0 ≤ x)]; rfl)
        rw [e1, e2]
        exact rwhole_no false d x w hs (.inr ⟨hr, hb.1, hb.2, .inr ⟨rfl, .inl hx⟩⟩)
      · by_cases hl : 20 < x + d.size
        · obtain ⟨e1, e2⟩ := none_of (by
            unfold whole
            split
            · exact whole_long _ hr (by show 0 ≤ x; omega) (by show 20 < x + d.data.toList.length; rw [← Lib.size_eq]; exact hl)
            · rfl)
          rw [e1, e2]
          exact rwhole_no false d x w hs (.inr ⟨hr, hb.1, hb.2, .inr ⟨rfl, .inr ⟨by omega, hl⟩⟩⟩)
        · obtain ⟨e, rfl⟩ : ∃ e : Nat, x = e := ⟨x.toNat, by omega⟩
          have hf : fits ⟨false, d.data.toList, (e : Int)⟩ = true := by
            rw [fits_parts, hr, decide_eq_true (by omega : 0 ≤ (e : Int)), decide_eq_true (by omega : (e : Int) ≤ 20)]; rfl
          refine rwhole_yes d e w hr hb.1 (by omega) _ _ ?_
          unfold Told wv wb whole
          rw [if_pos hf]
          cases run64 0 (digs ⟨false, d.data.toList, (e : Int)⟩) <;> exact ⟨rfl, rfl⟩
  · have hr2 := Bool.eq_false_iff.2 hr
    obtain ⟨e1, e2⟩ := none_of (by unfold whole; rw [fits_parts, hr2]; rfl)
    rw [e1, e2]
    exact rwhole_no neg d x w hs (.inl hr2)

set_option maxRecDepth 100000 in
set_option maxHeartbeats 8000000 in
theorem rof_any (v : Nat) (hv : v < 18446744073709551616) (w : World) :
    Calls Tryd.prog 24 #[.int .u64 v] w fun e w' => e = .returned (nv (ofN v)) ∧ Below w.heap.size w w' := by
  have hlen := dec0_len v hv
  obtain ⟨⟨neg, D, x⟩, hn⟩ : ∃ n, n = ofN v := ⟨_, rfl⟩
  obtain ⟨d, hd⟩ : ∃ d : ByteArray, d = ⟨D.toArray⟩ := ⟨_, rfl⟩
  have C0 : ∀ w, Calls Tryd.prog 11 #[.string ⟨#[48]⟩] w fun e w' => e = .returned (.tuple #[.agg #[.bool false, .string ⟨#[]⟩, .int .i64 0], .int .i64 0]) ∧ Below w.heap.size w w' := fun w =>
    rparse_all ⟨#[48]⟩ w (zero, 0) (by have := way_a 0; rw [Lib.decDigits_one (by omega)] at this; exact this) (by decide)
  have CP : ∀ (S : ByteArray) (w : World), 0 < v → S.data.toList = dec0 v → Calls Tryd.prog 11 #[.string S] w fun e w' => e = .returned (.tuple #[.agg #[.bool neg, .string d, .int .i64 x], .int .i64 0]) ∧ Below w.heap.size w w' := fun S w h0 hS => by
    have h := rparse_all S w (ofN v, 0) (by rw [hS, ← of_err v hv]; unfold dec0; rw [if_neg (by omega)]; exact way_a v) (by rw [Lib.size_eq, hS]; omega)
    rw [← hn] at h
    unfold nv at h
    simp only [← hd] at h
    exact h
  have hz : v = 0 → neg = false ∧ d = ⟨#[]⟩ ∧ x = 0 := fun h => by
    subst h
    have h0 : ofN 0 = zero := by unfold ofN; rw [Lib.decDigits_one (by omega)]; decide
    rw [h0] at hn
    cases hn
    exact ⟨rfl, hd, rfl⟩
  rw [← hn]
  unfold nv
  simp only [← hd]
  have H0 := Lib.hid C0
  have HP := Lib.hid CP
  have HZ := Lib.hid hz
  have HL := Lib.hid hlen
  have HV := Lib.hid hv
  clear C0 CP hz hlen hv hn hd
  go_enter Tryd.func24, Tryd.ntmps24
  go_wp2_with fail
  have HB0 := Lib.hid (Blk.new w 24 #[.bool false, .string ⟨#[]⟩, .int .i64 0])
  have HW0 := Lib.hid ((Below.refl w.heap.size w).alloc (Nat.le_refl _) (.cells #[.bool false, .string ⟨#[]⟩, .int .i64 0] 24))
  go_loopw [0, 3] (fun n s wr => ∃ (m : Nat) (S : ByteArray), n = .int .u64 m ∧ s = .string S ∧ Hid (m < 18446744073709551616) ∧ Hid (dec0 m ++ S.data.toList = dec0 v) ∧ S.size ≤ 20 ∧ Hid (Blk wr w.heap.size 24 #[.bool false, .string ⟨#[]⟩, .int .i64 0]) ∧ Hid (Below w.heap.size w wr)) (fun n _ _ => (intOf n).toNat)
  case atStart => exact ⟨v, ⟨#[]⟩, rfl, rfl, HV, Lib.hid (by simp), by decide, HB0, HW0⟩
  case round =>
    clear HB0 HW0
    obtain ⟨m, S, rfl, rfl, HM, HS, hss, HB, HW⟩ := hrel
    by_cases hm : 0 < m
    · have hm1 : (0 : Int) < (m : Int) := by omega
      obtain ⟨q, hq⟩ : ∃ q, q = m / 10 := ⟨_, rfl⟩
      obtain ⟨r, hr⟩ : ∃ r, r = m % 10 := ⟨_, rfl⟩
      have hr9 : r < 10 := by omega
      have hmm := HM.out
      have e1 : (m : Int).tmod 10 = (r : Int) := by rw [Int.tmod_eq_emod_of_nonneg (by omega)]; omega
      have e1b : (m : Int) % 10 = (r : Int) := by omega
      have e2 : (m : Int).tdiv 10 = (q : Int) := by rw [Int.tdiv_eq_ediv_of_nonneg (by omega)]; omega
      have e2b : (m : Int) / 10 = (q : Int) := by omega
      have e3 : IntKind.u64.wrap (r : Int) = (r : Int) := u64_in _ (by omega)
      have e4 : IntKind.u64.wrap (q : Int) = (q : Int) := u64_in _ (by omega)
      have e5 : IntKind.u64.wrap (48 + (r : Int)) = 48 + (r : Int) := u64_in _ (by omega)
      have e6 : IntKind.u8.wrap (48 + (r : Int)) = 48 + (r : Int) := by simp [IntKind.wrap, IntKind.bits, IntKind.signed]; omega
      obtain ⟨C, hC⟩ : ∃ C : ByteArray, C = ⟨#[UInt8.ofNat (48 + r)]⟩ := ⟨_, rfl⟩
      have hCs : C.size = 1 := by rw [hC]; rfl
      have hcat : ¬ 9223372036854775807 < C.size + S.size := by omega
      have hc : ∀ W : World, ∀ g, W.cell? ⟨g, 0, none⟩ = some (.int .u8 (48 + (r : Int))) → (convert 58 9 (.slice (some ⟨g, 0, none⟩) 1 1)).run Tryd.prog W = .ok (.string C) W := fun W g hW => by
        rw [hC]
        exact conv_one _ _ _ _ (by rw [dig_byte r hr9]; rfl) hW
      have hst : dec0 q ++ (C ++ S).data.toList = dec0 v := by
        rw [data_append, hC, ← HS.out, dec0_step m hm, hq, hr, List.append_assoc]
      have HST := Lib.hid hst
      have hsz : (C ++ S).size ≤ 20 := by
        have := congrArg List.length hst
        rw [List.length_append, ← Lib.size_eq] at this
        have := HL.out
        omega
      have HSZ := Lib.hid hsz
      have HQ : Hid (q < 18446744073709551616) := by unfold Hid; omega
      have hqm : q < m := by omega
      clear hst hq hr hC hr9 hmm hsz
      go_wp2_with fail
      go_roundw
      case rel => exact ⟨q, C ++ S, rfl, rfl, HQ, HST, HSZ.out, Lib.hid (HB.out.alloc _), Lib.hid (HW.out.alloc HW.out.size _)⟩
      case measure => simp [intOf]; omega
    · have hm0 : m = 0 := by omega
      have hS : S.data.toList = dec0 v := by have := HS.out; rw [hm0, show dec0 0 = [] from rfl] at this; exact this
      have HSS := Lib.hid hS
      have hge : ¬ (0 : Int) < (m : Int) := by omega
      clear hS HS hm0 hm
      go_wp2_with fail
      refine (H0.out _).mono ?_
      rintro e w1 ⟨rfl, hb⟩
      have hBa := HB.out.below hb HB.out.lt
      have HBa := Lib.hid hBa
      have hlt := hBa.lt
      have hne : ¬ w.heap.size = w1.heap.size := by omega
      have HT1 := Lib.hid (Blk.new w1 24 #[.bool false, .string ⟨#[]⟩, .int .i64 0])
      have HWa := Lib.hid (HW.out.trans (hb.mono HW.out.size))
      have hle1 : w.heap.size ≤ w1.heap.size := Nat.le_trans HW.out.size hb.size
      clear hb HB HW
      by_cases h0 : v = 0
      · have hemp : S.size = 0 := by rw [Lib.size_eq, HSS.out, h0]; rfl
        obtain ⟨rfl, rfl, rfl⟩ := HZ.out h0
        have hsl : ¬ (0 : Int) < (S.size : Int) := by omega
        clear h0 hemp
        have c0 := HBa.out.cell 0
        have c1 := HBa.out.cell 1
        have c2 := HBa.out.cell 2
        have f0 := HBa.out.frozen 0
        have f1 := HBa.out.frozen 1
        have f2 := HBa.out.frozen 2
        go_wp2_with fail
        have HB3 := Lib.hid ((((HBa.out.set_ 0 (.bool false)).set_ 1 (.string ⟨#[]⟩)).set_ 2 (.int .i64 0)).alloc (.cells #[.bool false, .string ⟨#[]⟩, .int .i64 0] 24))
        refine bodyPost_ret (v := .agg #[.bool false, .string ⟨#[]⟩, .int .i64 0]) (by obtain ⟨a, b, c⟩ := res_cells HB3.out; simp [results, Tryd.results24, go_sem, a, b, c]) rfl ⟨rfl, ?_⟩
        exact (((HWa.out.setCell (p := ⟨w.heap.size, 0, none⟩) (Nat.le_refl _) _).setCell (p := ⟨w.heap.size, 1, none⟩) (Nat.le_refl _) _).setCell (p := ⟨w.heap.size, 2, none⟩) (Nat.le_refl _) _).alloc (by simp; omega) _
      · have hsl : (0 : Int) < (S.size : Int) := by
          rw [Lib.size_eq, HSS.out]
          unfold dec0
          rw [if_neg h0]
          have := List.length_pos_iff.2 (dec_dig v).2.1
          omega
        have HPS := Lib.hid (fun w => HP.out S w (by omega) HSS.out)
        have HB1 := Lib.hid (HBa.out.alloc (.cells #[.bool false, .string ⟨#[]⟩, .int .i64 0] 24))
        have HW1 := Lib.hid (HWa.out.alloc hle1 (.cells #[.bool false, .string ⟨#[]⟩, .int .i64 0] 24))
        clear h0 HSS HP HBa HWa
        go_wp2_with fail
        refine (HPS.out _).mono ?_
        rintro e w2 ⟨rfl, hb⟩
        have HB2 := Lib.hid (HB1.out.below hb HB1.out.lt)
        have HT2 := Lib.hid (HT1.out.below hb HT1.out.lt)
        have HW2 := Lib.hid (HW1.out.trans (hb.mono HW1.out.size))
        clear hb HB1 HT1 HW1
        have c0 := HB2.out.cell 0
        have c1 := HB2.out.cell 1
        have c2 := HB2.out.cell 2
        have f0 := HB2.out.frozen 0
        have f1 := HB2.out.frozen 1
        have f2 := HB2.out.frozen 2
        have t0 := HT2.out.cell 0
        have t1 := HT2.out.cell 1
        have t2 := HT2.out.cell 2
        have u0 := HT2.out.frozen 0
        have u1 := HT2.out.frozen 1
        have u2 := HT2.out.frozen 2
        go_wp2_with fail
        have HB3 := (((HB2.out.far (p := ⟨w1.heap.size, 0, none⟩) hne (.bool neg)).far (p := ⟨w1.heap.size, 1, none⟩) hne (.string d)).far (p := ⟨w1.heap.size, 2, none⟩) hne (.int .i64 x))
        have HB4 := Lib.hid (((HB3.set_ 0 (.bool neg)).set_ 1 (.string d)).set_ 2 (.int .i64 x))
        refine bodyPost_ret (v := .agg #[.bool neg, .string d, .int .i64 x]) (by obtain ⟨a, b, c⟩ := res_cells HB4.out; simp [results, Tryd.results24, go_sem, a, b, c]) rfl ⟨rfl, ?_⟩
        exact (((((HW2.out.setCell (p := ⟨w1.heap.size, 0, none⟩) hle1 _).setCell (p := ⟨w1.heap.size, 1, none⟩) hle1 _).setCell (p := ⟨w1.heap.size, 2, none⟩) hle1 _).setCell (p := ⟨w.heap.size, 0, none⟩) (Nat.le_refl _) _).setCell (p := ⟨w.heap.size, 1, none⟩) (Nat.le_refl _) _).setCell (p := ⟨w.heap.size, 2, none⟩) (Nat.le_refl _) _
end Go.Proofs.YtffcmfhicefahaaDoor
