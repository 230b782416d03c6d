import Derived.Test.YtdfihhebgllpcaaGreatDoorAo31
import Derived.Test.YtdfihhebgllpcaaGreatDoorAp01
import Derived.Test.YtdfihhebgllpcaaGreatDoorAo32
import Derived.WideShapes
import Derived.ChangeArms
import Derived.SliceStrings
import Derived.SizedLaws

/- The walk of the reference's Great. -/
namespace Go.Proofs.YtdfihhebgllpcaaGreatDoor
open Go.RowKit Go.Proofs.QuotePlain Go.Proofs.UtfPlain Go.Proofs.LexPlain Go.Proofs.AddrPlain

/-- No part of an address is longer than a machine holds. -/
structure AdL (a : Ad) : Prop where
  pl : a.path.length ≤ 140737488351232
  ps : ∀ X ∈ a.path, X.size ≤ 140737488351232
  ty : a.ty.size ≤ 140737488351232
  nm : a.nm.size ≤ 140737488351232
  wd : a.word.size ≤ 140737488351232
  pc : a.place < 18446744073709551616

/-- What Great tells: true, or that all is short. -/
def GreatEnd (a : Ad) (e : Ending) : Prop :=
  ∃ b, e = .returned (.bool b) ∧ (b = false → a.path.length ≤ 40 ∧ (∀ X ∈ a.path, X.size ≤ 1000) ∧ a.ty.size ≤ 1000 ∧ a.nm.size ≤ 1000 ∧ a.word.size ≤ 1000)

set_option maxRecDepth 100000 in
set_option maxHeartbeats 4000000 in
theorem great_any (pv : Value) (a : Ad) (w : World) (hP : StrS w w.heap.size pv a.path) (hA : AdL a) :
    Calls Tryz.prog 27 #[.agg (adV pv a)] w fun e w' => GreatEnd a e ∧ Below w.heap.size w w' := by
  obtain ⟨hpl, hps, hty, hnm, hwd, hpc⟩ := hA
  obtain ⟨pth, ty, nm, key, place, word⟩ := a
  obtain ⟨ao, ac, hpv⟩ := hP.len
  obtain ⟨n, hn⟩ : ∃ n, pth.length = n := ⟨_, rfl⟩
  dsimp only at hpl hps hty hnm hwd hpc hpv hP ⊢
  rw [hn] at hpv hpl
  subst hpv
  have HN := Lib.hid hn
  have hl := (Below.refl w.heap.size w).alloc (Nat.le_refl _) (.cells (adV (.slice ao n ac) ⟨pth, ty, nm, key, place, word⟩) 29)
  have HL := Lib.hid hl
  have HB := Lib.hid (Blk.new w 29 (adV (.slice ao n ac) ⟨pth, ty, nm, key, place, word⟩))
  have HP := Lib.hid (hP.far hl)
  have HPS := Lib.hid hps
  clear hl hP hps hn
  unfold adV at HL HB HP ⊢
  dsimp only at HL HB HP ⊢
  obtain ⟨T, hT⟩ : ∃ T, ty.size = T := ⟨_, rfl⟩
  obtain ⟨N, hN⟩ : ∃ N, nm.size = N := ⟨_, rfl⟩
  obtain ⟨D, hD⟩ : ∃ D, word.size = D := ⟨_, rfl⟩
  have HT := Lib.hid hT
  have HNM := Lib.hid hN
  have HD := Lib.hid hD
  rw [hT] at hty
  rw [hN] at hnm
  rw [hD] at hwd
  go_enter Tryz.func27, Tryz.ntmps27
  go_upto_region 1 with fail
  obtain ⟨W, hW⟩ : ∃ W, w.alloc (.cells #[.slice ao n ac, .string ty, .string nm, .int .i64 key, .int .u64 ((place : Nat) : Int), .string word] 29) = W := ⟨_, rfl⟩
  obtain ⟨A, hAA⟩ : ∃ A, w.heap.size = A := ⟨_, rfl⟩
  rw [hW] at HL HB HP ⊢
  rw [hAA] at HB ⊢
  clear hW hAA
  have a0 : W.cell? ⟨A, 0, none⟩ = some (.slice ao n ac) := HB.out.cell 0
  have a1 : W.cell? ⟨A, 1, none⟩ = some (.string ty) := HB.out.cell 1
  have a2 : W.cell? ⟨A, 2, none⟩ = some (.string nm) := HB.out.cell 2
  have a5 : W.cell? ⟨A, 5, none⟩ = some (.string word) := HB.out.cell 5
  go_upto_region 3 with fail
  try rw [hT, hN, hD]
  clear hT hN hD
  go_loopw [3, 4] (fun c i wr => wr = W ∧ ∃ (j : Nat) (t : Nat), i = .int .i64 (j : Int) ∧ c = .int .i64 (t : Int) ∧ j ≤ n ∧ j ≤ 50 ∧ t ≤ (j + 3) * 140737488351232 ∧ Hid (∀ X ∈ pth.take j, X.size ≤ t) ∧ T ≤ t ∧ N ≤ t ∧ D ≤ t) (fun _ i _ => 50 - (intOf i).toNat)
  case atStart => exact ⟨rfl, 0, T + N + D, rfl, by go_num, Nat.zero_le _, by omega, by omega, Lib.hid (fun X hX => by cases hX), by omega, by omega, by omega⟩
  case round =>
    obtain ⟨rfl, j, t, rfl, rfl, hj, hj2, ht, HS, h1, h2, h3⟩ := hrel
    by_cases hlt : j < n
    · have hlt' : (j : Int) < (n : Int) := by omega
      by_cases h50 : j < 50
      · have h50' : (j : Int) < 50 := by omega
        obtain ⟨X, hX⟩ : ∃ X, pth[j]? = some X := ⟨_, List.getElem?_eq_getElem (by rw [HN.out]; exact hlt)⟩
        obtain ⟨ad, hao, _, hc⟩ := (show ∃ ad, ao = some ad ∧ ad.block < wr.heap.size ∧ wr.cell? (ad.add j) = some (.string X) by
          obtain ⟨ao2, ac2, e, h⟩ := HP.out
          injection e with e1 e2 e3
          subst e1
          obtain ⟨ad, q1, q2, q3⟩ := h j X hX
          exact ⟨ad, q1, q2, q3⟩)
        subst hao
        have hXs := HPS.out X (List.mem_of_getElem? hX)
        obtain ⟨z, hz⟩ : ∃ z, X.size = z := ⟨_, rfl⟩
        rw [hz] at hXs
        have HS2 : Hid (∀ Y ∈ pth.take (j + 1), Y.size ≤ t + z) := fun Y hY => by
          rw [take_snoc' pth j X hX] at hY
          rcases List.mem_append.1 hY with e | e
          · have := HS.out Y e; omega
          · rw [List.mem_singleton.1 e, hz]; omega
        clear hX
        go_wp2_with fail
        try rw [hz]
        go_roundw
        case rel => exact ⟨trivial, j + 1, t + z, by go_num, by go_num, by omega, by omega, by omega, HS2, by omega, by omega, by omega⟩
        case measure => simp [intOf]; omega
      · have h50' : ¬ (j : Int) < 50 := by omega
        have h40 : (40 : Int) < (n : Int) := by omega
        by_cases h1000 : 1000 < t
        · have h1000' : (1000 : Int) < (t : Int) := by omega
          go_wp2_with fail
          go_ret
          exact ⟨⟨true, rfl, fun h => by cases h⟩, HL.out⟩
        · have h1000' : ¬ (1000 : Int) < (t : Int) := by omega
          go_wp2_with fail
          go_ret
          exact ⟨⟨true, rfl, fun h => by cases h⟩, HL.out⟩
    · have hlt' : ¬ (j : Int) < (n : Int) := by omega
      have hjn : j = n := by omega
      by_cases h1000 : 1000 < t
      · have h1000' : (1000 : Int) < (t : Int) := by omega
        go_wp2_with fail
        go_ret
        exact ⟨⟨true, rfl, fun h => by cases h⟩, HL.out⟩
      · have h1000' : ¬ (1000 : Int) < (t : Int) := by omega
        by_cases h40 : 40 < n
        · have h40' : (40 : Int) < (n : Int) := by omega
          go_wp2_with fail
          go_ret
          exact ⟨⟨true, rfl, fun h => by cases h⟩, HL.out⟩
        · have h40' : ¬ (40 : Int) < (n : Int) := by omega
          go_wp2_with fail
          go_ret
          refine ⟨⟨false, rfl, fun _ => ⟨by rw [HN.out]; omega, fun X hX => ?_, by rw [HT.out]; omega, by rw [HNM.out]; omega, by rw [HD.out]; omega⟩⟩, HL.out⟩
          have := HS.out X (by rw [hjn, List.take_of_length_le (by rw [HN.out]; omega)]; exact hX)
          omega
end Go.Proofs.YtdfihhebgllpcaaGreatDoor

/- An address that came in: its six cells, and how long its parts may be. -/
namespace Go.Proofs.YtdfihhebgllpcaaGreatDoor
open Go.RowKit Go.WideShapes Go.ChangeShapes Go.Proofs.AddrPlain

theorem weightsAll_in {H : Type} {P : Program} {e : TypeId} : ∀ {l : List (DataW H)} {d : DataW H}, d ∈ l → ∀ n ∈ d.weights P e, n ∈ DataW.weightsAll P e l
  | d' :: r, d, hd, n, hn => by
    simp only [DataW.weightsAll, List.mem_append]
    rcases List.mem_cons.1 hd with rfl | h
    · exact Or.inl hn
    · exact Or.inr (weightsAll_in h n hn)
theorem str_bound {H : Type} {P : Program} {ts : List TypeId} {ds : List (DataW H)} (h : ∀ n ∈ DataW.weightsEach P ts ds, n ≤ reachBytes) {j : Nat} {t : TypeId} {s : ByteArray} (ht : ts[j]? = some t) (hd : ds[j]? = some (.lit (.string s.data.toList))) : s.size ≤ 140737488351232 := by
  have := h _ (DataW.weights_mem_each ht hd s.data.toList.length (by simp [DataW.weights]))
  rw [data_size] at this
  exact this
theorem one_of {v : Value} {cs : List Value} (h : cs = [v]) (x : Value) (e : [x] = cs) : x = v := by
  rw [h] at e; exact (List.cons.inj e).1

set_option maxRecDepth 100000 in
theorem open_address {H : Type} {enc : TypeId × Value → H} {W : World} {r : Reach} {b0 base : Nat} {sp : Nat → Bool} {held : Bool} {v : Value} {d : DataW H} {ps : List MemPlace}
    (hval : Value.okWide Tryz.prog W r b0 29 v) (hd : DataW.Trod enc Tryz.prog W base sp held 29 v d ps) (hw : ∀ n ∈ d.weights Tryz.prog 29, n ≤ reachBytes) :
    ∃ (pv : Value) (a : Ad), v = .agg (adV pv a) ∧ StrS W W.heap.size pv a.path ∧ AdL a := by
  obtain ⟨cs, rfl, hsz⟩ := okWide_struct Tryz.underlying29 hval
  obtain ⟨fuel, hf⟩ := hd
  obtain ⟨xs, n, _, ex, hl, hxl, hfs⟩ := DataW.trod_struct Tryz.underlying29 hf
  have hc : Tryz.prog.cellsOf 29 = 6 := by kernel_rfl
  rw [hc] at hsz hl
  have hd0 : d = .agg (xs.map (·.1)) := (Prod.mk.inj ex).1
  have hx6 : xs.length = 6 := hxl
  have hw2 : ∀ n ∈ DataW.weightsEach Tryz.prog [27, 9, 9, 3, 24, 9] (xs.map (·.1)), n ≤ reachBytes := by
    intro n hn
    refine hw n ?_
    rw [hd0]
    unfold DataW.weights
    rw [Tryz.underlying29]
    exact hn
  clear hw
  obtain ⟨c⟩ := cs
  match c, hsz with
  | [v0, v1, v2, v3, v4, v5], _ =>
    obtain ⟨x0, x1, x2, x3, x4, x5, rfl⟩ : ∃ x0 x1 x2 x3 x4 x5, xs = [x0, x1, x2, x3, x4, x5] := by
      match xs, hx6 with
      | [x0, x1, x2, x3, x4, x5], _ => exact ⟨x0, x1, x2, x3, x4, x5, rfl⟩
    have h0 := (hfs 0 _ rfl).trans (show [x0, x1, x2, x3, x4, x5][0]? = some x0 from rfl)
    have h1 := (hfs 1 _ rfl).trans (show [x0, x1, x2, x3, x4, x5][1]? = some x1 from rfl)
    have h2 := (hfs 2 _ rfl).trans (show [x0, x1, x2, x3, x4, x5][2]? = some x2 from rfl)
    have h3 := (hfs 3 _ rfl).trans (show [x0, x1, x2, x3, x4, x5][3]? = some x3 from rfl)
    have h4 := (hfs 4 _ rfl).trans (show [x0, x1, x2, x3, x4, x5][4]? = some x4 from rfl)
    have h5 := (hfs 5 _ rfl).trans (show [x0, x1, x2, x3, x4, x5][5]? = some x5 from rfl)
    obtain ⟨s1, e1, f1, _⟩ := DataW.trod_string (by kernel_rfl) h1
    obtain ⟨s2, e2, f2, _⟩ := DataW.trod_string (by kernel_rfl) h2
    obtain ⟨z3, e3, f3, _⟩ := DataW.trod_int (k := .i64) (by kernel_rfl) h3
    obtain ⟨z4, e4, f4, g4⟩ := DataW.trod_int (k := .u64) (by kernel_rfl) h4
    obtain ⟨s5, e5, f5, _⟩ := DataW.trod_string (by kernel_rfl) h5
    have q1 : v1 = .string s1 := one_of e1 v1 rfl
    have q2 : v2 = .string s2 := one_of e2 v2 rfl
    have q3 : v3 = .int .i64 z3 := one_of e3 v3 rfl
    have q4 : v4 = .int .u64 z4 := one_of e4 v4 rfl
    have q5 : v5 = .string s5 := one_of e5 v5 rfl
    subst q1 q2 q3 q4 q5
    have b1 : s1.size ≤ 140737488351232 := str_bound hw2 (j := 1) rfl (by rw [f1]; rfl)
    have b2 : s2.size ≤ 140737488351232 := str_bound hw2 (j := 2) rfl (by rw [f2]; rfl)
    have b5 : s5.size ≤ 140737488351232 := str_bound hw2 (j := 5) rfl (by rw [f5]; rfl)
    have hz : 0 ≤ z4 ∧ z4 < 18446744073709551616 := by
      simp [Lit.wf] at g4
      have m1 : IntKind.u64.min = 0 := by decide
      have m2 : IntKind.u64.max = 18446744073709551615 := by decide
      omega
    obtain ⟨p, hp⟩ := Int.eq_ofNat_of_zero_le hz.1
    subst hp
    rcases open_strings Tryz.underlying27 Tryz.underlying9 (by kernel_rfl) h0 with ⟨hcs, _⟩ | ⟨ad, len, cap, ss, hcs, _, hlc, _, hz0, hx, hcell, _⟩
    · have q0 : v0 = .slice none 0 0 := one_of hcs v0 rfl
      subst q0
      exact ⟨_, ⟨[], s1, s2, z3, p, s5⟩, rfl, ⟨none, 0, rfl, fun j X h => by simp at h⟩, ⟨Nat.zero_le _, fun X h => by simp at h, b1, b2, b5, (by have := hz.2; omega : p < 18446744073709551616)⟩⟩
    · have q0 : v0 = .slice (some ad) len cap := one_of hcs v0 rfl
      subst q0
      have hlen : len ≤ ss.length := by rw [hz0]; split <;> omega
      have htl : (ss.take len).length = len := by rw [List.length_take]; omega
      have hwp : ∀ n ∈ (DataW.slice (strs (ss.take len)) (strs (ss.drop len)) : DataW H).weights Tryz.prog 27, n ≤ reachBytes := fun n hn => hw2 n (DataW.weights_mem_each (j := 0) rfl (by rw [hx]; rfl) n hn)
      have hwu : (DataW.slice (strs (ss.take len)) (strs (ss.drop len)) : DataW H).weights Tryz.prog 27 = ((strs (ss.take len) : List (DataW H)).length + (strs (ss.drop len) : List (DataW H)).length) * Tryz.prog.bytesOf 9 :: (DataW.weightsAll Tryz.prog 9 (strs (ss.take len) : List (DataW H)) ++ DataW.weightsAll Tryz.prog 9 (strs (ss.drop len) : List (DataW H))) := by
        unfold DataW.weights
        rw [Tryz.underlying27]
      rw [hwu] at hwp
      have hb16 : Tryz.prog.bytesOf 9 = 16 := by kernel_rfl
      have hll : len ≤ 140737488351232 := by
        have := hwp _ (List.mem_cons_self ..)
        rw [hb16] at this
        have e : (strs (ss.take len) : List (DataW H)).length = len := by unfold strs; rw [List.length_map, htl]
        rw [e] at this
        have e2 : reachBytes = 140737488351232 := rfl
        rw [e2] at this
        omega
      refine ⟨_, ⟨ss.take len, s1, s2, z3, p, s5⟩, ?_, ⟨some ad, cap, by rw [htl], fun j X h => ?_⟩, ⟨by rw [htl]; exact hll, fun X h => ?_, b1, b2, b5, (by have := hz.2; omega : p < 18446744073709551616)⟩⟩
      · rfl
      · have h : (ss.take len)[j]? = some X := h
        have hj : j < len := by
          have := (List.getElem?_eq_some_iff.1 h).1
          omega
        have h' : ss[j]? = some X := by rw [List.getElem?_take_of_lt hj] at h; exact h
        have hc2 := hcell j (by omega)
        rw [List.getD, h'] at hc2
        refine ⟨ad, rfl, ?_, hc2⟩
        have := World.block_lt_of_cell? W _ hc2
        rw [add_block] at this
        exact this
      · have := hwp X.data.toList.length (List.mem_cons_of_mem _ (List.mem_append_left _ (weightsAll_in (d := .lit (.string X.data.toList)) (by unfold strs; exact List.mem_map.2 ⟨X, h, rfl⟩) _ (by simp [DataW.weights]))))
        rw [data_size] at this
        exact this
end Go.Proofs.YtdfihhebgllpcaaGreatDoor

/- The walk of the statement AddrPrints. -/
namespace Go.Proofs.YtdfihhebgllpcaaGreatDoor
open Go.RowKit Go.Proofs.QuotePlain Go.Proofs.UtfPlain Go.Proofs.LexPlain Go.Proofs.AddrPlain

theorem parse_empty : parseA [] = none := by
  unfold parseA made behindC aheadC keyPart
  simp only [List.dropWhile_nil, List.takeWhile_nil]
  have h : mods (splitC 46 []) = ([], [[]]) := by
    show mods [[]] = _
    unfold mods
    rfl
  rw [h]
theorem isEmpty_dat (s : ByteArray) : s.toList.isEmpty = s.data.toList.isEmpty := by rw [Lib.toList_data]
def Small (a : Ad) : Prop := a.path.length ≤ 40 ∧ (∀ X ∈ a.path, X.size ≤ 1000) ∧ a.ty.size ≤ 1000 ∧ a.nm.size ≤ 1000 ∧ a.word.size ≤ 1000
theorem small_AdB (a : Ad) (h : Small a) (hp : a.place < 18446744073709551616) : AdB a := by
  obtain ⟨h1, h2, h3, h4, h5⟩ := h
  exact ⟨by omega, fun X hX => by have := h2 X hX; omega, by omega, by omega, by omega, hp⟩
theorem print_size (a : Ad) (h : Small a) (hp : a.place < 18446744073709551616) : (mk (printA a)).size ≤ 100000 := by
  obtain ⟨h1, h2, h3, h4, h5⟩ := h
  rw [mk_size]
  by_cases hr : rightA a = true
  · have := print_short a 1000 (by decide) (right_parts a hr).1 h2 h3 h4 h5 hp
    omega
  · rw [(print_nil a).2 (Bool.eq_false_iff.2 hr)]; exact Nat.zero_le _
/-- Where an address that came in lies boxed, and what is as it was. -/
structure Env (w0 W : World) (A : Nat) (ao : Option Addr) (n ac : Nat) (a : Ad) : Prop where
  blk : Blk W A 29 (adV (.slice ao n ac) a)
  bel : Below w0.heap.size w0 W
  glb : AdG W
  str : StrS W W.heap.size (.slice ao n ac) a.path
theorem Env.below {w0 W W' : World} {A : Nat} {ao : Option Addr} {n ac : Nat} {a : Ad} (h : Env w0 W A ao n ac a) (hb : Below W.heap.size W W') : Env w0 W' A ao n ac a :=
  ⟨h.blk.below hb h.blk.lt, h.bel.trans (hb.mono h.bel.size), h.glb.below hb, h.str.far hb⟩
theorem Env.drew {w0 W : World} {A : Nat} {ao : Option Addr} {n ac : Nat} {a : Ad} (h : Env w0 W A ao n ac a) : Env w0 W.drew A ao n ac a := h.below (Below.refl _ _).drew
theorem Env.start {w : World} {ao : Option Addr} {n ac : Nat} {a : Ad} (hP : StrS w w.heap.size (.slice ao n ac) a.path) (hG : AdG w) : Env w (w.alloc (.cells (adV (.slice ao n ac) a) 29)) w.heap.size ao n ac a :=
  have hl := (Below.refl w.heap.size w).alloc (Nat.le_refl _) (.cells (adV (.slice ao n ac) a) 29)
  ⟨Blk.new w 29 _, hl, hG.below hl, hP.far hl⟩
section
variable {w0 W : World} {A : Nat} {ao : Option Addr} {n ac : Nat} {pth : List ByteArray} {ty nm word : ByteArray} {key : Int} {place : Nat}
theorem Env.c0 (h : Env w0 W A ao n ac ⟨pth, ty, nm, key, place, word⟩) : W.cell? ⟨A, 0, none⟩ = some (.slice ao n ac) := h.blk.cell 0
theorem Env.c1 (h : Env w0 W A ao n ac ⟨pth, ty, nm, key, place, word⟩) : W.cell? ⟨A, 1, none⟩ = some (.string ty) := h.blk.cell 1
theorem Env.c2 (h : Env w0 W A ao n ac ⟨pth, ty, nm, key, place, word⟩) : W.cell? ⟨A, 2, none⟩ = some (.string nm) := h.blk.cell 2
theorem Env.c3 (h : Env w0 W A ao n ac ⟨pth, ty, nm, key, place, word⟩) : W.cell? ⟨A, 3, none⟩ = some (.int .i64 key) := h.blk.cell 3
theorem Env.c4 (h : Env w0 W A ao n ac ⟨pth, ty, nm, key, place, word⟩) : W.cell? ⟨A, 4, none⟩ = some (.int .u64 ((place : Nat) : Int)) := h.blk.cell 4
theorem Env.c5 (h : Env w0 W A ao n ac ⟨pth, ty, nm, key, place, word⟩) : W.cell? ⟨A, 5, none⟩ = some (.string word) := h.blk.cell 5
end

set_option maxRecDepth 100000 in
set_option maxHeartbeats 8000000 in
theorem addrPrints_true (pv : Value) (a : Ad) (w : World) (hP : StrS w w.heap.size pv a.path) (hL : AdL a) (hG : AdG w) (hr : rightA a = true) :
    Calls Tryz.prog 11 #[.agg (adV pv a)] w fun e w' => e = .returned (.bool true) ∧ Below w.heap.size w w' := by
  obtain ⟨pth, ty, nm, key, place, word⟩ := a
  obtain ⟨ao, ac, hpv⟩ := hP.len
  obtain ⟨n, hn⟩ : ∃ n, pth.length = n := ⟨_, rfl⟩
  try dsimp only at hpv hP ⊢
  rw [hn] at hpv
  subst hpv
  have HN := Lib.hid hn
  have HLL := Lib.hid hL
  have HR := Lib.hid hr
  have HE := Lib.hid (Env.start (a := ⟨pth, ty, nm, key, place, word⟩) hP hG)
  clear hP hG hn hL hr
  have CG : Hid (∀ W, StrS W W.heap.size (.slice ao n ac) pth → Calls Tryz.prog 27 #[.agg #[.slice ao n ac, .string ty, .string nm, .int .i64 key, .int .u64 ((place : Nat) : Int), .string word]] W fun e w' => GreatEnd ⟨pth, ty, nm, key, place, word⟩ e ∧ Below W.heap.size W w') := fun W h => great_any (.slice ao n ac) ⟨pth, ty, nm, key, place, word⟩ W h HLL.out
  unfold adV at HE ⊢
  try dsimp only at HE ⊢
  go_enter Tryz.func11, Tryz.ntmps11
  go_upto_region 1 with fail
  obtain ⟨W, hW⟩ : ∃ W, w.alloc (.cells #[.slice ao n ac, .string ty, .string nm, .int .i64 key, .int .u64 ((place : Nat) : Int), .string word] 29) = W := ⟨_, rfl⟩
  obtain ⟨A, hAA⟩ : ∃ A, w.heap.size = A := ⟨_, rfl⟩
  rw [hW] at HE ⊢
  rw [hAA] at HE ⊢
  clear hW hAA
  go_wp2_with fail
  refine (awakes_any _ HE.out.glb).mono ?_
  rintro e w1 ⟨rfl, hb⟩
  have HE1 := Lib.hid (HE.out.below hb)
  clear hb HE
  have a0 := HE1.out.c0
  have a1 := HE1.out.c1
  have a2 := HE1.out.c2
  have a3 := HE1.out.c3
  have a4 := HE1.out.c4
  have a5 := HE1.out.c5
  go_wp2_with fail
  refine (CG.out _ HE1.out.str).mono ?_
  intro e w2 hh
  obtain ⟨⟨b, rfl, hgr⟩, hb⟩ := hh
  have HE2 := Lib.hid (HE1.out.below hb)
  have HGR := Lib.hid hgr
  clear hb hgr HE1 CG a0 a1 a2 a3 a4 a5
  cases b
  case true =>
    go_wp2_with fail
    go_ret
    exact ⟨rfl, HE2.out.bel⟩
  case false =>
    have hB := small_AdB ⟨pth, ty, nm, key, place, word⟩ (HGR.out rfl) HLL.out.pc
    have hsz := print_size ⟨pth, ty, nm, key, place, word⟩ (HGR.out rfl) HLL.out.pc
    have hrr := HR.out
    obtain ⟨T, hT⟩ : ∃ T, mk (printA ⟨pth, ty, nm, key, place, word⟩) = T := ⟨_, rfl⟩
    have CP : Hid (∀ W, Env w W A ao n ac ⟨pth, ty, nm, key, place, word⟩ → Calls Tryz.prog 41 #[.agg #[.slice ao n ac, .string ty, .string nm, .int .i64 key, .int .u64 ((place : Nat) : Int), .string word]] W fun e w' => e = .returned (.string T) ∧ Below W.heap.size W w') := fun W h => by
      rw [← hT]; exact aprint_any (.slice ao n ac) ⟨pth, ty, nm, key, place, word⟩ W h.glb.lx h.str hB
    have CQ : Hid (∀ W, Env w W A ao n ac ⟨pth, ty, nm, key, place, word⟩ → Calls Tryz.prog 31 #[.agg #[.slice ao n ac, .string ty, .string nm, .int .i64 key, .int .u64 ((place : Nat) : Int), .string word]] W fun e w' => e = .returned (.string T) ∧ Below W.heap.size W w') := fun W h => by
      rw [← hT]; exact raprint_any (.slice ao n ac) ⟨pth, ty, nm, key, place, word⟩ W h.str hB
    have CR : Hid (∀ W, Env w W A ao n ac ⟨pth, ty, nm, key, place, word⟩ → Calls Tryz.prog 42 #[.agg #[.slice ao n ac, .string ty, .string nm, .int .i64 key, .int .u64 ((place : Nat) : Int), .string word]] W fun e w' => e = .returned (.bool true) ∧ Below W.heap.size W w') := fun W h => by
      have := aright_any (.slice ao n ac) ⟨pth, ty, nm, key, place, word⟩ W h.glb.lx h.str hB
      rw [hrr] at this
      exact this
    have CS : Hid (∀ W, Env w W A ao n ac ⟨pth, ty, nm, key, place, word⟩ → Calls Tryz.prog 43 #[.agg #[.slice ao n ac, .string ty, .string nm, .int .i64 key, .int .u64 ((place : Nat) : Int), .string word]] W fun e w' => e = .returned (.bool true) ∧ Below W.heap.size W w') := fun W h => by
      have := raright_any (.slice ao n ac) ⟨pth, ty, nm, key, place, word⟩ W h.str hB
      rw [hrr] at this
      exact this
    have C3 : Hid (∀ W, AdG W → Calls Tryz.prog 39 #[.string T] W fun e w' => ParseEnd (some ⟨pth, ty, nm, key, place, word⟩) w' e ∧ Below W.heap.size W w') := fun W h => by
      have := aparse_any T W (by rw [← hT]; exact hsz) h
      rw [← hT, mk_data, print_back ⟨pth, ty, nm, key, place, word⟩ hrr HLL.out.pc, hT] at this
      exact this
    have hemp : T.toList.isEmpty = false := by
      rw [isEmpty_dat, ← hT, mk_data]
      cases h : printA ⟨pth, ty, nm, key, place, word⟩ with
      | nil => rw [(print_nil _).1 h] at hrr; cases hrr
      | cons _ _ => rfl
    have hpl : pth.length ≤ 1000000000 := by have := hB.pl; dsimp only at this; omega
    have HPL := Lib.hid hpl
    clear hpl hB hsz hrr hT
    have a0 := HE2.out.c0
    have a1 := HE2.out.c1
    have a2 := HE2.out.c2
    have a3 := HE2.out.c3
    have a4 := HE2.out.c4
    have a5 := HE2.out.c5
    go_wp2_with fail
    refine (CP.out _ HE2.out).mono ?_
    rintro e w3 ⟨rfl, hb⟩
    have HE := Lib.hid (HE2.out.below hb)
    clear hb HE2 a0 a1 a2 a3 a4 a5 CP
    have a0 := HE.out.c0
    have a1 := HE.out.c1
    have a2 := HE.out.c2
    have a3 := HE.out.c3
    have a4 := HE.out.c4
    have a5 := HE.out.c5
    go_upto_region 6 with fail
    go_cut [22] (fun b wx => b = .bool false ∧ Hid (Env w wx A ao n ac ⟨pth, ty, nm, key, place, word⟩))
    case first =>
      go_region_with (first
          | (go_at_call 42; refine (CR.out _ (by first | exact HE.out.drew | assumption)).mono ?_; rintro e' w2 ⟨rfl, hb2⟩; have hE2 : Env w w2 A ao n ac ⟨pth, ty, nm, key, place, word⟩ := Env.below (by first | exact HE.out.drew | assumption) hb2; have a0' := hE2.c0; have a1' := hE2.c1; have a2' := hE2.c2; have a3' := hE2.c3; have a4' := hE2.c4; have a5' := hE2.c5; clear hb2)
          | (go_at_call 43; refine (CS.out _ (by first | exact HE.out.drew | assumption)).mono ?_; rintro e' w2 ⟨rfl, hb2⟩; have hE2 : Env w w2 A ao n ac ⟨pth, ty, nm, key, place, word⟩ := Env.below (by first | exact HE.out.drew | assumption) hb2; have a0' := hE2.c0; have a1' := hE2.c1; have a2' := hE2.c2; have a3' := hE2.c3; have a4' := hE2.c4; have a5' := hE2.c5; clear hb2)
          | (go_at_call 31; refine (CQ.out _ (by first | exact HE.out.drew | assumption)).mono ?_; rintro e' w2 ⟨rfl, hb2⟩; have hE2 : Env w w2 A ao n ac ⟨pth, ty, nm, key, place, word⟩ := Env.below (by first | exact HE.out.drew | assumption) hb2; have a0' := hE2.c0; have a1' := hE2.c1; have a2' := hE2.c2; have a3' := hE2.c3; have a4' := hE2.c4; have a5' := hE2.c5; clear hb2))
      all_goals (go_wp2_with fail; go_meet; exact ⟨rfl, hE2⟩)
    case rest =>
      obtain ⟨rfl, HE'⟩ := hcut
      clear HE a0 a1 a2 a3 a4 a5 CQ CR CS
      go_wp2_with fail
      refine (C3.out _ HE'.out.glb).mono ?_
      intro e w7 hh
      obtain ⟨⟨qv, hs1, rfl⟩, hb⟩ := hh
      obtain ⟨co, cc, hqv⟩ := hs1.len
      simp only [Option.getD_some] at hqv hs1 ⊢
      rw [HN.out] at hqv
      subst hqv
      have hl4 := (Below.refl w7.heap.size w7).alloc (Nat.le_refl _) (.cells (adV (.slice co n cc) ⟨pth, ty, nm, key, place, word⟩) 29)
      have HB7 := Lib.hid (Blk.new w7 29 (adV (.slice co n cc) ⟨pth, ty, nm, key, place, word⟩))
      have HT7 := Lib.hid (hs1.far hl4)
      have HE7 := Lib.hid (HE'.out.below (hb.trans (hl4.mono hb.size)))
      clear hb hl4 hs1 HE' C3
      unfold adV at HB7 HT7 HE7 ⊢
      dsimp only [Option.isSome_some] at HB7 HT7 HE7 ⊢
      go_upto_region 9 with fail
      obtain ⟨W7, hW7⟩ : ∃ W7, w7.alloc (.cells #[.slice co n cc, .string ty, .string nm, .int .i64 key, .int .u64 ((place : Nat) : Int), .string word] 29) = W7 := ⟨_, rfl⟩
      obtain ⟨B, hBB⟩ : ∃ B, w7.heap.size = B := ⟨_, rfl⟩
      rw [hW7] at HB7 HT7 HE7 ⊢
      rw [hBB] at HB7 ⊢
      clear hW7 hBB
      have CE : Hid (Calls Tryz.prog 17 #[.agg #[.slice ao n ac, .string ty, .string nm, .int .i64 key, .int .u64 ((place : Nat) : Int), .string word], .agg #[.slice co n cc, .string ty, .string nm, .int .i64 key, .int .u64 ((place : Nat) : Int), .string word]] W7 fun e w' => e = .returned (.bool true) ∧ Below W7.heap.size W7 w') := by
        have := rasame_any (.slice ao n ac) (.slice co n cc) ⟨pth, ty, nm, key, place, word⟩ ⟨pth, ty, nm, key, place, word⟩ W7 HE7.out.str HT7.out HPL.out HPL.out
        rw [decide_eq_true rfl] at this
        exact this
      have a0 := HE7.out.c0
      have a1 := HE7.out.c1
      have a2 := HE7.out.c2
      have a3 := HE7.out.c3
      have a4 := HE7.out.c4
      have a5 := HE7.out.c5
      have b0 : W7.cell? ⟨B, 0, none⟩ = some (.slice co n cc) := HB7.out.cell 0
      have b1 : W7.cell? ⟨B, 1, none⟩ = some (.string ty) := HB7.out.cell 1
      have b2 : W7.cell? ⟨B, 2, none⟩ = some (.string nm) := HB7.out.cell 2
      have b3 : W7.cell? ⟨B, 3, none⟩ = some (.int .i64 key) := HB7.out.cell 3
      have b4 : W7.cell? ⟨B, 4, none⟩ = some (.int .u64 ((place : Nat) : Int)) := HB7.out.cell 4
      have b5 : W7.cell? ⟨B, 5, none⟩ = some (.string word) := HB7.out.cell 5
      go_wp2_with fail
      refine CE.out.mono ?_
      rintro e w9 ⟨rfl, hb⟩
      have HL9 := Lib.hid (HE7.out.below hb).bel
      clear hb a0 a1 a2 a3 a4 a5 b0 b1 b2 b3 b4 b5 HE7 HB7 HT7 CE
      go_wp2_with fail
      go_ret
      exact ⟨rfl, HL9.out⟩


set_option maxRecDepth 100000 in
set_option maxHeartbeats 8000000 in
theorem addrPrints_false (pv : Value) (a : Ad) (w : World) (hP : StrS w w.heap.size pv a.path) (hL : AdL a) (hG : AdG w) (hr : rightA a = false) :
    Calls Tryz.prog 11 #[.agg (adV pv a)] w fun e w' => e = .returned (.bool true) ∧ Below w.heap.size w w' := by
  obtain ⟨pth, ty, nm, key, place, word⟩ := a
  obtain ⟨ao, ac, hpv⟩ := hP.len
  obtain ⟨n, hn⟩ : ∃ n, pth.length = n := ⟨_, rfl⟩
  try dsimp only at hpv hP ⊢
  rw [hn] at hpv
  subst hpv
  have HN := Lib.hid hn
  have HLL := Lib.hid hL
  have HR := Lib.hid hr
  have HE := Lib.hid (Env.start (a := ⟨pth, ty, nm, key, place, word⟩) hP hG)
  clear hP hG hn hL hr
  have CG : Hid (∀ W, StrS W W.heap.size (.slice ao n ac) pth → Calls Tryz.prog 27 #[.agg #[.slice ao n ac, .string ty, .string nm, .int .i64 key, .int .u64 ((place : Nat) : Int), .string word]] W fun e w' => GreatEnd ⟨pth, ty, nm, key, place, word⟩ e ∧ Below W.heap.size W w') := fun W h => great_any (.slice ao n ac) ⟨pth, ty, nm, key, place, word⟩ W h HLL.out
  unfold adV at HE ⊢
  try dsimp only at HE ⊢
  go_enter Tryz.func11, Tryz.ntmps11
  go_upto_region 1 with fail
  obtain ⟨W, hW⟩ : ∃ W, w.alloc (.cells #[.slice ao n ac, .string ty, .string nm, .int .i64 key, .int .u64 ((place : Nat) : Int), .string word] 29) = W := ⟨_, rfl⟩
  obtain ⟨A, hAA⟩ : ∃ A, w.heap.size = A := ⟨_, rfl⟩
  rw [hW] at HE ⊢
  rw [hAA] at HE ⊢
  clear hW hAA
  go_wp2_with fail
  refine (awakes_any _ HE.out.glb).mono ?_
  rintro e w1 ⟨rfl, hb⟩
  have HE1 := Lib.hid (HE.out.below hb)
  clear hb HE
  have a0 := HE1.out.c0
  have a1 := HE1.out.c1
  have a2 := HE1.out.c2
  have a3 := HE1.out.c3
  have a4 := HE1.out.c4
  have a5 := HE1.out.c5
  go_wp2_with fail
  refine (CG.out _ HE1.out.str).mono ?_
  intro e w2 hh
  obtain ⟨⟨b, rfl, hgr⟩, hb⟩ := hh
  have HE2 := Lib.hid (HE1.out.below hb)
  have HGR := Lib.hid hgr
  clear hb hgr HE1 CG a0 a1 a2 a3 a4 a5
  cases b
  case true =>
    go_wp2_with fail
    go_ret
    exact ⟨rfl, HE2.out.bel⟩
  case false =>
    have hB := small_AdB ⟨pth, ty, nm, key, place, word⟩ (HGR.out rfl) HLL.out.pc
    have hsz := print_size ⟨pth, ty, nm, key, place, word⟩ (HGR.out rfl) HLL.out.pc
    have hrr := HR.out
    obtain ⟨T, hT⟩ : ∃ T, mk (printA ⟨pth, ty, nm, key, place, word⟩) = T := ⟨_, rfl⟩
    have CP : Hid (∀ W, Env w W A ao n ac ⟨pth, ty, nm, key, place, word⟩ → Calls Tryz.prog 41 #[.agg #[.slice ao n ac, .string ty, .string nm, .int .i64 key, .int .u64 ((place : Nat) : Int), .string word]] W fun e w' => e = .returned (.string T) ∧ Below W.heap.size W w') := fun W h => by
      rw [← hT]; exact aprint_any (.slice ao n ac) ⟨pth, ty, nm, key, place, word⟩ W h.glb.lx h.str hB
    have CQ : Hid (∀ W, Env w W A ao n ac ⟨pth, ty, nm, key, place, word⟩ → Calls Tryz.prog 31 #[.agg #[.slice ao n ac, .string ty, .string nm, .int .i64 key, .int .u64 ((place : Nat) : Int), .string word]] W fun e w' => e = .returned (.string T) ∧ Below W.heap.size W w') := fun W h => by
      rw [← hT]; exact raprint_any (.slice ao n ac) ⟨pth, ty, nm, key, place, word⟩ W h.str hB
    have CR : Hid (∀ W, Env w W A ao n ac ⟨pth, ty, nm, key, place, word⟩ → Calls Tryz.prog 42 #[.agg #[.slice ao n ac, .string ty, .string nm, .int .i64 key, .int .u64 ((place : Nat) : Int), .string word]] W fun e w' => e = .returned (.bool false) ∧ Below W.heap.size W w') := fun W h => by
      have := aright_any (.slice ao n ac) ⟨pth, ty, nm, key, place, word⟩ W h.glb.lx h.str hB
      rw [hrr] at this
      exact this
    have CS : Hid (∀ W, Env w W A ao n ac ⟨pth, ty, nm, key, place, word⟩ → Calls Tryz.prog 43 #[.agg #[.slice ao n ac, .string ty, .string nm, .int .i64 key, .int .u64 ((place : Nat) : Int), .string word]] W fun e w' => e = .returned (.bool false) ∧ Below W.heap.size W w') := fun W h => by
      have := raright_any (.slice ao n ac) ⟨pth, ty, nm, key, place, word⟩ W h.str hB
      rw [hrr] at this
      exact this
    have hT0 : T = ⟨#[]⟩ := by rw [← hT, (print_nil _).2 hrr]; rfl
    subst hT0
    have C3 : Hid (∀ W, AdG W → Calls Tryz.prog 39 #[.string ⟨#[]⟩] W fun e w' => ParseEnd none w' e ∧ Below W.heap.size W w') := fun W h => by
      have := aparse_any ⟨#[]⟩ W (Nat.zero_le _) h
      rw [show parseA (ByteArray.mk #[]).data.toList = none from parse_empty] at this
      exact this
    clear hB hsz hrr hT
    have a0 := HE2.out.c0
    have a1 := HE2.out.c1
    have a2 := HE2.out.c2
    have a3 := HE2.out.c3
    have a4 := HE2.out.c4
    have a5 := HE2.out.c5
    go_wp2_with fail
    refine (CP.out _ HE2.out).mono ?_
    rintro e w3 ⟨rfl, hb⟩
    have HE := Lib.hid (HE2.out.below hb)
    clear hb HE2 a0 a1 a2 a3 a4 a5 CP
    have a0 := HE.out.c0
    have a1 := HE.out.c1
    have a2 := HE.out.c2
    have a3 := HE.out.c3
    have a4 := HE.out.c4
    have a5 := HE.out.c5
    go_upto_region 6 with fail
    go_cut [22] (fun b wx => b = .bool false ∧ Hid (Env w wx A ao n ac ⟨pth, ty, nm, key, place, word⟩))
    case first =>
      go_region_with (first
          | (go_at_call 42; refine (CR.out _ (by first | exact HE.out.drew | assumption)).mono ?_; rintro e' w2 ⟨rfl, hb2⟩; have hE2 : Env w w2 A ao n ac ⟨pth, ty, nm, key, place, word⟩ := Env.below (by first | exact HE.out.drew | assumption) hb2; have a0' := hE2.c0; have a1' := hE2.c1; have a2' := hE2.c2; have a3' := hE2.c3; have a4' := hE2.c4; have a5' := hE2.c5; clear hb2)
          | (go_at_call 43; refine (CS.out _ (by first | exact HE.out.drew | assumption)).mono ?_; rintro e' w2 ⟨rfl, hb2⟩; have hE2 : Env w w2 A ao n ac ⟨pth, ty, nm, key, place, word⟩ := Env.below (by first | exact HE.out.drew | assumption) hb2; have a0' := hE2.c0; have a1' := hE2.c1; have a2' := hE2.c2; have a3' := hE2.c3; have a4' := hE2.c4; have a5' := hE2.c5; clear hb2)
          | (go_at_call 31; refine (CQ.out _ (by first | exact HE.out.drew | assumption)).mono ?_; rintro e' w2 ⟨rfl, hb2⟩; have hE2 : Env w w2 A ao n ac ⟨pth, ty, nm, key, place, word⟩ := Env.below (by first | exact HE.out.drew | assumption) hb2; have a0' := hE2.c0; have a1' := hE2.c1; have a2' := hE2.c2; have a3' := hE2.c3; have a4' := hE2.c4; have a5' := hE2.c5; clear hb2))
      all_goals (go_wp2_with fail; go_meet; exact ⟨rfl, hE2⟩)
    case rest =>
      obtain ⟨rfl, HE'⟩ := hcut
      clear HE a0 a1 a2 a3 a4 a5 CQ CR CS
      go_wp2_with fail
      refine (C3.out _ HE'.out.glb).mono ?_
      intro e w7 hh
      obtain ⟨⟨qv, hs1, rfl⟩, hb⟩ := hh
      obtain ⟨co, cc, hqv⟩ := hs1.len
      simp only [Option.getD_none] at hqv hs1 ⊢
      have hqv2 : qv = .slice co 0 cc := hqv
      subst hqv2
      have hl4 := (Below.refl w7.heap.size w7).alloc (Nat.le_refl _) (.cells (adV (.slice co 0 cc) Ad.zero) 29)
      have HE7 := Lib.hid (HE'.out.below (hb.trans (hl4.mono hb.size))).bel
      clear hb hl4 hs1 HE' C3 hqv
      unfold adV Ad.zero at HE7 ⊢
      dsimp only [Option.isSome_none] at HE7 ⊢
      go_wp2_with fail
      go_ret
      exact ⟨rfl, HE7.out⟩

theorem addrPrints_any (pv : Value) (a : Ad) (w : World) (hP : StrS w w.heap.size pv a.path) (hL : AdL a) (hG : AdG w) :
    Calls Tryz.prog 11 #[.agg (adV pv a)] w fun e w' => e = .returned (.bool true) ∧ Below w.heap.size w w' := by
  cases h : rightA a with
  | true => exact addrPrints_true pv a w hP hL hG h
  | false => exact addrPrints_false pv a w hP hL hG h
end Go.Proofs.YtdfihhebgllpcaaGreatDoor
