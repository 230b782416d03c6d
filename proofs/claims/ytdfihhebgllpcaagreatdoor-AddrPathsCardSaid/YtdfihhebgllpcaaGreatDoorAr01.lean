import Derived.Test.YtdfihhebgllpcaaGreatDoorAq01
import Derived.Laws.AppendOwnNone

/- An address that came in, and where its path lies. -/
namespace Go.Proofs.YtdfihhebgllpcaaGreatDoor
open Go.RowKit Go.WideShapes Go.ChangeShapes Go.Proofs.AddrPlain

set_option maxRecDepth 100000 in
theorem open_address2 {H : Type} {enc : TypeId × Value → H} {W : World} {r : Reach} {b0 base : Nat} {sp : Nat → Bool} {held : Bool} {v : Value} {d : DataW H} {ps : List MemPlace}
    (hval : Value.okWide Tryz.prog W r b0 29 v) (hd : DataW.Trod enc Tryz.prog W base sp held 29 v d ps) (hw : ∀ n ∈ d.weights Tryz.prog 29, n ≤ reachBytes) :
    ∃ (pv : Value) (a : Ad), v = .agg (adV pv a) ∧ StrS W W.heap.size pv a.path ∧ AdL a ∧ (pv = .slice none 0 0 ∨ ∃ ad ac, pv = .slice (some ad) a.path.length ac) := by
  obtain ⟨cs, rfl, hsz⟩ := okWide_struct Tryz.underlying29 hval
  obtain ⟨fuel, hf⟩ := hd
  obtain ⟨xs, n, _, ex, hl, hxl, hfs⟩ := DataW.trod_struct Tryz.underlying29 hf
  have hc : Tryz.prog.cellsOf 29 = 6 := by kernel_rfl
  rw [hc] at hsz hl
  have hd0 : d = .agg (xs.map (·.1)) := (Prod.mk.inj ex).1
  have hx6 : xs.length = 6 := hxl
  have hw2 : ∀ n ∈ DataW.weightsEach Tryz.prog [27, 9, 9, 3, 24, 9] (xs.map (·.1)), n ≤ reachBytes := by
    intro n hn
    refine hw n ?_
    rw [hd0]
    unfold DataW.weights
    rw [Tryz.underlying29]
    exact hn
  clear hw
  obtain ⟨c⟩ := cs
  match c, hsz with
  | [v0, v1, v2, v3, v4, v5], _ =>
    obtain ⟨x0, x1, x2, x3, x4, x5, rfl⟩ : ∃ x0 x1 x2 x3 x4 x5, xs = [x0, x1, x2, x3, x4, x5] := by
      match xs, hx6 with
      | [x0, x1, x2, x3, x4, x5], _ => exact ⟨x0, x1, x2, x3, x4, x5, rfl⟩
    have h0 := (hfs 0 _ rfl).trans (show [x0, x1, x2, x3, x4, x5][0]? = some x0 from rfl)
    have h1 := (hfs 1 _ rfl).trans (show [x0, x1, x2, x3, x4, x5][1]? = some x1 from rfl)
    have h2 := (hfs 2 _ rfl).trans (show [x0, x1, x2, x3, x4, x5][2]? = some x2 from rfl)
    have h3 := (hfs 3 _ rfl).trans (show [x0, x1, x2, x3, x4, x5][3]? = some x3 from rfl)
    have h4 := (hfs 4 _ rfl).trans (show [x0, x1, x2, x3, x4, x5][4]? = some x4 from rfl)
    have h5 := (hfs 5 _ rfl).trans (show [x0, x1, x2, x3, x4, x5][5]? = some x5 from rfl)
    obtain ⟨s1, e1, f1, _⟩ := DataW.trod_string (by kernel_rfl) h1
    obtain ⟨s2, e2, f2, _⟩ := DataW.trod_string (by kernel_rfl) h2
    obtain ⟨z3, e3, f3, _⟩ := DataW.trod_int (k := .i64) (by kernel_rfl) h3
    obtain ⟨z4, e4, f4, g4⟩ := DataW.trod_int (k := .u64) (by kernel_rfl) h4
    obtain ⟨s5, e5, f5, _⟩ := DataW.trod_string (by kernel_rfl) h5
    have q1 : v1 = .string s1 := one_of e1 v1 rfl
    have q2 : v2 = .string s2 := one_of e2 v2 rfl
    have q3 : v3 = .int .i64 z3 := one_of e3 v3 rfl
    have q4 : v4 = .int .u64 z4 := one_of e4 v4 rfl
    have q5 : v5 = .string s5 := one_of e5 v5 rfl
    subst q1 q2 q3 q4 q5
    have b1 : s1.size ≤ 140737488351232 := str_bound hw2 (j := 1) rfl (by rw [f1]; rfl)
    have b2 : s2.size ≤ 140737488351232 := str_bound hw2 (j := 2) rfl (by rw [f2]; rfl)
    have b5 : s5.size ≤ 140737488351232 := str_bound hw2 (j := 5) rfl (by rw [f5]; rfl)
    have hz : 0 ≤ z4 ∧ z4 < 18446744073709551616 := by
      simp [Lit.wf] at g4
      have m1 : IntKind.u64.min = 0 := by decide
      have m2 : IntKind.u64.max = 18446744073709551615 := by decide
      omega
    obtain ⟨p, hp⟩ := Int.eq_ofNat_of_zero_le hz.1
    subst hp
    rcases open_strings Tryz.underlying27 Tryz.underlying9 (by kernel_rfl) h0 with ⟨hcs, _⟩ | ⟨ad, len, cap, ss, hcs, _, hlc, _, hz0, hx, hcell, _⟩
    · have q0 : v0 = .slice none 0 0 := one_of hcs v0 rfl
      subst q0
      exact ⟨_, ⟨[], s1, s2, z3, p, s5⟩, rfl, ⟨none, 0, rfl, fun j X h => by simp at h⟩, ⟨Nat.zero_le _, fun X h => by simp at h, b1, b2, b5, (by have := hz.2; omega : p < 18446744073709551616)⟩, .inl rfl⟩
    · have q0 : v0 = .slice (some ad) len cap := one_of hcs v0 rfl
      subst q0
      have hlen : len ≤ ss.length := by rw [hz0]; split <;> omega
      have htl : (ss.take len).length = len := by rw [List.length_take]; omega
      have hwp : ∀ n ∈ (DataW.slice (strs (ss.take len)) (strs (ss.drop len)) : DataW H).weights Tryz.prog 27, n ≤ reachBytes := fun n hn => hw2 n (DataW.weights_mem_each (j := 0) rfl (by rw [hx]; rfl) n hn)
      have hwu : (DataW.slice (strs (ss.take len)) (strs (ss.drop len)) : DataW H).weights Tryz.prog 27 = ((strs (ss.take len) : List (DataW H)).length + (strs (ss.drop len) : List (DataW H)).length) * Tryz.prog.bytesOf 9 :: (DataW.weightsAll Tryz.prog 9 (strs (ss.take len) : List (DataW H)) ++ DataW.weightsAll Tryz.prog 9 (strs (ss.drop len) : List (DataW H))) := by
        unfold DataW.weights
        rw [Tryz.underlying27]
      rw [hwu] at hwp
      have hb16 : Tryz.prog.bytesOf 9 = 16 := by kernel_rfl
      have hll : len ≤ 140737488351232 := by
        have := hwp _ (List.mem_cons_self ..)
        rw [hb16] at this
        have e : (strs (ss.take len) : List (DataW H)).length = len := by unfold strs; rw [List.length_map, htl]
        rw [e] at this
        have e2 : reachBytes = 140737488351232 := rfl
        rw [e2] at this
        omega
      refine ⟨_, ⟨ss.take len, s1, s2, z3, p, s5⟩, ?_, ⟨some ad, cap, by rw [htl], fun j X h => ?_⟩, ⟨by rw [htl]; exact hll, fun X h => ?_, b1, b2, b5, (by have := hz.2; omega : p < 18446744073709551616)⟩, .inr ⟨ad, cap, by show _ = Value.slice (some ad) (ss.take len).length cap; rw [htl]⟩⟩
      · rfl
      · have h : (ss.take len)[j]? = some X := h
        have hj : j < len := by
          have := (List.getElem?_eq_some_iff.1 h).1
          omega
        have h' : ss[j]? = some X := by rw [List.getElem?_take_of_lt hj] at h; exact h
        have hc2 := hcell j (by omega)
        rw [List.getD, h'] at hc2
        refine ⟨ad, rfl, ?_, hc2⟩
        have := World.block_lt_of_cell? W _ hc2
        rw [add_block] at this
        exact this
      · have := hwp X.data.toList.length (List.mem_cons_of_mem _ (List.mem_append_left _ (weightsAll_in (d := .lit (.string X.data.toList)) (by unfold strs; exact List.mem_map.2 ⟨X, h, rfl⟩) _ (by simp [DataW.weights]))))
        rw [data_size] at this
        exact this
end Go.Proofs.YtdfihhebgllpcaaGreatDoor

/- The walk of the statement AddrPaths. -/
namespace Go.Proofs.YtdfihhebgllpcaaGreatDoor
open Go.RowKit Go.Proofs.QuotePlain Go.Proofs.UtfPlain Go.Proofs.LexPlain Go.Proofs.AddrPlain

theorem mk_app (a b : List UInt8) : mk (a ++ b) = mk a ++ mk b := by
  apply ByteArray.ext
  simp [mk]
theorem paths_text (m : ByteArray) (P : List UInt8) : mk (stepP m ++ P) = ((ByteArray.mk #[109, 111, 100, 117, 108, 101, 46] ++ m) ++ ByteArray.mk #[46]) ++ mk P := by
  have h : ((mk [109, 111, 100, 117, 108, 101, 46] ++ mk m.data.toList) ++ mk [46]) ++ mk P = mk (stepP m ++ P) := by
    rw [← mk_app, ← mk_app, ← mk_app]
    unfold stepP modL
    simp
  rw [mk_eta] at h
  exact h.symm

theorem wpList_none_all {P : Program} {w : World} {ops : Array Oper} {rest : List Oper} {o : Oper} {a : Act} {Q : Exit → Act → World → Prop} (hgd : o.guard = none) (s x : Operand) (t : TypeId)
    (ho : o.op = .call { callee := .builtin .append, args := #[s, x], argTypes := #[t, t] })
    (base : Nat) (e : TypeId) (i : TypeInfo) (size : Nat) (ht : P.underlying t = some (.slice e)) (hi : P.info? e = some i)
    (v : Value) (n : Nat) (xs : List Value) (hs : a.eval s = v) (hown : w.ownsRow base e size v n xs) (hx : a.eval x = .slice none 0 0)
    (h : ∀ v' w', Hid (v' = v ∧ w' = w) → wpList P ops Q rest (a.put o.dst v') w') : wpList P ops Q (o :: rest) a w :=
  wpList_append_own_none hgd s x t ho base e i size ht hi v n xs hs hown hx (h v w ⟨rfl, rfl⟩)
def a0path (pv : Value) (a : Ad) : Prop := ∃ ao cap, pv = .slice ao a.path.length cap
theorem path_none {a : Ad} (h : a0path (.slice none 0 0) a) : a.path.length = 0 := by
  obtain ⟨ao, cap, e⟩ := h
  injection e with e1 e2 e3
  exact e2.symm

set_option maxRecDepth 100000 in
set_option maxHeartbeats 8000000 in
theorem addrPaths_some (pv : Value) (a : Ad) (m : ByteArray) (w : World) (hP : StrS w w.heap.size pv a.path) (hL : AdL a) (hm : m.size ≤ 9223372036854775807) (hG : AdG w) (hsome : ∃ ad ac, pv = .slice (some ad) a.path.length ac) :
    Calls Tryz.prog 12 #[.agg (adV pv a), .string m] w fun e w' => e = .returned (.bool true) ∧ Below w.heap.size w w' := by
  obtain ⟨pth, ty, nm, key, place, word⟩ := a
  obtain ⟨ad, ac, hpv⟩ := hsome
  obtain ⟨n, hn⟩ : ∃ n, pth.length = n := ⟨_, rfl⟩
  try dsimp only at hpv hP ⊢
  rw [hn] at hpv
  subst hpv
  have HN := Lib.hid hn
  have HLL := Lib.hid hL
  have hnl : n ≤ 140737488351232 := by rw [← hn]; exact hL.pl
  have HE := Lib.hid (Env.start (a := ⟨pth, ty, nm, key, place, word⟩) hP hG)
  clear hP hG hn hL
  have CG : Hid (∀ W, StrS W W.heap.size (.slice (some ad) n ac) pth → Calls Tryz.prog 27 #[.agg #[.slice (some ad) n ac, .string ty, .string nm, .int .i64 key, .int .u64 ((place : Nat) : Int), .string word]] W fun e w' => GreatEnd ⟨pth, ty, nm, key, place, word⟩ e ∧ Below W.heap.size W w') := fun W h => great_any (.slice (some ad) n ac) ⟨pth, ty, nm, key, place, word⟩ W h HLL.out
  unfold adV at HE ⊢
  try dsimp only at HE ⊢
  go_enter Tryz.func12, Tryz.ntmps12
  go_upto_region 1 with fail
  obtain ⟨W, hW⟩ : ∃ W, w.alloc (.cells #[.slice (some ad) n ac, .string ty, .string nm, .int .i64 key, .int .u64 ((place : Nat) : Int), .string word] 29) = W := ⟨_, rfl⟩
  obtain ⟨A, hAA⟩ : ∃ A, w.heap.size = A := ⟨_, rfl⟩
  rw [hW] at HE ⊢
  rw [hAA] at HE ⊢
  clear hW hAA
  go_wp2_with fail
  refine (awakes_any _ HE.out.glb).mono ?_
  rintro e w1 ⟨rfl, hb⟩
  have HE1 := Lib.hid (HE.out.below hb)
  clear hb HE
  have a0 := HE1.out.c0
  have a1 := HE1.out.c1
  have a2 := HE1.out.c2
  have a3 := HE1.out.c3
  have a4 := HE1.out.c4
  have a5 := HE1.out.c5
  go_wp2_with fail
  refine (CG.out _ HE1.out.str).mono ?_
  intro e w2 hh
  obtain ⟨⟨b, rfl, hgr⟩, hb⟩ := hh
  have HE2 := Lib.hid (HE1.out.below hb)
  have HGR := Lib.hid hgr
  clear hb hgr HE1 CG a0 a1 a2 a3 a4 a5
  cases b
  case true =>
    go_wp2_with fail
    go_ret
    exact ⟨rfl, HE2.out.bel⟩

  have hB := small_AdB ⟨pth, ty, nm, key, place, word⟩ (HGR.out rfl) HLL.out.pc
  have HB := Lib.hid hB
  clear hB
  obtain ⟨R, hR⟩ : ∃ R, rightA ⟨pth, ty, nm, key, place, word⟩ = R := ⟨_, rfl⟩
  have CS : Hid (∀ W, Env w W A (some ad) n ac ⟨pth, ty, nm, key, place, word⟩ → Calls Tryz.prog 43 #[.agg #[.slice (some ad) n ac, .string ty, .string nm, .int .i64 key, .int .u64 ((place : Nat) : Int), .string word]] W fun e w' => e = .returned (.bool R) ∧ Below W.heap.size W w') := fun W h => by
    rw [← hR]; exact raright_any (.slice (some ad) n ac) ⟨pth, ty, nm, key, place, word⟩ W h.str HB.out
  have HR := Lib.hid hR
  clear hR
  have a0 := HE2.out.c0
  have a1 := HE2.out.c1
  have a2 := HE2.out.c2
  have a3 := HE2.out.c3
  have a4 := HE2.out.c4
  have a5 := HE2.out.c5
  go_wp2_with fail
  refine (CS.out _ HE2.out).mono ?_
  rintro e w3 ⟨rfl, hb⟩
  have HE3 := Lib.hid (HE2.out.below hb)
  clear hb HE2 CS a0 a1 a2 a3 a4 a5
  have a0 := HE3.out.c0
  have a1 := HE3.out.c1
  have a2 := HE3.out.c2
  have a3 := HE3.out.c3
  have a4 := HE3.out.c4
  have a5 := HE3.out.c5
  cases R
  case false =>
    go_wp2_with fail
    go_ret
    exact ⟨rfl, HE3.out.bel⟩

  by_cases h100 : 100 < m.size
  · have h100' : (100 : Int) < (m.size : Int) := by omega
    go_wp2_with fail
    go_ret
    exact ⟨rfl, HE3.out.bel⟩

  have h100' : ¬ (100 : Int) < (m.size : Int) := by omega
  obtain ⟨K, hK⟩ : ∃ K, isName m.data.toList = K := ⟨_, rfl⟩
  have CN : Hid (∀ W, Calls Tryz.prog 44 #[.string m] W fun e w' => e = .returned (.bool K) ∧ Below W.heap.size W w') := fun W => by
    rw [← hK]; exact rname_any m W (by omega)
  have HK := Lib.hid hK
  clear hK
  go_wp2_with fail
  refine (CN.out _).mono ?_
  rintro e w4 ⟨rfl, hb⟩
  have HE4 := Lib.hid (HE3.out.below hb)
  clear hb HE3 CN a0 a1 a2 a3 a4 a5
  have a0 := HE4.out.c0
  have a1 := HE4.out.c1
  have a2 := HE4.out.c2
  have a3 := HE4.out.c3
  have a4 := HE4.out.c4
  have a5 := HE4.out.c5
  cases K
  case false =>
    go_wp2_with fail
    go_ret
    exact ⟨rfl, HE4.out.bel⟩

  by_cases h19 : 19 < n
  · have h19' : (19 : Int) < (n : Int) := by omega
    go_wp2_with fail
    go_ret
    exact ⟨rfl, HE4.out.bel⟩

  have h19' : ¬ (19 : Int) < (n : Int) := by omega
  go_upto_region 6 with fail
  obtain ⟨W4, hW4⟩ : ∃ W4, w4.alloc (.cells #[.slice (some ad) n ac, .string ty, .string nm, .int .i64 key, .int .u64 ((place : Nat) : Int), .string word] 29) = W4 := ⟨_, rfl⟩
  have hl4 := (Below.refl w4.heap.size w4).alloc (Nat.le_refl _) (.cells #[.slice (some ad) n ac, .string ty, .string nm, .int .i64 key, .int .u64 ((place : Nat) : Int), .string word] 29)
  have HB5 := Lib.hid (Blk.new w4 29 #[.slice (some ad) n ac, .string ty, .string nm, .int .i64 key, .int .u64 ((place : Nat) : Int), .string word])
  have HE5 := Lib.hid (HE4.out.below hl4)
  have HLT := Lib.hid (show A < w4.heap.size from HE4.out.blk.lt)
  have HSZ5 := Lib.hid (show (w4.alloc (.cells #[.slice (some ad) n ac, .string ty, .string nm, .int .i64 key, .int .u64 ((place : Nat) : Int), .string word] 29)).heap.size = w4.heap.size + 1 by simp)
  have HBl := Lib.hid hl4
  clear hl4 a0 a1 a2 a3 a4 a5
  obtain ⟨B, hBB⟩ : ∃ B, w4.heap.size = B := ⟨_, rfl⟩
  rw [hW4] at HB5 HE5 HSZ5 HBl ⊢
  rw [hBB] at HB5 HLT HSZ5 HBl ⊢
  have HBB := Lib.hid hBB
  clear hW4 hBB
  have a0 := HE5.out.c0
  have a1 := HE5.out.c1
  have a2 := HE5.out.c2
  have a3 := HE5.out.c3
  have a4 := HE5.out.c4
  have a5 := HE5.out.c5
  have hAB : ¬ A = B := by have := HLT.out; omega
  have s0 : W4.cell? ⟨B, 0, none⟩ = some (.slice (some ad) n ac) := HB5.out.cell 0
  have fs0 : W4.frozen? ⟨B, 0, none⟩ = false := HB5.out.frozen 0
  have hlA : A < W4.heap.size := HE5.out.blk.lt
  have hneA : ¬ A = W4.heap.size := by omega
  have hn19 : n ≤ 19 := by omega
  obtain ⟨i0, hi, hz0, hz1, hz2⟩ : ∃ i, Tryz.prog.info? 9 = some i ∧ i.zero = some (.string ByteArray.empty) ∧ i.size = 1 ∧ i.bytes = 16 := ⟨_, rfl, rfl, rfl, rfl⟩
  have hlL := (Below.refl W4.heap.size W4).alloc (Nat.le_refl _) (.cells #[.string m] 9)
  have HLL4 := Lib.hid hlL
  have hown := World.ownsRow_lit (base := B + 1) (e := 9) (size := 1) W4 #[.string m] 1 (by rw [HSZ5.out]; exact Nat.le_refl _) (by decide) rfl
  have hcells : ∀ j u, (pth.map Value.string)[j]? = some u → (W4.alloc (.cells #[.string m] 9)).cell? (ad.add j) = some u := fun j u hj => by
    rw [List.getElem?_map] at hj
    cases hX : pth[j]? with
    | none => rw [hX] at hj; cases hj
    | some X =>
      rw [hX] at hj
      injection hj with hj
      obtain ⟨ao2, ac2, e, h⟩ := HE5.out.str.far hlL
      injection e with e1 e2 e3
      obtain ⟨ad2, q1, q2, q3⟩ := h j X hX
      rw [← e1] at q1
      injection q1 with q1
      rw [q1, ← hj]; exact q3
  have HC := Lib.hid hcells
  have HOW := Lib.hid hown
  clear hcells hown hlL
  go_wp2_with (at_builtin; refine wpList_append_own _ rfl _ _ 27 rfl (B + 1) 9 i0 (.string ByteArray.empty) 1 16 Tryz.underlying27 hi hz0 hz1 hz2 rfl (by decide) _ _ _ rfl HOW.out ad n ac (pth.map Value.string) rfl ?c0 ?c1 ?c2 ?c3 ?c4 ?c5 ?_)
  case c0 => exact HN.out
  case c1 => exact fun j X h => HC.out j (.string X) (by rw [List.getElem?_map, h]; rfl)
  case c2 =>
    intro u _
    rfl
  case c3 => unfold maxLen; omega
  case c4 => omega
  case c5 => have := HSZ5.out; simp; omega
  intro v' w6 hown' hgrow _
  have hbel : Below (B + 1) W4 w6 := ((Below.refl (B + 1) W4).alloc (by rw [HSZ5.out]; exact Nat.le_refl _) _).grown hgrow (by have := HSZ5.out; simp; omega) (fun b hb => (HOW.out.lt b hb).1)
  rw [Nat.add_comm 1 n] at hown'
  obtain ⟨gv, cv, hv'⟩ := own_form hown'
  subst hv'
  have HB6 := Lib.hid (HB5.out.below (by rw [HSZ5.out]; exact hbel) HB5.out.lt)
  have HBel6 := Lib.hid hbel
  have HOW6 := Lib.hid hown'
  clear hown' hgrow hbel s0 fs0 a0 a1 a2 a3 a4 a5 hi hz0 hz1 hz2 HC HOW
  have s0 : w6.cell? ⟨B, 0, none⟩ = some (.slice (some ad) n ac) := HB6.out.cell 0
  have fs0 : w6.frozen? ⟨B, 0, none⟩ = false := HB6.out.frozen 0
  go_upto_region 7 with fail
  obtain ⟨V, hV⟩ : ∃ V, Value.slice (some ⟨gv, 0, none⟩) (n + 1) cv = V := ⟨_, rfl⟩
  have HB7 : Hid (Blk (w6.setCell ⟨B, 0, none⟩ (.slice (some ⟨gv, 0, none⟩) (n + 1) cv)) B 29 #[.slice (some ⟨gv, 0, none⟩) (n + 1) cv, .string ty, .string nm, .int .i64 key, .int .u64 ((place : Nat) : Int), .string word]) := HB6.out.set_ 0 _
  have hB67 : Below B w4 (w6.setCell ⟨B, 0, none⟩ (.slice (some ⟨gv, 0, none⟩) (n + 1) cv)) := (HBl.out.trans (HBel6.out.mono (Nat.le_succ B))).setCell (p := ⟨B, 0, none⟩) (Nat.le_refl B) _
  have HE7 := Lib.hid (HE4.out.below (by rw [HBB.out]; exact hB67))
  have ho7 : (w6.setCell ⟨B, 0, none⟩ (.slice (some ⟨gv, 0, none⟩) (n + 1) cv)).ownsRow (B + 1) 9 1 (.slice (some ⟨gv, 0, none⟩) (n + 1) cv) (n + 1) ((m :: pth).map Value.string) := ownsRow_setCell_below HOW6.out (a := ⟨B, 0, none⟩) (by show B < B + 1; omega) _
  have HS7 := Lib.hid (strS_own ho7 (by rw [List.length_cons, HN.out]))
  clear hB67 ho7 HB6 HBel6 HOW6 HE4 HE5 HB5 HBl HSZ5 HLL4 s0 fs0 hV V hlA hneA
  obtain ⟨W7, hW7⟩ : ∃ W7, w6.setCell ⟨B, 0, none⟩ (.slice (some ⟨gv, 0, none⟩) (n + 1) cv) = W7 := ⟨_, rfl⟩
  rw [hW7] at HB7 HE7 HS7 ⊢
  clear hW7
  have hrr := HR.out
  obtain ⟨hrb, hpb⟩ := print_cons ⟨pth, ty, nm, key, place, word⟩ m hrr HK.out (by show pth.length ≤ 19; rw [HN.out]; exact hn19)
  have hsb : Small ⟨m :: pth, ty, nm, key, place, word⟩ := by
    obtain ⟨q1, q2, q3, q4, q5⟩ := HGR.out (by trivial)
    refine ⟨by have : pth.length = n := HN.out; show pth.length + 1 ≤ 40; omega, fun X hX => ?_, q3, q4, q5⟩
    rcases List.mem_cons.1 hX with e | e
    · rw [e]; omega
    · exact q2 X e
  have hBb := small_AdB ⟨m :: pth, ty, nm, key, place, word⟩ hsb HLL.out.pc
  have hszb := print_size ⟨m :: pth, ty, nm, key, place, word⟩ hsb HLL.out.pc
  obtain ⟨T, hT⟩ : ∃ T, mk (printA ⟨pth, ty, nm, key, place, word⟩) = T := ⟨_, rfl⟩
  obtain ⟨T2, hT2⟩ : ∃ T2, mk (printA ⟨m :: pth, ty, nm, key, place, word⟩) = T2 := ⟨_, rfl⟩
  have hX : T2 = ((ByteArray.mk #[109, 111, 100, 117, 108, 101, 46] ++ m) ++ ByteArray.mk #[46]) ++ T := by
    rw [← hT2, ← hT, hpb]; exact paths_text m _
  have CP : Hid (∀ W, Env w W A (some ad) n ac ⟨pth, ty, nm, key, place, word⟩ → Calls Tryz.prog 41 #[.agg #[.slice (some ad) n ac, .string ty, .string nm, .int .i64 key, .int .u64 ((place : Nat) : Int), .string word]] W fun e w' => e = .returned (.string T) ∧ Below W.heap.size W w') := fun W h => by
    rw [← hT]; exact aprint_any (.slice (some ad) n ac) ⟨pth, ty, nm, key, place, word⟩ W h.glb.lx h.str HB.out
  have CP2 : Hid (∀ W, AdG W → StrS W W.heap.size (.slice (some ⟨gv, 0, none⟩) (n + 1) cv) (m :: pth) → Calls Tryz.prog 41 #[.agg #[.slice (some ⟨gv, 0, none⟩) (n + 1) cv, .string ty, .string nm, .int .i64 key, .int .u64 ((place : Nat) : Int), .string word]] W fun e w' => e = .returned (.string T2) ∧ Below W.heap.size W w') := fun W h1 h2 => by
    rw [← hT2]; exact aprint_any (.slice (some ⟨gv, 0, none⟩) (n + 1) cv) ⟨m :: pth, ty, nm, key, place, word⟩ W h1.lx h2 hBb
  have C3 : Hid (∀ W X, X = T2 → AdG W → Calls Tryz.prog 39 #[.string X] W fun e w' => ParseEnd (some ⟨m :: pth, ty, nm, key, place, word⟩) w' e ∧ Below W.heap.size W w') := fun W X e h => by
    have := aparse_any T2 W (by rw [← hT2]; exact hszb) h
    rw [← hT2, mk_data, print_back ⟨m :: pth, ty, nm, key, place, word⟩ hrb HLL.out.pc, hT2, ← e] at this
    exact this
  have hTs : T.size ≤ 100000 := by rw [← hT]; exact print_size ⟨pth, ty, nm, key, place, word⟩ (HGR.out (by trivial)) HLL.out.pc
  have hms : m.size ≤ 100 := by omega
  have HX := Lib.hid hX
  clear hrr hrb hpb hsb hBb hszb hT hT2 hX
  have a0 := HE7.out.c0
  have a1 := HE7.out.c1
  have a2 := HE7.out.c2
  have a3 := HE7.out.c3
  have a4 := HE7.out.c4
  have a5 := HE7.out.c5
  go_wp2_with fail
  refine (CP.out _ HE7.out).mono ?_
  rintro e w8 ⟨rfl, hb⟩
  have HE8 := Lib.hid (HE7.out.below hb)
  have HB8 := Lib.hid (HB7.out.below hb HB7.out.lt)
  have HS8 := Lib.hid (HS7.out.far hb)
  clear hb HE7 HB7 HS7 CP a0 a1 a2 a3 a4 a5
  have b0 : w8.cell? ⟨B, 0, none⟩ = some (.slice (some ⟨gv, 0, none⟩) (n + 1) cv) := HB8.out.cell 0
  have b1 : w8.cell? ⟨B, 1, none⟩ = some (.string ty) := HB8.out.cell 1
  have b2 : w8.cell? ⟨B, 2, none⟩ = some (.string nm) := HB8.out.cell 2
  have b3 : w8.cell? ⟨B, 3, none⟩ = some (.int .i64 key) := HB8.out.cell 3
  have b4 : w8.cell? ⟨B, 4, none⟩ = some (.int .u64 ((place : Nat) : Int)) := HB8.out.cell 4
  have b5 : w8.cell? ⟨B, 5, none⟩ = some (.string word) := HB8.out.cell 5
  go_wp2_with fail
  refine (CP2.out _ HE8.out.glb HS8.out).mono ?_
  rintro e w9 ⟨rfl, hb⟩
  have HE9 := Lib.hid (HE8.out.below hb)
  have HB9 := Lib.hid (HB8.out.below hb HB8.out.lt)
  have HS9 := Lib.hid (HS8.out.far hb)
  clear hb HE8 HB8 HS8 CP2 b0 b1 b2 b3 b4 b5
  go_wp2_with fail
  refine (C3.out _ _ HX.out.symm HE9.out.glb).mono ?_
  intro e w10 hh
  obtain ⟨⟨qv, hs1, rfl⟩, hb⟩ := hh
  obtain ⟨co, cc, hqv⟩ := hs1.len
  simp only [Option.getD_some] at hqv hs1 ⊢
  rw [List.length_cons, HN.out] at hqv
  subst hqv
  have hl4 := (Below.refl w10.heap.size w10).alloc (Nat.le_refl _) (.cells (adV (.slice co (n + 1) cc) ⟨m :: pth, ty, nm, key, place, word⟩) 29)
  have hb4 := hb.trans (hl4.mono hb.size)
  have HC10 := Lib.hid (Blk.new w10 29 (adV (.slice co (n + 1) cc) ⟨m :: pth, ty, nm, key, place, word⟩))
  have HT10 := Lib.hid (hs1.far hl4)
  have HE10 := Lib.hid (HE9.out.below hb4)
  have HB10 := Lib.hid (HB9.out.below hb4 HB9.out.lt)
  have HS10 := Lib.hid (HS9.out.far hb4)
  have hX2 := HX.out
  subst hX2
  clear hb hb4 hl4 hs1 HE9 HB9 HS9 C3 HX
  unfold adV at HC10 HT10 HE10 HB10 HS10 ⊢
  dsimp only [Option.isSome_some] at HC10 HT10 HE10 HB10 HS10 ⊢
  go_upto_region 10 with fail
  obtain ⟨W10, hW10⟩ : ∃ W10, w10.alloc (.cells #[.slice co (n + 1) cc, .string ty, .string nm, .int .i64 key, .int .u64 ((place : Nat) : Int), .string word] 29) = W10 := ⟨_, rfl⟩
  obtain ⟨D, hDD⟩ : ∃ D, w10.heap.size = D := ⟨_, rfl⟩
  rw [hW10] at HC10 HT10 HE10 HB10 HS10 ⊢
  rw [hDD] at HC10 ⊢
  clear hW10 hDD
  have hpl2 : (m :: pth).length ≤ 1000000000 := by rw [List.length_cons, HN.out]; omega
  have CE : Hid (Calls Tryz.prog 17 #[.agg #[.slice (some ⟨gv, 0, none⟩) (n + 1) cv, .string ty, .string nm, .int .i64 key, .int .u64 ((place : Nat) : Int), .string word], .agg #[.slice co (n + 1) cc, .string ty, .string nm, .int .i64 key, .int .u64 ((place : Nat) : Int), .string word]] W10 fun e w' => e = .returned (.bool true) ∧ Below W10.heap.size W10 w') := by
    have := rasame_any (.slice (some ⟨gv, 0, none⟩) (n + 1) cv) (.slice co (n + 1) cc) ⟨m :: pth, ty, nm, key, place, word⟩ ⟨m :: pth, ty, nm, key, place, word⟩ W10 HS10.out HT10.out hpl2 hpl2
    rw [decide_eq_true rfl] at this
    exact this
  clear hpl2
  have b0 : W10.cell? ⟨B, 0, none⟩ = some (.slice (some ⟨gv, 0, none⟩) (n + 1) cv) := HB10.out.cell 0
  have b1 : W10.cell? ⟨B, 1, none⟩ = some (.string ty) := HB10.out.cell 1
  have b2 : W10.cell? ⟨B, 2, none⟩ = some (.string nm) := HB10.out.cell 2
  have b3 : W10.cell? ⟨B, 3, none⟩ = some (.int .i64 key) := HB10.out.cell 3
  have b4 : W10.cell? ⟨B, 4, none⟩ = some (.int .u64 ((place : Nat) : Int)) := HB10.out.cell 4
  have b5 : W10.cell? ⟨B, 5, none⟩ = some (.string word) := HB10.out.cell 5
  have c0 : W10.cell? ⟨D, 0, none⟩ = some (.slice co (n + 1) cc) := HC10.out.cell 0
  have c1 : W10.cell? ⟨D, 1, none⟩ = some (.string ty) := HC10.out.cell 1
  have c2 : W10.cell? ⟨D, 2, none⟩ = some (.string nm) := HC10.out.cell 2
  have c3 : W10.cell? ⟨D, 3, none⟩ = some (.int .i64 key) := HC10.out.cell 3
  have c4 : W10.cell? ⟨D, 4, none⟩ = some (.int .u64 ((place : Nat) : Int)) := HC10.out.cell 4
  have c5 : W10.cell? ⟨D, 5, none⟩ = some (.string word) := HC10.out.cell 5
  go_wp2_with fail
  refine CE.out.mono ?_
  rintro e w11 ⟨rfl, hb⟩
  have HL11 := Lib.hid (HE10.out.below hb).bel
  clear hb b0 b1 b2 b3 b4 b5 c0 c1 c2 c3 c4 c5 HE10 HB10 HC10 HS10 HT10 CE
  go_wp2_with fail
  go_ret
  exact ⟨rfl, HL11.out⟩

set_option maxRecDepth 100000 in
set_option maxHeartbeats 8000000 in
theorem addrPaths_none (pv : Value) (a : Ad) (m : ByteArray) (w : World) (hP : StrS w w.heap.size pv a.path) (hL : AdL a) (hm : m.size ≤ 9223372036854775807) (hG : AdG w) (hnone : pv = .slice none 0 0) :
    Calls Tryz.prog 12 #[.agg (adV pv a), .string m] w fun e w' => e = .returned (.bool true) ∧ Below w.heap.size w w' := by
  obtain ⟨pth, ty, nm, key, place, word⟩ := a
  have hp0 : a0path pv ⟨pth, ty, nm, key, place, word⟩ := hP.len
  subst hnone
  have hpl0 : pth.length = 0 := path_none hp0
  clear hp0
  try dsimp only at hP ⊢
  have hn := hpl0
  have HN := Lib.hid hn
  have HLL := Lib.hid hL
  have HE := Lib.hid (Env.start (a := ⟨pth, ty, nm, key, place, word⟩) hP hG)
  clear hP hG hn hL
  have CG : Hid (∀ W, StrS W W.heap.size (.slice none 0 0) pth → Calls Tryz.prog 27 #[.agg #[.slice none 0 0, .string ty, .string nm, .int .i64 key, .int .u64 ((place : Nat) : Int), .string word]] W fun e w' => GreatEnd ⟨pth, ty, nm, key, place, word⟩ e ∧ Below W.heap.size W w') := fun W h => great_any (.slice none 0 0) ⟨pth, ty, nm, key, place, word⟩ W h HLL.out
  unfold adV at HE ⊢
  try dsimp only at HE ⊢
  go_enter Tryz.func12, Tryz.ntmps12
  go_upto_region 1 with fail
  obtain ⟨W, hW⟩ : ∃ W, w.alloc (.cells #[.slice none 0 0, .string ty, .string nm, .int .i64 key, .int .u64 ((place : Nat) : Int), .string word] 29) = W := ⟨_, rfl⟩
  obtain ⟨A, hAA⟩ : ∃ A, w.heap.size = A := ⟨_, rfl⟩
  rw [hW] at HE ⊢
  rw [hAA] at HE ⊢
  clear hW hAA
  go_wp2_with fail
  refine (awakes_any _ HE.out.glb).mono ?_
  rintro e w1 ⟨rfl, hb⟩
  have HE1 := Lib.hid (HE.out.below hb)
  clear hb HE
  have a0 := HE1.out.c0
  have a1 := HE1.out.c1
  have a2 := HE1.out.c2
  have a3 := HE1.out.c3
  have a4 := HE1.out.c4
  have a5 := HE1.out.c5
  go_wp2_with fail
  refine (CG.out _ HE1.out.str).mono ?_
  intro e w2 hh
  obtain ⟨⟨b, rfl, hgr⟩, hb⟩ := hh
  have HE2 := Lib.hid (HE1.out.below hb)
  have HGR := Lib.hid hgr
  clear hb hgr HE1 CG a0 a1 a2 a3 a4 a5
  cases b
  case true =>
    go_wp2_with fail
    go_ret
    exact ⟨rfl, HE2.out.bel⟩

  have hB := small_AdB ⟨pth, ty, nm, key, place, word⟩ (HGR.out rfl) HLL.out.pc
  have HB := Lib.hid hB
  clear hB
  obtain ⟨R, hR⟩ : ∃ R, rightA ⟨pth, ty, nm, key, place, word⟩ = R := ⟨_, rfl⟩
  have CS : Hid (∀ W, Env w W A none 0 0 ⟨pth, ty, nm, key, place, word⟩ → Calls Tryz.prog 43 #[.agg #[.slice none 0 0, .string ty, .string nm, .int .i64 key, .int .u64 ((place : Nat) : Int), .string word]] W fun e w' => e = .returned (.bool R) ∧ Below W.heap.size W w') := fun W h => by
    rw [← hR]; exact raright_any (.slice none 0 0) ⟨pth, ty, nm, key, place, word⟩ W h.str HB.out
  have HR := Lib.hid hR
  clear hR
  have a0 := HE2.out.c0
  have a1 := HE2.out.c1
  have a2 := HE2.out.c2
  have a3 := HE2.out.c3
  have a4 := HE2.out.c4
  have a5 := HE2.out.c5
  go_wp2_with fail
  refine (CS.out _ HE2.out).mono ?_
  rintro e w3 ⟨rfl, hb⟩
  have HE3 := Lib.hid (HE2.out.below hb)
  clear hb HE2 CS a0 a1 a2 a3 a4 a5
  have a0 := HE3.out.c0
  have a1 := HE3.out.c1
  have a2 := HE3.out.c2
  have a3 := HE3.out.c3
  have a4 := HE3.out.c4
  have a5 := HE3.out.c5
  cases R
  case false =>
    go_wp2_with fail
    go_ret
    exact ⟨rfl, HE3.out.bel⟩

  by_cases h100 : 100 < m.size
  · have h100' : (100 : Int) < (m.size : Int) := by omega
    go_wp2_with fail
    go_ret
    exact ⟨rfl, HE3.out.bel⟩

  have h100' : ¬ (100 : Int) < (m.size : Int) := by omega
  obtain ⟨K, hK⟩ : ∃ K, isName m.data.toList = K := ⟨_, rfl⟩
  have CN : Hid (∀ W, Calls Tryz.prog 44 #[.string m] W fun e w' => e = .returned (.bool K) ∧ Below W.heap.size W w') := fun W => by
    rw [← hK]; exact rname_any m W (by omega)
  have HK := Lib.hid hK
  clear hK
  go_wp2_with fail
  refine (CN.out _).mono ?_
  rintro e w4 ⟨rfl, hb⟩
  have HE4 := Lib.hid (HE3.out.below hb)
  clear hb HE3 CN a0 a1 a2 a3 a4 a5
  have a0 := HE4.out.c0
  have a1 := HE4.out.c1
  have a2 := HE4.out.c2
  have a3 := HE4.out.c3
  have a4 := HE4.out.c4
  have a5 := HE4.out.c5
  cases K
  case false =>
    go_wp2_with fail
    go_ret
    exact ⟨rfl, HE4.out.bel⟩

  go_upto_region 6 with fail
  obtain ⟨W4, hW4⟩ : ∃ W4, w4.alloc (.cells #[.slice none 0 0, .string ty, .string nm, .int .i64 key, .int .u64 ((place : Nat) : Int), .string word] 29) = W4 := ⟨_, rfl⟩
  have hl4 := (Below.refl w4.heap.size w4).alloc (Nat.le_refl _) (.cells #[.slice none 0 0, .string ty, .string nm, .int .i64 key, .int .u64 ((place : Nat) : Int), .string word] 29)
  have HB5 := Lib.hid (Blk.new w4 29 #[.slice none 0 0, .string ty, .string nm, .int .i64 key, .int .u64 ((place : Nat) : Int), .string word])
  have HE5 := Lib.hid (HE4.out.below hl4)
  have HLT := Lib.hid (show A < w4.heap.size from HE4.out.blk.lt)
  have HSZ5 := Lib.hid (show (w4.alloc (.cells #[.slice none 0 0, .string ty, .string nm, .int .i64 key, .int .u64 ((place : Nat) : Int), .string word] 29)).heap.size = w4.heap.size + 1 by simp)
  have HBl := Lib.hid hl4
  clear hl4 a0 a1 a2 a3 a4 a5
  obtain ⟨B, hBB⟩ : ∃ B, w4.heap.size = B := ⟨_, rfl⟩
  rw [hW4] at HB5 HE5 HSZ5 HBl ⊢
  rw [hBB] at HB5 HLT HSZ5 HBl ⊢
  have HBB := Lib.hid hBB
  clear hW4 hBB
  have a0 := HE5.out.c0
  have a1 := HE5.out.c1
  have a2 := HE5.out.c2
  have a3 := HE5.out.c3
  have a4 := HE5.out.c4
  have a5 := HE5.out.c5
  have hAB : ¬ A = B := by have := HLT.out; omega
  have s0 : W4.cell? ⟨B, 0, none⟩ = some (.slice none 0 0) := HB5.out.cell 0
  have fs0 : W4.frozen? ⟨B, 0, none⟩ = false := HB5.out.frozen 0
  have hlA : A < W4.heap.size := HE5.out.blk.lt
  have hneA : ¬ A = W4.heap.size := by omega
  obtain ⟨i0, hi, hz0, hz1, hz2⟩ : ∃ i, Tryz.prog.info? 9 = some i ∧ i.zero = some (.string ByteArray.empty) ∧ i.size = 1 ∧ i.bytes = 16 := ⟨_, rfl, rfl, rfl, rfl⟩
  have hlL := (Below.refl W4.heap.size W4).alloc (Nat.le_refl _) (.cells #[.string m] 9)
  have HLL4 := Lib.hid hlL
  have hown := World.ownsRow_lit (base := B + 1) (e := 9) (size := 1) W4 #[.string m] 1 (by rw [HSZ5.out]; exact Nat.le_refl _) (by decide) rfl
  have HOW := Lib.hid hown
  clear hown hlL
  obtain ⟨gv, hgv⟩ : ∃ gv, W4.heap.size = gv := ⟨_, rfl⟩
  have HGV := Lib.hid hgv
  clear hgv
  go_wp2_with (at_builtin; refine wpList_none_all rfl _ _ 27 rfl (B + 1) 9 i0 1 Tryz.underlying27 hi _ 1 _ rfl HOW.out rfl ?_)
  intro v' w6 hvw
  obtain ⟨hv', hw6⟩ := hvw.out
  clear hvw
  have hown' : w6.ownsRow (B + 1) 9 1 (.slice (some ⟨gv, 0, none⟩) 1 1) 1 (#[Value.string m].toList) := by rw [hw6, ← HGV.out]; exact HOW.out
  rw [HGV.out] at hv'
  subst hv'
  have hbel : Below (B + 1) W4 w6 := by rw [hw6]; exact (Below.refl (B + 1) W4).alloc (by rw [HSZ5.out]; exact Nat.le_refl _) _
  clear hw6 HGV
  have HB6 := Lib.hid (HB5.out.below (by rw [HSZ5.out]; exact hbel) HB5.out.lt)
  have HBel6 := Lib.hid hbel
  have HOW6 := Lib.hid hown'
  have hpn : pth = [] := List.length_eq_zero_iff.1 HN.out
  have HPN := Lib.hid hpn
  clear hpn hown' hbel s0 fs0 a0 a1 a2 a3 a4 a5 hi hz0 hz1 hz2 HOW
  have s0 : w6.cell? ⟨B, 0, none⟩ = some (.slice none 0 0) := HB6.out.cell 0
  have fs0 : w6.frozen? ⟨B, 0, none⟩ = false := HB6.out.frozen 0
  go_upto_region 7 with fail
  obtain ⟨V, hV⟩ : ∃ V, Value.slice (some ⟨gv, 0, none⟩) 1 1 = V := ⟨_, rfl⟩
  have HB7 : Hid (Blk (w6.setCell ⟨B, 0, none⟩ (.slice (some ⟨gv, 0, none⟩) 1 1)) B 29 #[.slice (some ⟨gv, 0, none⟩) 1 1, .string ty, .string nm, .int .i64 key, .int .u64 ((place : Nat) : Int), .string word]) := HB6.out.set_ 0 _
  have hB67 : Below B w4 (w6.setCell ⟨B, 0, none⟩ (.slice (some ⟨gv, 0, none⟩) 1 1)) := (HBl.out.trans (HBel6.out.mono (Nat.le_succ B))).setCell (p := ⟨B, 0, none⟩) (Nat.le_refl B) _
  have HE7 := Lib.hid (HE4.out.below (by rw [HBB.out]; exact hB67))
  have ho7 : (w6.setCell ⟨B, 0, none⟩ (.slice (some ⟨gv, 0, none⟩) 1 1)).ownsRow (B + 1) 9 1 (.slice (some ⟨gv, 0, none⟩) 1 1) 1 ((m :: pth).map Value.string) := by
    rw [HPN.out]
    exact ownsRow_setCell_below HOW6.out (a := ⟨B, 0, none⟩) (by show B < B + 1; omega) _
  have HS7 := Lib.hid (strS_own ho7 (by rw [List.length_cons, HN.out]))
  clear hB67 ho7 HB6 HBel6 HOW6 HE4 HE5 HB5 HBl HSZ5 HLL4 s0 fs0 hV V hlA hneA
  obtain ⟨W7, hW7⟩ : ∃ W7, w6.setCell ⟨B, 0, none⟩ (.slice (some ⟨gv, 0, none⟩) 1 1) = W7 := ⟨_, rfl⟩
  rw [hW7] at HB7 HE7 HS7 ⊢
  clear hW7
  have hrr := HR.out
  obtain ⟨hrb, hpb⟩ := print_cons ⟨pth, ty, nm, key, place, word⟩ m hrr HK.out (by show pth.length ≤ 19; rw [HN.out]; exact Nat.zero_le _)
  have hsb : Small ⟨m :: pth, ty, nm, key, place, word⟩ := by
    obtain ⟨q1, q2, q3, q4, q5⟩ := HGR.out (by trivial)
    refine ⟨by have : pth.length = 0 := HN.out; show pth.length + 1 ≤ 40; omega, fun X hX => ?_, q3, q4, q5⟩
    rcases List.mem_cons.1 hX with e | e
    · rw [e]; omega
    · exact q2 X e
  have hBb := small_AdB ⟨m :: pth, ty, nm, key, place, word⟩ hsb HLL.out.pc
  have hszb := print_size ⟨m :: pth, ty, nm, key, place, word⟩ hsb HLL.out.pc
  obtain ⟨T, hT⟩ : ∃ T, mk (printA ⟨pth, ty, nm, key, place, word⟩) = T := ⟨_, rfl⟩
  obtain ⟨T2, hT2⟩ : ∃ T2, mk (printA ⟨m :: pth, ty, nm, key, place, word⟩) = T2 := ⟨_, rfl⟩
  have hX : T2 = ((ByteArray.mk #[109, 111, 100, 117, 108, 101, 46] ++ m) ++ ByteArray.mk #[46]) ++ T := by
    rw [← hT2, ← hT, hpb]; exact paths_text m _
  have CP : Hid (∀ W, Env w W A none 0 0 ⟨pth, ty, nm, key, place, word⟩ → Calls Tryz.prog 41 #[.agg #[.slice none 0 0, .string ty, .string nm, .int .i64 key, .int .u64 ((place : Nat) : Int), .string word]] W fun e w' => e = .returned (.string T) ∧ Below W.heap.size W w') := fun W h => by
    rw [← hT]; exact aprint_any (.slice none 0 0) ⟨pth, ty, nm, key, place, word⟩ W h.glb.lx h.str HB.out
  have CP2 : Hid (∀ W, AdG W → StrS W W.heap.size (.slice (some ⟨gv, 0, none⟩) 1 1) (m :: pth) → Calls Tryz.prog 41 #[.agg #[.slice (some ⟨gv, 0, none⟩) 1 1, .string ty, .string nm, .int .i64 key, .int .u64 ((place : Nat) : Int), .string word]] W fun e w' => e = .returned (.string T2) ∧ Below W.heap.size W w') := fun W h1 h2 => by
    rw [← hT2]; exact aprint_any (.slice (some ⟨gv, 0, none⟩) 1 1) ⟨m :: pth, ty, nm, key, place, word⟩ W h1.lx h2 hBb
  have C3 : Hid (∀ W X, X = T2 → AdG W → Calls Tryz.prog 39 #[.string X] W fun e w' => ParseEnd (some ⟨m :: pth, ty, nm, key, place, word⟩) w' e ∧ Below W.heap.size W w') := fun W X e h => by
    have := aparse_any T2 W (by rw [← hT2]; exact hszb) h
    rw [← hT2, mk_data, print_back ⟨m :: pth, ty, nm, key, place, word⟩ hrb HLL.out.pc, hT2, ← e] at this
    exact this
  have hTs : T.size ≤ 100000 := by rw [← hT]; exact print_size ⟨pth, ty, nm, key, place, word⟩ (HGR.out (by trivial)) HLL.out.pc
  have hms : m.size ≤ 100 := by omega
  have HX := Lib.hid hX
  clear hrr hrb hpb hsb hBb hszb hT hT2 hX
  have a0 := HE7.out.c0
  have a1 := HE7.out.c1
  have a2 := HE7.out.c2
  have a3 := HE7.out.c3
  have a4 := HE7.out.c4
  have a5 := HE7.out.c5
  go_wp2_with fail
  refine (CP.out _ HE7.out).mono ?_
  rintro e w8 ⟨rfl, hb⟩
  have HE8 := Lib.hid (HE7.out.below hb)
  have HB8 := Lib.hid (HB7.out.below hb HB7.out.lt)
  have HS8 := Lib.hid (HS7.out.far hb)
  clear hb HE7 HB7 HS7 CP a0 a1 a2 a3 a4 a5
  have b0 : w8.cell? ⟨B, 0, none⟩ = some (.slice (some ⟨gv, 0, none⟩) 1 1) := HB8.out.cell 0
  have b1 : w8.cell? ⟨B, 1, none⟩ = some (.string ty) := HB8.out.cell 1
  have b2 : w8.cell? ⟨B, 2, none⟩ = some (.string nm) := HB8.out.cell 2
  have b3 : w8.cell? ⟨B, 3, none⟩ = some (.int .i64 key) := HB8.out.cell 3
  have b4 : w8.cell? ⟨B, 4, none⟩ = some (.int .u64 ((place : Nat) : Int)) := HB8.out.cell 4
  have b5 : w8.cell? ⟨B, 5, none⟩ = some (.string word) := HB8.out.cell 5
  go_wp2_with fail
  refine (CP2.out _ HE8.out.glb HS8.out).mono ?_
  rintro e w9 ⟨rfl, hb⟩
  have HE9 := Lib.hid (HE8.out.below hb)
  have HB9 := Lib.hid (HB8.out.below hb HB8.out.lt)
  have HS9 := Lib.hid (HS8.out.far hb)
  clear hb HE8 HB8 HS8 CP2 b0 b1 b2 b3 b4 b5
  go_wp2_with fail
  refine (C3.out _ _ HX.out.symm HE9.out.glb).mono ?_
  intro e w10 hh
  obtain ⟨⟨qv, hs1, rfl⟩, hb⟩ := hh
  obtain ⟨co, cc, hqv⟩ := hs1.len
  simp only [Option.getD_some] at hqv hs1 ⊢
  rw [List.length_cons, HN.out] at hqv
  subst hqv
  have hl4 := (Below.refl w10.heap.size w10).alloc (Nat.le_refl _) (.cells (adV (.slice co 1 cc) ⟨m :: pth, ty, nm, key, place, word⟩) 29)
  have hb4 := hb.trans (hl4.mono hb.size)
  have HC10 := Lib.hid (Blk.new w10 29 (adV (.slice co 1 cc) ⟨m :: pth, ty, nm, key, place, word⟩))
  have HT10 := Lib.hid (hs1.far hl4)
  have HE10 := Lib.hid (HE9.out.below hb4)
  have HB10 := Lib.hid (HB9.out.below hb4 HB9.out.lt)
  have HS10 := Lib.hid (HS9.out.far hb4)
  have hX2 := HX.out
  subst hX2
  clear hb hb4 hl4 hs1 HE9 HB9 HS9 C3 HX
  unfold adV at HC10 HT10 HE10 HB10 HS10 ⊢
  dsimp only [Option.isSome_some] at HC10 HT10 HE10 HB10 HS10 ⊢
  go_upto_region 10 with fail
  obtain ⟨W10, hW10⟩ : ∃ W10, w10.alloc (.cells #[.slice co 1 cc, .string ty, .string nm, .int .i64 key, .int .u64 ((place : Nat) : Int), .string word] 29) = W10 := ⟨_, rfl⟩
  obtain ⟨D, hDD⟩ : ∃ D, w10.heap.size = D := ⟨_, rfl⟩
  rw [hW10] at HC10 HT10 HE10 HB10 HS10 ⊢
  rw [hDD] at HC10 ⊢
  clear hW10 hDD
  have hpl2 : (m :: pth).length ≤ 1000000000 := by rw [List.length_cons, HN.out]; omega
  have CE : Hid (Calls Tryz.prog 17 #[.agg #[.slice (some ⟨gv, 0, none⟩) 1 1, .string ty, .string nm, .int .i64 key, .int .u64 ((place : Nat) : Int), .string word], .agg #[.slice co 1 cc, .string ty, .string nm, .int .i64 key, .int .u64 ((place : Nat) : Int), .string word]] W10 fun e w' => e = .returned (.bool true) ∧ Below W10.heap.size W10 w') := by
    have := rasame_any (.slice (some ⟨gv, 0, none⟩) 1 1) (.slice co 1 cc) ⟨m :: pth, ty, nm, key, place, word⟩ ⟨m :: pth, ty, nm, key, place, word⟩ W10 HS10.out HT10.out hpl2 hpl2
    rw [decide_eq_true rfl] at this
    exact this
  clear hpl2
  have b0 : W10.cell? ⟨B, 0, none⟩ = some (.slice (some ⟨gv, 0, none⟩) 1 1) := HB10.out.cell 0
  have b1 : W10.cell? ⟨B, 1, none⟩ = some (.string ty) := HB10.out.cell 1
  have b2 : W10.cell? ⟨B, 2, none⟩ = some (.string nm) := HB10.out.cell 2
  have b3 : W10.cell? ⟨B, 3, none⟩ = some (.int .i64 key) := HB10.out.cell 3
  have b4 : W10.cell? ⟨B, 4, none⟩ = some (.int .u64 ((place : Nat) : Int)) := HB10.out.cell 4
  have b5 : W10.cell? ⟨B, 5, none⟩ = some (.string word) := HB10.out.cell 5
  have c0 : W10.cell? ⟨D, 0, none⟩ = some (.slice co 1 cc) := HC10.out.cell 0
  have c1 : W10.cell? ⟨D, 1, none⟩ = some (.string ty) := HC10.out.cell 1
  have c2 : W10.cell? ⟨D, 2, none⟩ = some (.string nm) := HC10.out.cell 2
  have c3 : W10.cell? ⟨D, 3, none⟩ = some (.int .i64 key) := HC10.out.cell 3
  have c4 : W10.cell? ⟨D, 4, none⟩ = some (.int .u64 ((place : Nat) : Int)) := HC10.out.cell 4
  have c5 : W10.cell? ⟨D, 5, none⟩ = some (.string word) := HC10.out.cell 5
  go_wp2_with fail
  refine CE.out.mono ?_
  rintro e w11 ⟨rfl, hb⟩
  have HL11 := Lib.hid (HE10.out.below hb).bel
  clear hb b0 b1 b2 b3 b4 b5 c0 c1 c2 c3 c4 c5 HE10 HB10 HC10 HS10 HT10 CE
  go_wp2_with fail
  go_ret
  exact ⟨rfl, HL11.out⟩

theorem addrPaths_any (pv : Value) (a : Ad) (m : ByteArray) (w : World) (hP : StrS w w.heap.size pv a.path) (hL : AdL a) (hm : m.size ≤ 9223372036854775807) (hG : AdG w) (h : pv = .slice none 0 0 ∨ ∃ ad ac, pv = .slice (some ad) a.path.length ac) :
    Calls Tryz.prog 12 #[.agg (adV pv a), .string m] w fun e w' => e = .returned (.bool true) ∧ Below w.heap.size w w' := by
  rcases h with h | h
  · exact addrPaths_none pv a m w hP hL hm hG h
  · exact addrPaths_some pv a m w hP hL hm hG h
end Go.Proofs.YtdfihhebgllpcaaGreatDoor
