import Derived.Test.YtdfihhebgllpcaaGreatDoorAo06
import Derived.RangeFuncNested
import Derived.RangeFuncBound
import Derived.RangeFuncCalls
import Derived.RangeFuncLeaves
import Derived.RangeFuncFrom
import Derived.Shelf.Abstract
import Derived.Shelf.RegionOpen
import Derived.OwnWalkIn
import Derived.TacticsInMore
import Derived.LoopNIn
import Derived.LoopIn

/- utf.All: an iterator's contract. -/
namespace Go.Proofs.YtdfihhebgllpcaaGreatDoor
open Go.RowKit Go.Shelf Go.Proofs.UtfPlain
attribute [local go_sem] Oper.semAt_some

theorem one_scalar (l : List UInt8) (h : (one l).2 ≠ 0) : scalar (one l).1 = true := by
  cases l with
  | nil => exact absurd rfl h
  | cons a r =>
    rw [one_cons] at h ⊢
    split at h
    · rename_i hc
      rw [if_pos hc]
      simp only [Bool.and_eq_true] at hc
      exact hc.2
    · exact absurd rfl h
/-- A scalar, and where it stands. -/
abbrev Sc := { x : Nat × Nat // scalar x.2 = true }
def scEnc (x : Sc) : Array Value := #[.int .i64 x.1.1, .int .i64 x.1.2]
/-- All scalars from a place on, up to what is none. -/
def scF : Nat → Nat → List UInt8 → List Sc
  | 0, _, _ => []
  | f + 1, at_, l => if h : (one l).2 = 0 then [] else ⟨(at_, (one l).1), one_scalar l h⟩ :: scF f (at_ + (one l).2) (l.drop (one l).2)
def scAll (at_ : Nat) (l : List UInt8) : List Sc := scF (l.length + 1) at_ l
theorem scF_fuel (f : Nat) : ∀ g at_ l, l.length < f → l.length < g → scF f at_ l = scF g at_ l := by
  induction f with
  | zero => intro g at_ l h; omega
  | succ f ih =>
    intro g at_ l hf hg
    cases g with
    | zero => omega
    | succ g =>
      unfold scF
      split
      · rfl
      · rename_i h
        have := one_size l
        rw [ih g _ _ (by rw [List.length_drop]; omega) (by rw [List.length_drop]; omega)]
theorem scAll_end (at_ : Nat) (l : List UInt8) (h : (one l).2 = 0) : scAll at_ l = [] := by
  unfold scAll scF; rw [dif_pos h]
theorem scAll_step (at_ : Nat) (l : List UInt8) (h : (one l).2 ≠ 0) : scAll at_ l = ⟨(at_, (one l).1), one_scalar l h⟩ :: scAll (at_ + (one l).2) (l.drop (one l).2) := by
  have := one_size l
  unfold scAll
  rw [show scF (l.length + 1) at_ l = if h : (one l).2 = 0 then [] else ⟨(at_, (one l).1), one_scalar l h⟩ :: scF l.length (at_ + (one l).2) (l.drop (one l).2) from rfl, dif_neg h]
  rw [scF_fuel _ _ _ _ (show (l.drop (one l).2).length < l.length by rw [List.length_drop]; omega) (Nat.lt_succ_self _)]

theorem yield_depth {m : Nat} (m' : Nat) {P : Program} {l : Nat} {args : Array Value} {W : World} {R : Ending → World → Prop} (h : YieldAt Fence.wide m P l args W R) : YieldAt Fence.wide m' P l args W R := by
  obtain ⟨fn, tmps, assign, body, hy, hR⟩ := h
  exact ⟨fn, tmps, assign, body, hy, hR.1, fun c cs _ => hR.2 c cs (fun d h => by cases h)⟩
theorem grown_of_below {w w' : World} (h : Below w.heap.size w w') : w.grownBy w' none := by
  refine ⟨?_, ?_, ?_, ?_, ?_⟩
  all_goals first | exact h.os | exact h.tape | exact h.output | exact h.size | exact fun k hk _ => h.block k hk
theorem others_of_below {w w' : World} (h : Below w.heap.size w w') : KeepsOthers w w' := ⟨h.size, fun k o hk _ => by
  have hlt : k < w.heap.size := (Array.getElem?_eq_some_iff.1 hk).1
  rw [h.block k hlt]; exact hk⟩
theorem FormsAt.turn {g : Nat} {w w' : World} (h : FormsAt w) (ht : Turn g w w') (hg : 2 ≠ g) : FormsAt w' := (ht.block _ h.lt hg).trans h

/-- What a round must keep for the iterator: the forms. -/
def KF (W W' : World) : Prop := W'.heap[(2 : Nat)]? = W.heap[(2 : Nat)]?
theorem kf_t {A B C : World} (h : KF A B) (k : KF B C) : KF A C := Eq.trans k h
theorem kf_b {w : World} (h : 2 < w.heap.size) (W : World) (l : Nat) (o o' : Obj) (hl : w.heap.size ≤ l) (_ : W.heap[l]? = some o) (_ : o.isCells = false) (_ : o.isWalk = false) : KF W (W.putObj l o') := World.putObj_heap_other (by omega)

set_option maxRecDepth 100000 in
set_option maxHeartbeats 4000000 in
theorem walk_in (n : Nat) (hn : 1 ≤ n) (s : ByteArray) (hs : s.size ≤ 9223372036854775807) (l B : Nat) (J Jx : List Sc → World → Prop) (hJ : AbidesFrom B J)
    (hY : ∀ pre x W1, J pre W1 → pre.length < s.size → YieldAt Fence.wide (n - 1) Tryz.prog l (scEnc x) W1 fun e W' =>
      (e = .returned (.bool true) ∧ J (pre ++ [x]) W' ∧ KF W1 W') ∨ (e = .returned (.bool false) ∧ Jx (pre ++ [x]) W'))
    (w : World) (hF : FormsAt w) (h0 : J [] w) :
    CallsIn Fence.wide n Tryz.prog 130 #[.string s, .func (.yield l) #[] #[]] w fun e W' => (∃ v, e = .returned v) ∧ (J (scAll 0 s.data.toList) W' ∨ ∃ pre, pre <+: scAll 0 s.data.toList ∧ Jx pre W') := by
  have HF := Lib.hid hF
  have HY := Lib.hid hY
  have H0 := Lib.hid h0
  clear hF hY h0
  refine callsIn_of_wp Tryz.func130 rfl trivial ?_ rfl
  simp only [Tryz.ntmps130, List.size_toArray, List.length_cons, List.length_nil, Nat.reduceAdd, Nat.reduceSub, Array.replicate_succ, Array.replicate_zero, List.push_toArray, List.append_toArray, List.nil_append, List.cons_append]
  gi_wp2_with fail
  gi_loopw [5] (fun p wr => ∃ (at_ : Nat) (pre : List Sc), at_ ≤ s.size ∧ pre.length ≤ at_ ∧ p = .int .i64 at_ ∧ Hid (scAll 0 s.data.toList = pre ++ scAll at_ (s.data.toList.drop at_)) ∧ Hid (FormsAt wr) ∧ Hid (J pre wr)) (fun p _ => s.size - (intOf p).toNat)
  case atStart => exact ⟨0, [], by omega, by simp, rfl, Lib.hid rfl, HF, H0⟩
  case round =>
    clear HF H0
    obtain ⟨at_, pre, hat, hpl, rfl, HA, HF, HJ⟩ := hrel
    by_cases hlt : at_ < s.size
    · have hlt' : (at_ : Int) < (s.size : Int) := by omega
      obtain ⟨S, hS⟩ : ∃ S : ByteArray, S = s.extract at_ s.size := ⟨_, rfl⟩
      have hSd : S.data.toList = s.data.toList.drop at_ := by
        rw [hS, data_extract, List.take_of_length_le (by rw [List.length_drop, ← Lib.size_eq]; exact Nat.le_refl _)]
      have hSs : S.size = s.size - at_ := by rw [Lib.size_eq, hSd, List.length_drop, ← Lib.size_eq]
      obtain ⟨⟨c, n1⟩, hcn⟩ : ∃ q, q = one S.data.toList := ⟨_, rfl⟩
      have hn1 := one_size S.data.toList
      rw [← hcn, ← Lib.size_eq] at hn1
      have CN : Hid (∀ w, FormsAt w → CallsIn Fence.wide (n - 1) Tryz.prog 159 #[.string (s.extract at_ s.size)] w fun e w' => e = .returned (.tuple #[.int .i64 c, .int .i64 n1]) ∧ Below w.heap.size w w') := fun w hF => by
        have h := next_any S w hF (by omega)
        rw [← hcn, hS] at h
        exact callsIn_wide.2 h
      have HSD := Lib.hid hSd
      have HCN := Lib.hid hcn
      have hn' : n1 ≤ s.size - at_ := by rw [← hSs]; exact hn1
      clear hS hSd hSs hcn hn1
      by_cases hn0 : n1 = 0
      · have hend : Hid (scAll 0 s.data.toList = pre) := by
          unfold Hid
          rw [HA.out, scAll_end at_ _ (by rw [← HSD.out, ← HCN.out]; exact hn0), List.append_nil]
        subst hn0
        clear HA
        gi_wp2_with fail
        refine ⟨trivial, ?_⟩
        refine (CN.out _ HF.out).mono ?_
        rintro e w1 ⟨rfl, hb⟩
        have HJ1 := Lib.hid (hJ _ _ _ none HJ.out (grown_of_below hb) (fun r e => by cases e))
        clear hb
        gi_wp2_with fail
        refine ⟨fun _ h => (by cases h), ?_⟩
        gi_wp2_with fail
        go_ret
        exact ⟨⟨_, rfl⟩, .inl (by rw [hend.out]; exact HJ1.out)⟩
      · have hn1 : ¬ (n1 : Int) = 0 := by omega
        have hn2 : ((n1 : Int) == 0) = false := by rw [beq_eq_false_iff_ne]; exact hn1
        have hsc : scalar c = true := by
          have := one_scalar S.data.toList (by rw [← HCN.out]; exact hn0)
          rw [← HCN.out] at this
          exact this
        obtain ⟨x, hx⟩ : ∃ x : Sc, x = ⟨(at_, c), hsc⟩ := ⟨_, rfl⟩
        have HA2 : Hid (scAll 0 s.data.toList = (pre ++ [x]) ++ scAll (at_ + n1) (s.data.toList.drop (at_ + n1))) := by
          unfold Hid
          have hq : (one (s.data.toList.drop at_)).2 ≠ 0 := by rw [← HSD.out, ← HCN.out]; exact hn0
          rw [HA.out, scAll_step at_ _ hq, List.append_assoc]
          congr 1
          have e1 : one (s.data.toList.drop at_) = (c, n1) := by rw [← HSD.out, ← HCN.out]
          rw [hx]
          simp only [e1, List.drop_drop, List.singleton_append]
        have YY : Hid (∀ w1, J pre w1 → YieldAt Fence.wide (n - 1) Tryz.prog l #[.int .i64 at_, .int .i64 c] w1 fun e W' =>
            (e = .returned (.bool true) ∧ J (pre ++ [x]) W' ∧ KF w1 W') ∨ (e = .returned (.bool false) ∧ Jx (pre ++ [x]) W')) := fun w1 h => by
          have := HY.out pre x w1 h (by omega)
          rw [hx] at this ⊢
          exact this
        have hn1p : 1 ≤ n1 := by omega
        clear HA hx hn0 hn1
        gi_wp2_with fail
        refine ⟨trivial, ?_⟩
        refine (CN.out _ HF.out).mono ?_
        rintro e w1 ⟨rfl, hb⟩
        have HJ1 := hJ _ _ _ none HJ.out (grown_of_below hb) (fun r e => by cases e)
        have HF1 := Lib.hid (HF.out.below hb)
        clear hb
        obtain ⟨fn, tmps, assign, body, hy, hR⟩ := YY.out w1 HJ1
        have HR := Lib.hid hR
        clear hR HJ1
        gi_wp2_with fail
        refine HR.out.mono ?_
        rintro e W3 (⟨rfl, hJ3, hk3⟩ | ⟨rfl, hJx3⟩)
        · have HJ3 := Lib.hid hJ3
          have HF3 : Hid (FormsAt W3) := Eq.trans hk3 HF1.out
          clear hJ3 hk3
          gi_wp2_with fail
          go_roundw
          case rel => exact ⟨at_ + n1, pre ++ [x], by omega, by rw [List.length_append, List.length_singleton]; omega, by go_num, HA2, HF3, HJ3⟩
          case measure => simp [intOf]; omega
        · have HX3 := Lib.hid hJx3
          clear hJx3
          gi_wp2_with fail
          go_ret
          exact ⟨⟨_, rfl⟩, .inr ⟨pre ++ [x], by rw [HA2.out]; exact List.prefix_append _ _, HX3.out⟩⟩
    · have hge : ¬ (at_ : Int) < (s.size : Int) := by omega
      have hend : Hid (scAll 0 s.data.toList = pre) := by
        unfold Hid
        rw [HA.out, List.drop_eq_nil_of_le (by rw [← Lib.size_eq]; omega), scAll_end at_ [] rfl, List.append_nil]
      clear HA
      gi_wp2_with fail
      go_ret
      exact ⟨⟨_, rfl⟩, .inl (by rw [hend.out]; exact HJ.out)⟩

set_option maxRecDepth 100000 in
set_option maxHeartbeats 2000000 in
/-- The iterator itself: what it has captured is the text's variable. -/
theorem all_stops (n : Nat) (hn : 2 ≤ n) (s : ByteArray) (hs : s.size ≤ 9223372036854775807) (Bs : Nat) (w : World) (hF : FormsAt w) (hB : w.cell? ⟨Bs, 0, none⟩ = some (.string s)) (hlt : Bs < w.heap.size) :
    SeqStopsK Fence.wide n Tryz.prog 220 #[.pointer (some ⟨Bs, 0, none⟩)] scEnc KF (fun xs => xs = scAll 0 s.data.toList) (fun pre => pre <+: scAll 0 s.data.toList) s.size w := fun l J Jx W hW hJ hJx hY h0 => by
  have c0 : W.cell? ⟨Bs, 0, none⟩ = some (.string s) := (hW.cell (p := ⟨Bs, 0, none⟩) hlt).trans hB
  have C := Lib.hid (walk_in (n - 1) (by omega) s hs l W.heap.size J Jx hJ (fun pre x W1 h1 h2 => yield_depth _ (hY pre x W1 h1 h2)) W (hF.below hW) h0)
  clear hY h0 hF hB
  refine callsIn_of_wp Tryz.func220 rfl trivial ?_ rfl
  simp only [Tryz.ntmps220, List.size_toArray, List.length_cons, List.length_nil, Nat.reduceAdd, Nat.reduceSub, Array.replicate_succ, Array.replicate_zero, List.push_toArray, List.append_toArray, List.nil_append, List.cons_append]
  gi_wp2_with fail
  refine ⟨trivial, fun _ => (by omega), ?_⟩
  refine C.out.mono ?_
  rintro e W3 ⟨⟨v, rfl⟩, h⟩
  have H := Lib.hid h
  clear h
  gi_wp2_with fail
  go_end0
  refine ⟨⟨_, rfl⟩, ?_⟩
  rcases H.out with h | ⟨pre, h1, h2⟩
  · exact .inl ⟨_, rfl, h⟩
  · exact .inr ⟨pre, h1, h2⟩
end Go.Proofs.YtdfihhebgllpcaaGreatDoor
