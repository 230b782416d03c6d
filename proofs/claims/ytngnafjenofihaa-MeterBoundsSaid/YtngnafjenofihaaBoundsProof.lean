/-
  The statement Rows.MeterBoundsSaid is proved: for every int64 and every list of operations the law MeterBounds returns true and leaves its arguments as they were. No condition.
-/
import Derived.Test.YtngnafjenofihaaBounds
import Derived.WalkKit
import Derived.ProofKit
import Derived.OpenShut
import Derived.ShutString
import Derived.ChangeOld
import Derived.Below
import Derived.Deep.SlicePairs
namespace Go.Proofs.Ytngnafjenofihaa.meterBounds
open Go.ChangeShapes Go.WideShapes Go.ChangeAt Go.RowKit Go.Deep
open Go.ChangeMaps (open_string shut_string)

theorem own : ownKnob Try.prog.godebug = none := by kernel_rfl
theorem laidOut : laidOutB Try.prog = true := by kernel_rfl
set_option maxRecDepth 100000 in
set_option maxHeartbeats 1000000 in
theorem lifted (os : Os) (started : os.Started) (H : Type) (enc : TypeId × Value → H) :
    ReturnsInHanded {} Try.checked os 6 .any (Rows.meterBoundsSpec.pre6 enc Try.prog Try.f6 Rows.meterBoundsRow.domain false) (Rows.meterBoundsSpec.post enc Try.prog Try.f6 false true false false) := by
  refine returnsInHanded_of_change (C := Try.checked) own started (by kernel_rfl) Try.func6
    (ChangeSpec.witness6 (enc := enc) (C := Try.checked) false ⟨#[], #[.int .i64 0, .slice none 0 0], []⟩ 8 (by kernel_rfl) (by kernel_rfl) (by kernel_rfl) (by kernel_rfl)) ?_
  intro W base args ds gs before hval0 hW hcnd _
  have hval : ∀ (j : Nat) t v, Try.f6.params[j]? = some t → args[j]? = some v → Value.okWide Try.prog W .any base t v := hval0
  have hW' := hW
  obtain ⟨p, q, hA0, hV, rfl, hfz, hnd⟩ := hW
  have hA : DataW.TrodAll enc Try.prog W 0 (fun _ => true) true Try.f6.params.toList args.toList ds p := hA0
  rw [Try.params6] at hA hval
  obtain ⟨v0, vs0, d0, ds0, p0, q0, hargs, rfl, rfl, h0, r0⟩ := trodAll_cons hA
  obtain ⟨v1, vs1, d1, ds1, p1, q1, rfl, rfl, rfl, h1, r1⟩ := trodAll_cons r0
  obtain ⟨rfl, rfl, rfl⟩ := trodAll_nil r1
  obtain rfl : args = #[v0, v1] := by cases args; simp_all
  obtain ⟨rfl, rfl⟩ := trodVars_none hV
  have k0 := h0
  have lt0 : ∀ x ∈ p0, x.block < W.heap.size := by obtain ⟨m, hm⟩ := k0; exact DataW.trod_lt m _ _ _ hm
  have k1 := h1
  have lt1 : ∀ x ∈ p1, x.block < W.heap.size := by obtain ⟨m, hm⟩ := k1; exact DataW.trod_lt m _ _ _ hm
  obtain ⟨a0, e0, rfl, rfl, w0⟩ := open_int Try.underlying2 (hval 0 2 v0 rfl rfl) h0
  subst e0
  obtain ⟨a1, len, cap, rfl⟩ := okWide_slice Try.underlying28 (hval 1 28 v1 rfl rfl)
  obtain ⟨hlen, gs, ns, hO⟩ : len ≤ 9223372036854775807 ∧ ∃ gs ns, OpsAt W a1 len gs ns := by
    obtain ⟨fuel, hf⟩ := h1
    rcases open_slice_pairs Try.underlying28 Try.underlying34 (by kernel_rfl) rfl rfl (by kernel_rfl) (by kernel_rfl) hf with ⟨hcs, _⟩ | ⟨a, l', c', m, n, V0, V1, D0, D1, P0, P1, hcs, hb, hl, hm, hmm, _, hi⟩
    · simp [Value.cells] at hcs
      obtain ⟨rfl, rfl, rfl⟩ := hcs
      exact ⟨by omega, fun _ => false, fun _ => 0, fun i hi => absurd hi (by omega)⟩
    · simp [Value.cells] at hcs
      obtain ⟨rfl, rfl, rfl⟩ := hcs
      unfold maxLen at hm
      have hlm : len ≤ m := by rw [hmm]; split <;> omega
      refine ⟨by omega, fun i => match V0 i with | .bool g => g | _ => false, fun i => intOf (V1 i), fun i hi' => ?_⟩
      obtain ⟨e0, e1, e2, e3⟩ := hi i (by omega)
      obtain ⟨g, hg, _⟩ := DataW.trod_bool Try.underlying4 e2
      obtain ⟨x, hx, _, wx⟩ := DataW.trod_int Try.underlying2 e3
      simp only [List.cons.injEq, and_true] at hg hx
      rw [hg] at e0
      rw [hx] at e1
      obtain ⟨b, off, spot⟩ := a
      have hs : spot = none ∨ spot.isSome = true := by cases spot <;> simp
      have hspot : spot = none := by
        have z := (hi 0 (by omega)).1
        simp only [Nat.zero_mul, Addr.add, if_true] at z
        exact World.cell?_spot z
      subst hspot
      have hblk : b < W.heap.size := by
        have z := (hi 0 (by omega)).1
        simp only [Nat.zero_mul, Addr.add, if_true] at z
        exact World.block_lt_of_cell? _ _ z
      have z0 : ((⟨b, off, none⟩ : Addr).add (i * 2)) = ⟨b, off + i * 2, none⟩ := by unfold Addr.add; split <;> simp_all
      have z1 : ((⟨b, off, none⟩ : Addr).add (i * 2 + 1)) = ⟨b, off + i * 2 + 1, none⟩ := by unfold Addr.add; simp [Nat.add_assoc]
      rw [z0] at e0
      rw [z1] at e1
      have bx := bounds_i64 wx
      have hn : intOf (V1 i) = x := by rw [hx]; rfl
      dsimp only
      rw [hn, hg]
      exact ⟨b, off, rfl, hblk, e0, e1, bx.1, bx.2⟩
  clear hA0 hval0
  refine (bounds_any a0 a1 len cap gs ns W (by have := (bounds_i64 w0).2; omega) hO hlen).mono fun e W' ⟨he, bel⟩ => ?_
  subst he
  exact ⟨_, rfl, _, _, _, [], _, [], hW', trodAll_mk1 (shut_bool Try.underlying4 _), (trodAll_cons_mk (Below.trod laidOut (by kernel_rfl) (of_decide_eq_true (by kernel_rfl)) k0 bel lt0) (trodAll_cons_mk (Below.trod laidOut (by kernel_rfl) (of_decide_eq_true (by kernel_rfl)) k1 bel lt1) trodAll_mk0)), rfl, bel.frame _, fun h => by cases h⟩

theorem proved : Rows.MeterBoundsSaid :=
  OpenClaim.holds_of_wide 6 Try.f6 rfl rfl rfl rfl rfl rfl rfl ⟨rfl, rfl, rfl, rfl, rfl⟩ rfl rfl rfl rfl rfl (by kernel_rfl) Try.func6 (by kernel_rfl)
    (of_decide_eq_true (by kernel_rfl)) (by unfold Func.isWrapper; first | (rw [if_pos (by decide +kernel)]; kernel_rfl) | (rw [if_neg (by decide +kernel)]; exact ⟨rfl, rfl⟩))
    (fun os started H enc _ => lifted os started H enc)
#print axioms proved
end Go.Proofs.Ytngnafjenofihaa.meterBounds
