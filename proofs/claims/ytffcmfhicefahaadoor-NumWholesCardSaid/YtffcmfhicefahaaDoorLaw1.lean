/- num.Parse, the reference's Parse, whatever the text is; the examples. -/
import Derived.Test.YtffcmfhicefahaaDoorRef6
import Derived.Test.YtffcmfhicefahaaDoorRef4
import Derived.Deep.DeepCutAuto
namespace Go.Proofs.YtffcmfhicefahaaDoor
open Go.RowKit Go.Proofs.NumPlain

/-- What a text's number is, and the error's number. -/
def Parsed (l : List UInt8) (r : Nm × Int) : Prop :=
  ((l = [] ∨ NumPlain.scan l ≠ l.length) ∧ r = (zero, 3)) ∨
  ∃ (neg : Bool) (I : List UInt8) (pt : Bool) (F : List UInt8) (ex : Ex), NumPlain.Good I pt F ex ∧ l = render neg I pt F ex ∧ NumPlain.scan l = l.length ∧ r = fin neg (I ++ F) (-(F.length : Int) + ex.val valP)
theorem parsed_ex (l : List UInt8) : ∃ r, Parsed l r := by
  by_cases h : l = [] ∨ NumPlain.scan l ≠ l.length
  · exact ⟨_, .inl ⟨h, rfl⟩⟩
  · have hn : l ≠ [] := fun e => h (.inl e)
    have hs : NumPlain.scan l = l.length := Classical.byContradiction fun e => h (.inr e)
    obtain ⟨neg, I, pt, F, ex, hg, hl⟩ := apart l hn hs
    exact ⟨_, .inr ⟨neg, I, pt, F, ex, hg, hl, hs, rfl⟩⟩
theorem dfa_le (l : List UInt8) : ∀ q p e, e ≤ p → dfa q p e l ≤ p + l.length := by
  induction l with
  | nil => intro q p e h; exact h
  | cons c r ih =>
    intro q p e h
    unfold dfa
    rw [List.length_cons]
    split
    · omega
    · split
      · omega
      · have := ih (nxt q (kind c).toNat) (p + 1) (if acc (nxt q (kind c).toNat) then p + 1 else e) (by split <;> omega)
        omega
theorem scan_le (l : List UInt8) : NumPlain.scan l ≤ l.length := by
  have := dfa_le l 0 0 0 (by omega)
  rw [dfa_scan] at this
  omega
theorem parse_all (s : ByteArray) (w : World) (r : Nm × Int) (h : Parsed s.data.toList r) (hs : s.size ≤ 100000) (hG : Glob w) :
    Calls Tryd.prog 10 #[.string s] w fun e w' => e = .returned (.tuple #[nv r.1, .int .i64 r.2]) ∧ Below w.heap.size w w' := by
  rcases h with ⟨h, rfl⟩ | ⟨neg, I, pt, F, ex, hg, hl, hsc, rfl⟩
  · refine parse_form s w (by omega) hG ?_
    rcases h with h | h
    · exact .inl h
    · right
      have := scan_le s.data.toList
      rw [Lib.size_eq]
      omega
  · exact parse_good s w neg I pt F ex hg hl hsc hs hG
theorem rparse_all (s : ByteArray) (w : World) (r : Nm × Int) (h : Parsed s.data.toList r) (hs : s.size ≤ 100000) :
    Calls Tryd.prog 11 #[.string s] w fun e w' => e = .returned (.tuple #[nv r.1, .int .i64 r.2]) ∧ Below w.heap.size w w' := by
  rcases h with ⟨h, rfl⟩ | ⟨neg, I, pt, F, ex, hg, hl, hsc, rfl⟩
  · exact rparse_form s w (by omega) (by rw [Lib.size_eq]; exact h)
  · have hlen : (I ++ F).length ≤ 100000 ∧ F.length ≤ 100000 := by
      rw [Lib.size_eq, hl] at hs
      have : F.length ≤ (ptText pt F).length := by
        cases pt with
        | true => simp [ptText]
        | false => rw [hg.fNo rfl]; simp
      simp only [render, List.length_append] at hs ⊢
      omega
    rw [fin_same neg (I ++ F) F.length ex hlen.1 hlen.2]
    exact rparse_good s w neg I pt F ex hg hl hsc hs
theorem parsed_one : Parsed [45, 49, 46, 53, 48, 101, 49] (⟨true, [49, 53], 0⟩, 0) :=
  .inr ⟨true, [49], true, [53, 48], .some 101 [] [49], ⟨by unfold dig; decide, by decide, by unfold dig; decide, by decide, by decide, by decide, .inl rfl, by decide, by unfold dig; decide⟩, by decide, by decide, by decide⟩
theorem parsed_two : Parsed [48, 49] (zero, 3) := .inl ⟨.inr (by decide), rfl⟩

set_option maxHeartbeats 1000000 in
theorem wakes_any (w : World) (hG : Glob w) : Calls Tryd.prog 9 #[] w fun e w' => e = .returned (.bool true) ∧ Below w.heap.size w w' := by
  have HG := Lib.hid hG
  clear hG
  go_enter Tryd.func9, Tryd.ntmps9
  go_wp2_with fail
  refine (parse_all ⟨#[45, 49, 46, 53, 48, 101, 49]⟩ w _ parsed_one (by decide) HG.out).mono ?_
  rintro e w1 ⟨rfl, hb⟩
  unfold nv
  go_wp2_with fail
  have hB1 := Blk.new w1 24 #[.bool true, .string ⟨#[49, 53]⟩, .int .i64 0]
  have hW1 : Below w.heap.size w (w1.alloc (.cells #[.bool true, .string ⟨#[49, 53]⟩, .int .i64 0] 24)) := hb.alloc hb.size _
  have HB1 := Lib.hid hB1
  have HW1 := Lib.hid hW1
  have HG1 := Lib.hid (HG.out.below hW1)
  clear hB1 hW1 hb HG
  refine (parse_all ⟨#[48, 49]⟩ _ _ parsed_two (by decide) HG1.out).mono ?_
  rw [show nv ((zero, (3 : Int)) : Nm × Int).1 = .agg #[.bool false, .string ⟨#[]⟩, .int .i64 0] from rfl]
  rintro e w2 ⟨rfl, hb⟩
  have hB2 := (HB1.out.below hb HB1.out.lt).alloc (.cells #[.bool false, .string ⟨#[]⟩, .int .i64 0] 24)
  have hW2 : Below w.heap.size w (w2.alloc (.cells #[.bool false, .string ⟨#[]⟩, .int .i64 0] 24)) := (HW1.out.trans (hb.mono HW1.out.size)).alloc (Nat.le_trans HW1.out.size hb.size) _
  have c0 := hB2.cell 0
  have c1 := hB2.cell 1
  have c2 := hB2.cell 2
  have HW2 := Lib.hid hW2
  have HG2 := Lib.hid (HG1.out.below (hb.alloc hb.size (.cells #[.bool false, .string ⟨#[]⟩, .int .i64 0] 24)))
  clear hB2 hW2 hb HG1 HB1 HW1
  go_wp2_with fail
  refine (print_any true ⟨#[49, 53]⟩ 0 _ (by decide) HG2.out).mono ?_
  rw [show NumPlain.print ⟨true, (⟨#[49, 53]⟩ : ByteArray).data.toList, 0⟩ = [45, 49, 53] from by decide]
  rintro e w3 ⟨rfl, hb⟩
  go_wp2_with fail
  go_ret
  exact ⟨rfl, HW2.out.trans (hb.mono HW2.out.size)⟩
end Go.Proofs.YtffcmfhicefahaaDoor
