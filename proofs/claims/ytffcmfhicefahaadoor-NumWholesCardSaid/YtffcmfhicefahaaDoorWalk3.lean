/- The walk of num.Right. -/
import Derived.Test.YtffcmfhicefahaaDoorWalk2
import Derived.Test.YtffcmfhicefahaaDoorNumTrim
import Derived.Test.YtffcmfhicefahaaDoorMem
namespace Go.Proofs.YtffcmfhicefahaaDoor
open Go.RowKit Go.Proofs.NumPlain

set_option maxHeartbeats 2000000 in
theorem right_none (neg : Bool) (x : Int) (w : World) :
    Calls Tryd.prog 15 #[.agg #[.bool neg, .string ⟨#[]⟩, .int .i64 x]] w fun e w' => e = .returned (.bool (!neg && x == 0)) ∧ Below w.heap.size w w' := by
  go_enter Tryd.func15, Tryd.ntmps15
  go_wp2_with fail
  all_goals
    go_ret
    exact ⟨by simp_all, (Below.refl _ _).alloc (Nat.le_refl _) _⟩

theorem get_first (d : ByteArray) (h : 0 < d.size) : d.data.toList.head? = some d[0] := by
  rw [List.head?_eq_getElem?, List.getElem?_eq_getElem (by simpa using h)]; rfl
theorem get_last (d : ByteArray) (h : 0 < d.size) : d.data.toList.getLast? = some d[d.size - 1] := by
  rw [List.getLast?_eq_getElem?, List.getElem?_eq_getElem (by rw [← Lib.size_eq]; omega)]
  simp
  rfl
theorem ne_48 (c : UInt8) : ((some c : Option UInt8) != some 48) = (((c.toNat : Nat) : Int) != 48) := by
  have := all_u8 (fun c => ((some c : Option UInt8) != some 48) == (((c.toNat : Nat) : Int) != 48)) (by decide +kernel) c
  simpa using this

set_option maxHeartbeats 4000000 in
theorem right_walk (neg : Bool) (d : ByteArray) (x : Int) (w : World) (hs : d.size ≤ 9223372036854775807) (h0 : 0 < d.size) :
    Calls Tryd.prog 15 #[.agg #[.bool neg, .string d, .int .i64 x]] w fun e w' => e = .returned (.bool (right ⟨neg, d.data.toList, x⟩)) ∧ Below w.heap.size w w' := by
  have hne : d.data.toList ≠ [] := fun h => by
    have : d.size = 0 := by rw [Lib.size_eq, h]; rfl
    omega
  have hR := right_some neg d.data.toList x hne
  rw [get_first d h0, get_last d h0, ne_48, ne_48, ← Lib.size_eq] at hR
  have HR := Lib.hid hR
  clear hR
  have hemp : d.toList.isEmpty = false := by rw [isEmpty_iff]; cases h : d.data.toList with | nil => exact absurd h hne | cons _ _ => rfl
  clear hne
  obtain ⟨D, hD⟩ : ∃ D, right ⟨neg, d.data.toList, x⟩ = D := ⟨_, rfl⟩
  rw [hD]
  have hD : Hid (D = (decide (d.size ≤ 1000) && d.data.toList.all isD && (((d[0].toNat : Nat) : Int) != 48) && (((d[d.size - 1].toNat : Nat) : Int) != 48) && decide (x ≤ 10000) && decide (-10000 ≤ x))) := by rw [← hD]; exact HR.out
  clear HR
  by_cases h1 : d.size ≤ 1000
  · cases h2 : d.data.toList.all isD
    · have hv : D = false := by have := hD.out; rw [this]; simp [h1, h2]
      rw [hv]
      clear hD hv
      go_enter Tryd.func15, Tryd.ntmps15
      go_wp2_with fail
      refine (Any.strings_Trim_laid Tryd.lays160 (by kernel_rfl) _ _ _ hs (by decide) (ascii_of_all (by decide))).mono ?_
      rintro e w1 ⟨rfl, hb⟩
      have hbb := Lib.hid hb
      obtain ⟨hc, hf⟩ := bcell hb
      clear hb
      obtain ⟨T, hT⟩ : ∃ T : ByteArray, T = ⟨(Lib.trimS d.data.toList [48, 49, 50, 51, 52, 53, 54, 55, 56, 57]).toArray⟩ := ⟨_, rfl⟩
      rw [← hT]
      have hTe : T.toList.isEmpty = false := by
        rw [isEmpty_iff, hT]
        cases hq : Lib.trimS d.data.toList [48, 49, 50, 51, 52, 53, 54, 55, 56, 57] with
        | nil => exact absurd ((trimS_digits _).1 hq) (by simp [h2])
        | cons _ _ => rfl
      clear hT hf
      go_wp2_with fail
      go_ret
      exact ⟨by first | rfl | (simp; omega), ((Below.refl _ _).alloc (Nat.le_refl _) _).trans (hbb.out.mono (by simp))⟩
    · cases h3 : (((d[0].toNat : Nat) : Int) != 48)
      · have hv : D = false := by have := hD.out; rw [this]; simp [h1, h2, h3]
        rw [hv]
        clear hD hv
        go_enter Tryd.func15, Tryd.ntmps15
        go_wp2_with fail
        refine (Any.strings_Trim_laid Tryd.lays160 (by kernel_rfl) _ _ _ hs (by decide) (ascii_of_all (by decide))).mono ?_
        rintro e w1 ⟨rfl, hb⟩
        have hbb := Lib.hid hb
        obtain ⟨hc, hf⟩ := bcell hb
        clear hb
        obtain ⟨T, hT⟩ : ∃ T : ByteArray, T = ⟨(Lib.trimS d.data.toList [48, 49, 50, 51, 52, 53, 54, 55, 56, 57]).toArray⟩ := ⟨_, rfl⟩
        rw [← hT]
        have hTe : T.toList.isEmpty = true := by
          rw [isEmpty_iff, hT]
          rw [(trimS_digits _).2 h2]; rfl
        clear hT hf
        go_wp2_with fail
        go_ret
        exact ⟨by first | rfl | (simp; omega), ((Below.refl _ _).alloc (Nat.le_refl _) _).trans (hbb.out.mono (by simp))⟩
      · cases h4 : (((d[d.size - 1].toNat : Nat) : Int) != 48)
        · have hv : D = false := by have := hD.out; rw [this]; simp [h1, h2, h3, h4]
          rw [hv]
          clear hD hv
          go_enter Tryd.func15, Tryd.ntmps15
          go_wp2_with fail
          refine (Any.strings_Trim_laid Tryd.lays160 (by kernel_rfl) _ _ _ hs (by decide) (ascii_of_all (by decide))).mono ?_
          rintro e w1 ⟨rfl, hb⟩
          have hbb := Lib.hid hb
          obtain ⟨hc, hf⟩ := bcell hb
          clear hb
          obtain ⟨T, hT⟩ : ∃ T : ByteArray, T = ⟨(Lib.trimS d.data.toList [48, 49, 50, 51, 52, 53, 54, 55, 56, 57]).toArray⟩ := ⟨_, rfl⟩
          rw [← hT]
          have hTe : T.toList.isEmpty = true := by
            rw [isEmpty_iff, hT]
            rw [(trimS_digits _).2 h2]; rfl
          clear hT hf
          go_wp2_with fail
          go_ret
          exact ⟨by first | rfl | (simp; omega), ((Below.refl _ _).alloc (Nat.le_refl _) _).trans (hbb.out.mono (by simp))⟩
        · by_cases h5 : x ≤ 10000
          · by_cases h6 : -10000 ≤ x
            · have hv : D = true := by have := hD.out; rw [this]; simp [h1, h2, h3, h4, h5, h6]
              rw [hv]
              clear hD hv
              go_enter Tryd.func15, Tryd.ntmps15
              go_wp2_with fail
              refine (Any.strings_Trim_laid Tryd.lays160 (by kernel_rfl) _ _ _ hs (by decide) (ascii_of_all (by decide))).mono ?_
              rintro e w1 ⟨rfl, hb⟩
              have hbb := Lib.hid hb
              obtain ⟨hc, hf⟩ := bcell hb
              clear hb
              obtain ⟨T, hT⟩ : ∃ T : ByteArray, T = ⟨(Lib.trimS d.data.toList [48, 49, 50, 51, 52, 53, 54, 55, 56, 57]).toArray⟩ := ⟨_, rfl⟩
              rw [← hT]
              have hTe : T.toList.isEmpty = true := by
                rw [isEmpty_iff, hT]
                rw [(trimS_digits _).2 h2]; rfl
              clear hT hf
              go_wp2_with fail
              go_ret
              exact ⟨by first | rfl | (simp; omega), ((Below.refl _ _).alloc (Nat.le_refl _) _).trans (hbb.out.mono (by simp))⟩
            · have hv : D = false := by have := hD.out; rw [this]; simp [h1, h2, h3, h4, h5, h6]
              rw [hv]
              clear hD hv
              go_enter Tryd.func15, Tryd.ntmps15
              go_wp2_with fail
              refine (Any.strings_Trim_laid Tryd.lays160 (by kernel_rfl) _ _ _ hs (by decide) (ascii_of_all (by decide))).mono ?_
              rintro e w1 ⟨rfl, hb⟩
              have hbb := Lib.hid hb
              obtain ⟨hc, hf⟩ := bcell hb
              clear hb
              obtain ⟨T, hT⟩ : ∃ T : ByteArray, T = ⟨(Lib.trimS d.data.toList [48, 49, 50, 51, 52, 53, 54, 55, 56, 57]).toArray⟩ := ⟨_, rfl⟩
              rw [← hT]
              have hTe : T.toList.isEmpty = true := by
                rw [isEmpty_iff, hT]
                rw [(trimS_digits _).2 h2]; rfl
              clear hT hf
              go_wp2_with fail
              go_ret
              exact ⟨by first | rfl | (simp; omega), ((Below.refl _ _).alloc (Nat.le_refl _) _).trans (hbb.out.mono (by simp))⟩
          · have hv : D = false := by have := hD.out; rw [this]; simp [h1, h2, h3, h4, h5]
            rw [hv]
            clear hD hv
            go_enter Tryd.func15, Tryd.ntmps15
            go_wp2_with fail
            refine (Any.strings_Trim_laid Tryd.lays160 (by kernel_rfl) _ _ _ hs (by decide) (ascii_of_all (by decide))).mono ?_
            rintro e w1 ⟨rfl, hb⟩
            have hbb := Lib.hid hb
            obtain ⟨hc, hf⟩ := bcell hb
            clear hb
            obtain ⟨T, hT⟩ : ∃ T : ByteArray, T = ⟨(Lib.trimS d.data.toList [48, 49, 50, 51, 52, 53, 54, 55, 56, 57]).toArray⟩ := ⟨_, rfl⟩
            rw [← hT]
            have hTe : T.toList.isEmpty = true := by
              rw [isEmpty_iff, hT]
              rw [(trimS_digits _).2 h2]; rfl
            clear hT hf
            go_wp2_with fail
            go_ret
            exact ⟨by first | rfl | (simp; omega), ((Below.refl _ _).alloc (Nat.le_refl _) _).trans (hbb.out.mono (by simp))⟩
  · have hv : D = false := by have := hD.out; rw [this]; simp [h1]
    rw [hv]
    clear hD hv
    go_enter Tryd.func15, Tryd.ntmps15
    go_wp2_with fail
    go_ret
    exact ⟨rfl, (Below.refl _ _).alloc (Nat.le_refl _) _⟩

/-- num.Right at every number. -/
theorem right_any (neg : Bool) (d : ByteArray) (x : Int) (w : World) (hs : d.size ≤ 9223372036854775807) :
    Calls Tryd.prog 15 #[.agg #[.bool neg, .string d, .int .i64 x]] w fun e w' => e = .returned (.bool (right ⟨neg, d.data.toList, x⟩)) ∧ Below w.heap.size w w' := by
  by_cases h0 : 0 < d.size
  · exact right_walk neg d x w hs h0
  · obtain ⟨⟨l⟩⟩ := d
    cases l with
    | nil => exact right_none neg x w
    | cons c r => exact absurd (show 0 < (ByteArray.mk ⟨c :: r⟩).size by show 0 < (c :: r).length; simp) h0
end Go.Proofs.YtffcmfhicefahaaDoor

