/- A number that is written otherwise: the texts of the statement NumWays, and what they are parsed to. -/
import Derived.Test.YtffcmfhicefahaaDoorLaw1
import Derived.Test.YtffcmfhicefahaaDoorNumMove
namespace Go.Proofs.YtffcmfhicefahaaDoor
open Go.RowKit Go.Proofs.NumPlain

theorem valP_small (u : Nat) (h : u ≤ 1000000) : valP (Lib.decDigits u) = u := valP_dec u h
theorem dig_nil : NumPlain.dig [] := fun c hc => by cases hc

theorem way_a (u : Nat) : Parsed (Lib.decDigits u) (fin false (Lib.decDigits u) 0) := by
  obtain ⟨h1, h2, _⟩ := dec_dig u
  have hg : NumPlain.Good (Lib.decDigits u) false [] .no := ⟨h1, h2, dig_nil, by simp, fun _ => rfl, trivial⟩
  have hr : Lib.decDigits u = render false (Lib.decDigits u) false [] .no := by simp [render, sgText, ptText, Ex.text]
  refine .inr ⟨false, _, false, [], .no, hg, hr, ?_, ?_⟩
  · have := scan_render false _ false [] .no hg (dec_head u)
    rwa [← hr] at this
  · simp [Ex.val]

theorem way_b (u lz : Nat) (hu : (Lib.decDigits u).length ≤ 100) (hz : lz ≤ 100) : Parsed ([48, 46] ++ List.replicate lz 48 ++ Lib.decDigits u ++ List.replicate lz 48 ++ [101] ++ Lib.decDigits ((Lib.decDigits u).length + lz)) (fin false (Lib.decDigits u) 0) := by
  obtain ⟨h1, h2, _⟩ := dec_dig u
  obtain ⟨g1, g2, _⟩ := dec_dig ((Lib.decDigits u).length + lz)
  generalize hX : Lib.decDigits ((Lib.decDigits u).length + lz) = X at *
  have hv : valP X = (Lib.decDigits u).length + lz := by rw [← hX]; exact valP_dec _ (by omega)
  generalize Lib.decDigits u = s at *
  have hg : NumPlain.Good [48] true (List.replicate lz 48 ++ (s ++ List.replicate lz 48)) (.some 101 [] X) :=
    ⟨by unfold NumPlain.dig; decide, by decide, dig_append (dig_replicate _) (dig_append h1 (dig_replicate _)), fun _ => by simp [h2], by simp, rfl, .inl rfl, g2, g1⟩
  have hr : [48, 46] ++ List.replicate lz 48 ++ s ++ List.replicate lz 48 ++ [101] ++ X = render false [48] true (List.replicate lz 48 ++ (s ++ List.replicate lz 48)) (.some 101 [] X) := by
    simp [render, sgText, ptText, Ex.text]
  refine .inr ⟨false, _, true, _, _, hg, hr, ?_, ?_⟩
  · rw [hr]; exact scan_render _ _ _ _ _ hg (.inl rfl)
  · have := fin_shift false s (lz + 1) lz (-(lz : Int)) 0 (by omega)
    rw [← this, List.replicate_succ]
    have e : (-(((List.replicate lz (48 : UInt8) ++ (s ++ List.replicate lz 48)).length : Nat) : Int) + Ex.val valP (.some 101 [] X)) = -(lz : Int) := by
      have : ¬ ([] : List UInt8) = [45] := by decide
      simp only [Ex.val, this, if_false, hv, List.length_append, List.length_replicate]
      omega
    rw [e]; rfl

theorem way_c (u lz : Nat) (hz : lz ≤ 100) (h : lz = 0 ∨ Lib.decDigits u ≠ [48]) : Parsed (Lib.decDigits u ++ List.replicate lz 48 ++ [69, 45] ++ Lib.decDigits lz) (fin false (Lib.decDigits u) 0) := by
  obtain ⟨h1, h2, _⟩ := dec_dig u
  have hh := dec_head u
  obtain ⟨g1, g2, _⟩ := dec_dig lz
  have hv : valP (Lib.decDigits lz) = lz := valP_dec _ (by omega)
  generalize Lib.decDigits lz = X at *
  generalize Lib.decDigits u = s at *
  have hg : NumPlain.Good (s ++ List.replicate lz 48) false [] (.some 69 [45] X) :=
    ⟨dig_append h1 (dig_replicate _), by simp [h2], dig_nil, by simp, fun _ => rfl, rfl, .inr (.inr rfl), g2, g1⟩
  have hr : s ++ List.replicate lz 48 ++ [69, 45] ++ X = render false (s ++ List.replicate lz 48) false [] (.some 69 [45] X) := by
    simp [render, sgText, ptText, Ex.text]
  refine .inr ⟨false, _, false, _, _, hg, hr, ?_, ?_⟩
  · rw [hr]
    refine scan_render _ _ _ _ _ hg ?_
    rcases h with rfl | h
    · simpa using hh
    · right
      rcases hh with hh | hh
      · exact absurd hh h
      · cases s with
        | nil => exact absurd rfl h2
        | cons c q => simpa using hh
  · have := fin_shift false s 0 lz (-(lz : Int)) 0 (by omega)
    rw [List.replicate_zero, List.nil_append] at this
    rw [List.append_nil]
    have e : (-((([] : List UInt8).length : Nat) : Int) + Ex.val valP (.some 69 [45] X)) = -(lz : Int) := by
      simp only [Ex.val, if_true, hv, List.length_nil]
      omega
    rw [e, this]

theorem way_c0 (lz : Nat) (X : List UInt8) (h : 0 < lz) : Parsed ([48] ++ List.replicate lz 48 ++ [69, 45] ++ X) (zero, 3) := by
  refine .inl ⟨.inr ?_, rfl⟩
  obtain ⟨k, rfl⟩ : ∃ k, lz = k + 1 := ⟨lz - 1, by omega⟩
  rw [List.replicate_succ]
  have : NumPlain.scan ([48] ++ (48 :: List.replicate k 48) ++ [69, 45] ++ X) = 1 := by
    simp [NumPlain.scan, NumPlain.bodyLen, NumPlain.tailLen, NumPlain.expLen, NumPlain.isE]
  rw [this]
  simp

theorem way_d (u k : Nat) (hu : (Lib.decDigits u).length ≤ 100) (h0 : 0 < k) (h1 : k < (Lib.decDigits u).length) : Parsed ((Lib.decDigits u).take k ++ [46] ++ (Lib.decDigits u).drop k ++ [101, 43] ++ Lib.decDigits ((Lib.decDigits u).length - k)) (fin false (Lib.decDigits u) 0) := by
  obtain ⟨h2, h3, _⟩ := dec_dig u
  have hh := dec_head u
  obtain ⟨g1, g2, _⟩ := dec_dig ((Lib.decDigits u).length - k)
  generalize hX : Lib.decDigits ((Lib.decDigits u).length - k) = X at *
  have hv : valP X = (Lib.decDigits u).length - k := by rw [← hX]; exact valP_dec _ (by omega)
  generalize Lib.decDigits u = s at *
  have hg : NumPlain.Good (s.take k) true (s.drop k) (.some 101 [43] X) := by
    refine ⟨fun c hc => h2 c (List.mem_of_mem_take hc), fun e => ?_, fun c hc => h2 c (List.mem_of_mem_drop hc), fun _ e => ?_, by simp, rfl, .inr (.inl rfl), g2, g1⟩
    · have := congrArg List.length e
      rw [List.length_take, List.length_nil] at this
      omega
    · have := congrArg List.length e
      rw [List.length_drop, List.length_nil] at this
      omega
  have hr : s.take k ++ [46] ++ s.drop k ++ [101, 43] ++ X = render false (s.take k) true (s.drop k) (.some 101 [43] X) := by
    simp [render, sgText, ptText, Ex.text]
  refine .inr ⟨false, _, true, _, _, hg, hr, ?_, ?_⟩
  · rw [hr]
    refine scan_render _ _ _ _ _ hg (.inr ?_)
    rcases hh with hh | hh
    · rw [hh] at h1
      simp at h1
      omega
    · cases s with
      | nil => exact absurd rfl h3
      | cons c q =>
        obtain ⟨j, rfl⟩ : ∃ j, k = j + 1 := ⟨k - 1, by omega⟩
        rw [List.take_succ_cons]
        simpa using hh
  · rw [List.take_append_drop]
    have e : (-(((s.drop k).length : Nat) : Int) + Ex.val valP (.some 101 [43] X)) = 0 := by
      have : ¬ ([43] : List UInt8) = [45] := by decide
      simp only [Ex.val, this, if_false, hv, List.length_drop]
      omega
    rw [e]
end Go.Proofs.YtffcmfhicefahaaDoor
