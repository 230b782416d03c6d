import Derived.Below
import Derived.Laws.OwnMore
import Derived.Deep.Draws
import Derived.Laws.Rows
import Derived.Lib.Strings
import Derived.WalkKit
import Derived.Test.YtdfihhebgllpcaaGreatDoorAo04
import Derived.Test.YtdfihhebgllpcaaGreatDoorChecked
import Derived.Shelf.Strings.Builder1
import Derived.Lib.Hide
import Derived.Test.YtdfihhebgllpcaaGreatDoorAo03
import Derived.Deep.QuietTactic
import Derived.BigQuiet

/- Small words on memory: a block that is known whole. -/
namespace Go.Proofs.YtdfihhebgllpcaaGreatDoor
open Go.RowKit

def Blk (w : World) (g : Nat) (t : TypeId) (cs : Array Value) : Prop := w.heap[g]? = some (.cells cs t (0, 0))
section
variable {w w' : World} {g : Nat} {t : TypeId} {cs : Array Value}
theorem Blk.lt (h : Blk w g t cs) : g < w.heap.size := by
  rcases Nat.lt_or_ge g w.heap.size with hlt | hge
  · exact hlt
  · unfold Blk at h; rw [Array.getElem?_eq_none hge] at h; cases h
theorem Blk.cell (h : Blk w g t cs) (i : Nat) : w.cell? ⟨g, i, none⟩ = cs[i]? := cell_of_row w g i cs t (0, 0) h
theorem Blk.frozen (h : Blk w g t cs) (i : Nat) : w.frozen? ⟨g, i, none⟩ = false := by
  unfold Blk at h
  simp [World.frozen?, h]
theorem Blk.new (w : World) (t : TypeId) (cs : Array Value) : Blk (w.alloc (.cells cs t)) w.heap.size t cs := heap_alloc_new w _
theorem Blk.drew (h : Blk w g t cs) : Blk w.drew g t cs := h
theorem Blk.drewN (h : Blk w g t cs) (n : Nat) : Blk (w.drewN n) g t cs := h
theorem Blk.alloc (h : Blk w g t cs) (o : Obj) : Blk (w.alloc o) g t cs := (Below.heap_alloc w o g h.lt).trans h
theorem Blk.set_ (h : Blk w g t cs) (i : Nat) (u : Value) : Blk (w.setCell ⟨g, i, none⟩ u) g t (cs.setIfInBounds i u) := by
  unfold Blk at h ⊢
  simp [World.setCell, Array.getElem?_modify, h]
theorem Blk.far (h : Blk w g t cs) {p : Addr} (hp : g ≠ p.block) (u : Value) : Blk (w.setCell p u) g t cs := (Below.heap_setCell w p u g hp).trans h
theorem Blk.below {B : Nat} (h : Blk w g t cs) (hb : Below B w w') (hg : g < B) : Blk w' g t cs := (hb.block g hg).trans h
end
theorem below_drewN {B : Nat} {a w : World} (h : Below B a w) (n : Nat) : Below B a (w.drewN n) := ⟨h.os, h.tape, h.output, h.size, h.block⟩
theorem bcell {W w1 : World} (hb : Below W.heap.size W w1) : (∀ b o, b < W.heap.size → w1.cell? ⟨b, o, none⟩ = W.cell? ⟨b, o, none⟩) ∧ (∀ b o, b < W.heap.size → w1.frozen? ⟨b, o, none⟩ = W.frozen? ⟨b, o, none⟩) :=
  ⟨fun b o h => hb.cell (p := ⟨b, o, none⟩) h, fun b o h => hb.frozen (p := ⟨b, o, none⟩) h⟩
theorem isEmpty_iff (d : ByteArray) : d.toList.isEmpty = d.data.toList.isEmpty := by rw [Lib.toList_data]
theorem bytes_eta (d : ByteArray) (l : List UInt8) (h : d.data.toList = l) : d = ⟨l.toArray⟩ := by
  obtain ⟨⟨m⟩⟩ := d
  simp only at h
  rw [h]
theorem size_of_list (d : ByteArray) (l : List UInt8) (h : d.data.toList = l) : d.size = l.length := by rw [Lib.size_eq, h]
theorem isEmpty_of (d : ByteArray) (l : List UInt8) (h : d.data.toList = l) : d.toList.isEmpty = l.isEmpty := by rw [isEmpty_iff, h]
theorem data_append (a b : ByteArray) : (a ++ b).data.toList = a.data.toList ++ b.data.toList := by
  simp
theorem data_extract (s : ByteArray) (a b : Nat) : (s.extract a b).data.toList = (s.data.toList.drop a).take (b - a) := by
  rw [← Lib.toList_data, Lib.extract_toList]
end Go.Proofs.YtdfihhebgllpcaaGreatDoor

/- strings.Builder at this dump (its copyCheck is cut short here, so the shelf's contracts do not lay): copyCheck, WriteByte, WriteString. -/
namespace Go.Proofs.YtdfihhebgllpcaaGreatDoor
open Go.RowKit

theorem bld_size : (Tryz.prog.info? 114).map (·.size) = some 2 := by kernel_rfl
theorem bld_lies : liesAt Tryz.prog Tryz.prog.depth 114 (2 / Tryz.prog.cellsOf 114) 0 114 1 = true := by kernel_rfl
theorem bld_byte : (Tryz.prog.info? 5).map (fun i => (i.zero, i.size, i.bytes)) = some (some (.int .u8 0), 1, 1) := by kernel_rfl
theorem bld_ne : (114 : TypeId) ≠ 5 := by decide

set_option maxHeartbeats 1000000 in
set_option maxRecDepth 100000 in
theorem bld_used (b : Nat) (w : World) (h0 : w.cell? ⟨b, 0, none⟩ = some (.pointer (some ⟨b, 0, none⟩))) :
    Calls Tryz.prog 119 #[.pointer (some ⟨b, 0, none⟩)] w fun e w' => e = .returned (.tuple #[]) ∧ w' = w := by
  obtain ⟨j, hj, _⟩ := Option.map_eq_some_iff.1 bld_size
  go_enter Tryz.func119, Tryz.ntmps119
  go_wp2
  rw [Lib.run_neq_ptr_same w _ Tryz.underlying111 hj]
  go_wp2
  go_end0
  exact ⟨rfl, rfl⟩

set_option maxHeartbeats 1000000 in
set_option maxRecDepth 100000 in
theorem bld_fresh (b : Nat) (w : World) (h0 : w.cell? ⟨b, 0, none⟩ = some (.pointer none)) (hsh : w.shape? b = some (114, 2)) (hfz : w.frozen? ⟨b, 0, none⟩ = false) :
    Calls Tryz.prog 119 #[.pointer (some ⟨b, 0, none⟩)] w fun e w' => e = .returned (.tuple #[]) ∧ w' = w.setCell ⟨b, 0, none⟩ (.pointer (some ⟨b, 0, none⟩)) := by
  obtain ⟨j, hj, hjs⟩ := Option.map_eq_some_iff.1 bld_size
  go_enter Tryz.func119, Tryz.ntmps119
  go_wp2
  rw [Lib.run_to_unsafe w ⟨b, 0, none⟩ Tryz.underlying111 Tryz.underlying166 hj (by rw [hjs]; decide) hsh (Nat.zero_lt_succ 1)]
  simp only [Result.andThen]
  rw [Oper.upon_value]
  go_wp2
  rw [run_callFunc_extern Tryz.func145 (by kernel_rfl) (by kernel_rfl) (by kernel_rfl) (e := Extern.AbiNoEscape.same) (by kernel_rfl)]
  rw [Lib.run_noEscape]
  simp only [Result.andThen]
  rw [Oper.upon_value]
  go_wp2
  rw [Lib.run_from_unsafe w ⟨b, 0, none⟩ Tryz.underlying166 Tryz.underlying111 hj hsh bld_lies]
  simp only [Result.andThen]
  rw [Oper.upon_value]
  go_wp2
  go_end0
  exact ⟨rfl, rfl⟩

theorem bld_check (B b : Nat) (bs : List Value) (w : World) (h : Lib.IsBuilder 114 5 B b bs w) :
    Calls Tryz.prog 119 #[.pointer (some ⟨b, 0, none⟩)] w fun e w' => e = .returned (.tuple #[]) ∧ (Lib.BuilderAt 114 5 B b (.pointer (some ⟨b, 0, none⟩)) bs w' ∧ Below B w w') := by
  rcases h with h | h
  · refine (bld_fresh b w h.cell0 h.shape h.frozen0).mono ?_
    rintro e w' ⟨rfl, rfl⟩
    exact ⟨rfl, h.used _, (Below.refl B w).setCell (p := ⟨b, 0, none⟩) h.1 _⟩
  · refine (bld_used b w h.cell0).mono ?_
    rintro e w' ⟨rfl, rfl⟩
    exact ⟨rfl, h, Below.refl B _⟩

set_option maxHeartbeats 2000000 in
set_option maxRecDepth 100000 in
theorem bld_wbyte (B b : Nat) (bs : List Value) (c : Int) (w : World) (h : Lib.IsBuilder 114 5 B b bs w) (hlen : bs.length + 1 ≤ 140737488355328) (hBw : B ≤ w.heap.size) :
    Calls Tryz.prog 121 #[.pointer (some ⟨b, 0, none⟩), .int .u8 c] w fun e w' => e = .returned .nilIface ∧ (Lib.BuilderAt 114 5 B b (.pointer (some ⟨b, 0, none⟩)) (bs ++ [.int .u8 c]) w' ∧ Below B w w') := by
  obtain ⟨i0, hi, hz0, hz1, hz2⟩ := info_parts bld_byte
  go_enter Tryz.func121, Tryz.ntmps121
  go_wp2_with fail
  refine (bld_check B b bs _ h).mono ?_
  rintro e w1 ⟨rfl, h1, hb1⟩
  obtain ⟨hB, v, hbk, hown, hne⟩ := h1
  have c0 : w1.cell? ⟨b, 0, none⟩ = some (.pointer (some ⟨b, 0, none⟩)) := by rw [Lib.cell_of_heap hbk]; rfl
  have c1 : w1.cell? ⟨b, 1, none⟩ = some v := by rw [Lib.cell_of_heap hbk]; rfl
  go_wp2_with (at_builtin; refine wpList_append_own _ rfl _ _ 112 rfl B 5 i0 (.int .u8 0) 1 1 Tryz.underlying112 hi hz0 hz1 hz2 rfl (by decide) _ _ _ rfl (hown.alloc _) ⟨w1.heap.size, 0, none⟩ 1 1 [.int .u8 c] rfl rfl ?c1 ?c2 ?c3 ?c4 ?c5 ?_)
  case c1 =>
    intro j u hj
    match j, hj with
    | 0, hj => simp at hj; subst hj; simp [Addr.add]
  case c2 => intro u hu; simp at hu; subst hu; rfl
  case c3 => unfold maxLen; omega
  case c4 => omega
  case c5 => have := hb1.size; simp; omega
  intro v' w2 hown' hgrow _
  have hlt : b < w1.heap.size := by
    rcases Nat.lt_or_ge b w1.heap.size with h' | h'
    · exact h'
    · simp [Array.getElem?_eq_none h'] at hbk
  have hb2 : w2.heap[b]? = some (.cells #[.pointer (some ⟨b, 0, none⟩), v] 114 (0, 0)) := by
    rw [hgrow.block b (by simp; omega) (fun e => hne e.symm), Lib.alloc_old w1 _ b hlt]
    exact hbk
  have d0 : w2.cell? ⟨b, 0, none⟩ = some (.pointer (some ⟨b, 0, none⟩)) := by rw [Lib.cell_of_heap hb2]; rfl
  have d1 : w2.cell? ⟨b, 1, none⟩ = some v := by rw [Lib.cell_of_heap hb2]; rfl
  have f1 : w2.frozen? ⟨b, 1, none⟩ = false := Lib.frozen_of_heap hb2 1
  obtain ⟨g, cap, rfl⟩ : ∃ g cap, v' = .slice (some ⟨g, 0, none⟩) (bs.length + 1) cap := by
    rcases hown'.2 with ⟨_, h0⟩ | ⟨g, cap, cur, hv, _⟩
    · omega
    · exact ⟨g, cap, hv⟩
  go_wp2
  go_ret
  refine ⟨rfl, ?_, ?_⟩
  · exact Lib.BuilderAt.put (T := 114) (e := 5) hB hb2 (bs' := bs ++ [.int .u8 c]) (by simpa using hown') bld_ne
  · exact ((hb1.alloc (by have := hb1.size; omega) _).grown hgrow (by have := hb1.size; simp; omega) (fun k hk => (hown.lt k hk).1)).setCell (p := ⟨b, 1, none⟩) hB _

set_option maxHeartbeats 2000000 in
set_option maxRecDepth 100000 in
theorem bld_wstring (B b : Nat) (bs : List Value) (s : ByteArray) (w : World) (h : Lib.IsBuilder 114 5 B b bs w) (hlen : bs.length + s.size ≤ 140737488355328) (hBw : B ≤ w.heap.size) :
    Calls Tryz.prog 87 #[.pointer (some ⟨b, 0, none⟩), .string s] w fun e w' => e = .returned (.tuple #[.int .i64 s.size, .nilIface]) ∧ (Lib.BuilderAt 114 5 B b (.pointer (some ⟨b, 0, none⟩)) (bs ++ Lib.strCells s) w' ∧ Below B w w') := by
  obtain ⟨i0, hi, hz0, hz1, hz2⟩ := info_parts bld_byte
  go_enter Tryz.func87, Tryz.ntmps87
  go_wp2_with fail
  refine (bld_check B b bs _ h).mono ?_
  rintro e w1 ⟨rfl, h1, hb1⟩
  obtain ⟨hB, v, hbk, hown, hne⟩ := h1
  have c0 : w1.cell? ⟨b, 0, none⟩ = some (.pointer (some ⟨b, 0, none⟩)) := by rw [Lib.cell_of_heap hbk]; rfl
  have c1 : w1.cell? ⟨b, 1, none⟩ = some v := by rw [Lib.cell_of_heap hbk]; rfl
  go_wp2_with (at_builtin; refine Lib.wpList_append_own_string _ rfl _ _ 112 9 rfl B 5 i0 Tryz.underlying112 Tryz.underlying9 hi hz0 hz1 hz2 _ _ _ rfl hown s rfl ?c3 ?c4 ?c5 ?_)
  case c3 => unfold maxLen; omega
  case c4 => omega
  case c5 => have := hb1.size; omega
  intro v' w2 hown' hgrow _
  have hlt : b < w1.heap.size := by
    rcases Nat.lt_or_ge b w1.heap.size with h' | h'
    · exact h'
    · simp [Array.getElem?_eq_none h'] at hbk
  have hb2 : w2.heap[b]? = some (.cells #[.pointer (some ⟨b, 0, none⟩), v] 114 (0, 0)) := by
    rw [hgrow.block b hlt (fun e => hne e.symm)]
    exact hbk
  have d0 : w2.cell? ⟨b, 0, none⟩ = some (.pointer (some ⟨b, 0, none⟩)) := by rw [Lib.cell_of_heap hb2]; rfl
  have d1 : w2.cell? ⟨b, 1, none⟩ = some v := by rw [Lib.cell_of_heap hb2]; rfl
  have f1 : w2.frozen? ⟨b, 1, none⟩ = false := Lib.frozen_of_heap hb2 1
  obtain ⟨ao, n', cap, rfl⟩ : ∃ ao n' cap, v' = .slice ao n' cap := by
    rcases hown'.2 with ⟨hv, _⟩ | ⟨g, cap, cur, hv, _⟩
    · exact ⟨_, _, _, hv⟩
    · exact ⟨_, _, _, hv⟩
  go_wp2
  go_ret2
  refine ⟨rfl, ?_, ?_⟩
  · exact Lib.BuilderAt.put (T := 114) (e := 5) hB hb2 (bs' := bs ++ Lib.strCells s) (by simpa [Lib.strCells_length] using hown') bld_ne
  · exact (hb1.grown hgrow (by have := hb1.size; omega) (fun k hk => (hown.lt k hk).1)).setCell (p := ⟨b, 1, none⟩) hB _
end Go.Proofs.YtdfihhebgllpcaaGreatDoor

/- Plain: what is tried finds the scalar at the front. -/
namespace Go.Proofs.UtfPlain

theorem more0 (x : Nat) (h : x < 128) : more x = 0 ∧ okF x = true := by
  unfold more okF; rw [if_pos (by omega)]; simp [h]
theorem more1 (x : Nat) (h : 192 ≤ x) (h2 : x < 224) : more x = 1 ∧ okF x = true := by
  unfold more okF; rw [if_neg (by omega), if_pos h2]; refine ⟨rfl, ?_⟩; simp [h]; omega
theorem more2 (x : Nat) (h : 224 ≤ x) (h2 : x < 240) : more x = 2 ∧ okF x = true := by
  unfold more okF; rw [if_neg (by omega), if_neg (by omega), if_pos h2]; refine ⟨rfl, ?_⟩; simp; omega
theorem more3 (x : Nat) (h : 240 ≤ x) (h2 : x < 248) : more x = 3 ∧ okF x = true := by
  unfold more okF; rw [if_neg (by omega), if_neg (by omega), if_neg (by omega), if_pos h2]; refine ⟨rfl, ?_⟩; simp; omega
theorem ok_cases (x : Nat) (h : okF x = true) : x < 128 ∨ (192 ≤ x ∧ x < 224) ∨ (224 ≤ x ∧ x < 240) ∨ (240 ≤ x ∧ x < 248) := by
  unfold okF at h; simp at h; omega
theorem val1 (a b : UInt8) (r : List UInt8) (h : more a.toNat = 1) : val a (b :: r) = (a.toNat - 192) * 64 + (b.toNat - 128) := by
  unfold val; rw [h]; simp [accV, fmark]
theorem val2 (a b d : UInt8) (r : List UInt8) (h : more a.toNat = 2) : val a (b :: d :: r) = ((a.toNat - 224) * 64 + (b.toNat - 128)) * 64 + (d.toNat - 128) := by
  unfold val; rw [h]; simp [accV, fmark]
theorem val3 (a b d e : UInt8) (r : List UInt8) (h : more a.toNat = 3) : val a (b :: d :: e :: r) = (((a.toNat - 240) * 64 + (b.toNat - 128)) * 64 + (d.toNat - 128)) * 64 + (e.toNat - 128) := by
  unfold val; rw [h]; simp [accV, fmark]
theorem val0 (a : UInt8) (r : List UInt8) (h : more a.toNat = 0) : val a r = a.toNat := by
  unfold val; rw [h]; simp [accV, fmark]
theorem low_lt (m j v : Nat) (h : low m ≤ v) (hj : j < m) (hm : m ≤ 3) : below j ≤ v := Nat.le_trans (low_mono m j hj hm) h
theorem scalar_small (v : Nat) (h : v < 2048) : scalar v = true := by unfold scalar; simp; omega

theorem ref_yes (l : List UInt8) (n : Nat) (h1 : 1 ≤ n) (h4 : n ≤ 4) (hl : n ≤ l.length) (h : put (guess (l.take n)) = l.take n) : ((one l).1 : Int) = guess (l.take n) ∧ (one l).2 = n := by
  have hn : n = 1 ∨ n = 2 ∨ n = 3 ∨ n = 4 := by omega
  rcases hn with rfl | rfl | rfl | rfl
  · match l, hl with
    | a :: r, _ =>
      have g := (put1 a).1 h
      obtain ⟨m1, m2⟩ := more0 _ g
      have e := val0 a r m1
      have := one_good a r m2 (by omega) (by rw [m1]; simp) (by rw [m1]; intro j hj; omega) (by rw [e]; exact scalar_small _ (by omega))
      rw [this, e, m1]
      exact ⟨by simp [guess, lead], rfl⟩
  · match l, hl with
    | a :: b :: r, _ =>
      have g := (put2 a b).1 h
      obtain ⟨g1, g2, g3, g4⟩ := g
      obtain ⟨m1, m2⟩ := more1 _ g1 g2
      have e := val1 a b r m1
      have hb := cont_bd b g3
      have := one_good a (b :: r) m2 (by rw [m1]; simp) (by rw [m1]; simpa using g3) (by rw [m1, e]; intro j hj; exact Nat.le_trans (low_mono 1 j hj (by omega)) g4) (by rw [e]; exact scalar_small _ (by omega))
      rw [this, e, m1]
      refine ⟨?_, rfl⟩
      show _ = guess [a, b]
      have ee : guess [a, b] = ((a.toNat : Int) - 192) * 64 + (b.toNat : Int) - 128 := by simp [guess, lead]
      rw [ee]; omega
  · match l, hl with
    | a :: b :: d :: r, _ =>
      have g := (put3 a b d).1 h
      obtain ⟨g1, g2, g3, g4, g5, g6⟩ := g
      obtain ⟨m1, m2⟩ := more2 _ g1 g2
      have e := val2 a b d r m1
      have hb := cont_bd b g3
      have hd := cont_bd d g4
      have := one_good a (b :: d :: r) m2 (by rw [m1]; simp) (by rw [m1]; simpa using ⟨g3, g4⟩) (by rw [m1, e]; intro j hj; have : below j ≤ 2048 := low_mono 2 j hj (by omega); omega) (by rw [e]; exact g6)
      rw [this, e, m1]
      refine ⟨?_, rfl⟩
      show _ = guess [a, b, d]
      have ee : guess [a, b, d] = (((a.toNat : Int) - 224) * 64 + (b.toNat : Int) - 128) * 64 + (d.toNat : Int) - 128 := by simp [guess, lead]
      rw [ee]; omega
  · match l, hl with
    | a :: b :: d :: f :: r, _ =>
      have g := (put4 a b d f).1 h
      obtain ⟨g1, g2, g3, g4, g5, g6, g7⟩ := g
      obtain ⟨m1, m2⟩ := more3 _ g1 g2
      have e := val3 a b d f r m1
      have hb := cont_bd b g3
      have hd := cont_bd d g4
      have hf := cont_bd f g5
      have := one_good a (b :: d :: f :: r) m2 (by rw [m1]; simp) (by rw [m1]; simpa using ⟨g3, g4, g5⟩) (by rw [m1, e]; intro j hj; have : below j ≤ 65536 := low_mono 3 j hj (by omega); omega) (by rw [e]; exact g7)
      rw [this, e, m1]
      refine ⟨?_, rfl⟩
      show _ = guess [a, b, d, f]
      have ee : guess [a, b, d, f] = ((((a.toNat : Int) - 240) * 64 + (b.toNat : Int) - 128) * 64 + (d.toNat : Int) - 128) * 64 + (f.toNat : Int) - 128 := by simp [guess, lead]
      rw [ee]; omega

theorem ref_no (l : List UInt8) (h : ∀ n, 1 ≤ n → n ≤ 4 → n ≤ l.length → put (guess (l.take n)) ≠ l.take n) : one l = (0, 0) := by
  cases l with
  | nil => rfl
  | cons a r =>
    rw [one_cons]
    split
    · rename_i hc
      exfalso
      simp only [Bool.and_eq_true, decide_eq_true_eq, List.all_eq_true] at hc
      obtain ⟨⟨⟨⟨h1, h2⟩, h3⟩, h4⟩, h5⟩ := hc
      rcases ok_cases _ h1 with g | ⟨g1, g2⟩ | ⟨g1, g2⟩ | ⟨g1, g2⟩
      · exact h 1 (by omega) (by omega) (by simp) ((put1 a).2 g)
      · obtain ⟨m1, _⟩ := more1 _ g1 g2
        rw [m1] at h2 h3 h4
        match r, h2 with
        | b :: r, _ =>
          rw [val1 a b r m1] at h4 h5
          exact h 2 (by omega) (by omega) (by simp) ((put2 a b).2 ⟨g1, g2, h3 b (by simp), h4⟩)
      · obtain ⟨m1, _⟩ := more2 _ g1 g2
        rw [m1] at h2 h3 h4
        match r, h2 with
        | b :: d :: r, _ =>
          rw [val2 a b d r m1] at h4 h5
          exact h 3 (by omega) (by omega) (by simp) ((put3 a b d).2 ⟨g1, g2, h3 b (by simp), h3 d (by simp), h4, h5⟩)
      · obtain ⟨m1, _⟩ := more3 _ g1 g2
        rw [m1] at h2 h3 h4
        match r, h2 with
        | b :: d :: f :: r, _ =>
          rw [val3 a b d f r m1] at h4 h5
          exact h 4 (by omega) (by omega) (by simp) ((put4 a b d f).2 ⟨g1, g2, h3 b (by simp), h3 d (by simp), h3 f (by simp), h4, h5⟩)
    · rfl
end Go.Proofs.UtfPlain

/- The walks of utf.scalar, utf.first. -/
namespace Go.Proofs.YtdfihhebgllpcaaGreatDoor
open Go.RowKit Go.Proofs.UtfPlain

/-- The table of the forms. -/
def FormsAt (w : World) : Prop := Blk w 2 212 #[.int .i64 128, .int .i64 0, .int .i64 0, .int .i64 2048, .int .i64 192, .int .i64 1, .int .i64 65536, .int .i64 224, .int .i64 2, .int .i64 1114112, .int .i64 240, .int .i64 3]
theorem FormsAt.below {w w' : World} (h : FormsAt w) (hb : Below w.heap.size w w') : FormsAt w' := Blk.below h hb (Blk.lt h)

theorem FormsAt.alloc {w : World} (h : FormsAt w) (o : Obj) : FormsAt (w.alloc o) := Blk.alloc h o
theorem FormsAt.drewN {w : World} (h : FormsAt w) (n : Nat) : FormsAt (w.drewN n) := h

set_option maxHeartbeats 1000000 in
theorem scalar_any (v : Nat) (w : World) : Calls Tryz.prog 190 #[.int .i64 v] w fun e w' => e = .returned (.bool (scalar v)) ∧ w = w' := by
  have h0 : (0 : Int) ≤ (v : Int) := by omega
  by_cases h1 : v < 1114112
  · have g1 : (v : Int) < 1114112 := by omega
    by_cases h2 : v < 55296
    · have g2 : (v : Int) < 55296 := by omega
      rw [show scalar v = true by unfold scalar; simp [h1, h2]]
      clear h1 h2
      go_enter Tryz.func190, Tryz.ntmps190
      go_wp2_with fail
      go_ret
      exact ⟨rfl, rfl⟩
    · have g2 : ¬ (v : Int) < 55296 := by omega
      by_cases h3 : 57343 < v
      · have g3 : (57343 : Int) < (v : Int) := by omega
        rw [show scalar v = true by unfold scalar; simp [h1, h3]]
        clear h1 h2 h3
        go_enter Tryz.func190, Tryz.ntmps190
        go_wp2_with fail
        go_ret
        exact ⟨rfl, rfl⟩
      · have g3 : ¬ (57343 : Int) < (v : Int) := by omega
        rw [show scalar v = false by unfold scalar; simp [h2, h3]]
        clear h1 h2 h3
        go_enter Tryz.func190, Tryz.ntmps190
        go_wp2_with fail
        go_ret
        exact ⟨rfl, rfl⟩
  · have g1 : ¬ (v : Int) < 1114112 := by omega
    rw [show scalar v = false by unfold scalar; simp [h1]]
    clear h1
    go_enter Tryz.func190, Tryz.ntmps190
    go_wp2_with fail
    go_ret
    exact ⟨rfl, rfl⟩

/-- A form's cells. -/
def formV (m : Nat) : Array Value := #[.int .i64 (below m), .int .i64 (fmark m), .int .i64 m]

theorem form3 (c : UInt8) : (bits .and .i64 (c.toNat : Int) (bits .or .i64 240 120) == 240) = (decide (240 ≤ c.toNat) && decide (c.toNat < 248)) := by
  have := all_u8 (fun c => (bits .and .i64 (c.toNat : Int) (bits .or .i64 240 120) == 240) == (decide (240 ≤ c.toNat) && decide (c.toNat < 248))) (by decide +kernel) c
  simpa using this
theorem form2 (c : UInt8) : (bits .and .i64 (c.toNat : Int) (bits .or .i64 224 112) == 224) = (decide (224 ≤ c.toNat) && decide (c.toNat < 240)) := by
  have := all_u8 (fun c => (bits .and .i64 (c.toNat : Int) (bits .or .i64 224 112) == 224) == (decide (224 ≤ c.toNat) && decide (c.toNat < 240))) (by decide +kernel) c
  simpa using this
theorem form1 (c : UInt8) : (bits .and .i64 (c.toNat : Int) (bits .or .i64 192 96) == 192) = (decide (192 ≤ c.toNat) && decide (c.toNat < 224)) := by
  have := all_u8 (fun c => (bits .and .i64 (c.toNat : Int) (bits .or .i64 192 96) == 192) == (decide (192 ≤ c.toNat) && decide (c.toNat < 224))) (by decide +kernel) c
  simpa using this

set_option maxRecDepth 100000 in
set_option maxHeartbeats 8000000 in
theorem first_lit (m : Nat) (c : Int) (w : World) (hF : FormsAt w) (b3 b2 b1 : Bool) (f3 : (bits .and .i64 c (bits .or .i64 240 120) == 240) = b3) (f2 : (bits .and .i64 c (bits .or .i64 224 112) == 224) = b2) (f1 : (bits .and .i64 c (bits .or .i64 192 96) == 192) = b1)
    (b0 : Bool) (f0 : decide (c < 128) = b0) (hb : (b3 = true ∧ m = 3 ∧ b0 = false) ∨ (b3 = false ∧ b2 = true ∧ m = 2 ∧ b0 = false) ∨ (b3 = false ∧ b2 = false ∧ b1 = true ∧ m = 1 ∧ b0 = false) ∨ (b3 = false ∧ b2 = false ∧ b1 = false ∧ m = 0)) :
    Calls Tryz.prog 189 #[.int .i64 c] w fun e w' => e = .returned (.tuple #[.agg (formV m), .bool (decide (m ≠ 0) || b0)]) ∧ Below w.heap.size w w' := by
  have c0 := hF.cell 0
  have c1 := hF.cell 1
  have c2 := hF.cell 2
  have c3 := hF.cell 3
  have c4 := hF.cell 4
  have c5 := hF.cell 5
  have c6 := hF.cell 6
  have c7 := hF.cell 7
  have c8 := hF.cell 8
  have c9 := hF.cell 9
  have c10 := hF.cell 10
  have c11 := hF.cell 11
  have hlt : 2 < w.heap.size := hF.lt
  have hz0 : ¬ w.heap.size = 0 := by omega
  have hz1 : ¬ w.heap.size = 1 := by omega
  have hz2 : ¬ 0 = w.heap.size := by omega
  have hz3 : ¬ 1 = w.heap.size := by omega
  have hz4 : 0 < w.heap.size := by omega
  have hz5 : 1 < w.heap.size := by omega
  clear hF
  rcases hb with ⟨rfl, rfl, rfl⟩ | ⟨rfl, rfl, rfl, rfl⟩ | ⟨rfl, rfl, rfl, rfl, rfl⟩ | ⟨rfl, rfl, rfl, rfl⟩
  · clear f2 f1 f0
    go_enter Tryz.func189, Tryz.ntmps189
    go_wp2_with fail
    refine wp_loop_rounds 1 ?_
    rw [rounds_succ]
    go_wp2_with fail
    refine bodyPost_ret (v := .tuple #[.agg (formV 3), .bool true]) (by simp [results, Tryz.results189, go_sem, formV, below, fmark]) rfl ⟨by simp, ?_⟩
    repeat (first | exact Below.refl _ _ | refine Below.setCell ?_ (by first | (simp; done) | (simp; omega)) _ | refine Below.alloc ?_ (by first | (simp; done) | (simp; omega)) _)
  · clear f1 f0
    go_enter Tryz.func189, Tryz.ntmps189
    go_wp2_with fail
    refine wp_loop_rounds 2 ?_
    rw [rounds_succ]
    go_wp2_with fail
    rw [rounds_succ]
    go_wp2_with fail
    refine bodyPost_ret (v := .tuple #[.agg (formV 2), .bool true]) (by simp [results, Tryz.results189, go_sem, formV, below, fmark]) rfl ⟨by simp, ?_⟩
    repeat (first | exact Below.refl _ _ | refine Below.setCell ?_ (by first | (simp; done) | (simp; omega)) _ | refine Below.alloc ?_ (by first | (simp; done) | (simp; omega)) _)
  · clear f0
    go_enter Tryz.func189, Tryz.ntmps189
    go_wp2_with fail
    refine wp_loop_rounds 3 ?_
    rw [rounds_succ]
    go_wp2_with fail
    rw [rounds_succ]
    go_wp2_with fail
    rw [rounds_succ]
    go_wp2_with fail
    refine bodyPost_ret (v := .tuple #[.agg (formV 1), .bool true]) (by simp [results, Tryz.results189, go_sem, formV, below, fmark]) rfl ⟨by simp, ?_⟩
    repeat (first | exact Below.refl _ _ | refine Below.setCell ?_ (by first | (simp; done) | (simp; omega)) _ | refine Below.alloc ?_ (by first | (simp; done) | (simp; omega)) _)
  · rw [← f0]
    clear f0
    go_enter Tryz.func189, Tryz.ntmps189
    go_wp2_with fail
    refine wp_loop_rounds 4 ?_
    rw [rounds_succ]
    go_wp2_with fail
    rw [rounds_succ]
    go_wp2_with fail
    rw [rounds_succ]
    go_wp2_with fail
    rw [rounds_succ]
    go_wp2_with fail
    refine bodyPost_ret (v := .tuple #[.agg (formV 0), .bool (decide (c < 128))]) (by simp [results, Tryz.results189, go_sem, formV, below, fmark]) rfl ⟨by simp, ?_⟩
    repeat (first | exact Below.refl _ _ | refine Below.setCell ?_ (by first | (simp; done) | (simp; omega)) _ | refine Below.alloc ?_ (by first | (simp; done) | (simp; omega)) _)

theorem first_any (c : UInt8) (w : World) (hF : FormsAt w) :
    Calls Tryz.prog 189 #[.int .i64 (c.toNat : Int)] w fun e w' => e = .returned (.tuple #[.agg (formV (more c.toNat)), .bool (okF c.toNat)]) ∧ Below w.heap.size w w' := by
  have hc := c.toNat_lt
  have h := first_lit (more c.toNat) (c.toNat : Int) w hF _ _ _ (form3 c) (form2 c) (form1 c) (decide (c.toNat < 128)) (by rw [decide_eq_decide]; omega) (by
    simp only [Bool.and_eq_true, decide_eq_true_eq, Bool.and_eq_false_iff, decide_eq_false_iff_not]
    unfold more
    split
    · right; right; right; omega
    · split
      · right; right; left; omega
      · split
        · right; left; omega
        · split
          · left; omega
          · right; right; right; omega)
  have e : (decide (more c.toNat ≠ 0) || decide (c.toNat < 128)) = okF c.toNat := by
    have : (decide (more c.toNat ≠ 0) || decide (c.toNat < 128)) = true ↔ okF c.toNat = true := by
      unfold more okF
      simp only [Bool.or_eq_true, Bool.and_eq_true, decide_eq_true_eq]
      repeat' split
      all_goals omega
    rwa [← Bool.eq_iff_iff] at this
  rw [e] at h
  exact h
end Go.Proofs.YtdfihhebgllpcaaGreatDoor

/- The walk of utf.next. -/
namespace Go.Proofs.YtdfihhebgllpcaaGreatDoor
open Go.RowKit Go.Proofs.UtfPlain

theorem and_not (a : UInt8) (h : okF a.toNat = true) : bits .andNot .i64 (a.toNat : Int) ((fmark (more a.toNat) : Nat) : Int) = ((a.toNat - fmark (more a.toNat) : Nat) : Int) := by
  have := all_u8 (fun a => !okF a.toNat || decide (bits .andNot .i64 (a.toNat : Int) ((fmark (more a.toNat) : Nat) : Int) = ((a.toNat - fmark (more a.toNat) : Nat) : Int))) (by decide +kernel) a
  rw [h] at this
  simpa using this

theorem cont_bits (b : UInt8) : (bits .and .u8 (b.toNat : Int) 192 != 128) = !cont b := by
  have := all_u8 (fun b => (bits .and .u8 (b.toNat : Int) 192 != 128) == !cont b) (by decide +kernel) b
  simpa using this
theorem or_bits (V : Nat) (b : UInt8) (hV : V < 67108864) (hb : cont b = true) : bits .or .i64 ((V : Int) * 64) ((b.toNat : Int) % 64) = ((V * 64 + (b.toNat - 128) : Nat) : Int) := by
  obtain ⟨h1, h2⟩ := cont_bd b hb
  have e1 : ((b.toNat : Int) % 64) = ((b.toNat - 128 : Nat) : Int) := by omega
  rw [e1]
  generalize b.toNat - 128 = y at *
  have hy : y < 64 := by omega
  have e2 : ((V : Int) * 64) = ((V * 64 : Nat) : Int) := by omega
  rw [e2]
  have h1 : (BitVec.ofInt 64 ((V * 64 : Nat) : Int)).toNat = V * 64 := by
    rw [BitVec.ofInt_natCast, BitVec.toNat_ofNat]; exact Nat.mod_eq_of_lt (by omega)
  have h2 : (BitVec.ofInt 64 (y : Int)).toNat = y := by
    rw [BitVec.ofInt_natCast, BitVec.toNat_ofNat]; exact Nat.mod_eq_of_lt (by omega)
  show IntKind.i64.wrap ((BitVec.ofInt 64 ((V * 64 : Nat) : Int) ||| BitVec.ofInt 64 (y : Int)).toNat : Int) = _
  have h3 : V * 64 ||| y = V * 64 + y := by
    have := Nat.shiftLeft_add_eq_or_of_lt (i := 6) (b := y) (by omega) V
    rw [Nat.shiftLeft_eq] at this
    exact this.symm
  rw [BitVec.toNat_or, h1, h2, h3]
  exact IntWalk.i64_in _ (by omega)

set_option maxRecDepth 100000 in
set_option maxHeartbeats 1000000 in
theorem next_x (s : ByteArray) (w : World) (hF : FormsAt w) (hs : s.size ≤ 9223372036854775807) (a : UInt8) (r : List UInt8) (hl : s.data.toList = a :: r) (h0 : 0 < s.size) (ha : s[0] = a) (hok : okF a.toNat = true) (hlen : more a.toNat ≤ r.length) :
    Calls Tryz.prog 159 #[.string s] w fun e w' => e = .returned (.tuple #[.int .i64 (one (a :: r)).1, .int .i64 (one (a :: r)).2]) ∧ Below w.heap.size w w' := by
  have hemp : s.toList.isEmpty = false := by rw [isEmpty_iff, hl]; rfl
  obtain ⟨m, hm⟩ : ∃ m, m = more a.toNat := ⟨_, rfl⟩
  have ha8 : a.toNat < 256 := a.toNat_lt
  have HL := Lib.hid hl
  have HOK := Lib.hid hok
  have HM := Lib.hid hm
  have hm3 : m ≤ 3 := by rw [hm]; exact more_le _
  have hlen2 : ¬ s.size ≤ m := by rw [Lib.size_eq, hl, hm, List.length_cons]; omega
  have CF : Hid (∀ w, FormsAt w → Calls Tryz.prog 189 #[.int .i64 (a.toNat : Int)] w fun e w' => e = .returned (.tuple #[.agg #[.int .i64 (below m), .int .i64 (fmark m), .int .i64 m], .bool true]) ∧ Below w.heap.size w w') := fun w hF => by
    have h := first_any a w hF
    rw [hok, ← hm] at h
    exact h
  obtain ⟨V0, hV0⟩ : ∃ V0 : Nat, V0 = a.toNat - fmark m := ⟨_, rfl⟩
  have hAN : bits .andNot .i64 (a.toNat : Int) ((fmark m : Nat) : Int) = (V0 : Int) := by rw [hV0, hm]; exact and_not a hok
  have hV0b : V0 < 256 := by omega
  have HV0 := Lib.hid hV0
  obtain ⟨R, hR⟩ : ∃ R, one (a :: r) = R := ⟨_, rfl⟩
  rw [hR]
  have HR := Lib.hid hR
  have hsl : ∀ W, (Instr.sliceAt 212 (.pointer (some ⟨2, 0, none⟩)) none (some (.int .i64 (m : Int))) none).run Tryz.prog W = .ok (.slice (some ⟨2, 0, none⟩) m 4) W := fun W => by
    rw [run_sliceAt_array_h W 212 ⟨2, 0, none⟩ (by kernel_rfl) .i64 (m : Int) (by omega) (by rw [show Tryz.prog.arrayLen 212 = 4 by kernel_rfl]; omega)]
    go_simp
  have HF := Lib.hid hF
  have HLEN2 : Hid (m ≤ r.length) := by rw [hm]; exact hlen
  clear hF hl hok hm hlen hV0 hR
  go_enter Tryz.func159, Tryz.ntmps159
  go_wp2_with fail
  refine (CF.out _ HF.out).mono ?_
  rintro e w1 ⟨rfl, hb⟩
  have HB := Lib.hid (Blk.new w1 208 #[.int .i64 (below m), .int .i64 (fmark m), .int .i64 m])
  have HW := Lib.hid (hb.alloc hb.size (.cells #[.int .i64 (below m), .int .i64 (fmark m), .int .i64 m] 208))
  have HF1 := Lib.hid (HF.out.below (hb.alloc hb.size (.cells #[.int .i64 (below m), .int .i64 (fmark m), .int .i64 m] 208)))
  clear hb HF
  go_wp2_with fail
  go_quiet (fail)
  go_wp2_with fail
  go_loop [2, 6] (fun c i => ∃ k V : Nat, 1 ≤ k ∧ k ≤ m + 1 ∧ i = .int .i64 k ∧ c = .int .i64 V ∧ Hid (V = accV V0 (r.take (k - 1))) ∧ V < 67108864 ∧ Hid (∀ b ∈ r.take (k - 1), cont b = true)) (fun _ i => m + 1 - (intOf i).toNat)
  case atStart => exact ⟨1, V0, by omega, by omega, rfl, rfl, Lib.hid (by simp [accV]), by omega, Lib.hid (by simp)⟩
  case round =>
    obtain ⟨k, V, hk1, hk2, rfl, rfl, HV, hV, HC⟩ := hrel
    by_cases hkm : k ≤ m
    · have hks : k < s.size := by omega
      obtain ⟨b, hb⟩ : ∃ b, s[k] = b := ⟨_, rfl⟩
      have hb8 : b.toNat < 256 := b.toNat_lt
      have hrk : Hid (r[k - 1]? = some b) := by
        have h1 : s.data.toList[k]? = some b := by
          rw [List.getElem?_eq_getElem (by rw [← Lib.size_eq]; exact hks), ← hb]; rfl
        rw [HL.out] at h1
        obtain ⟨j, rfl⟩ : ∃ j, k = j + 1 := ⟨k - 1, by omega⟩
        rw [List.getElem?_cons_succ] at h1
        exact h1
      by_cases hcb : cont b = true
      · have hcb1 : (bits .and .u8 (b.toNat : Int) 192 != 128) = false := by rw [cont_bits, hcb]; rfl
        obtain ⟨V', hV'⟩ : ∃ V' : Nat, V' = V * 64 + (b.toNat - 128) := ⟨_, rfl⟩
        have hor : bits .or .i64 ((V : Int) * 64) ((b.toNat : Int) % 64) = (V' : Int) := by rw [hV']; exact or_bits V b hV hcb
        have htk : r.take k = r.take (k - 1) ++ [b] := by
          obtain ⟨j, rfl⟩ : ∃ j, k = j + 1 := ⟨k - 1, by omega⟩
          rw [Nat.add_sub_cancel, List.take_add_one]
          have := hrk.out
          rw [Nat.add_sub_cancel] at this
          rw [this]; rfl
        have hacc : V' = accV V0 (r.take k) := by rw [htk, accV_snoc, ← HV.out, hV']
        have hcs : ∀ d ∈ r.take k, cont d = true := by
          rw [htk]
          intro d hd
          rcases List.mem_append.1 hd with h | h
          · exact HC.out d h
          · rw [List.mem_singleton.1 h]; exact hcb
        have hvb : V' < 67108864 := by
          have := val_bd a r k (by omega) hcs
          rw [← HM.out, ← HV0.out, ← hacc] at this
          exact this
        have HACC := Lib.hid hacc
        have HCS := Lib.hid hcs
        clear htk hacc hcs hV' hcb hrk HV HC
        go_wp2_with fail
        go_round
        case rel => exact ⟨k + 1, V', by omega, by omega, by go_num, rfl, HACC, hvb, HCS⟩
        case measure => simp [intOf]; omega
      · have hcb2 := Bool.eq_false_iff.2 hcb
        have hcb1 : (bits .and .u8 (b.toNat : Int) 192 != 128) = true := by rw [cont_bits, hcb2]; rfl
        have hz : one (a :: r) = (0, 0) := one_bad_cont a r (k - 1) (by rw [← HM.out]; omega) b hrk.out hcb2
        rw [HR.out] at hz
        cases hz
        clear hcb hcb2 hrk HV HC
        go_wp2_with fail
        go_ret2
        exact ⟨rfl, below_drewN HW.out _⟩
    · have hkm1 : k = m + 1 := by omega
      have hval : V = UtfPlain.val a r := by
        have := HV.out
        rw [hkm1, Nat.add_sub_cancel] at this
        unfold UtfPlain.val
        rw [← HM.out, ← HV0.out]; exact this
      have hcs : ∀ d ∈ r.take m, cont d = true := by
        have := HC.out
        rw [hkm1, Nat.add_sub_cancel] at this
        exact this
      have HVAL := Lib.hid hval
      have HCS := Lib.hid hcs
      have hkg : ¬ (k : Int) ≤ (m : Int) := by omega
      clear hval hcs hkm1 HV HC hkm
      go_wp2_with fail
      go_loopw [2, 56] (fun c q wr => ∃ j : Nat, j ≤ m ∧ c = .int .i64 V ∧ q = .int .i64 j ∧ Hid (∀ i, i < j → below i ≤ V) ∧ Hid (Blk wr w1.heap.size 208 #[.int .i64 (below m), .int .i64 (fmark m), .int .i64 m]) ∧ Hid (FormsAt wr) ∧ Hid (Below w.heap.size w wr)) (fun _ q _ => m - (intOf q).toNat)
      case atStart => exact ⟨0, by omega, rfl, rfl, Lib.hid (fun i hi => by omega), Lib.hid (HB.out.drewN _), Lib.hid (HF1.out.drewN _), Lib.hid (below_drewN HW.out _)⟩
      case round =>
        clear HB HF1 HW
        obtain ⟨j, hj, rfl, rfl, HJ, HB, HF1, HW⟩ := hrel
        have b0 := HB.out.cell 0
        have b1 := HB.out.cell 1
        have b2 := HB.out.cell 2
        have hw1 : w1.heap.size < wr.heap.size := HB.out.lt
        have hwn : ¬ w1.heap.size = wr.heap.size := by omega
        by_cases hjm : j < m
        · have hjm' : (j : Int) < (m : Int) := by omega
          have hlt : 2 < wr.heap.size := HF1.out.lt
          have hne : ¬ 2 = wr.heap.size := by omega
          have hjc : j = 0 ∨ j = 1 ∨ j = 2 := by omega
          obtain ⟨bj, hbj⟩ : ∃ bj : Nat, bj = below j := ⟨_, rfl⟩
          have hload : Hid (wr.cell? ⟨2, j * 3, none⟩ = some (.int .i64 bj) ∧ wr.cell? ⟨2, j * 3 + 1, none⟩ = some (.int .i64 (fmark j)) ∧ wr.cell? ⟨2, j * 3 + 2, none⟩ = some (.int .i64 j)) := by
            unfold Hid
            rw [hbj]
            rcases hjc with rfl | rfl | rfl
            · exact ⟨HF1.out.cell 0, HF1.out.cell 1, HF1.out.cell 2⟩
            · exact ⟨HF1.out.cell 3, HF1.out.cell 4, HF1.out.cell 5⟩
            · exact ⟨HF1.out.cell 6, HF1.out.cell 7, HF1.out.cell 8⟩
          obtain ⟨l0, l1, l2⟩ := hload.out
          by_cases hlow : V < bj
          · have hlow' : (V : Int) < (bj : Int) := by omega
            have hz : one (a :: r) = (0, 0) := one_bad_low a r j (by rw [← HM.out]; exact hjm) (by rw [← HVAL.out, ← hbj]; exact hlow)
            rw [HR.out] at hz
            cases hz
            clear hbj hjc hlow
            go_wp2_with fail
            go_ret2
            exact ⟨rfl, HW.out.alloc HW.out.size _⟩
          · have hlow' : ¬ (V : Int) < (bj : Int) := by omega
            have HJ2 : Hid (∀ i, i < j + 1 → below i ≤ V) := fun i hi => by
              rcases Nat.lt_or_ge i j with h | h
              · exact HJ.out i h
              · obtain rfl : i = j := by omega
                rw [← hbj]; omega
            clear hbj hjc hlow
            go_wp2_with fail
            go_roundw
            case rel => exact ⟨j + 1, by omega, rfl, by go_num, HJ2, Lib.hid (HB.out.alloc _), Lib.hid (HF1.out.alloc _), Lib.hid (HW.out.alloc HW.out.size _)⟩
            case measure => simp [intOf]; omega
        · have hjm' : ¬ (j : Int) < (m : Int) := by omega
          have hjj : j = m := by omega
          by_cases hsc : scalar V = true
          · have hg : one (a :: r) = (V, m + 1) := by
              have := one_good a r HOK.out (by rw [← HM.out]; exact HLEN2.out) (by rw [← HM.out]; exact HCS.out) (by rw [← HM.out, ← HVAL.out, ← hjj]; exact HJ.out) (by rw [← HVAL.out]; exact hsc)
              rw [← HVAL.out, ← HM.out] at this
              exact this
            rw [HR.out] at hg
            subst hg
            have HSC := Lib.hid hsc
            clear hsc hjj
            go_wp2_with fail
            refine (scalar_any V _).mono ?_
            rw [HSC.out]
            rintro e w2 ⟨rfl, rfl⟩
            go_wp2_with fail
            go_quiet (fail)
            go_wp2_with fail
            go_ret2
            exact ⟨rfl, below_drewN HW.out _⟩
          · have hsc2 := Bool.eq_false_iff.2 hsc
            have hz : one (a :: r) = (0, 0) := one_bad_scalar a r (by rw [← HVAL.out]; exact hsc2)
            rw [HR.out] at hz
            cases hz
            have HSC := Lib.hid hsc2
            clear hsc hsc2 hjj
            go_wp2_with fail
            refine (scalar_any V _).mono ?_
            rw [HSC.out]
            rintro e w2 ⟨rfl, rfl⟩
            go_wp2_with fail
            go_ret2
            exact ⟨rfl, HW.out⟩
end Go.Proofs.YtdfihhebgllpcaaGreatDoor
