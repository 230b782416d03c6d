import Derived.Test.YtdfihhebgllpcaaGreatDoorAo20
import Derived.Test.YtdfihhebgllpcaaGreatDoorAo21

/- The walk of the reference's part. -/
namespace Go.Proofs.YtdfihhebgllpcaaGreatDoor
open Go.RowKit Go.Proofs.QuotePlain Go.Proofs.UtfPlain

set_option maxRecDepth 100000 in
set_option maxHeartbeats 2000000 in
theorem rpart_end (b : ByteArray) (k : Nat) (w : World) (hk : b.size ≤ k) :
    Calls Tryz.prog 118 #[.string b, .int .i64 (k : Int)] w (fun e w' => e = .returned (.agg #[.string ⟨#[]⟩, .int .i64 0, .int .i64 2]) ∧ Below w.heap.size w w') := by
  have h1 : (b.size : Int) ≤ (k : Int) := by omega
  have h2 : decide (b.size ≤ k) = true := decide_eq_true hk
  go_enter Tryz.func118, Tryz.ntmps118
  go_upto_region 1 with fail
  have hB0 := Blk.new w 109 #[.string ⟨#[]⟩, .int .i64 0, .int .i64 0]
  have hl0 : Below w.heap.size w (w.alloc (.cells #[.string ⟨#[]⟩, .int .i64 0, .int .i64 0] 109)) := (Below.refl _ _).alloc (Nat.le_refl _) _
  obtain ⟨W, hW⟩ : ∃ W, w.alloc (.cells #[.string ⟨#[]⟩, .int .i64 0, .int .i64 0] 109) = W := ⟨_, rfl⟩
  obtain ⟨B, hB⟩ : ∃ B, w.heap.size = B := ⟨_, rfl⟩
  rw [hW] at hB0 hl0 ⊢
  rw [hB] at hB0 hl0 ⊢
  have HB0 := Lib.hid hB0
  have HL0 := Lib.hid hl0
  have HBB := Lib.hid hB
  clear hW hB0 hl0 hB
  have c0 : W.cell? ⟨B, 0, none⟩ = some (.string ⟨#[]⟩) := HB0.out.cell 0
  have c1 : W.cell? ⟨B, 1, none⟩ = some (.int .i64 0) := HB0.out.cell 1
  have c2 : W.cell? ⟨B, 2, none⟩ = some (.int .i64 0) := HB0.out.cell 2
  have f0 : W.frozen? ⟨B, 0, none⟩ = false := HB0.out.frozen 0
  have f1 : W.frozen? ⟨B, 1, none⟩ = false := HB0.out.frozen 1
  have f2 : W.frozen? ⟨B, 2, none⟩ = false := HB0.out.frozen 2
  go_wp2_with fail
  refine bodyPost_ret (part_res B ⟨#[]⟩ 0 2 _ _ (((HB0.out.set_ 0 _).set_ 1 _).set_ 2 _) rfl) rfl ⟨rfl, ?_⟩
  rw [HBB.out]
  exact ((HL0.out.setCell (p := ⟨B, 0, none⟩) (Nat.le_refl _) _).setCell (p := ⟨B, 1, none⟩) (Nat.le_refl _) _).setCell (p := ⟨B, 2, none⟩) (Nat.le_refl _) _
set_option maxRecDepth 100000 in
set_option maxHeartbeats 2000000 in
theorem rpart_ctl (b : ByteArray) (k : Nat) (w : World) (hk : k < b.size) (c : UInt8) (hc : b[k] = c) (h : c.toNat < 32) :
    Calls Tryz.prog 118 #[.string b, .int .i64 (k : Int)] w (fun e w' => e = .returned (.agg #[.string ⟨#[]⟩, .int .i64 0, .int .i64 3]) ∧ Below w.heap.size w w') := by
  have h1 : ¬ (b.size : Int) ≤ (k : Int) := by omega
  have h2 : ¬ b.size ≤ k := by omega
  have hc8 : c.toNat < 256 := c.toNat_lt
  have h3 : (c.toNat : Int) < 32 := by omega
  clear h
  go_enter Tryz.func118, Tryz.ntmps118
  go_upto_region 1 with fail
  have hB0 := Blk.new w 109 #[.string ⟨#[]⟩, .int .i64 0, .int .i64 0]
  have hl0 : Below w.heap.size w (w.alloc (.cells #[.string ⟨#[]⟩, .int .i64 0, .int .i64 0] 109)) := (Below.refl _ _).alloc (Nat.le_refl _) _
  obtain ⟨W, hW⟩ : ∃ W, w.alloc (.cells #[.string ⟨#[]⟩, .int .i64 0, .int .i64 0] 109) = W := ⟨_, rfl⟩
  obtain ⟨B, hB⟩ : ∃ B, w.heap.size = B := ⟨_, rfl⟩
  rw [hW] at hB0 hl0 ⊢
  rw [hB] at hB0 hl0 ⊢
  have HB0 := Lib.hid hB0
  have HL0 := Lib.hid hl0
  have HBB := Lib.hid hB
  clear hW hB0 hl0 hB
  have c0 : W.cell? ⟨B, 0, none⟩ = some (.string ⟨#[]⟩) := HB0.out.cell 0
  have c1 : W.cell? ⟨B, 1, none⟩ = some (.int .i64 0) := HB0.out.cell 1
  have c2 : W.cell? ⟨B, 2, none⟩ = some (.int .i64 0) := HB0.out.cell 2
  have f0 : W.frozen? ⟨B, 0, none⟩ = false := HB0.out.frozen 0
  have f1 : W.frozen? ⟨B, 1, none⟩ = false := HB0.out.frozen 1
  have f2 : W.frozen? ⟨B, 2, none⟩ = false := HB0.out.frozen 2
  go_wp2_with fail
  refine bodyPost_ret (part_res B ⟨#[]⟩ 0 3 _ _ (((HB0.out.set_ 0 _).set_ 1 _).set_ 2 _) rfl) rfl ⟨rfl, ?_⟩
  rw [HBB.out]
  exact ((HL0.out.setCell (p := ⟨B, 0, none⟩) (Nat.le_refl _) _).setCell (p := ⟨B, 1, none⟩) (Nat.le_refl _) _).setCell (p := ⟨B, 2, none⟩) (Nat.le_refl _) _
set_option maxRecDepth 100000 in
set_option maxHeartbeats 2000000 in
theorem rpart_bad (b : ByteArray) (k : Nat) (w : World) (hs : b.size ≤ 1000000) (hk : k < b.size) (c : UInt8) (hc : b[k] = c) (h : ¬ c.toNat < 32) (hne : c ≠ 92) (hN : (one (b.data.toList.drop k)).2 = 0) :
    Calls Tryz.prog 118 #[.string b, .int .i64 (k : Int)] w (fun e w' => e = .returned (.agg #[.string ⟨#[]⟩, .int .i64 0, .int .i64 7]) ∧ Below w.heap.size w w') := by
  have h1 : ¬ (b.size : Int) ≤ (k : Int) := by omega
  have h2 : ¬ b.size ≤ k := by omega
  have hc8 : c.toNat < 256 := c.toNat_lt
  have h3 : ¬ (c.toNat : Int) < 32 := by omega
  have n1 : ((c.toNat : Int) != 92) = true := by rw [bne_iff_ne]; intro e; exact hne (UInt8.toNat_inj.1 (by show c.toNat = 92; omega))
  have n2 : ¬ c.toNat = 92 := fun e => hne (UInt8.toNat_inj.1 e)
  have n3 : ¬ (c.toNat : Int) = 92 := by omega
  obtain ⟨v, hv⟩ : ∃ v : Int, v = ((one (b.data.toList.drop k)).1 : Int) := ⟨_, rfl⟩
  have CO := Lib.hid (fun w => rone_any b k w (by omega) (by omega))
  rw [hN, ← hv] at CO
  clear h hne hN hv
  go_enter Tryz.func118, Tryz.ntmps118
  go_upto_region 1 with fail
  have hB0 := Blk.new w 109 #[.string ⟨#[]⟩, .int .i64 0, .int .i64 0]
  have hl0 : Below w.heap.size w (w.alloc (.cells #[.string ⟨#[]⟩, .int .i64 0, .int .i64 0] 109)) := (Below.refl _ _).alloc (Nat.le_refl _) _
  obtain ⟨W, hW⟩ : ∃ W, w.alloc (.cells #[.string ⟨#[]⟩, .int .i64 0, .int .i64 0] 109) = W := ⟨_, rfl⟩
  obtain ⟨B, hB⟩ : ∃ B, w.heap.size = B := ⟨_, rfl⟩
  rw [hW] at hB0 hl0 ⊢
  rw [hB] at hB0 hl0 ⊢
  have HB0 := Lib.hid hB0
  have HL0 := Lib.hid hl0
  have HBB := Lib.hid hB
  clear hW hB0 hl0 hB
  go_wp2_with fail
  refine (CO.out _).mono ?_
  rintro e w2 ⟨rfl, hb⟩
  have HB2 := Lib.hid (HB0.out.below hb HB0.out.lt)
  have HL2 := Lib.hid (HL0.out.trans (hb.mono (by have := HL0.out.size; have := HBB.out; omega)))
  clear hb

  have c0 : w2.cell? ⟨B, 0, none⟩ = some (.string ⟨#[]⟩) := HB2.out.cell 0
  have c1 : w2.cell? ⟨B, 1, none⟩ = some (.int .i64 0) := HB2.out.cell 1
  have c2 : w2.cell? ⟨B, 2, none⟩ = some (.int .i64 0) := HB2.out.cell 2
  have f0 : w2.frozen? ⟨B, 0, none⟩ = false := HB2.out.frozen 0
  have f1 : w2.frozen? ⟨B, 1, none⟩ = false := HB2.out.frozen 1
  have f2 : w2.frozen? ⟨B, 2, none⟩ = false := HB2.out.frozen 2
  go_wp2_with fail
  refine bodyPost_ret (part_res B ⟨#[]⟩ 0 7 _ _ (((HB2.out.set_ 0 _).set_ 1 _).set_ 2 _) rfl) rfl ⟨rfl, ?_⟩
  rw [HBB.out]
  exact ((HL2.out.setCell (p := ⟨B, 0, none⟩) (Nat.le_refl _) _).setCell (p := ⟨B, 1, none⟩) (Nat.le_refl _) _).setCell (p := ⟨B, 2, none⟩) (Nat.le_refl _) _
set_option maxRecDepth 100000 in
set_option maxHeartbeats 2000000 in
theorem rpart_one (b : ByteArray) (k : Nat) (w : World) (hs : b.size ≤ 1000000) (hk : k < b.size) (c : UInt8) (hc : b[k] = c) (h : ¬ c.toNat < 32) (hne : c ≠ 92) (n : Nat) (hn : n ≠ 0) (hN : (one (b.data.toList.drop k)).2 = n) :
    Calls Tryz.prog 118 #[.string b, .int .i64 (k : Int)] w (fun e w' => e = .returned (.agg #[.string ⟨((b.data.toList.drop k).take n).toArray⟩, .int .i64 n, .int .i64 0]) ∧ Below w.heap.size w w') := by
  have h1 : ¬ (b.size : Int) ≤ (k : Int) := by omega
  have h2 : ¬ b.size ≤ k := by omega
  have hc8 : c.toNat < 256 := c.toNat_lt
  have h3 : ¬ (c.toNat : Int) < 32 := by omega
  have n1 : ((c.toNat : Int) != 92) = true := by rw [bne_iff_ne]; intro e; exact hne (UInt8.toNat_inj.1 (by show c.toNat = 92; omega))
  have n2 : ¬ c.toNat = 92 := fun e => hne (UInt8.toNat_inj.1 e)
  have n3 : ¬ (c.toNat : Int) = 92 := by omega
  have h4 : k + n ≤ b.size := by
    have := one_size (b.data.toList.drop k)
    rw [hN, List.length_drop, ← Lib.size_eq] at this
    omega
  obtain ⟨m, hm⟩ : ∃ m : Nat, m = k + n := ⟨_, rfl⟩
  have hmi : (k : Int) + (n : Int) = (m : Int) := by omega
  have h5 : m ≤ b.size := by omega
  have h6 : k ≤ m := by omega
  have hx : b.extract k m = ⟨((b.data.toList.drop k).take n).toArray⟩ := by
    refine bytes_eta _ _ ?_
    rw [data_extract, hm, Nat.add_sub_cancel_left]
  rw [← hx]
  have n4 : ((n : Int) == 0) = false := by rw [beq_eq_false_iff_ne]; omega
  have n5 : ¬ (n : Int) = 0 := by omega
  obtain ⟨v, hv⟩ : ∃ v : Int, v = ((one (b.data.toList.drop k)).1 : Int) := ⟨_, rfl⟩
  have CO := Lib.hid (fun w => rone_any b k w (by omega) (by omega))
  rw [hN, ← hv] at CO
  clear h hne hN hv hx hm h4
  go_enter Tryz.func118, Tryz.ntmps118
  go_upto_region 1 with fail
  have hB0 := Blk.new w 109 #[.string ⟨#[]⟩, .int .i64 0, .int .i64 0]
  have hl0 : Below w.heap.size w (w.alloc (.cells #[.string ⟨#[]⟩, .int .i64 0, .int .i64 0] 109)) := (Below.refl _ _).alloc (Nat.le_refl _) _
  obtain ⟨W, hW⟩ : ∃ W, w.alloc (.cells #[.string ⟨#[]⟩, .int .i64 0, .int .i64 0] 109) = W := ⟨_, rfl⟩
  obtain ⟨B, hB⟩ : ∃ B, w.heap.size = B := ⟨_, rfl⟩
  rw [hW] at hB0 hl0 ⊢
  rw [hB] at hB0 hl0 ⊢
  have HB0 := Lib.hid hB0
  have HL0 := Lib.hid hl0
  have HBB := Lib.hid hB
  clear hW hB0 hl0 hB
  go_wp2_with fail
  refine (CO.out _).mono ?_
  rintro e w2 ⟨rfl, hb⟩
  have HB2 := Lib.hid (HB0.out.below hb HB0.out.lt)
  have HL2 := Lib.hid (HL0.out.trans (hb.mono (by have := HL0.out.size; have := HBB.out; omega)))
  clear hb

  have c0 : w2.cell? ⟨B, 0, none⟩ = some (.string ⟨#[]⟩) := HB2.out.cell 0
  have c1 : w2.cell? ⟨B, 1, none⟩ = some (.int .i64 0) := HB2.out.cell 1
  have c2 : w2.cell? ⟨B, 2, none⟩ = some (.int .i64 0) := HB2.out.cell 2
  have f0 : w2.frozen? ⟨B, 0, none⟩ = false := HB2.out.frozen 0
  have f1 : w2.frozen? ⟨B, 1, none⟩ = false := HB2.out.frozen 1
  have f2 : w2.frozen? ⟨B, 2, none⟩ = false := HB2.out.frozen 2
  go_wp2_with fail
  refine bodyPost_ret (part_res B (b.extract k m) n 0 _ _ (((HB2.out.set_ 0 _).set_ 1 _).set_ 2 _) rfl) rfl ⟨rfl, ?_⟩
  rw [HBB.out]
  exact ((HL2.out.setCell (p := ⟨B, 0, none⟩) (Nat.le_refl _) _).setCell (p := ⟨B, 1, none⟩) (Nat.le_refl _) _).setCell (p := ⟨B, 2, none⟩) (Nat.le_refl _) _
set_option maxRecDepth 100000 in
set_option maxHeartbeats 2000000 in
theorem rpart_e1 (b : ByteArray) (k : Nat) (w : World) (hs : b.size ≤ 1000000) (hk : k < b.size) (hc : b[k] = 92) (hy : b.size ≤ k + 1) :
    Calls Tryz.prog 118 #[.string b, .int .i64 (k : Int)] w (fun e w' => e = .returned (.agg #[.string ⟨#[]⟩, .int .i64 0, .int .i64 2]) ∧ Below w.heap.size w w') := by
  have h1 : ¬ (b.size : Int) ≤ (k : Int) := by omega
  have h2 : ¬ b.size ≤ k := by omega
  obtain ⟨m, hm⟩ : ∃ m : Nat, m = k + 1 := ⟨_, rfl⟩
  have hmi : (k : Int) + 1 = (m : Int) := by omega
  have hy1 : (b.size : Int) ≤ (m : Int) := by omega
  have hy2 : decide (b.size ≤ m) = true := decide_eq_true (by omega)
  clear hy hm
  go_enter Tryz.func118, Tryz.ntmps118
  go_upto_region 1 with fail
  have hB0 := Blk.new w 109 #[.string ⟨#[]⟩, .int .i64 0, .int .i64 0]
  have hl0 : Below w.heap.size w (w.alloc (.cells #[.string ⟨#[]⟩, .int .i64 0, .int .i64 0] 109)) := (Below.refl _ _).alloc (Nat.le_refl _) _
  obtain ⟨W, hW⟩ : ∃ W, w.alloc (.cells #[.string ⟨#[]⟩, .int .i64 0, .int .i64 0] 109) = W := ⟨_, rfl⟩
  obtain ⟨B, hB⟩ : ∃ B, w.heap.size = B := ⟨_, rfl⟩
  rw [hW] at hB0 hl0 ⊢
  rw [hB] at hB0 hl0 ⊢
  have HB0 := Lib.hid hB0
  have HL0 := Lib.hid hl0
  have HBB := Lib.hid hB
  clear hW hB0 hl0 hB
  have c0 : W.cell? ⟨B, 0, none⟩ = some (.string ⟨#[]⟩) := HB0.out.cell 0
  have c1 : W.cell? ⟨B, 1, none⟩ = some (.int .i64 0) := HB0.out.cell 1
  have c2 : W.cell? ⟨B, 2, none⟩ = some (.int .i64 0) := HB0.out.cell 2
  have f0 : W.frozen? ⟨B, 0, none⟩ = false := HB0.out.frozen 0
  have f1 : W.frozen? ⟨B, 1, none⟩ = false := HB0.out.frozen 1
  have f2 : W.frozen? ⟨B, 2, none⟩ = false := HB0.out.frozen 2
  go_wp2_with fail
  refine bodyPost_ret (part_res B ⟨#[]⟩ 0 2 _ _ (((HB0.out.set_ 0 _).set_ 1 _).set_ 2 _) rfl) rfl ⟨rfl, ?_⟩
  rw [HBB.out]
  exact ((HL0.out.setCell (p := ⟨B, 0, none⟩) (Nat.le_refl _) _).setCell (p := ⟨B, 1, none⟩) (Nat.le_refl _) _).setCell (p := ⟨B, 2, none⟩) (Nat.le_refl _) _
set_option maxRecDepth 100000 in
set_option maxHeartbeats 2000000 in
theorem rpart_s34 (b : ByteArray) (k : Nat) (w : World) (hs : b.size ≤ 1000000) (hk : k < b.size) (hc : b[k] = 92) (m : Nat) (hm : m = k + 1) (hy : m < b.size) (hd : b[m] = 34) :
    Calls Tryz.prog 118 #[.string b, .int .i64 (k : Int)] w (fun e w' => e = .returned (.agg #[.string ⟨#[34]⟩, .int .i64 2, .int .i64 0]) ∧ Below w.heap.size w w') := by
  have h1 : ¬ (b.size : Int) ≤ (k : Int) := by omega
  have h2 : ¬ b.size ≤ k := by omega
  have hmi : (k : Int) + 1 = (m : Int) := by omega
  have hy1 : ¬ (b.size : Int) ≤ (m : Int) := by omega
  have hy2 : ¬ b.size ≤ m := by omega
  obtain ⟨q, hq⟩ : ∃ q : Nat, q = k + 2 := ⟨_, rfl⟩
  have hqi : (k : Int) + 2 = (q : Int) := by omega
  have h5 : q ≤ b.size := by omega
  have h6 : m ≤ q := by omega
  have hx : b.extract m q = ⟨#[34]⟩ := by
    refine bytes_eta _ [34] ?_
    rw [data_extract, List.drop_eq_getElem_cons (by rw [← Lib.size_eq]; exact hy), show q - m = 1 by omega]
    show [b[m]] = [34]
    rw [hd]
  rw [← hx]
  clear hx hm hq
  go_enter Tryz.func118, Tryz.ntmps118
  go_upto_region 1 with fail
  have hB0 := Blk.new w 109 #[.string ⟨#[]⟩, .int .i64 0, .int .i64 0]
  have hl0 : Below w.heap.size w (w.alloc (.cells #[.string ⟨#[]⟩, .int .i64 0, .int .i64 0] 109)) := (Below.refl _ _).alloc (Nat.le_refl _) _
  obtain ⟨W, hW⟩ : ∃ W, w.alloc (.cells #[.string ⟨#[]⟩, .int .i64 0, .int .i64 0] 109) = W := ⟨_, rfl⟩
  obtain ⟨B, hB⟩ : ∃ B, w.heap.size = B := ⟨_, rfl⟩
  rw [hW] at hB0 hl0 ⊢
  rw [hB] at hB0 hl0 ⊢
  have HB0 := Lib.hid hB0
  have HL0 := Lib.hid hl0
  have HBB := Lib.hid hB
  clear hW hB0 hl0 hB
  have c0 : W.cell? ⟨B, 0, none⟩ = some (.string ⟨#[]⟩) := HB0.out.cell 0
  have c1 : W.cell? ⟨B, 1, none⟩ = some (.int .i64 0) := HB0.out.cell 1
  have c2 : W.cell? ⟨B, 2, none⟩ = some (.int .i64 0) := HB0.out.cell 2
  have f0 : W.frozen? ⟨B, 0, none⟩ = false := HB0.out.frozen 0
  have f1 : W.frozen? ⟨B, 1, none⟩ = false := HB0.out.frozen 1
  have f2 : W.frozen? ⟨B, 2, none⟩ = false := HB0.out.frozen 2
  go_wp2_with fail
  refine bodyPost_ret (part_res B (b.extract m q) 2 0 _ _ (((HB0.out.set_ 0 _).set_ 1 _).set_ 2 _) rfl) rfl ⟨rfl, ?_⟩
  rw [HBB.out]
  exact ((HL0.out.setCell (p := ⟨B, 0, none⟩) (Nat.le_refl _) _).setCell (p := ⟨B, 1, none⟩) (Nat.le_refl _) _).setCell (p := ⟨B, 2, none⟩) (Nat.le_refl _) _
set_option maxRecDepth 100000 in
set_option maxHeartbeats 2000000 in
theorem rpart_s92 (b : ByteArray) (k : Nat) (w : World) (hs : b.size ≤ 1000000) (hk : k < b.size) (hc : b[k] = 92) (m : Nat) (hm : m = k + 1) (hy : m < b.size) (hd : b[m] = 92) :
    Calls Tryz.prog 118 #[.string b, .int .i64 (k : Int)] w (fun e w' => e = .returned (.agg #[.string ⟨#[92]⟩, .int .i64 2, .int .i64 0]) ∧ Below w.heap.size w w') := by
  have h1 : ¬ (b.size : Int) ≤ (k : Int) := by omega
  have h2 : ¬ b.size ≤ k := by omega
  have hmi : (k : Int) + 1 = (m : Int) := by omega
  have hy1 : ¬ (b.size : Int) ≤ (m : Int) := by omega
  have hy2 : ¬ b.size ≤ m := by omega
  obtain ⟨q, hq⟩ : ∃ q : Nat, q = k + 2 := ⟨_, rfl⟩
  have hqi : (k : Int) + 2 = (q : Int) := by omega
  have h5 : q ≤ b.size := by omega
  have h6 : m ≤ q := by omega
  have hx : b.extract m q = ⟨#[92]⟩ := by
    refine bytes_eta _ [92] ?_
    rw [data_extract, List.drop_eq_getElem_cons (by rw [← Lib.size_eq]; exact hy), show q - m = 1 by omega]
    show [b[m]] = [92]
    rw [hd]
  rw [← hx]
  clear hx hm hq
  go_enter Tryz.func118, Tryz.ntmps118
  go_upto_region 1 with fail
  have hB0 := Blk.new w 109 #[.string ⟨#[]⟩, .int .i64 0, .int .i64 0]
  have hl0 : Below w.heap.size w (w.alloc (.cells #[.string ⟨#[]⟩, .int .i64 0, .int .i64 0] 109)) := (Below.refl _ _).alloc (Nat.le_refl _) _
  obtain ⟨W, hW⟩ : ∃ W, w.alloc (.cells #[.string ⟨#[]⟩, .int .i64 0, .int .i64 0] 109) = W := ⟨_, rfl⟩
  obtain ⟨B, hB⟩ : ∃ B, w.heap.size = B := ⟨_, rfl⟩
  rw [hW] at hB0 hl0 ⊢
  rw [hB] at hB0 hl0 ⊢
  have HB0 := Lib.hid hB0
  have HL0 := Lib.hid hl0
  have HBB := Lib.hid hB
  clear hW hB0 hl0 hB
  have c0 : W.cell? ⟨B, 0, none⟩ = some (.string ⟨#[]⟩) := HB0.out.cell 0
  have c1 : W.cell? ⟨B, 1, none⟩ = some (.int .i64 0) := HB0.out.cell 1
  have c2 : W.cell? ⟨B, 2, none⟩ = some (.int .i64 0) := HB0.out.cell 2
  have f0 : W.frozen? ⟨B, 0, none⟩ = false := HB0.out.frozen 0
  have f1 : W.frozen? ⟨B, 1, none⟩ = false := HB0.out.frozen 1
  have f2 : W.frozen? ⟨B, 2, none⟩ = false := HB0.out.frozen 2
  go_wp2_with fail
  refine bodyPost_ret (part_res B (b.extract m q) 2 0 _ _ (((HB0.out.set_ 0 _).set_ 1 _).set_ 2 _) rfl) rfl ⟨rfl, ?_⟩
  rw [HBB.out]
  exact ((HL0.out.setCell (p := ⟨B, 0, none⟩) (Nat.le_refl _) _).setCell (p := ⟨B, 1, none⟩) (Nat.le_refl _) _).setCell (p := ⟨B, 2, none⟩) (Nat.le_refl _) _
set_option maxRecDepth 100000 in
set_option maxHeartbeats 2000000 in
theorem rpart_s47 (b : ByteArray) (k : Nat) (w : World) (hs : b.size ≤ 1000000) (hk : k < b.size) (hc : b[k] = 92) (m : Nat) (hm : m = k + 1) (hy : m < b.size) (hd : b[m] = 47) :
    Calls Tryz.prog 118 #[.string b, .int .i64 (k : Int)] w (fun e w' => e = .returned (.agg #[.string ⟨#[47]⟩, .int .i64 2, .int .i64 0]) ∧ Below w.heap.size w w') := by
  have h1 : ¬ (b.size : Int) ≤ (k : Int) := by omega
  have h2 : ¬ b.size ≤ k := by omega
  have hmi : (k : Int) + 1 = (m : Int) := by omega
  have hy1 : ¬ (b.size : Int) ≤ (m : Int) := by omega
  have hy2 : ¬ b.size ≤ m := by omega
  obtain ⟨q, hq⟩ : ∃ q : Nat, q = k + 2 := ⟨_, rfl⟩
  have hqi : (k : Int) + 2 = (q : Int) := by omega
  have h5 : q ≤ b.size := by omega
  have h6 : m ≤ q := by omega
  have hx : b.extract m q = ⟨#[47]⟩ := by
    refine bytes_eta _ [47] ?_
    rw [data_extract, List.drop_eq_getElem_cons (by rw [← Lib.size_eq]; exact hy), show q - m = 1 by omega]
    show [b[m]] = [47]
    rw [hd]
  rw [← hx]
  clear hx hm hq
  go_enter Tryz.func118, Tryz.ntmps118
  go_upto_region 1 with fail
  have hB0 := Blk.new w 109 #[.string ⟨#[]⟩, .int .i64 0, .int .i64 0]
  have hl0 : Below w.heap.size w (w.alloc (.cells #[.string ⟨#[]⟩, .int .i64 0, .int .i64 0] 109)) := (Below.refl _ _).alloc (Nat.le_refl _) _
  obtain ⟨W, hW⟩ : ∃ W, w.alloc (.cells #[.string ⟨#[]⟩, .int .i64 0, .int .i64 0] 109) = W := ⟨_, rfl⟩
  obtain ⟨B, hB⟩ : ∃ B, w.heap.size = B := ⟨_, rfl⟩
  rw [hW] at hB0 hl0 ⊢
  rw [hB] at hB0 hl0 ⊢
  have HB0 := Lib.hid hB0
  have HL0 := Lib.hid hl0
  have HBB := Lib.hid hB
  clear hW hB0 hl0 hB
  have c0 : W.cell? ⟨B, 0, none⟩ = some (.string ⟨#[]⟩) := HB0.out.cell 0
  have c1 : W.cell? ⟨B, 1, none⟩ = some (.int .i64 0) := HB0.out.cell 1
  have c2 : W.cell? ⟨B, 2, none⟩ = some (.int .i64 0) := HB0.out.cell 2
  have f0 : W.frozen? ⟨B, 0, none⟩ = false := HB0.out.frozen 0
  have f1 : W.frozen? ⟨B, 1, none⟩ = false := HB0.out.frozen 1
  have f2 : W.frozen? ⟨B, 2, none⟩ = false := HB0.out.frozen 2
  go_wp2_with fail
  refine bodyPost_ret (part_res B (b.extract m q) 2 0 _ _ (((HB0.out.set_ 0 _).set_ 1 _).set_ 2 _) rfl) rfl ⟨rfl, ?_⟩
  rw [HBB.out]
  exact ((HL0.out.setCell (p := ⟨B, 0, none⟩) (Nat.le_refl _) _).setCell (p := ⟨B, 1, none⟩) (Nat.le_refl _) _).setCell (p := ⟨B, 2, none⟩) (Nat.le_refl _) _
set_option maxRecDepth 100000 in
set_option maxHeartbeats 2000000 in
theorem rpart_s98 (b : ByteArray) (k : Nat) (w : World) (hs : b.size ≤ 1000000) (hk : k < b.size) (hc : b[k] = 92) (m : Nat) (hm : m = k + 1) (hy : m < b.size) (hd : b[m] = 98) :
    Calls Tryz.prog 118 #[.string b, .int .i64 (k : Int)] w (fun e w' => e = .returned (.agg #[.string ⟨#[8]⟩, .int .i64 2, .int .i64 0]) ∧ Below w.heap.size w w') := by
  have h1 : ¬ (b.size : Int) ≤ (k : Int) := by omega
  have h2 : ¬ b.size ≤ k := by omega
  have hmi : (k : Int) + 1 = (m : Int) := by omega
  have hy1 : ¬ (b.size : Int) ≤ (m : Int) := by omega
  have hy2 : ¬ b.size ≤ m := by omega
  clear hm
  go_enter Tryz.func118, Tryz.ntmps118
  go_upto_region 1 with fail
  have hB0 := Blk.new w 109 #[.string ⟨#[]⟩, .int .i64 0, .int .i64 0]
  have hl0 : Below w.heap.size w (w.alloc (.cells #[.string ⟨#[]⟩, .int .i64 0, .int .i64 0] 109)) := (Below.refl _ _).alloc (Nat.le_refl _) _
  obtain ⟨W, hW⟩ : ∃ W, w.alloc (.cells #[.string ⟨#[]⟩, .int .i64 0, .int .i64 0] 109) = W := ⟨_, rfl⟩
  obtain ⟨B, hB⟩ : ∃ B, w.heap.size = B := ⟨_, rfl⟩
  rw [hW] at hB0 hl0 ⊢
  rw [hB] at hB0 hl0 ⊢
  have HB0 := Lib.hid hB0
  have HL0 := Lib.hid hl0
  have HBB := Lib.hid hB
  clear hW hB0 hl0 hB
  have c0 : W.cell? ⟨B, 0, none⟩ = some (.string ⟨#[]⟩) := HB0.out.cell 0
  have c1 : W.cell? ⟨B, 1, none⟩ = some (.int .i64 0) := HB0.out.cell 1
  have c2 : W.cell? ⟨B, 2, none⟩ = some (.int .i64 0) := HB0.out.cell 2
  have f0 : W.frozen? ⟨B, 0, none⟩ = false := HB0.out.frozen 0
  have f1 : W.frozen? ⟨B, 1, none⟩ = false := HB0.out.frozen 1
  have f2 : W.frozen? ⟨B, 2, none⟩ = false := HB0.out.frozen 2
  go_wp2_with fail
  refine bodyPost_ret (part_res B ⟨#[8]⟩ 2 0 _ _ (((HB0.out.set_ 0 _).set_ 1 _).set_ 2 _) rfl) rfl ⟨rfl, ?_⟩
  rw [HBB.out]
  exact ((HL0.out.setCell (p := ⟨B, 0, none⟩) (Nat.le_refl _) _).setCell (p := ⟨B, 1, none⟩) (Nat.le_refl _) _).setCell (p := ⟨B, 2, none⟩) (Nat.le_refl _) _
set_option maxRecDepth 100000 in
set_option maxHeartbeats 2000000 in
theorem rpart_s102 (b : ByteArray) (k : Nat) (w : World) (hs : b.size ≤ 1000000) (hk : k < b.size) (hc : b[k] = 92) (m : Nat) (hm : m = k + 1) (hy : m < b.size) (hd : b[m] = 102) :
    Calls Tryz.prog 118 #[.string b, .int .i64 (k : Int)] w (fun e w' => e = .returned (.agg #[.string ⟨#[12]⟩, .int .i64 2, .int .i64 0]) ∧ Below w.heap.size w w') := by
  have h1 : ¬ (b.size : Int) ≤ (k : Int) := by omega
  have h2 : ¬ b.size ≤ k := by omega
  have hmi : (k : Int) + 1 = (m : Int) := by omega
  have hy1 : ¬ (b.size : Int) ≤ (m : Int) := by omega
  have hy2 : ¬ b.size ≤ m := by omega
  clear hm
  go_enter Tryz.func118, Tryz.ntmps118
  go_upto_region 1 with fail
  have hB0 := Blk.new w 109 #[.string ⟨#[]⟩, .int .i64 0, .int .i64 0]
  have hl0 : Below w.heap.size w (w.alloc (.cells #[.string ⟨#[]⟩, .int .i64 0, .int .i64 0] 109)) := (Below.refl _ _).alloc (Nat.le_refl _) _
  obtain ⟨W, hW⟩ : ∃ W, w.alloc (.cells #[.string ⟨#[]⟩, .int .i64 0, .int .i64 0] 109) = W := ⟨_, rfl⟩
  obtain ⟨B, hB⟩ : ∃ B, w.heap.size = B := ⟨_, rfl⟩
  rw [hW] at hB0 hl0 ⊢
  rw [hB] at hB0 hl0 ⊢
  have HB0 := Lib.hid hB0
  have HL0 := Lib.hid hl0
  have HBB := Lib.hid hB
  clear hW hB0 hl0 hB
  have c0 : W.cell? ⟨B, 0, none⟩ = some (.string ⟨#[]⟩) := HB0.out.cell 0
  have c1 : W.cell? ⟨B, 1, none⟩ = some (.int .i64 0) := HB0.out.cell 1
  have c2 : W.cell? ⟨B, 2, none⟩ = some (.int .i64 0) := HB0.out.cell 2
  have f0 : W.frozen? ⟨B, 0, none⟩ = false := HB0.out.frozen 0
  have f1 : W.frozen? ⟨B, 1, none⟩ = false := HB0.out.frozen 1
  have f2 : W.frozen? ⟨B, 2, none⟩ = false := HB0.out.frozen 2
  go_wp2_with fail
  refine bodyPost_ret (part_res B ⟨#[12]⟩ 2 0 _ _ (((HB0.out.set_ 0 _).set_ 1 _).set_ 2 _) rfl) rfl ⟨rfl, ?_⟩
  rw [HBB.out]
  exact ((HL0.out.setCell (p := ⟨B, 0, none⟩) (Nat.le_refl _) _).setCell (p := ⟨B, 1, none⟩) (Nat.le_refl _) _).setCell (p := ⟨B, 2, none⟩) (Nat.le_refl _) _
set_option maxRecDepth 100000 in
set_option maxHeartbeats 2000000 in
theorem rpart_s110 (b : ByteArray) (k : Nat) (w : World) (hs : b.size ≤ 1000000) (hk : k < b.size) (hc : b[k] = 92) (m : Nat) (hm : m = k + 1) (hy : m < b.size) (hd : b[m] = 110) :
    Calls Tryz.prog 118 #[.string b, .int .i64 (k : Int)] w (fun e w' => e = .returned (.agg #[.string ⟨#[10]⟩, .int .i64 2, .int .i64 0]) ∧ Below w.heap.size w w') := by
  have h1 : ¬ (b.size : Int) ≤ (k : Int) := by omega
  have h2 : ¬ b.size ≤ k := by omega
  have hmi : (k : Int) + 1 = (m : Int) := by omega
  have hy1 : ¬ (b.size : Int) ≤ (m : Int) := by omega
  have hy2 : ¬ b.size ≤ m := by omega
  clear hm
  go_enter Tryz.func118, Tryz.ntmps118
  go_upto_region 1 with fail
  have hB0 := Blk.new w 109 #[.string ⟨#[]⟩, .int .i64 0, .int .i64 0]
  have hl0 : Below w.heap.size w (w.alloc (.cells #[.string ⟨#[]⟩, .int .i64 0, .int .i64 0] 109)) := (Below.refl _ _).alloc (Nat.le_refl _) _
  obtain ⟨W, hW⟩ : ∃ W, w.alloc (.cells #[.string ⟨#[]⟩, .int .i64 0, .int .i64 0] 109) = W := ⟨_, rfl⟩
  obtain ⟨B, hB⟩ : ∃ B, w.heap.size = B := ⟨_, rfl⟩
  rw [hW] at hB0 hl0 ⊢
  rw [hB] at hB0 hl0 ⊢
  have HB0 := Lib.hid hB0
  have HL0 := Lib.hid hl0
  have HBB := Lib.hid hB
  clear hW hB0 hl0 hB
  have c0 : W.cell? ⟨B, 0, none⟩ = some (.string ⟨#[]⟩) := HB0.out.cell 0
  have c1 : W.cell? ⟨B, 1, none⟩ = some (.int .i64 0) := HB0.out.cell 1
  have c2 : W.cell? ⟨B, 2, none⟩ = some (.int .i64 0) := HB0.out.cell 2
  have f0 : W.frozen? ⟨B, 0, none⟩ = false := HB0.out.frozen 0
  have f1 : W.frozen? ⟨B, 1, none⟩ = false := HB0.out.frozen 1
  have f2 : W.frozen? ⟨B, 2, none⟩ = false := HB0.out.frozen 2
  go_wp2_with fail
  refine bodyPost_ret (part_res B ⟨#[10]⟩ 2 0 _ _ (((HB0.out.set_ 0 _).set_ 1 _).set_ 2 _) rfl) rfl ⟨rfl, ?_⟩
  rw [HBB.out]
  exact ((HL0.out.setCell (p := ⟨B, 0, none⟩) (Nat.le_refl _) _).setCell (p := ⟨B, 1, none⟩) (Nat.le_refl _) _).setCell (p := ⟨B, 2, none⟩) (Nat.le_refl _) _
set_option maxRecDepth 100000 in
set_option maxHeartbeats 2000000 in
theorem rpart_s114 (b : ByteArray) (k : Nat) (w : World) (hs : b.size ≤ 1000000) (hk : k < b.size) (hc : b[k] = 92) (m : Nat) (hm : m = k + 1) (hy : m < b.size) (hd : b[m] = 114) :
    Calls Tryz.prog 118 #[.string b, .int .i64 (k : Int)] w (fun e w' => e = .returned (.agg #[.string ⟨#[13]⟩, .int .i64 2, .int .i64 0]) ∧ Below w.heap.size w w') := by
  have h1 : ¬ (b.size : Int) ≤ (k : Int) := by omega
  have h2 : ¬ b.size ≤ k := by omega
  have hmi : (k : Int) + 1 = (m : Int) := by omega
  have hy1 : ¬ (b.size : Int) ≤ (m : Int) := by omega
  have hy2 : ¬ b.size ≤ m := by omega
  clear hm
  go_enter Tryz.func118, Tryz.ntmps118
  go_upto_region 1 with fail
  have hB0 := Blk.new w 109 #[.string ⟨#[]⟩, .int .i64 0, .int .i64 0]
  have hl0 : Below w.heap.size w (w.alloc (.cells #[.string ⟨#[]⟩, .int .i64 0, .int .i64 0] 109)) := (Below.refl _ _).alloc (Nat.le_refl _) _
  obtain ⟨W, hW⟩ : ∃ W, w.alloc (.cells #[.string ⟨#[]⟩, .int .i64 0, .int .i64 0] 109) = W := ⟨_, rfl⟩
  obtain ⟨B, hB⟩ : ∃ B, w.heap.size = B := ⟨_, rfl⟩
  rw [hW] at hB0 hl0 ⊢
  rw [hB] at hB0 hl0 ⊢
  have HB0 := Lib.hid hB0
  have HL0 := Lib.hid hl0
  have HBB := Lib.hid hB
  clear hW hB0 hl0 hB
  have c0 : W.cell? ⟨B, 0, none⟩ = some (.string ⟨#[]⟩) := HB0.out.cell 0
  have c1 : W.cell? ⟨B, 1, none⟩ = some (.int .i64 0) := HB0.out.cell 1
  have c2 : W.cell? ⟨B, 2, none⟩ = some (.int .i64 0) := HB0.out.cell 2
  have f0 : W.frozen? ⟨B, 0, none⟩ = false := HB0.out.frozen 0
  have f1 : W.frozen? ⟨B, 1, none⟩ = false := HB0.out.frozen 1
  have f2 : W.frozen? ⟨B, 2, none⟩ = false := HB0.out.frozen 2
  go_wp2_with fail
  refine bodyPost_ret (part_res B ⟨#[13]⟩ 2 0 _ _ (((HB0.out.set_ 0 _).set_ 1 _).set_ 2 _) rfl) rfl ⟨rfl, ?_⟩
  rw [HBB.out]
  exact ((HL0.out.setCell (p := ⟨B, 0, none⟩) (Nat.le_refl _) _).setCell (p := ⟨B, 1, none⟩) (Nat.le_refl _) _).setCell (p := ⟨B, 2, none⟩) (Nat.le_refl _) _
set_option maxRecDepth 100000 in
set_option maxHeartbeats 2000000 in
theorem rpart_s116 (b : ByteArray) (k : Nat) (w : World) (hs : b.size ≤ 1000000) (hk : k < b.size) (hc : b[k] = 92) (m : Nat) (hm : m = k + 1) (hy : m < b.size) (hd : b[m] = 116) :
    Calls Tryz.prog 118 #[.string b, .int .i64 (k : Int)] w (fun e w' => e = .returned (.agg #[.string ⟨#[9]⟩, .int .i64 2, .int .i64 0]) ∧ Below w.heap.size w w') := by
  have h1 : ¬ (b.size : Int) ≤ (k : Int) := by omega
  have h2 : ¬ b.size ≤ k := by omega
  have hmi : (k : Int) + 1 = (m : Int) := by omega
  have hy1 : ¬ (b.size : Int) ≤ (m : Int) := by omega
  have hy2 : ¬ b.size ≤ m := by omega
  clear hm
  go_enter Tryz.func118, Tryz.ntmps118
  go_upto_region 1 with fail
  have hB0 := Blk.new w 109 #[.string ⟨#[]⟩, .int .i64 0, .int .i64 0]
  have hl0 : Below w.heap.size w (w.alloc (.cells #[.string ⟨#[]⟩, .int .i64 0, .int .i64 0] 109)) := (Below.refl _ _).alloc (Nat.le_refl _) _
  obtain ⟨W, hW⟩ : ∃ W, w.alloc (.cells #[.string ⟨#[]⟩, .int .i64 0, .int .i64 0] 109) = W := ⟨_, rfl⟩
  obtain ⟨B, hB⟩ : ∃ B, w.heap.size = B := ⟨_, rfl⟩
  rw [hW] at hB0 hl0 ⊢
  rw [hB] at hB0 hl0 ⊢
  have HB0 := Lib.hid hB0
  have HL0 := Lib.hid hl0
  have HBB := Lib.hid hB
  clear hW hB0 hl0 hB
  have c0 : W.cell? ⟨B, 0, none⟩ = some (.string ⟨#[]⟩) := HB0.out.cell 0
  have c1 : W.cell? ⟨B, 1, none⟩ = some (.int .i64 0) := HB0.out.cell 1
  have c2 : W.cell? ⟨B, 2, none⟩ = some (.int .i64 0) := HB0.out.cell 2
  have f0 : W.frozen? ⟨B, 0, none⟩ = false := HB0.out.frozen 0
  have f1 : W.frozen? ⟨B, 1, none⟩ = false := HB0.out.frozen 1
  have f2 : W.frozen? ⟨B, 2, none⟩ = false := HB0.out.frozen 2
  go_wp2_with fail
  refine bodyPost_ret (part_res B ⟨#[9]⟩ 2 0 _ _ (((HB0.out.set_ 0 _).set_ 1 _).set_ 2 _) rfl) rfl ⟨rfl, ?_⟩
  rw [HBB.out]
  exact ((HL0.out.setCell (p := ⟨B, 0, none⟩) (Nat.le_refl _) _).setCell (p := ⟨B, 1, none⟩) (Nat.le_refl _) _).setCell (p := ⟨B, 2, none⟩) (Nat.le_refl _) _
set_option maxRecDepth 100000 in
set_option maxHeartbeats 2000000 in
theorem rpart_u (b : ByteArray) (k : Nat) (w : World) (hs : b.size ≤ 1000000) (hk : k < b.size) (hc : b[k] = 92) (m : Nat) (hm : m = k + 1) (hy : m < b.size) (hd : b[m] = 117) (E : Pt) (hE : codedF (b.data.toList.drop (k + 2)) = E) :
    Calls Tryz.prog 118 #[.string b, .int .i64 (k : Int)] w (fun e w' => e = .returned (.agg #[.string ⟨E.2.1.toArray⟩, .int .i64 E.2.2, .int .i64 E.1]) ∧ Below w.heap.size w w') := by
  have h1 : ¬ (b.size : Int) ≤ (k : Int) := by omega
  have h2 : ¬ b.size ≤ k := by omega
  have hmi : (k : Int) + 1 = (m : Int) := by omega
  have hy1 : ¬ (b.size : Int) ≤ (m : Int) := by omega
  have hy2 : ¬ b.size ≤ m := by omega
  obtain ⟨P, hP⟩ : ∃ P : ByteArray, P = ⟨E.2.1.toArray⟩ := ⟨_, rfl⟩
  obtain ⟨n, hn⟩ : ∃ n : Int, n = (E.2.2 : Int) := ⟨_, rfl⟩
  obtain ⟨e0, he0⟩ : ∃ e0 : Int, e0 = (E.1 : Int) := ⟨_, rfl⟩
  have CC := Lib.hid (fun w => rcoded_any b k w hs (by omega) E hE)
  rw [← hP, ← hn, ← he0] at CC ⊢
  clear hm hE hP hn he0
  go_enter Tryz.func118, Tryz.ntmps118
  go_upto_region 1 with fail
  have hB0 := Blk.new w 109 #[.string ⟨#[]⟩, .int .i64 0, .int .i64 0]
  have hl0 : Below w.heap.size w (w.alloc (.cells #[.string ⟨#[]⟩, .int .i64 0, .int .i64 0] 109)) := (Below.refl _ _).alloc (Nat.le_refl _) _
  obtain ⟨W, hW⟩ : ∃ W, w.alloc (.cells #[.string ⟨#[]⟩, .int .i64 0, .int .i64 0] 109) = W := ⟨_, rfl⟩
  obtain ⟨B, hB⟩ : ∃ B, w.heap.size = B := ⟨_, rfl⟩
  rw [hW] at hB0 hl0 ⊢
  rw [hB] at hB0 hl0 ⊢
  have HB0 := Lib.hid hB0
  have HL0 := Lib.hid hl0
  have HBB := Lib.hid hB
  clear hW hB0 hl0 hB
  go_wp2_with fail
  refine (CC.out _).mono ?_
  rintro e w2 ⟨rfl, hb⟩
  have HB2 := Lib.hid (HB0.out.below hb HB0.out.lt)
  have HL2 := Lib.hid (HL0.out.trans (hb.mono (by have := HL0.out.size; have := HBB.out; omega)))
  clear hb

  have c0 : w2.cell? ⟨B, 0, none⟩ = some (.string ⟨#[]⟩) := HB2.out.cell 0
  have c1 : w2.cell? ⟨B, 1, none⟩ = some (.int .i64 0) := HB2.out.cell 1
  have c2 : w2.cell? ⟨B, 2, none⟩ = some (.int .i64 0) := HB2.out.cell 2
  have f0 : w2.frozen? ⟨B, 0, none⟩ = false := HB2.out.frozen 0
  have f1 : w2.frozen? ⟨B, 1, none⟩ = false := HB2.out.frozen 1
  have f2 : w2.frozen? ⟨B, 2, none⟩ = false := HB2.out.frozen 2
  go_wp2_with fail
  refine bodyPost_ret (part_res B P n e0 _ _ (((HB2.out.set_ 0 _).set_ 1 _).set_ 2 _) rfl) rfl ⟨rfl, ?_⟩
  rw [HBB.out]
  exact ((HL2.out.setCell (p := ⟨B, 0, none⟩) (Nat.le_refl _) _).setCell (p := ⟨B, 1, none⟩) (Nat.le_refl _) _).setCell (p := ⟨B, 2, none⟩) (Nat.le_refl _) _
set_option maxRecDepth 100000 in
set_option maxHeartbeats 2000000 in
theorem rpart_no (b : ByteArray) (k : Nat) (w : World) (hs : b.size ≤ 1000000) (hk : k < b.size) (hc : b[k] = 92) (m : Nat) (hm : m = k + 1) (hy : m < b.size) (d : UInt8) (hd : b[m] = d) (n34 : d ≠ 34) (n92 : d ≠ 92) (n47 : d ≠ 47) (n98 : d ≠ 98) (n102 : d ≠ 102) (n110 : d ≠ 110) (n114 : d ≠ 114) (n116 : d ≠ 116) (n117 : d ≠ 117) :
    Calls Tryz.prog 118 #[.string b, .int .i64 (k : Int)] w (fun e w' => e = .returned (.agg #[.string ⟨#[]⟩, .int .i64 0, .int .i64 3]) ∧ Below w.heap.size w w') := by
  have h1 : ¬ (b.size : Int) ≤ (k : Int) := by omega
  have h2 : ¬ b.size ≤ k := by omega
  have hmi : (k : Int) + 1 = (m : Int) := by omega
  have hy1 : ¬ (b.size : Int) ≤ (m : Int) := by omega
  have hy2 : ¬ b.size ≤ m := by omega
  obtain ⟨n, hn⟩ : ∃ n : Int, n = (d.toNat : Int) := ⟨_, rfl⟩
  have hnd : ((b[m].toNat : Nat) : Int) = n := by rw [hd, hn]
  have e34 : (n == 34) = false := by rw [beq_eq_false_iff_ne]; intro e; exact n34 (UInt8.toNat_inj.1 (by show d.toNat = 34; omega))
  have e92 : (n == 92) = false := by rw [beq_eq_false_iff_ne]; intro e; exact n92 (UInt8.toNat_inj.1 (by show d.toNat = 92; omega))
  have e47 : (n == 47) = false := by rw [beq_eq_false_iff_ne]; intro e; exact n47 (UInt8.toNat_inj.1 (by show d.toNat = 47; omega))
  have e98 : (n == 98) = false := by rw [beq_eq_false_iff_ne]; intro e; exact n98 (UInt8.toNat_inj.1 (by show d.toNat = 98; omega))
  have e102 : (n == 102) = false := by rw [beq_eq_false_iff_ne]; intro e; exact n102 (UInt8.toNat_inj.1 (by show d.toNat = 102; omega))
  have e110 : (n == 110) = false := by rw [beq_eq_false_iff_ne]; intro e; exact n110 (UInt8.toNat_inj.1 (by show d.toNat = 110; omega))
  have e114 : (n == 114) = false := by rw [beq_eq_false_iff_ne]; intro e; exact n114 (UInt8.toNat_inj.1 (by show d.toNat = 114; omega))
  have e116 : (n == 116) = false := by rw [beq_eq_false_iff_ne]; intro e; exact n116 (UInt8.toNat_inj.1 (by show d.toNat = 116; omega))
  have e117 : (n == 117) = false := by rw [beq_eq_false_iff_ne]; intro e; exact n117 (UInt8.toNat_inj.1 (by show d.toNat = 117; omega))
  clear hm hd hn n34 n92 n47 n98 n102 n110 n114 n116 n117
  go_enter Tryz.func118, Tryz.ntmps118
  go_upto_region 1 with fail
  have hB0 := Blk.new w 109 #[.string ⟨#[]⟩, .int .i64 0, .int .i64 0]
  have hl0 : Below w.heap.size w (w.alloc (.cells #[.string ⟨#[]⟩, .int .i64 0, .int .i64 0] 109)) := (Below.refl _ _).alloc (Nat.le_refl _) _
  obtain ⟨W, hW⟩ : ∃ W, w.alloc (.cells #[.string ⟨#[]⟩, .int .i64 0, .int .i64 0] 109) = W := ⟨_, rfl⟩
  obtain ⟨B, hB⟩ : ∃ B, w.heap.size = B := ⟨_, rfl⟩
  rw [hW] at hB0 hl0 ⊢
  rw [hB] at hB0 hl0 ⊢
  have HB0 := Lib.hid hB0
  have HL0 := Lib.hid hl0
  have HBB := Lib.hid hB
  clear hW hB0 hl0 hB
  have c0 : W.cell? ⟨B, 0, none⟩ = some (.string ⟨#[]⟩) := HB0.out.cell 0
  have c1 : W.cell? ⟨B, 1, none⟩ = some (.int .i64 0) := HB0.out.cell 1
  have c2 : W.cell? ⟨B, 2, none⟩ = some (.int .i64 0) := HB0.out.cell 2
  have f0 : W.frozen? ⟨B, 0, none⟩ = false := HB0.out.frozen 0
  have f1 : W.frozen? ⟨B, 1, none⟩ = false := HB0.out.frozen 1
  have f2 : W.frozen? ⟨B, 2, none⟩ = false := HB0.out.frozen 2
  go_wp2_with fail
  refine bodyPost_ret (part_res B ⟨#[]⟩ 0 3 _ _ (((HB0.out.set_ 0 _).set_ 1 _).set_ 2 _) rfl) rfl ⟨rfl, ?_⟩
  rw [HBB.out]
  exact ((HL0.out.setCell (p := ⟨B, 0, none⟩) (Nat.le_refl _) _).setCell (p := ⟨B, 1, none⟩) (Nat.le_refl _) _).setCell (p := ⟨B, 2, none⟩) (Nat.le_refl _) _
/-- A part, at every text. -/
theorem rpart_any (b : ByteArray) (k : Nat) (w : World) (hs : b.size ≤ 1000000) (E : Pt) (hE : partF (b.data.toList.drop k) = E) :
    Calls Tryz.prog 118 #[.string b, .int .i64 (k : Int)] w fun e w' => e = .returned (.agg #[.string ⟨E.2.1.toArray⟩, .int .i64 E.2.2, .int .i64 E.1]) ∧ Below w.heap.size w w' := by
  subst hE
  have hget : ∀ j (hj : j < b.size), b.data.toList.drop j = b[j] :: b.data.toList.drop (j + 1) := fun j hj => by
    rw [List.drop_eq_getElem_cons (by rw [← Lib.size_eq]; exact hj)]; rfl
  have hend : ∀ j, b.size ≤ j → b.data.toList.drop j = [] := fun j hj => List.drop_eq_nil_of_le (by rw [← Lib.size_eq]; omega)
  by_cases hk : k < b.size
  case neg =>
    rw [hend k (by omega)]
    exact rpart_end b k w (by omega)
  obtain ⟨c, hc⟩ : ∃ c, b[k] = c := ⟨_, rfl⟩
  have hdr := hget k hk
  rw [hc] at hdr
  by_cases h1 : c.toNat < 32
  · have e1 : partF (b.data.toList.drop k) = ptBad 3 := by rw [hdr]; exact if_pos h1
    rw [e1]
    exact rpart_ctl b k w hk c hc h1
  by_cases h92 : c = 92
  case neg =>
    obtain ⟨n, hN⟩ : ∃ n, (one (b.data.toList.drop k)).2 = n := ⟨_, rfl⟩
    by_cases h2 : n = 0
    · subst h2
      have e1 : partF (b.data.toList.drop k) = ptBad 7 := by
        rw [hdr] at hN ⊢
        unfold partF; dsimp only; rw [if_neg h1, if_neg h92, if_pos hN]
      rw [e1]
      exact rpart_bad b k w hs hk c hc h1 h92 hN
    · have e1 : partF (b.data.toList.drop k) = (0, (b.data.toList.drop k).take n, n) := by
        rw [hdr] at hN ⊢
        unfold partF; dsimp only; rw [if_neg h1, if_neg h92, if_neg (by rw [hN]; exact h2), hN]
      rw [e1]
      exact rpart_one b k w hs hk c hc h1 h92 n h2 hN
  subst h92
  have e1 : partF (b.data.toList.drop k) = escF (b.data.toList.drop (k + 1)) := by rw [hdr]; rfl
  rw [e1]
  by_cases hy : k + 1 < b.size
  case neg =>
    rw [hend _ (by omega)]
    exact rpart_e1 b k w hs hk hc (by omega)
  rw [hget _ hy]
  obtain ⟨d, hd⟩ : ∃ d, b[k + 1] = d := ⟨_, rfl⟩
  rw [hd]
  by_cases d34 : d = 34
  · subst d34
    exact rpart_s34 b k w hs hk hc (k + 1) rfl hy hd
  by_cases d92 : d = 92
  · subst d92
    exact rpart_s92 b k w hs hk hc (k + 1) rfl hy hd
  by_cases d47 : d = 47
  · subst d47
    exact rpart_s47 b k w hs hk hc (k + 1) rfl hy hd
  by_cases d98 : d = 98
  · subst d98
    exact rpart_s98 b k w hs hk hc (k + 1) rfl hy hd
  by_cases d102 : d = 102
  · subst d102
    exact rpart_s102 b k w hs hk hc (k + 1) rfl hy hd
  by_cases d110 : d = 110
  · subst d110
    exact rpart_s110 b k w hs hk hc (k + 1) rfl hy hd
  by_cases d114 : d = 114
  · subst d114
    exact rpart_s114 b k w hs hk hc (k + 1) rfl hy hd
  by_cases d116 : d = 116
  · subst d116
    exact rpart_s116 b k w hs hk hc (k + 1) rfl hy hd
  have hun : unshort d = [] := by
    unfold unshort
    rw [if_neg d34, if_neg d92, if_neg d47, if_neg d98, if_neg d102, if_neg d110, if_neg d114, if_neg d116]
  by_cases d117 : d = 117
  · subst d117
    have e2 : escF (117 :: b.data.toList.drop (k + 1 + 1)) = codedF (b.data.toList.drop (k + 2)) := by unfold escF; dsimp only; rw [if_neg (by rw [hun]; exact fun h => h rfl), if_pos rfl]
    rw [e2]
    exact rpart_u b k w hs hk hc (k + 1) rfl hy hd _ rfl
  have e2 : escF (d :: b.data.toList.drop (k + 1 + 1)) = ptBad 3 := by unfold escF; dsimp only; rw [if_neg (by rw [hun]; exact fun h => h rfl), if_neg d117]
  rw [e2]
  exact rpart_no b k w hs hk hc (k + 1) rfl hy d hd d34 d92 d47 d98 d102 d110 d114 d116 d117
end Go.Proofs.YtdfihhebgllpcaaGreatDoor
