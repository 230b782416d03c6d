import Derived.Laws.Entries
import Derived.WalkKit
import Derived.Lib.Bytealg
import Derived.Lib.SlTrimSet
import Derived.Lib.IndexMore

/- Plain: scalars in bytes. -/
namespace Go.Proofs.UtfPlain

theorem all_u8 (p : UInt8 → Bool) (h : (List.range 256).all (fun n => p (UInt8.ofNat n)) = true) (c : UInt8) : p c = true := by
  have hm := List.all_eq_true.1 h c.toNat (by simpa using c.toNat_lt)
  simpa using hm

def okF (x : Nat) : Bool := decide (x < 128) || (decide (192 ≤ x) && decide (x < 248))
def more (x : Nat) : Nat := if x < 192 then 0 else if x < 224 then 1 else if x < 240 then 2 else if x < 248 then 3 else 0
def fmark (m : Nat) : Nat := if m = 0 then 0 else if m = 1 then 192 else if m = 2 then 224 else 240
def below (m : Nat) : Nat := if m = 0 then 128 else if m = 1 then 2048 else if m = 2 then 65536 else 1114112
/-- The least scalar that wants so many bytes more. -/
def low (m : Nat) : Nat := if m = 0 then 0 else below (m - 1)
def cont (b : UInt8) : Bool := decide (128 ≤ b.toNat) && decide (b.toNat < 192)
def accV (c : Nat) (r : List UInt8) : Nat := r.foldl (fun c b => c * 64 + (b.toNat - 128)) c
def scalar (v : Nat) : Bool := decide (v < 1114112) && (decide (v < 55296) || decide (57343 < v))
def val (a : UInt8) (r : List UInt8) : Nat := accV (a.toNat - fmark (more a.toNat)) (r.take (more a.toNat))
/-- The scalar at the front, and how many bytes it has. -/
def one (l : List UInt8) : Nat × Nat :=
  match l with
  | [] => (0, 0)
  | a :: r =>
    if (okF a.toNat && decide (more a.toNat ≤ r.length) && (r.take (more a.toNat)).all cont && decide (low (more a.toNat) ≤ val a r) && scalar (val a r)) = true then (val a r, more a.toNat + 1) else (0, 0)

theorem more_le (x : Nat) : more x ≤ 3 := by
  unfold more
  repeat' split
  all_goals omega
theorem accV_snoc (c : Nat) (r : List UInt8) (b : UInt8) : accV c (r ++ [b]) = accV c r * 64 + (b.toNat - 128) := by
  unfold accV; rw [List.foldl_append]; rfl
theorem accV_cons (c : Nat) (b : UInt8) (r : List UInt8) : accV c (b :: r) = accV (c * 64 + (b.toNat - 128)) r := by unfold accV; rw [List.foldl_cons]
theorem cont_bd (b : UInt8) (h : cont b = true) : 128 ≤ b.toNat ∧ b.toNat < 192 := by unfold cont at h; simpa using h
theorem accV_lt (r : List UInt8) : ∀ c k, c < k → (∀ b ∈ r, cont b = true) → accV c r < k * 64 ^ r.length := by
  induction r with
  | nil => intro c k h _; simpa [accV] using h
  | cons b r ih =>
    intro c k h hr
    have hb := cont_bd b (hr b (List.mem_cons_self ..))
    have hlt : c * 64 + (b.toNat - 128) < k * 64 := by omega
    have := ih (c * 64 + (b.toNat - 128)) (k * 64) hlt (fun d hd => hr d (List.mem_cons_of_mem _ hd))
    have e : k * 64 ^ (r.length + 1) = k * 64 * 64 ^ r.length := by rw [Nat.pow_succ, Nat.mul_assoc, Nat.mul_comm 64]
    rw [List.length_cons, e, accV_cons]
    exact this
theorem val_bd (a : UInt8) (r : List UInt8) (k : Nat) (hk : k ≤ 3) (hr : ∀ b ∈ r.take k, cont b = true) : accV (a.toNat - fmark (more a.toNat)) (r.take k) < 67108864 := by
  have ha := a.toNat_lt
  have h := accV_lt (r.take k) (a.toNat - fmark (more a.toNat)) 256 (by omega) hr
  have hl : (r.take k).length ≤ 3 := by rw [List.length_take]; omega
  have h2 : 256 * 64 ^ (r.take k).length ≤ 256 * 64 ^ 3 := Nat.mul_le_mul_left _ (Nat.pow_le_pow_right (by omega) hl)
  exact Nat.lt_of_lt_of_le h (Nat.le_trans h2 (by rw [show (64 : Nat) ^ 3 = 262144 from rfl]; omega))
theorem one_cons (a : UInt8) (r : List UInt8) : one (a :: r) = if (okF a.toNat && decide (more a.toNat ≤ r.length) && (r.take (more a.toNat)).all cont && decide (low (more a.toNat) ≤ val a r) && scalar (val a r)) = true then (val a r, more a.toNat + 1) else (0, 0) := rfl
theorem one_size (l : List UInt8) : (one l).2 ≤ l.length := by
  cases l with
  | nil => exact Nat.le_refl _
  | cons a r =>
    rw [one_cons]
    split
    · rename_i h
      simp only [Bool.and_eq_true, decide_eq_true_eq] at h
      simp only [List.length_cons]
      omega
    · exact Nat.zero_le _
theorem one_bad_f (a : UInt8) (r : List UInt8) (h : okF a.toNat = false) : one (a :: r) = (0, 0) := by rw [one_cons, h]; rfl
theorem one_bad_len (a : UInt8) (r : List UInt8) (h : ¬ more a.toNat ≤ r.length) : one (a :: r) = (0, 0) := by
  rw [one_cons, if_neg]; simp [h]
theorem one_bad_cont (a : UInt8) (r : List UInt8) (k : Nat) (hk : k < more a.toNat) (b : UInt8) (hb : r[k]? = some b) (h : cont b = false) : one (a :: r) = (0, 0) := by
  have hb' : (r.take (more a.toNat)).all cont = false := by
    rw [← Bool.not_eq_true, List.all_eq_true]
    intro h'
    have hm : b ∈ r.take (more a.toNat) := List.mem_of_getElem? (i := k) (by rw [List.getElem?_take, if_pos hk]; exact hb)
    rw [h' b hm] at h
    cases h
  rw [one_cons, if_neg]; simp [hb']
theorem low_mono (m j : Nat) (h : j < m) (hm : m ≤ 3) : below j ≤ low m := by
  have hm' : m = 1 ∨ m = 2 ∨ m = 3 := by omega
  have hj' : j = 0 ∨ j = 1 ∨ j = 2 := by omega
  rcases hm' with rfl | rfl | rfl <;> rcases hj' with rfl | rfl | rfl <;> first | (exfalso; omega) | decide
theorem one_bad_low (a : UInt8) (r : List UInt8) (j : Nat) (hj : j < more a.toNat) (h : val a r < below j) : one (a :: r) = (0, 0) := by
  have := low_mono _ _ hj (more_le _)
  rw [one_cons, if_neg]
  have : ¬ low (more a.toNat) ≤ val a r := by omega
  simp [this]
theorem one_bad_scalar (a : UInt8) (r : List UInt8) (h : scalar (val a r) = false) : one (a :: r) = (0, 0) := by
  rw [one_cons, h, Bool.and_false]; rfl
theorem one_good (a : UInt8) (r : List UInt8) (h1 : okF a.toNat = true) (h2 : more a.toNat ≤ r.length) (h3 : ∀ b ∈ r.take (more a.toNat), cont b = true) (h4 : ∀ j, j < more a.toNat → below j ≤ val a r) (h5 : scalar (val a r) = true) : one (a :: r) = (val a r, more a.toNat + 1) := by
  have h4' : low (more a.toNat) ≤ val a r := by
    unfold low
    split
    · omega
    · exact h4 _ (by omega)
  rw [one_cons, h1, decide_eq_true h2, List.all_eq_true.2 h3, decide_eq_true h4', h5]; rfl

/-! The first place that is no text's, and what is one. -/
def badF : Nat → Nat → List UInt8 → Int
  | 0, _, _ => -1
  | _ + 1, _, [] => -1
  | f + 1, at_, l => if (one l).2 = 0 then (at_ : Int) else badF f (at_ + (one l).2) (l.drop (one l).2)
def bad (l : List UInt8) : Int := badF (l.length + 1) 0 l
def valid (l : List UInt8) : Bool := decide (bad l < 0)
theorem badF_fuel (f : Nat) : ∀ g at_ l, l.length < f → l.length < g → badF f at_ l = badF g at_ l := by
  induction f with
  | zero => intro g at_ l h; omega
  | succ f ih =>
    intro g at_ l hf hg
    cases g with
    | zero => omega
    | succ g =>
      cases l with
      | nil => rfl
      | cons a r =>
        unfold badF
        split
        · rfl
        · rename_i h0
          refine ih _ _ _ ?_ ?_ <;> rw [List.length_drop] <;> rw [List.length_cons] at * <;> omega
def badAt (at_ : Nat) (l : List UInt8) : Int := badF (l.length + 1) at_ l
theorem badAt_nil (at_ : Nat) : badAt at_ [] = -1 := rfl
theorem badAt_bad (at_ : Nat) (l : List UInt8) (hl : l ≠ []) (h : (one l).2 = 0) : badAt at_ l = at_ := by
  cases l with
  | nil => exact absurd rfl hl
  | cons a r => unfold badAt badF; rw [if_pos h]
theorem badAt_step (at_ : Nat) (l : List UInt8) (h : (one l).2 ≠ 0) : badAt at_ l = badAt (at_ + (one l).2) (l.drop (one l).2) := by
  cases l with
  | nil => exact absurd rfl h
  | cons a r =>
    unfold badAt
    rw [show badF ((a :: r).length + 1) at_ (a :: r) = if (one (a :: r)).2 = 0 then (at_ : Int) else badF (a :: r).length (at_ + (one (a :: r)).2) ((a :: r).drop (one (a :: r)).2) from rfl, if_neg h]
    refine badF_fuel _ _ _ _ ?_ (by omega)
    rw [List.length_drop, List.length_cons]; omega

/-! What the document says: a number of bytes, tried. -/
def lead (n : Nat) : Int := if n = 1 then 0 else if n = 2 then 192 else if n = 3 then 224 else 240
def guess (p : List UInt8) : Int := match p with
  | [] => 0
  | a :: r => r.foldl (fun c b => c * 64 + (b.toNat : Int) - 128) ((a.toNat : Int) - lead (r.length + 1))
def byte (n : Int) : UInt8 := UInt8.ofNat n.toNat
def put (c : Int) : List UInt8 :=
  if c < 0 ∨ 1114111 < c ∨ (55296 ≤ c ∧ c ≤ 57343) then []
  else if c < 128 then [byte c]
  else if c < 2048 then [byte (192 + c / 64), byte (128 + c % 64)]
  else if c < 65536 then [byte (224 + c / 4096), byte (128 + c / 64 % 64), byte (128 + c % 64)]
  else [byte (240 + c / 262144), byte (128 + c / 4096 % 64), byte (128 + c / 64 % 64), byte (128 + c % 64)]
theorem byte_eq (n : Int) (h0 : 0 ≤ n) (h1 : n < 256) (b : UInt8) : byte n = b ↔ n = (b.toNat : Int) := by
  unfold byte
  rw [← UInt8.toNat_inj]
  have : (UInt8.ofNat n.toNat).toNat = n.toNat := by simp; omega
  rw [this]; omega
theorem scalar_iff (v : Nat) : scalar v = true ↔ ¬ (((v : Nat) : Int) < 0 ∨ 1114111 < ((v : Nat) : Int) ∨ (55296 ≤ ((v : Nat) : Int) ∧ ((v : Nat) : Int) ≤ 57343)) := by
  unfold scalar
  simp only [Bool.and_eq_true, Bool.or_eq_true, decide_eq_true_eq]
  omega
theorem put1 (a : UInt8) : put (guess [a]) = [a] ↔ a.toNat < 128 := by
  have ha := a.toNat_lt
  have e : guess [a] = (a.toNat : Int) := by simp [guess, lead]
  rw [e]; unfold put
  constructor
  · intro h
    repeat' (split at h)
    all_goals first | (simp at h; done) | omega
  · intro h
    rw [if_neg (by omega), if_pos (by omega)]
    rw [(byte_eq _ (by omega) (by omega) a).2 rfl]
theorem put2 (a b : UInt8) : put (guess [a, b]) = [a, b] ↔ (192 ≤ a.toNat ∧ a.toNat < 224 ∧ cont b = true ∧ 128 ≤ (a.toNat - 192) * 64 + (b.toNat - 128)) := by
  have ha := a.toNat_lt
  have hb := b.toNat_lt
  have e : guess [a, b] = ((a.toNat : Int) - 192) * 64 + (b.toNat : Int) - 128 := by simp [guess, lead]
  rw [e]
  obtain ⟨c, hc⟩ : ∃ c : Int, c = ((a.toNat : Int) - 192) * 64 + (b.toNat : Int) - 128 := ⟨_, rfl⟩
  rw [← hc]; unfold put
  constructor
  · intro h
    split at h
    · simp at h
    · rename_i h1
      split at h
      · simp at h
      · rename_i h2
        split at h
        · rename_i h3
          simp only [List.cons.injEq, and_true] at h
          obtain ⟨g1, g2⟩ := h
          rw [byte_eq _ (by omega) (by omega)] at g1 g2
          unfold cont
          simp only [Bool.and_eq_true, decide_eq_true_eq]
          omega
        · split at h <;> simp at h
  · rintro ⟨h1, h2, h3, h4⟩
    have h3 := cont_bd b h3
    rw [if_neg (by omega), if_neg (by omega), if_pos (by omega)]
    rw [(byte_eq _ (by omega) (by omega) a).2 (by omega), (byte_eq _ (by omega) (by omega) b).2 (by omega)]
theorem put3 (a b d : UInt8) : put (guess [a, b, d]) = [a, b, d] ↔ (224 ≤ a.toNat ∧ a.toNat < 240 ∧ cont b = true ∧ cont d = true ∧ 2048 ≤ ((a.toNat - 224) * 64 + (b.toNat - 128)) * 64 + (d.toNat - 128) ∧ scalar (((a.toNat - 224) * 64 + (b.toNat - 128)) * 64 + (d.toNat - 128)) = true) := by
  have ha := a.toNat_lt
  have hb := b.toNat_lt
  have hd := d.toNat_lt
  have e : guess [a, b, d] = (((a.toNat : Int) - 224) * 64 + (b.toNat : Int) - 128) * 64 + (d.toNat : Int) - 128 := by simp [guess, lead]
  rw [e]
  obtain ⟨c, hc⟩ : ∃ c : Int, c = (((a.toNat : Int) - 224) * 64 + (b.toNat : Int) - 128) * 64 + (d.toNat : Int) - 128 := ⟨_, rfl⟩
  rw [← hc, scalar_iff]; unfold put
  constructor
  · intro h
    split at h
    · simp at h
    · rename_i h1
      split at h
      · simp at h
      · split at h
        · simp at h
        · split at h
          · simp only [List.cons.injEq, and_true] at h
            obtain ⟨g1, g2, g3⟩ := h
            rw [byte_eq _ (by omega) (by omega)] at g1 g2 g3
            unfold cont
            simp only [Bool.and_eq_true, decide_eq_true_eq]
            omega
          · simp at h
  · rintro ⟨h1, h2, h3, h4, h5, h6⟩
    have h3 := cont_bd b h3
    have h4 := cont_bd d h4
    rw [if_neg (by omega), if_neg (by omega), if_neg (by omega), if_pos (by omega)]
    rw [(byte_eq _ (by omega) (by omega) a).2 (by omega), (byte_eq _ (by omega) (by omega) b).2 (by omega), (byte_eq _ (by omega) (by omega) d).2 (by omega)]
theorem put4 (a b d e : UInt8) : put (guess [a, b, d, e]) = [a, b, d, e] ↔ (240 ≤ a.toNat ∧ a.toNat < 248 ∧ cont b = true ∧ cont d = true ∧ cont e = true ∧ 65536 ≤ (((a.toNat - 240) * 64 + (b.toNat - 128)) * 64 + (d.toNat - 128)) * 64 + (e.toNat - 128) ∧ scalar ((((a.toNat - 240) * 64 + (b.toNat - 128)) * 64 + (d.toNat - 128)) * 64 + (e.toNat - 128)) = true) := by
  have ha := a.toNat_lt
  have hb := b.toNat_lt
  have hd := d.toNat_lt
  have he := e.toNat_lt
  have ee : guess [a, b, d, e] = ((((a.toNat : Int) - 240) * 64 + (b.toNat : Int) - 128) * 64 + (d.toNat : Int) - 128) * 64 + (e.toNat : Int) - 128 := by simp [guess, lead]
  rw [ee]
  obtain ⟨c, hc⟩ : ∃ c : Int, c = ((((a.toNat : Int) - 240) * 64 + (b.toNat : Int) - 128) * 64 + (d.toNat : Int) - 128) * 64 + (e.toNat : Int) - 128 := ⟨_, rfl⟩
  rw [← hc, scalar_iff]; unfold put
  constructor
  · intro h
    split at h
    · simp at h
    · rename_i h1
      split at h
      · simp at h
      · split at h
        · simp at h
        · split at h
          · simp at h
          · simp only [List.cons.injEq, and_true] at h
            obtain ⟨g1, g2, g3, g4⟩ := h
            rw [byte_eq _ (by omega) (by omega)] at g1 g2 g3 g4
            unfold cont
            simp only [Bool.and_eq_true, decide_eq_true_eq]
            omega
  · rintro ⟨h1, h2, h3, h4, h5, h6, h7⟩
    have h3 := cont_bd b h3
    have h4 := cont_bd d h4
    have h5 := cont_bd e h5
    rw [if_neg (by omega), if_neg (by omega), if_neg (by omega), if_neg (by omega)]
    rw [(byte_eq _ (by omega) (by omega) a).2 (by omega), (byte_eq _ (by omega) (by omega) b).2 (by omega), (byte_eq _ (by omega) (by omega) d).2 (by omega), (byte_eq _ (by omega) (by omega) e).2 (by omega)]
end Go.Proofs.UtfPlain

/- Plain: texts between quotes, as they are printed. -/
namespace Go.Proofs.QuotePlain
open Go.Proofs.UtfPlain (all_u8)

def means : List UInt8 := [34, 92, 47, 8, 12, 10, 13, 9]
def signs : List UInt8 := [34, 92, 47, 98, 102, 110, 114, 116]
def digits : List UInt8 := [48, 49, 50, 51, 52, 53, 54, 55, 56, 57, 97, 98, 99, 100, 101, 102]
def short (c : UInt8) : List UInt8 :=
  if c = 34 then [34] else if c = 92 then [92] else if c = 8 then [98] else if c = 12 then [102] else if c = 10 then [110] else if c = 13 then [114] else if c = 9 then [116] else []
def hexd (n : Nat) : UInt8 := digits.getD n 48
def esc (c : UInt8) : List UInt8 :=
  if short c = [] then (if c.toNat < 32 then [92, 117, 48, 48, hexd (c.toNat / 16), hexd (c.toNat % 16)] else [c]) else 92 :: short c
def qprint (l : List UInt8) : List UInt8 := 34 :: (l.flatMap esc ++ [34])
theorem esc_len (c : UInt8) : (esc c).length ≤ 6 := by
  have := all_u8 (fun c => decide ((esc c).length ≤ 6)) (by decide +kernel) c
  simpa using this
theorem flat_len (l : List UInt8) : (l.flatMap esc).length ≤ 6 * l.length := by
  induction l with
  | nil => simp
  | cons c r ih =>
    rw [List.flatMap_cons, List.length_append, List.length_cons]
    have := esc_len c
    omega
theorem flat_snoc (l : List UInt8) (c : UInt8) : (l ++ [c]).flatMap esc = l.flatMap esc ++ esc c := by simp
/-- What a byte is. -/
theorem kinds (c : UInt8) : (c = 34 ∨ c = 92 ∨ c = 8 ∨ c = 12 ∨ c = 10 ∨ c = 13 ∨ c = 9) ∨
    (c.toNat < 32 ∧ esc c = [92, 117, 48, 48, hexd (c.toNat / 16), hexd (c.toNat % 16)] ∧ short c = [] ∧ Lib.indexByte means c = -1) ∨
    (¬ c.toNat < 32 ∧ esc c = [c] ∧ short c = [] ∧ ((c = 47 ∧ Lib.indexByte means c = 2) ∨ (c ≠ 47 ∧ Lib.indexByte means c = -1))) := by
  have := all_u8 (fun c => decide ((c = 34 ∨ c = 92 ∨ c = 8 ∨ c = 12 ∨ c = 10 ∨ c = 13 ∨ c = 9) ∨
    (c.toNat < 32 ∧ esc c = [92, 117, 48, 48, hexd (c.toNat / 16), hexd (c.toNat % 16)] ∧ short c = [] ∧ Lib.indexByte means c = -1) ∨
    (¬ c.toNat < 32 ∧ esc c = [c] ∧ short c = [] ∧ ((c = 47 ∧ Lib.indexByte means c = 2) ∨ (c ≠ 47 ∧ Lib.indexByte means c = -1))))) (by decide +kernel) c
  simpa only [decide_eq_true_eq] using this
end Go.Proofs.QuotePlain

/- Plain: texts between quotes, as they are read. -/
namespace Go.Proofs.QuotePlain
open Go.Proofs.UtfPlain (all_u8 one put)

/-- A hexadecimal digit's value; 16: it is none. -/
def hexv (c : UInt8) : Nat := if 48 ≤ c.toNat ∧ c.toNat ≤ 57 then c.toNat - 48 else if 97 ≤ c.toNat ∧ c.toNat ≤ 102 then c.toNat - 87 else if 65 ≤ c.toNat ∧ c.toNat ≤ 70 then c.toNat - 55 else 16
/-- So many digits: an error's number, and the value. -/
def unitF : Nat → Nat → List UInt8 → Nat × Nat
  | 0, n, _ => (0, n)
  | _ + 1, _, [] => (2, 0)
  | m + 1, n, c :: r => if hexv c < 16 then unitF m (n * 16 + hexv c) r else (3, 0)
def lower (c : UInt8) : UInt8 := if 65 ≤ c.toNat ∧ c.toNat ≤ 70 then c + 32 else c
theorem hex_index (c : UInt8) : Lib.indexByte digits (lower c) = if hexv c < 16 then (hexv c : Int) else -1 := by
  have := all_u8 (fun c => decide (Lib.indexByte digits (lower c) = if hexv c < 16 then (hexv c : Int) else -1)) (by decide +kernel) c
  simpa only [decide_eq_true_eq] using this
theorem lower_up (c : UInt8) (h : 65 ≤ c.toNat ∧ c.toNat ≤ 70) : ((lower c).toNat : Int) = (c.toNat : Int) + 32 := by
  unfold lower; rw [if_pos h, UInt8.toNat_add]
  have : (32 : UInt8).toNat = 32 := rfl
  omega
theorem lower_id (c : UInt8) (h : ¬ (65 ≤ c.toNat ∧ c.toNat ≤ 70)) : lower c = c := by unfold lower; rw [if_neg h]

/-! A part of a quoted text: an error's number (0: none), what it stands for, and how many bytes it has. -/
abbrev Pt := Nat × List UInt8 × Nat
def ptBad (e : Nat) : Pt := (e, [], 0)
/-- What a sign behind a backslash stands for; nothing: it is none of the short ones. -/
def unshort (d : UInt8) : List UInt8 :=
  if d = 34 then [34] else if d = 92 then [92] else if d = 47 then [47] else if d = 98 then [8] else if d = 102 then [12] else if d = 110 then [10] else if d = 114 then [13] else if d = 116 then [9] else []
/-- Behind backslash, u, four digits of a high half: backslash, u, and a low half's digits. -/
def lowF (n : Nat) (q : List UInt8) : Pt :=
  match q with
  | [] => ptBad 2
  | x :: q2 => if x ≠ 92 then ptBad 3 else
    match q2 with
    | [] => ptBad 2
    | y :: q3 => if y ≠ 117 then ptBad 3 else
      if (unitF 4 0 q3).1 ≠ 0 then ptBad (unitF 4 0 q3).1
      else if 56320 ≤ (unitF 4 0 q3).2 ∧ (unitF 4 0 q3).2 ≤ 57343 then (0, put (65536 + ((n : Int) - 55296) * 1024 + ((unitF 4 0 q3).2 : Int) - 56320), 12) else ptBad 3
/-- Behind backslash and u. -/
def codedF (q : List UInt8) : Pt :=
  if (unitF 4 0 q).1 ≠ 0 then ptBad (unitF 4 0 q).1
  else if 56320 ≤ (unitF 4 0 q).2 ∧ (unitF 4 0 q).2 ≤ 57343 then ptBad 3
  else if (unitF 4 0 q).2 < 55296 ∨ 57343 < (unitF 4 0 q).2 then (0, put ((unitF 4 0 q).2 : Int), 6)
  else lowF (unitF 4 0 q).2 (q.drop 4)
/-- Behind a backslash. -/
def escF (r : List UInt8) : Pt :=
  match r with
  | [] => ptBad 2
  | d :: q => if unshort d ≠ [] then (0, unshort d, 2) else if d = 117 then codedF q else ptBad 3
def partF (l : List UInt8) : Pt :=
  match l with
  | [] => ptBad 2
  | c :: r => if c.toNat < 32 then ptBad 3 else if c = 92 then escF r
    else if (one (c :: r)).2 = 0 then ptBad 7 else (0, (c :: r).take (one (c :: r)).2, (one (c :: r)).2)
/-- Behind the opening quote: an error's number, the text, and where it ends. -/
def scanF : Nat → Nat → List UInt8 → List UInt8 → Nat × List UInt8 × Nat
  | 0, _, _, _ => (2, [], 0)
  | f + 1, at_, acc, l =>
    match l with
    | [] => (2, [], 0)
    | c :: r => if c = 34 then (0, acc, at_ + 1)
      else if (partF (c :: r)).1 ≠ 0 then ((partF (c :: r)).1, [], 0)
      else scanF f (at_ + (partF (c :: r)).2.2) (acc ++ (partF (c :: r)).2.1) ((c :: r).drop (partF (c :: r)).2.2)
def scanQ (l : List UInt8) : Nat × List UInt8 × Nat :=
  match l with
  | [] => (2, [], 0)
  | c :: r => if c = 34 then scanF (l.length + 1) 1 [] r else (3, [], 0)
end Go.Proofs.QuotePlain

/- Plain: laws of what is scanned between quotes. -/
namespace Go.Proofs.QuotePlain
open Go.Proofs.UtfPlain (all_u8 one put one_size)

theorem unitF_len (m : Nat) : ∀ n l, (unitF m n l).1 = 0 → m ≤ l.length := by
  induction m with
  | zero => intro n l _; exact Nat.zero_le _
  | succ m ih =>
    intro n l h
    cases l with
    | nil => exact absurd h (show ¬ (2 : Nat) = 0 by decide)
    | cons c r =>
      unfold unitF at h
      split at h
      · have := ih _ _ h; rw [List.length_cons]; omega
      · exact absurd h (by decide)
theorem unitF_lt (m : Nat) : ∀ n l, (unitF m n l).2 < (n + 1) * 16 ^ m := by
  induction m with
  | zero => intro n l; show n < (n + 1) * 1; omega
  | succ m ih =>
    intro n l
    have hp : 0 < 16 ^ (m + 1) := Nat.pow_pos (by decide)
    cases l with
    | nil => show 0 < (n + 1) * 16 ^ (m + 1); exact Nat.mul_pos (by omega) hp
    | cons c r =>
      unfold unitF
      split
      · rename_i hc
        refine Nat.lt_of_lt_of_le (ih _ _) ?_
        have e : (n + 1) * 16 ^ (m + 1) = ((n + 1) * 16) * 16 ^ m := by rw [Nat.pow_succ, Nat.mul_assoc, Nat.mul_comm 16]
        rw [e]
        exact Nat.mul_le_mul_right _ (by omega)
      · exact Nat.mul_pos (by omega) hp
theorem put_len (c : Int) : (put c).length ≤ 4 := by
  unfold put
  repeat' split
  all_goals simp
theorem unshort_len (d : UInt8) : (unshort d).length ≤ 1 := by
  unfold unshort
  repeat' split
  all_goals simp
theorem ptBad_1 (e : Nat) : (ptBad e).1 = e := rfl

/-- A part that is one has a byte at least, no more bytes than there are, and stands for no more than it has. -/
theorem low_ok (n : Nat) (q : List UInt8) (h : (lowF n q).1 = 0) : (lowF n q).2.2 = 12 ∧ 6 ≤ q.length ∧ (lowF n q).2.1.length ≤ 4 := by
  unfold lowF at h ⊢
  match q with
  | [] => exact absurd h (show ¬ (2 : Nat) = 0 by decide)
  | x :: q2 =>
    dsimp only at h ⊢
    split at h
    · exact absurd h (by decide)
    rename_i h1
    rw [if_neg h1]
    match q2 with
    | [] => exact absurd h (show ¬ (2 : Nat) = 0 by decide)
    | y :: q3 =>
      dsimp only at h ⊢
      split at h
      · exact absurd h (by decide)
      rename_i h2
      rw [if_neg h2]
      split at h
      · rename_i h3; exact absurd h h3
      rename_i h3
      rw [if_neg h3]
      split at h
      · rename_i h4
        rw [if_pos h4]
        have := unitF_len 4 0 q3 (by omega)
        exact ⟨rfl, by simp only [List.length_cons]; omega, put_len _⟩
      · exact absurd h (by decide)
theorem coded_ok (q : List UInt8) (h : (codedF q).1 = 0) : 1 ≤ (codedF q).2.2 ∧ (codedF q).2.2 ≤ q.length + 2 ∧ (codedF q).2.1.length ≤ (codedF q).2.2 ∧ 2 ≤ (codedF q).2.2 := by
  unfold codedF at h ⊢
  split at h
  · rename_i h3; exact absurd h h3
  rename_i h3
  rw [if_neg h3]
  have h4 := unitF_len 4 0 q (by omega)
  split at h
  · exact absurd h (by decide)
  rename_i h5
  rw [if_neg h5]
  split at h
  · rename_i h6
    rw [if_pos h6]
    have := put_len ((unitF 4 0 q).2 : Int)
    dsimp only
    omega
  · rename_i h6
    rw [if_neg h6]
    obtain ⟨a, b, c⟩ := low_ok _ _ h
    rw [List.length_drop] at b
    rw [a]
    omega
theorem esc_ok (r : List UInt8) (h : (escF r).1 = 0) : 2 ≤ (escF r).2.2 ∧ (escF r).2.2 ≤ r.length + 1 ∧ (escF r).2.1.length ≤ (escF r).2.2 := by
  unfold escF at h ⊢
  match r with
  | [] => exact absurd h (by decide)
  | d :: q =>
    dsimp only at h ⊢
    split at h
    · rename_i h1
      rw [if_pos h1]
      have := unshort_len d
      simp only [List.length_cons]
      omega
    rename_i h1
    rw [if_neg h1]
    split at h
    · rename_i h2
      rw [if_pos h2]
      have := coded_ok q h
      simp only [List.length_cons]
      omega
    · exact absurd h (by decide)
theorem part_ok (l : List UInt8) (h : (partF l).1 = 0) : 1 ≤ (partF l).2.2 ∧ (partF l).2.2 ≤ l.length ∧ (partF l).2.1.length ≤ (partF l).2.2 := by
  unfold partF at h ⊢
  match l with
  | [] => exact absurd h (by decide)
  | c :: r =>
    dsimp only at h ⊢
    split at h
    · exact absurd h (by decide)
    rename_i h1
    rw [if_neg h1]
    split at h
    · rename_i h2
      rw [if_pos h2]
      have := esc_ok r h
      simp only [List.length_cons]
      omega
    rename_i h2
    rw [if_neg h2]
    split at h
    · exact absurd h (by decide)
    rename_i h3
    rw [if_neg h3]
    have := one_size (c :: r)
    refine ⟨?_, this, ?_⟩
    · show 1 ≤ (one (c :: r)).2
      omega
    · show ((c :: r).take (one (c :: r)).2).length ≤ _
      rw [List.length_take]; exact Nat.min_le_left _ _

/-! Scanning from a place on, with fuel enough. -/
def scanAt (at_ : Nat) (acc l : List UInt8) : Nat × List UInt8 × Nat := scanF (l.length + 1) at_ acc l
theorem scanF_step (f at_ : Nat) (acc : List UInt8) (c : UInt8) (r : List UInt8) : scanF (f + 1) at_ acc (c :: r) = if c = 34 then (0, acc, at_ + 1) else if (partF (c :: r)).1 ≠ 0 then ((partF (c :: r)).1, [], 0) else scanF f (at_ + (partF (c :: r)).2.2) (acc ++ (partF (c :: r)).2.1) ((c :: r).drop (partF (c :: r)).2.2) := rfl
theorem scanF_fuel (f : Nat) : ∀ g at_ acc l, l.length < f → l.length < g → scanF f at_ acc l = scanF g at_ acc l := by
  induction f with
  | zero => intro g at_ acc l h; omega
  | succ f ih =>
    intro g at_ acc l hf hg
    cases g with
    | zero => omega
    | succ g =>
      cases l with
      | nil => rfl
      | cons c r =>
        rw [scanF_step, scanF_step]
        split
        · rfl
        split
        · rfl
        rename_i _ h
        have h := part_ok (c :: r) (by omega)
        refine ih _ _ _ _ ?_ ?_ <;> rw [List.length_drop] <;> rw [List.length_cons] at * <;> omega
theorem scanAt_nil (at_ : Nat) (acc : List UInt8) : scanAt at_ acc [] = (2, [], 0) := rfl
theorem scanAt_quote (at_ : Nat) (acc r : List UInt8) : scanAt at_ acc (34 :: r) = (0, acc, at_ + 1) := rfl
theorem scanAt_bad (at_ : Nat) (acc r : List UInt8) (c : UInt8) (hc : c ≠ 34) (h : (partF (c :: r)).1 ≠ 0) : scanAt at_ acc (c :: r) = ((partF (c :: r)).1, [], 0) := by
  unfold scanAt; rw [List.length_cons, scanF_step, if_neg hc, if_pos h]
theorem scanAt_step (at_ : Nat) (acc r : List UInt8) (c : UInt8) (hc : c ≠ 34) (h : (partF (c :: r)).1 = 0) : scanAt at_ acc (c :: r) = scanAt (at_ + (partF (c :: r)).2.2) (acc ++ (partF (c :: r)).2.1) ((c :: r).drop (partF (c :: r)).2.2) := by
  have hp := part_ok (c :: r) h
  unfold scanAt
  rw [List.length_cons, scanF_step, if_neg hc, if_neg (by rw [h]; exact fun e => e rfl)]
  refine scanF_fuel _ _ _ _ _ ?_ (by omega)
  rw [List.length_drop, List.length_cons]; omega
theorem scanQ_nil : scanQ [] = (2, [], 0) := rfl
theorem scanQ_no (c : UInt8) (r : List UInt8) (h : c ≠ 34) : scanQ (c :: r) = (3, [], 0) := by unfold scanQ; exact if_neg h
theorem scanQ_yes (r : List UInt8) : scanQ (34 :: r) = scanAt 1 [] r := by
  have : scanQ (34 :: r) = scanF ((34 :: r).length + 1) 1 [] r := rfl
  rw [this]
  exact scanF_fuel _ _ _ _ _ (by rw [List.length_cons]; omega) (by omega)
/-- Where it ends is in the text, and the text is no longer. -/
theorem scanAt_ok (k : Nat) : ∀ at_ acc l, l.length ≤ k → acc.length ≤ at_ → (scanAt at_ acc l).1 = 0 → at_ < (scanAt at_ acc l).2.2 ∧ (scanAt at_ acc l).2.2 ≤ at_ + l.length ∧ (scanAt at_ acc l).2.1.length ≤ (scanAt at_ acc l).2.2 := by
  induction k with
  | zero =>
    intro at_ acc l hl _ h
    rw [List.length_eq_zero_iff.1 (show l.length = 0 by omega), scanAt_nil] at h
    exact absurd h (by decide)
  | succ k ih =>
    intro at_ acc l hl ha h
    match l with
    | [] => rw [scanAt_nil] at h; exact absurd h (by decide)
    | c :: r =>
      by_cases hc : c = 34
      · subst hc
        rw [scanAt_quote]
        simp only [List.length_cons]
        omega
      · by_cases hp : (partF (c :: r)).1 = 0
        · rw [scanAt_step _ _ _ _ hc hp] at h ⊢
          have h1 := part_ok _ hp
          have h2 := ih _ _ _ (by rw [List.length_drop]; omega) (by rw [List.length_append]; omega) h
          rw [List.length_drop] at h2
          omega
        · rw [scanAt_bad _ _ _ _ hc hp] at h
          exact absurd h hp
theorem scanQ_ok (l : List UInt8) (h : (scanQ l).1 = 0) : 2 ≤ (scanQ l).2.2 ∧ (scanQ l).2.2 ≤ l.length ∧ (scanQ l).2.1.length ≤ (scanQ l).2.2 := by
  match l with
  | [] => exact absurd h (by decide)
  | c :: r =>
    by_cases hc : c = 34
    · subst hc
      rw [scanQ_yes] at h ⊢
      have := scanAt_ok r.length 1 [] r (Nat.le_refl _) (by simp) h
      rw [List.length_cons]
      omega
    · rw [scanQ_no _ _ hc] at h
      exact absurd h (by decide)
theorem scanAt_err (k : Nat) : ∀ at_ acc l, l.length ≤ k → (scanAt at_ acc l).1 ≠ 0 → (scanAt at_ acc l).2 = ([], 0) := by
  induction k with
  | zero =>
    intro at_ acc l hl h
    rw [List.length_eq_zero_iff.1 (show l.length = 0 by omega), scanAt_nil]
  | succ k ih =>
    intro at_ acc l hl h
    match l with
    | [] => rfl
    | c :: r =>
      by_cases hc : c = 34
      · subst hc; rw [scanAt_quote] at h; exact absurd rfl h
      · by_cases hp : (partF (c :: r)).1 = 0
        · rw [scanAt_step _ _ _ _ hc hp] at h ⊢
          have h1 := part_ok _ hp
          exact ih _ _ _ (by rw [List.length_drop]; omega) h
        · rw [scanAt_bad _ _ _ _ hc hp]
theorem scanQ_err (l : List UInt8) (h : (scanQ l).1 ≠ 0) : (scanQ l).2 = ([], 0) := by
  match l with
  | [] => rfl
  | c :: r =>
    by_cases hc : c = 34
    · subst hc
      rw [scanQ_yes] at h ⊢
      exact scanAt_err r.length 1 [] r (Nat.le_refl _) h
    · rw [scanQ_no _ _ hc]
end Go.Proofs.QuotePlain

/- Plain: names, as both lexers tell them. -/
namespace Go.Proofs.LexPlain
open Go.Proofs.UtfPlain (all_u8)

def letter (c : UInt8) : Bool := decide (c.toNat = 95) || (decide (97 ≤ c.toNat) && decide (c.toNat ≤ 122)) || (decide (65 ≤ c.toNat) && decide (c.toNat ≤ 90))
def digit (c : UInt8) : Bool := decide (48 ≤ c.toNat) && decide (c.toNat ≤ 57)
def word (c : UInt8) : Bool := letter c || digit c
/-- A name. -/
def isName (l : List UInt8) : Bool := match l with
  | [] => false
  | c :: r => letter c && r.all word
/-- How long the name is that a text begins with. -/
def nameLen (l : List UInt8) : Nat := match l with
  | [] => 0
  | c :: r => if letter c then 1 + (r.takeWhile word).length else 0
theorem nameLen_cons (c : UInt8) (r : List UInt8) : nameLen (c :: r) = if letter c then 1 + (r.takeWhile word).length else 0 := rfl
theorem isName_cons (c : UInt8) (r : List UInt8) : isName (c :: r) = (letter c && r.all word) := rfl
theorem takeWhile_le (p : UInt8 → Bool) (l : List UInt8) : (l.takeWhile p).length ≤ l.length := (List.takeWhile_sublist p).length_le
theorem takeWhile_all (p : UInt8 → Bool) (l : List UInt8) : (l.takeWhile p).length = l.length ↔ l.all p = true := by
  induction l with
  | nil => simp
  | cons c r ih =>
    rw [List.takeWhile_cons, List.all_cons]
    by_cases h : p c = true
    · rw [if_pos h, List.length_cons, List.length_cons, h, Bool.true_and, ← ih]; omega
    · rw [if_neg h, Bool.eq_false_iff.2 h]; simp
theorem nameLen_le (l : List UInt8) : nameLen l ≤ l.length := by
  cases l with
  | nil => exact Nat.le_refl _
  | cons c r =>
    have := takeWhile_le word r
    rw [nameLen_cons, List.length_cons]
    split <;> omega
theorem nameLen_pos (c : UInt8) (r : List UInt8) (h : letter c = true) : 1 ≤ nameLen (c :: r) := by
  rw [nameLen_cons, if_pos h]; omega
theorem isName_iff (c : UInt8) (r : List UInt8) (h : letter c = true) : isName (c :: r) = true ↔ nameLen (c :: r) = (c :: r).length := by
  rw [isName_cons, nameLen_cons, if_pos h, h, Bool.true_and, ← takeWhile_all, List.length_cons]
  omega
theorem isName_head (c : UInt8) (r : List UInt8) (h : isName (c :: r) = true) : letter c = true := by
  rw [isName_cons, Bool.and_eq_true] at h
  exact h.1
/-- So many bytes of a name have been read, from the second one on. -/
theorem nameLen_stop (c : UInt8) (r : List UInt8) (h : letter c = true) (k : Nat) (hk : k ≤ r.length) (ha : ∀ d ∈ r.take k, word d = true) (hs : k = r.length ∨ ∃ d, r[k]? = some d ∧ word d = false) : nameLen (c :: r) = k + 1 := by
  rw [nameLen_cons, if_pos h, Nat.add_comm 1]
  congr 1
  induction r generalizing k with
  | nil => simp at hk; subst hk; rfl
  | cons x r ih =>
    cases k with
    | zero =>
      rcases hs with hs | ⟨d, hd, hw⟩
      · simp at hs
      · simp at hd; subst hd
        rw [List.takeWhile_cons, if_neg (by rw [hw]; decide)]; rfl
    | succ k =>
      have hx : word x = true := ha x (by simp)
      rw [List.takeWhile_cons, if_pos hx, List.length_cons]
      congr 1
      refine ih k (by simpa using hk) (fun d hd => ha d (by simp [hd])) ?_
      rcases hs with hs | ⟨d, hd, hw⟩
      · left; simpa using hs
      · right; exact ⟨d, by simpa using hd, hw⟩
/-- A byte between tokens. -/
def blank (c : UInt8) : Bool := decide (c.toNat = 32) || decide (c.toNat = 9) || decide (c.toNat = 13)
theorem letter_blank (c : UInt8) (h : letter c = true) : blank c = false := by
  unfold letter at h; unfold blank
  simp at h ⊢; omega

/-! What a lexer tells of a token: weak, but for names. A kind, and a length. -/
def Tok (l : List UInt8) (kind size : Nat) : Prop :=
  1 ≤ size ∧ size ≤ l.length ∧ (∀ c r, l = c :: r → (letter c = true → kind = 1 ∧ size = nameLen l) ∧ (kind = 1 → letter c = true))
/-- Tokens, from a place on. -/
inductive Toks : List UInt8 → List (Nat × List UInt8) → Prop
  | nil : Toks [] []
  | blank (c r t) : blank c = true → Toks r t → Toks (c :: r) t
  | tok (c r k n t) : blank c = false → Tok (c :: r) k n → Toks ((c :: r).drop n) t → Toks (c :: r) ((k, (c :: r).take n) :: t)
/-- A text's tokens are one name, the text itself, just if it is a name. -/
theorem toks_name (l : List UInt8) (t : List (Nat × List UInt8)) (h : Toks l t) : t = [(1, l)] ↔ isName l = true := by
  cases h with
  | nil => simp [isName]
  | blank c r t hb h =>
    have hl : letter c = false := by
      rw [← Bool.not_eq_true]; intro h; rw [letter_blank c h] at hb; cases hb
    constructor
    · rintro rfl
      exfalso
      -- what comes behind is shorter
      have key : ∀ (l : List UInt8) (t : List (Nat × List UInt8)), Toks l t → ∀ k s, (k, s) ∈ t → s.length ≤ l.length := by
        intro l t h
        induction h with
        | nil => intro k s h; cases h
        | blank c r t _ _ ih => intro k s h; have := ih k s h; rw [List.length_cons]; omega
        | tok c r k n t _ hT _ ih =>
          intro k' s h
          rcases List.mem_cons.1 h with h | h
          · injection h with _ h; rw [h, List.length_take]; exact Nat.min_le_right _ _
          · have := ih k' s h; rw [List.length_drop] at this; omega
      have := key r _ h 1 (c :: r) (by simp)
      rw [List.length_cons] at this; omega
    · intro hn; rw [isName_head c r hn] at hl; cases hl
  | tok c r k n t hb hT h =>
    obtain ⟨h1, h2, h3⟩ := hT
    obtain ⟨h4, h5⟩ := h3 c r rfl
    constructor
    · intro he
      injection he with he ht
      injection he with hk hs
      have hlen := congrArg List.length hs
      rw [List.length_take] at hlen
      have hl := h5 hk
      have := (h4 hl).2
      exact (isName_iff c r hl).2 (by omega)
    · intro hn
      have hl := isName_head c r hn
      obtain ⟨rfl, hn2⟩ := h4 hl
      have := (isName_iff c r hl).1 hn
      have hnn : n = (c :: r).length := by omega
      subst hnn
      rw [List.drop_length] at h
      cases h
      rw [List.take_length]
end Go.Proofs.LexPlain

/- Plain: lines, ends, and tokens. -/
namespace Go.Proofs.LexPlain

theorem index_bound (s sub : List UInt8) : 0 ≤ Lib.index s sub → (Lib.index s sub).toNat + sub.length ≤ s.length := by
  induction s with
  | nil =>
    intro h
    unfold Lib.index at h ⊢
    split at h
    · rename_i hs
      rw [if_pos hs]
      rw [List.isEmpty_iff] at hs
      subst hs
      simp
    · omega
  | cons b l ih =>
    intro h
    unfold Lib.index at h ⊢
    split at h
    · rename_i hp
      rw [if_pos hp]
      have := (List.isPrefixOf_iff_prefix.1 hp).length_le
      simpa using this
    · rename_i hp
      rw [if_neg hp]
      split at h
      · omega
      · rename_i hn
        rw [if_neg hn]
        have hn' : Lib.index l sub ≠ -1 := by simpa using hn
        have h0 : 0 ≤ Lib.index l sub := by omega
        have := ih h0
        rw [List.length_cons]
        omega
theorem index_cons (c d : UInt8) (r : List UInt8) (h : c ≠ d) : Lib.index (c :: r) [d] = if Lib.index r [d] == -1 then -1 else Lib.index r [d] + 1 := by
  show (if [d].isPrefixOf (c :: r) then (0 : Int) else _) = _
  rw [if_neg]
  simp [List.isPrefixOf]
  intro e; exact h e.symm
/-- What stands ahead of a sign begins as the text begins, if it doesn't begin with the sign. -/
theorem cut_cons (c d : UInt8) (r : List UInt8) (h : c ≠ d) : ∃ k, k ≤ r.length ∧ (Lib.cut (c :: r) [d]).1 = c :: r.take k ∧ (Lib.cut r [d]).1 = r.take k := by
  by_cases h0 : 0 ≤ Lib.index r [d]
  · have hb := index_bound r [d] h0
    have e1 : Lib.index (c :: r) [d] = Lib.index r [d] + 1 := by
      rw [index_cons c d r h, if_neg]; simp; omega
    refine ⟨(Lib.index r [d]).toNat, by omega, ?_, ?_⟩
    · unfold Lib.cut
      rw [e1, if_pos (by omega)]
      show (c :: r).take (Lib.index r [d] + 1).toNat = _
      rw [show (Lib.index r [d] + 1).toNat = (Lib.index r [d]).toNat + 1 by omega, List.take_succ_cons]
    · unfold Lib.cut
      rw [if_pos h0]
  · have hm : Lib.index r [d] = -1 ∨ Lib.index r [d] < -1 := by omega
    refine ⟨r.length, Nat.le_refl _, ?_, ?_⟩
    · unfold Lib.cut
      have e1 : ¬ 0 ≤ Lib.index (c :: r) [d] := by
        rw [index_cons c d r h]
        by_cases hh : (Lib.index r [d] == -1) = true
        · rw [if_pos hh]; decide
        · rw [if_neg hh]
          have hh2 : Lib.index r [d] ≠ -1 := by simpa using hh
          omega
      rw [if_neg e1, List.take_length]
    · unfold Lib.cut
      rw [if_neg h0, List.take_length]
theorem trimR_le (l cs : List UInt8) : (Lib.trimRightS l cs).length ≤ l.length := by
  unfold Lib.trimRightS
  rw [List.length_reverse]
  exact Nat.le_trans (List.dropWhile_sublist _).length_le (by simp)
theorem dropWhile_nil (p : UInt8 → Bool) (l : List UInt8) : l.dropWhile p = [] → ∀ x ∈ l, p x = true := by
  induction l with
  | nil => intro _ x hx; cases hx
  | cons a l ih =>
    intro h x hx
    rw [List.dropWhile_cons] at h
    split at h
    · rename_i ha
      rcases List.mem_cons.1 hx with e | e
      · rw [e]; exact ha
      · exact ih h x e
    · cases h
theorem trimR_pos (c : UInt8) (r cs : List UInt8) (h : cs.contains c = false) : 1 ≤ (Lib.trimRightS (c :: r) cs).length := by
  unfold Lib.trimRightS
  rw [List.length_reverse]
  rcases Nat.eq_zero_or_pos ((c :: r).reverse.dropWhile (cs.contains ·)).length with h0 | h0
  · exfalso
    have h1 := List.length_eq_zero_iff.1 h0
    have := dropWhile_nil _ _ h1 c (by simp)
    rw [h] at this; cases this
  · exact h0
/-- What is told of a token that is no name. -/
theorem tok_other (c : UInt8) (r : List UInt8) (k n : Nat) (hc : letter c = false) (hk : k ≠ 1) (h1 : 1 ≤ n) (h2 : n ≤ (c :: r).length) : Tok (c :: r) k n := by
  refine ⟨h1, h2, fun c' r' e => ?_⟩
  injection e with e1 e2
  subst e1
  exact ⟨fun h => by (rw [hc] at h; cases h), fun h => absurd h hk⟩
theorem tok_name (c : UInt8) (r : List UInt8) (hc : letter c = true) : Tok (c :: r) 1 (nameLen (c :: r)) := by
  refine ⟨nameLen_pos c r hc, nameLen_le _, fun c' r' e => ?_⟩
  injection e with e1 e2
  subst e1
  exact ⟨fun _ => ⟨rfl, rfl⟩, fun _ => hc⟩
end Go.Proofs.LexPlain
