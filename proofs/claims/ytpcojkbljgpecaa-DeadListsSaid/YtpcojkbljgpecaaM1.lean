/- The model, part 1: numbers and texts as bytes. -/
namespace Go.Proofs.Ytpcojkbljgpecaa

abbrev Bytes := List UInt8

def bitLen (n : Nat) : Nat := if n = 0 then 0 else Nat.log2 n + 1

theorem bitLen_le (n m : Nat) : bitLen n ≤ m ↔ n < 2 ^ m := by
  unfold bitLen
  by_cases h : n = 0
  · subst h; simp; exact Nat.pow_pos (by omega)
  · rw [if_neg h]
    rw [Nat.succ_le_iff, Nat.log2_lt h]

theorem bitLen_shift (n k : Nat) (h : 2 ^ k ≤ n) : bitLen n = k + bitLen (n / 2 ^ k) := by
  have hp : 0 < 2 ^ k := Nat.pow_pos (by omega)
  apply Nat.le_antisymm
  · rw [bitLen_le]
    have h1 : n / 2 ^ k < 2 ^ bitLen (n / 2 ^ k) := (bitLen_le _ _).1 (Nat.le_refl _)
    rw [Nat.pow_add, Nat.mul_comm]
    exact (Nat.div_lt_iff_lt_mul hp).1 h1
  · have h2 : k + 1 ≤ bitLen n := by
      rcases Nat.lt_or_ge k (bitLen n) with h' | h'
      · exact h'
      · exact absurd ((bitLen_le n k).1 h') (by omega)
    have h3 : bitLen (n / 2 ^ k) ≤ bitLen n - k := by
      rw [bitLen_le, Nat.div_lt_iff_lt_mul hp, ← Nat.pow_add, Nat.sub_add_cancel (by omega)]
      exact (bitLen_le _ _).1 (Nat.le_refl _)
    omega

/-- How many groups of seven bits a number needs. -/
def groups (n : Nat) : Nat := max 1 ((bitLen n + 6) / 7)

def shortLoop : Nat → Nat → Bytes
  | 0, n => [UInt8.ofNat n]
  | k + 1, n => UInt8.ofNat (n % 256 ||| 128) :: shortLoop k (n / 128)

def short (n : Nat) : Bytes := shortLoop (groups n - 1) n

/-- A number in size bytes, the lowest first. -/
def fixed1 (size n : Nat) : Bytes := (List.range size).map fun i => UInt8.ofNat (n / 2 ^ (8 * i))

def textB (s : Bytes) : Bytes := short s.length ++ s

/-- A number out of its bytes, the lowest first. -/
def leNat : Bytes → Nat
  | [] => 0
  | c :: l => c.toNat + 256 * leNat l

theorem shortLoop_len : ∀ k n, (shortLoop k n).length = k + 1
  | 0, _ => rfl
  | k + 1, n => by rw [shortLoop, List.length_cons, shortLoop_len]

theorem groups_pos (n : Nat) : 1 ≤ groups n := by unfold groups; omega
theorem short_len (n : Nat) : (short n).length = groups n := by
  rw [short, shortLoop_len]; have := groups_pos n; omega
theorem groups_le (n : Nat) (h : n < 2 ^ 64) : groups n ≤ 10 := by
  have := (bitLen_le n 64).2 h
  unfold groups; omega

theorem leNat_lt : ∀ l : Bytes, leNat l < 2 ^ (8 * l.length)
  | [] => by simp [leNat]
  | c :: l => by
    have h1 := leNat_lt l
    have h2 : c.toNat < 256 := c.toNat_lt
    rw [leNat, List.length_cons, show 8 * (l.length + 1) = 8 * l.length + 8 by omega, Nat.pow_add]
    omega

theorem leNat_snoc : ∀ (l : Bytes) (c : UInt8), leNat (l ++ [c]) = leNat l + c.toNat * 2 ^ (8 * l.length)
  | [], c => by simp [leNat]
  | d :: l, c => by
    rw [List.cons_append, leNat, leNat, leNat_snoc l c, List.length_cons, show 8 * (l.length + 1) = 8 + 8 * l.length by omega, Nat.pow_add]
    have : (2 : Nat) ^ 8 = 256 := rfl
    rw [this, Nat.mul_add, ← Nat.mul_assoc, Nat.mul_comm 256 c.toNat, Nat.mul_assoc]; omega

theorem or_disj (a c k : Nat) (h : a < 2 ^ k) : a ||| c * 2 ^ k = a + c * 2 ^ k := by
  have := Nat.two_pow_add_eq_or_of_lt h c
  rw [Nat.mul_comm c, Nat.or_comm, ← this, Nat.add_comm]

/-- Reads a number in groups: it, how many bytes it has, and an error's number. -/
def rsLoop (long : Bool) : Bytes → Nat → Nat → Nat × Nat × Nat
  | [], _, _ => if long then (0, 0, 11) else (0, 0, 10)
  | c :: l, i, n =>
    if bitLen (c.toNat % 128) + 7 * i > 64 then (0, 0, 11)
    else if c.toNat < 128 then
      (if groups (n + c.toNat % 128 * 2 ^ (7 * i)) = i + 1 then (n + c.toNat % 128 * 2 ^ (7 * i), i + 1, 0) else (0, 0, 11))
    else rsLoop long l (i + 1) (n + c.toNat % 128 * 2 ^ (7 * i))

def readShort (b : Bytes) : Nat × Nat × Nat := rsLoop (decide (10 ≤ b.length)) (b.take 10) 0 0

theorem part_lt {p i : Nat} (h : bitLen p + 7 * i ≤ 64) : p * 2 ^ (7 * i) < 2 ^ 64 := by
  have h1 : p < 2 ^ (64 - 7 * i) := (bitLen_le p _).1 (by omega)
  have h2 : 2 ^ 64 = 2 ^ (64 - 7 * i) * 2 ^ (7 * i) := by rw [← Nat.pow_add]; congr 1; omega
  rw [h2]
  exact Nat.mul_lt_mul_of_pos_right h1 (Nat.pow_pos (by omega))

theorem part_sum_lt {p i n : Nat} (hn : n < 2 ^ (7 * i)) (h : bitLen p + 7 * i ≤ 64) : n + p * 2 ^ (7 * i) < 2 ^ 64 := by
  have h1 : p < 2 ^ (64 - 7 * i) := (bitLen_le p _).1 (by omega)
  have h2 : 2 ^ 64 = 2 ^ (64 - 7 * i) * 2 ^ (7 * i) := by rw [← Nat.pow_add]; congr 1; omega
  rw [h2]
  have h3 : (p + 1) * 2 ^ (7 * i) ≤ 2 ^ (64 - 7 * i) * 2 ^ (7 * i) := Nat.mul_le_mul_right _ h1
  rw [Nat.succ_mul] at h3
  omega

theorem part_sum_lt7 {c i n : Nat} (hn : n < 2 ^ (7 * i)) : n + c % 128 * 2 ^ (7 * i) < 2 ^ (7 * (i + 1)) := by
  have h2 : 2 ^ (7 * (i + 1)) = 128 * 2 ^ (7 * i) := by rw [show 7 * (i + 1) = 7 + 7 * i by omega, Nat.pow_add]
  have h3 : (c % 128 + 1) * 2 ^ (7 * i) ≤ 128 * 2 ^ (7 * i) := Nat.mul_le_mul_right _ (by omega)
  rw [Nat.succ_mul] at h3
  omega

theorem rsLoop_used (long : Bool) : ∀ (l : Bytes) (i n : Nat), (rsLoop long l i n).2.2 = 0 → i < (rsLoop long l i n).2.1 ∧ (rsLoop long l i n).2.1 ≤ i + l.length
  | [], i, n, h => by cases long <;> simp [rsLoop] at h
  | c :: l, i, n, h => by
    unfold rsLoop at h ⊢
    split at h
    · cases h
    · rename_i h1
      rw [if_neg h1]
      split at h
      · rename_i h2
        rw [if_pos h2]
        split at h
        · rename_i h3; rw [if_pos h3]; simp
        · cases h
      · rename_i h2
        rw [if_neg h2]
        have := rsLoop_used long l (i + 1) _ h
        rw [List.length_cons]; omega
theorem readShort_used {b : Bytes} (h : (readShort b).2.2 = 0) : 0 < (readShort b).2.1 ∧ (readShort b).2.1 ≤ b.length := by
  have := rsLoop_used _ _ _ _ h
  have hl : (b.take 10).length ≤ b.length := by simp; omega
  unfold readShort; omega
theorem rsLoop_lt (long : Bool) : ∀ (l : Bytes) (i n : Nat), n < 2 ^ (7 * i) → (rsLoop long l i n).1 < 2 ^ 64
  | [], i, n, h => by cases long <;> simp [rsLoop]
  | c :: l, i, n, h => by
    unfold rsLoop
    split
    · simp
    · rename_i h1
      split
      · split
        · exact part_sum_lt h (by omega)
        · simp
      · exact rsLoop_lt long l (i + 1) _ (part_sum_lt7 h)
theorem readShort_lt (b : Bytes) : (readShort b).1 < 2 ^ 64 := rsLoop_lt _ _ _ _ (by simp)

theorem fixed1_len (size n : Nat) : (fixed1 size n).length = size := by simp [fixed1]
theorem fixed1_take (size n j : Nat) (h : j < size) : (fixed1 size n).take (j + 1) = (fixed1 size n).take j ++ [UInt8.ofNat (n / 2 ^ (8 * j))] := by
  rw [List.take_succ_eq_append_getElem (by rw [fixed1_len]; exact h)]
  simp [fixed1]

/-- A text with its length, up to a bound: it, how many bytes, an error's number. -/
def readText (b : Bytes) (most : Nat) : Bytes × Nat × Nat :=
  let r := readShort b
  if r.2.2 ≠ 0 then ([], 0, r.2.2)
  else if r.1 > most then ([], 0, 3)
  else if r.1 > b.length - r.2.1 then ([], 0, 10)
  else ((b.drop r.2.1).take r.1, r.2.1 + r.1, 0)
end Go.Proofs.Ytpcojkbljgpecaa
