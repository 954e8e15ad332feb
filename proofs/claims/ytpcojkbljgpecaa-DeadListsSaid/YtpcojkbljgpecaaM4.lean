/- Models: spans of numbers. -/
import Derived.Test.YtpcojkbljgpecaaE11
namespace Go.Proofs.Ytpcojkbljgpecaa
open Go
structure Sp where
  a : Int
  b : Int
deriving DecidableEq
def Sp.l (s : Sp) : List Value := [.int .i64 s.a, .int .i64 s.b]
def Sp.val (s : Sp) : Value := .agg s.l.toArray
theorem Sp.len (s : Sp) : s.l.length = 2 := rfl
theorem Sp.oneA (s : Sp) : (s.l.toArray.all (·.oneCell')) = true := by simp [Sp.l, Value.oneCell']
theorem Sp.one (l : List Sp) : ∀ u ∈ l.flatMap Sp.l, u.oneCell' = true := by
  intro u hu
  obtain ⟨s, _, hs⟩ := List.mem_flatMap.1 hu
  simp only [Sp.l, List.mem_cons, List.not_mem_nil, or_false] at hs
  rcases hs with rfl | rfl <;> rfl
abbrev dS (ao : Option Addr) (c : Nat) (l : List Sp) : Asn := dSl ao l.length c 2 (l.flatMap Sp.l)
theorem spFlat_snoc (l : List Sp) (s : Sp) : l.flatMap Sp.l ++ [s.val].flatMap (fun x => x.cells.toList) = (l ++ [s]).flatMap Sp.l := by simp [Sp.val, Value.cells]

def Sp.right (s : Sp) : Bool := decide (0 ≤ s.a) && decide (s.a < s.b) && decide (s.b ≤ 1099511627776)
theorem Sp.right_iff {s : Sp} : s.right = true ↔ 0 ≤ s.a ∧ s.a < s.b ∧ s.b ≤ 1099511627776 := by simp [Sp.right, and_assoc]
def validFrom : Int → List Sp → Bool
  | _, [] => true
  | last, s :: l => s.right && decide (last < s.a) && validFrom s.b l
def valid (l : List Sp) : Bool := validFrom (-1) l
theorem validFrom_cons {last : Int} {s : Sp} {l : List Sp} : validFrom last (s :: l) = true ↔ s.right = true ∧ last < s.a ∧ validFrom s.b l = true := by
  simp [validFrom, and_assoc]
theorem validFrom_get : ∀ {l : List Sp} {last : Int}, validFrom last l = true → ∀ i (h : i < l.length), l[i].right = true ∧ last < l[i].a
  | s :: l, last, h, 0, _ => by rw [validFrom_cons] at h; exact ⟨h.1, h.2.1⟩
  | s :: l, last, h, i + 1, hi => by
    rw [validFrom_cons] at h
    obtain ⟨h1, h2, h3⟩ := h
    have := validFrom_get h3 i (by simpa using hi)
    rw [Sp.right_iff] at h1
    exact ⟨this.1, by simp only [List.getElem_cons_succ]; omega⟩
theorem valid_get {l : List Sp} (h : valid l = true) (i : Nat) (hi : i < l.length) : 0 ≤ l[i].a ∧ l[i].a < l[i].b ∧ l[i].b ≤ 1099511627776 := Sp.right_iff.1 (validFrom_get h i hi).1
theorem validFrom_drop : ∀ {l : List Sp} {last : Int}, validFrom last l = true → ∀ i (h : i < l.length), validFrom l[i].b (l.drop (i + 1)) = true
  | s :: l, last, h, 0, _ => by rw [validFrom_cons] at h; simpa using h.2.2
  | s :: l, last, h, i + 1, hi => by
    rw [validFrom_cons] at h
    simpa using validFrom_drop h.2.2 i (by simpa using hi)
theorem valid_lt {l : List Sp} (h : valid l = true) {i j : Nat} (hij : i < j) (hj : j < l.length) : l[i].b < l[j].a := by
  have h1 := validFrom_drop h i (by omega)
  have h2 := (validFrom_get h1 (j - (i + 1)) (by rw [List.length_drop]; omega)).2
  rw [List.getElem_drop] at h2
  have e : i + 1 + (j - (i + 1)) = j := by omega
  simp only [e] at h2
  exact h2
theorem valid_mono {l : List Sp} (h : valid l = true) {i j : Nat} (hij : i < j) (hj : j < l.length) : l[i].b < l[j].b := by
  have := valid_lt h hij hj
  have := valid_get h j hj
  omega

/-- The place of the first span that is not wholly ahead of a number. -/
def firstAt (l : List Sp) (n : Int) : Nat := l.findIdx fun s => decide (n ≤ s.b)
theorem firstAt_le (l : List Sp) (n : Int) : firstAt l n ≤ l.length := List.findIdx_le_length
theorem firstAt_of {l : List Sp} {n : Int} {k : Nat} (hk : k ≤ l.length) (h1 : ∀ i (h : i < l.length), i < k → l[i].b < n) (h2 : ∀ i (h : i < l.length), k ≤ i → n ≤ l[i].b) : firstAt l n = k := by
  unfold firstAt
  rcases Nat.lt_or_ge k l.length with h | h
  · rw [List.findIdx_eq h]
    exact ⟨by simpa using h2 k h (Nat.le_refl _), fun j hj => by have := h1 j (by omega) hj; simp; omega⟩
  · have : k = l.length := by omega
    subst this
    rw [List.findIdx_eq_length]
    intro x hx
    obtain ⟨i, hi, rfl⟩ := List.getElem_of_mem hx
    have := h1 i hi hi
    simp; omega

def spReplace (l : List Sp) (a b : Nat) (ins : List Sp) : List Sp := l.take a ++ ins ++ l.drop b
def total (l : List Sp) : Int := if valid l = true then (l.map fun s => s.b - s.a).sum else 0
def absorb (s : Sp) : List Sp → Sp × Nat
  | [] => (s, 0)
  | x :: l => if x.a ≤ s.b then ((absorb ⟨min s.a x.a, max s.b x.b⟩ l).1, (absorb ⟨min s.a x.a, max s.b x.b⟩ l).2 + 1) else (s, 0)
theorem absorb_le : ∀ (l : List Sp) (s : Sp), (absorb s l).2 ≤ l.length
  | [], _ => Nat.le_refl _
  | x :: l, s => by
    unfold absorb
    split
    · have := absorb_le l ⟨min s.a x.a, max s.b x.b⟩
      simp only [List.length_cons]; omega
    · exact Nat.zero_le _
def spAdd (l : List Sp) (s : Sp) : List Sp :=
  if valid l = true ∧ s.right = true then spReplace l (firstAt l s.a) (firstAt l s.a + (absorb s (l.drop (firstAt l s.a))).2) [(absorb s (l.drop (firstAt l s.a))).1] else l
def P2 (x s : Sp) : List Sp := [⟨x.a, s.a⟩, ⟨s.b, x.b⟩]
def P2c (x s : Sp) : Array Value := #[.int .i64 x.a, .int .i64 s.a, .int .i64 s.b, .int .i64 x.b]
theorem P2_len (x s : Sp) : (P2 x s).length = 2 := rfl
theorem P2_ext (x s : Sp) (i : Nat) (h : i < (P2 x s).length) : (P2c x s).extract ((i : Int).toNat * 2) ((i : Int).toNat * 2 + 2) = (P2 x s)[i].l.toArray := by
  match i, h with
  | 0, _ => rfl
  | 1, _ => rfl
def P2ok (x : Sp) (p : Sp) : Bool := p.right && decide (x.a ≤ p.a)
theorem P2_yes {x s : Sp} {i : Nat} (h : i < (P2 x s).length) (h1 : (P2 x s)[i].right = true) (h2 : x.a ≤ (P2 x s)[i].a) : ((P2 x s).take (i + 1)).filter (P2ok x) = ((P2 x s).take i).filter (P2ok x) ++ [(P2 x s)[i]] := by
  rw [List.take_succ_eq_append_getElem h, List.filter_append]
  congr 1
  simp [P2ok, h1, h2]
theorem P2_no {x s : Sp} {i : Nat} (h : i < (P2 x s).length) (h1 : ¬ ((P2 x s)[i].right = true ∧ x.a ≤ (P2 x s)[i].a)) : ((P2 x s).take (i + 1)).filter (P2ok x) = ((P2 x s).take i).filter (P2ok x) := by
  rw [List.take_succ_eq_append_getElem h, List.filter_append]
  have : P2ok x (P2 x s)[i] = false := by
    cases hb : P2ok x (P2 x s)[i]
    · rfl
    · rw [P2ok, Bool.and_eq_true, decide_eq_true_eq] at hb; exact absurd hb h1
  rw [List.filter_cons_of_neg (by rw [this]; simp)]
  simp
def piecesOf (x s : Sp) : List Sp := (P2 x s).filter (P2ok x)
def remGo (s : Sp) : List Sp → List Sp × Nat
  | [] => ([], 0)
  | x :: l => if x.a < s.b then (piecesOf x s ++ (remGo s l).1, (remGo s l).2 + 1) else ([], 0)
theorem remGo_le (s : Sp) : ∀ (l : List Sp), (remGo s l).2 ≤ l.length ∧ (remGo s l).1.length ≤ 2 * l.length
  | [] => ⟨Nat.le_refl _, Nat.le_refl _⟩
  | x :: l => by
    unfold remGo
    split
    · have := remGo_le s l
      have h2 : (piecesOf x s).length ≤ 2 := List.length_filter_le _ _
      simp only [List.length_cons, List.length_append]; omega
    · simp
def spRemove (l : List Sp) (s : Sp) : List Sp :=
  if valid l = true ∧ s.right = true then spReplace l (firstAt l (s.a + 1)) (firstAt l (s.a + 1) + (remGo s (l.drop (firstAt l (s.a + 1)))).2) (remGo s (l.drop (firstAt l (s.a + 1)))).1 else l
def spMeets (l : List Sp) (s : Sp) : Bool :=
  valid l && s.right && (match l[firstAt l (s.a + 1)]? with | some x => decide (x.a < s.b) | none => false)
def spFind (l : List Sp) (n : Int) : Int := if n < 1 then -1 else match l.find? (fun s => decide (n ≤ s.b - s.a)) with | some s => s.a | none => -1
theorem spFind_none {l : List Sp} {n : Int} (h : ∀ k (hk : k < l.length), ¬ n ≤ l[k].b - l[k].a) : spFind l n = -1 := by
  unfold spFind
  split
  · rfl
  · have : l.find? (fun s => decide (n ≤ s.b - s.a)) = none := by
      rw [List.find?_eq_none]
      intro x hx
      obtain ⟨i, hi, rfl⟩ := List.getElem_of_mem hx
      simpa using h i hi
    rw [this]
theorem spFind_some {l : List Sp} {n : Int} (h1 : 1 ≤ n) {k : Nat} (hk : k < l.length) (h2 : n ≤ l[k].b - l[k].a) (h : ∀ j (hj : j < l.length), j < k → ¬ n ≤ l[j].b - l[j].a) : spFind l n = l[k].a := by
  unfold spFind
  rw [if_neg (by omega)]
  have : l.find? (fun s => decide (n ≤ s.b - s.a)) = some l[k] := by
    rw [List.find?_eq_some_iff_getElem]
    exact ⟨by simpa using h2, k, hk, rfl, fun j hj => by simpa using h j (by omega) hj⟩
  rw [this]
end Go.Proofs.Ytpcojkbljgpecaa
