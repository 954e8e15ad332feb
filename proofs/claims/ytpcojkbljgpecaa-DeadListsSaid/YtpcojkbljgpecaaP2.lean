/- Plain laws: the order of bytes; sorting that keeps the order of equals. -/
import Derived.Test.YtpcojkbljgpecaaE3
namespace Go.Proofs.Ytpcojkbljgpecaa
open Go

/-! ### The order of bytes -/
theorem bl_irr : ∀ a : BL, bl a a = false
  | [] => rfl
  | x :: a => by
    have h := bl_irr a
    unfold bl at h ⊢
    rw [Op.bytesLess, h]
    simp
theorem bl_cons (x y : UInt8) (a b : BL) : bl (x :: a) (y :: b) = true ↔ x < y ∨ x = y ∧ bl a b = true := by
  unfold bl
  rw [Op.bytesLess]
  simp
theorem bl_nil (a : BL) : bl a [] = false := by cases a <;> rfl
theorem bl_trans : ∀ {a b c : BL}, bl a b = true → bl b c = true → bl a c = true
  | a, [], _, h, _ => by rw [bl_nil] at h; cases h
  | _, b :: l, [], _, h => by rw [bl_nil] at h; cases h
  | [], _ :: _, _ :: _, _, _ => rfl
  | x :: a, y :: b, z :: c, h1, h2 => by
    rw [bl_cons] at *
    rcases h1 with h1 | ⟨rfl, h1⟩
    · rcases h2 with h2 | ⟨rfl, h2⟩
      · exact .inl (UInt8.lt_trans h1 h2)
      · exact .inl h1
    · rcases h2 with h2 | ⟨rfl, h2⟩
      · exact .inl h2
      · exact .inr ⟨rfl, bl_trans h1 h2⟩
theorem bl_tri : ∀ {a b : BL}, bl a b = false → bl b a = false → a = b
  | [], [], _, _ => rfl
  | [], _ :: _, h, _ => by cases h
  | _ :: _, [], _, h => by cases h
  | x :: a, y :: b, h1, h2 => by
    have g1 : ¬ (x < y ∨ x = y ∧ bl a b = true) := fun h => by rw [(bl_cons x y a b).2 h] at h1; cases h1
    have g2 : ¬ (y < x ∨ y = x ∧ bl b a = true) := fun h => by rw [(bl_cons y x b a).2 h] at h2; cases h2
    have e : x = y := by
      apply UInt8.le_antisymm
      · exact UInt8.not_lt.1 (fun h => g2 (.inl h))
      · exact UInt8.not_lt.1 (fun h => g1 (.inl h))
    subst e
    have h3 : bl a b = false := by cases h : bl a b; rfl; exact absurd (.inr ⟨rfl, h⟩) g1
    have h4 : bl b a = false := by cases h : bl b a; rfl; exact absurd (.inr ⟨rfl, h⟩) g2
    rw [bl_tri h3 h4]
theorem bl_asymm {a b : BL} (h : bl a b = true) : bl b a = false := by
  cases h2 : bl b a
  · rfl
  · have := bl_trans h h2
    rw [bl_irr] at this
    cases this
theorem bl_ne {a b : BL} (h : bl a b = true) : a ≠ b := fun e => by subst e; rw [bl_irr] at h; cases h
theorem bl_ge_trans {a b c : BL} (h1 : bl b a = false) (h2 : bl c b = false) : bl c a = false := by
  cases h : bl c a
  · rfl
  · cases h3 : bl a b
    · rw [bl_tri h1 h3] at h2
      rw [h2] at h
      cases h
    · rw [bl_trans h h3] at h2
      cases h2
theorem bl_lt_le {a b c : BL} (h1 : bl a b = true) (h2 : bl c b = false) : bl a c = true := by
  cases h3 : bl b c
  · rw [bl_tri h3 h2] at h1; exact h1
  · exact bl_trans h1 h3
theorem bl_le_lt {a b c : BL} (h1 : bl b a = false) (h2 : bl b c = true) : bl a c = true := by
  cases h3 : bl a b
  · rw [bl_tri h3 h1]; exact h2
  · exact bl_trans h3 h2

/-- What Compare tells. -/
def cmpB (a b : BL) : Int := if bl a b = true then -1 else if a = b then 0 else 1
theorem cmpB_lt {a b : BL} : cmpB a b < 0 ↔ bl a b = true := by
  unfold cmpB
  split
  · simp [*]
  · rename_i h
    split
    · simp [h]
    · simp [h]
theorem cmpB_eq {a b : BL} : cmpB a b = 0 ↔ a = b := by
  unfold cmpB
  split
  · rename_i h
    simp only [show ((-1 : Int) = 0) = False by simp, false_iff]
    exact bl_ne h
  · split
    · rename_i h; simp [h]
    · rename_i h; simp [h]

/-! ### Sorting -/
section
variable {α : Type} (key : α → BL)

/-- Each is not above those behind it. -/
def Srt (l : List α) : Prop := l.Pairwise fun x y => bl (key y) (key x) = false
/-- The same things, those of each key in the same order. -/
def EqK (l r : List α) : Prop := ∀ k, l.filter (fun x => decide (key x = k)) = r.filter (fun x => decide (key x = k))
variable {key}
theorem EqK.refl (l : List α) : EqK key l l := fun _ => rfl
theorem EqK.symm {l r : List α} (h : EqK key l r) : EqK key r l := fun k => (h k).symm
theorem EqK.trans {l r s : List α} (h : EqK key l r) (h2 : EqK key r s) : EqK key l s := fun k => (h k).trans (h2 k)
theorem EqK.app {l r l' r' : List α} (h : EqK key l r) (h' : EqK key l' r') : EqK key (l ++ l') (r ++ r') := fun k => by
  rw [List.filter_append, List.filter_append, h k, h' k]
theorem EqK.mem {l r : List α} (h : EqK key l r) {x : α} (hx : x ∈ l) : x ∈ r := by
  have : x ∈ l.filter (fun y => decide (key y = key x)) := List.mem_filter.2 ⟨hx, by simp⟩
  rw [h] at this
  exact (List.mem_filter.1 this).1
theorem EqK.len : ∀ {l r : List α}, EqK key l r → l.length = r.length
  | [], r, h => by
    cases r with
    | nil => rfl
    | cons y r =>
      have := h (key y)
      simp at this
  | x :: l, r, h => by
    have hx : x ∈ r := h.mem List.mem_cons_self
    -- the first of x's key in r
    have h1 := h (key x)
    rw [List.filter_cons_of_pos (by simp)] at h1
    obtain ⟨a, b, hr, ha⟩ : ∃ a b, r = a ++ x :: b ∧ ∀ y, y ∈ a → key y ≠ key x := by
      clear hx h
      induction r with
      | nil => simp at h1
      | cons y r ih =>
        by_cases hy : key y = key x
        · rw [List.filter_cons_of_pos (by simpa using hy)] at h1
          injection h1 with h1 _
          exact ⟨[], r, by rw [h1]; rfl, fun y hy => nomatch hy⟩
        · rw [List.filter_cons_of_neg (by simpa using hy)] at h1
          obtain ⟨a, b, hr, ha⟩ := ih h1
          exact ⟨y :: a, b, by rw [hr]; rfl, fun z hz => by
            rcases List.mem_cons.1 hz with rfl | hz
            · exact hy
            · exact ha z hz⟩
    subst hr
    have h2 : EqK key l (a ++ b) := fun k => by
      have := h k
      by_cases hk : key x = k
      · subst hk
        have hna : a.filter (fun y => decide (key y = key x)) = [] := List.filter_eq_nil_iff.2 (fun y hy => by simpa using ha y hy)
        rw [List.filter_cons_of_pos (by simp), List.filter_append, List.filter_cons_of_pos (by simp), hna, List.nil_append] at this
        injection this with _ this
        rw [List.filter_append, hna, List.nil_append, this]
      · rw [List.filter_cons_of_neg (by simpa using hk), List.filter_append, List.filter_cons_of_neg (by simpa using hk), ← List.filter_append] at this
        exact this
    have := EqK.len h2
    simp only [List.length_append, List.length_cons] at this ⊢
    omega
termination_by l => l.length
/-- Two rows change places, of which one is wholly below the other. -/
theorem EqK.swap {u v : List α} (h : ∀ x, x ∈ u → ∀ y, y ∈ v → bl (key y) (key x) = true) : EqK key (u ++ v) (v ++ u) := fun k => by
  rw [List.filter_append, List.filter_append]
  by_cases hu : u.filter (fun x => decide (key x = k)) = []
  · rw [hu]; simp
  · obtain ⟨x, hx⟩ := List.exists_mem_of_ne_nil _ hu
    rw [List.mem_filter] at hx
    have hv : v.filter (fun x => decide (key x = k)) = [] := List.filter_eq_nil_iff.2 (fun y hy => by
      have h1 := bl_ne (h x hx.1 y hy)
      have h2 : key x = k := by simpa using hx.2
      simp only [decide_eq_true_eq]
      rintro rfl
      exact h1 h2.symm)
    rw [hv]; simp
/-- The sorted row of a row is one. -/
theorem Srt.unique : ∀ {l r : List α}, Srt key l → Srt key r → EqK key l r → l = r
  | [], r, _, _, h => (List.eq_nil_of_length_eq_zero h.len.symm).symm
  | x :: l, [], _, _, h => by have := h.len; simp at this
  | x :: l, y :: r, hl, hr, h => by
    have hl' := List.pairwise_cons.1 hl
    have hr' := List.pairwise_cons.1 hr
    have hk : key x = key y := by
      apply bl_tri
      · have : y ∈ x :: l := h.symm.mem List.mem_cons_self
        cases hb : bl (key x) (key y)
        · rfl
        · have hx : x ∈ y :: r := h.mem List.mem_cons_self
          rcases List.mem_cons.1 hx with rfl | hx
          · rw [bl_irr] at hb; cases hb
          · rw [hr'.1 x hx] at hb; cases hb
      · cases hb : bl (key y) (key x)
        · rfl
        · have hy : y ∈ x :: l := h.symm.mem List.mem_cons_self
          rcases List.mem_cons.1 hy with rfl | hy
          · rw [bl_irr] at hb; cases hb
          · rw [hl'.1 y hy] at hb; cases hb
    have h1 := h (key x)
    rw [List.filter_cons_of_pos (by simp), List.filter_cons_of_pos (by simp [hk])] at h1
    injection h1 with h1 h2
    subst h1
    have : EqK key l r := fun k => by
      have := h k
      by_cases hx : key x = k
      · rw [List.filter_cons_of_pos (by simpa using hx), List.filter_cons_of_pos (by simpa using hx)] at this
        injection this
      · rw [List.filter_cons_of_neg (by simpa using hx), List.filter_cons_of_neg (by simpa using hx)] at this
        exact this
    rw [Srt.unique hl'.2 hr'.2 this]

variable (key)
/-- A thing behind all that are not above it. -/
def insK (x : α) : List α → List α
  | [] => [x]
  | y :: l => if bl (key x) (key y) = true then x :: y :: l else y :: insK x l
/-- Sorted, equals as they stood. -/
def sortK (l : List α) : List α := l.foldl (fun acc x => insK key x acc) []
variable {key}
theorem insK_mem {x z : α} : ∀ {l : List α}, z ∈ insK key x l ↔ z = x ∨ z ∈ l
  | [] => by simp [insK]
  | y :: l => by
    unfold insK
    split
    · simp
    · simp only [List.mem_cons, insK_mem (l := l)]
      constructor
      · rintro (h | h | h)
        · exact .inr (.inl h)
        · exact .inl h
        · exact .inr (.inr h)
      · rintro (h | h | h)
        · exact .inr (.inl h)
        · exact .inl h
        · exact .inr (.inr h)
theorem insK_split (x : α) : ∀ (l : List α), Srt key l → ∃ p q, l = p ++ q ∧ insK key x l = p ++ x :: q ∧ (∀ y, y ∈ p → bl (key x) (key y) = false) ∧ (∀ y, y ∈ q → bl (key x) (key y) = true)
  | [], _ => ⟨[], [], rfl, rfl, fun _ h => (nomatch h), fun _ h => (nomatch h)⟩
  | y :: l, h => by
    have h' := List.pairwise_cons.1 h
    by_cases hb : bl (key x) (key y) = true
    · refine ⟨[], y :: l, rfl, by rw [insK, if_pos hb]; rfl, fun _ h => (nomatch h), fun z hz => ?_⟩
      rcases List.mem_cons.1 hz with rfl | hz
      · exact hb
      · exact bl_lt_le hb (h'.1 z hz)
    · obtain ⟨p, q, h1, h2, h3, h4⟩ := insK_split x l h'.2
      refine ⟨y :: p, q, by rw [h1]; rfl, by rw [insK, if_neg hb, h2]; rfl, fun z hz => ?_, h4⟩
      rcases List.mem_cons.1 hz with rfl | hz
      · exact Bool.eq_false_iff.2 hb
      · exact h3 z hz
theorem Srt.app {p q : List α} (hp : Srt key p) (hq : Srt key q) (h : ∀ x, x ∈ p → ∀ y, y ∈ q → bl (key y) (key x) = false) : Srt key (p ++ q) := List.pairwise_append.2 ⟨hp, hq, h⟩
theorem insK_eqk (x : α) (l : List α) (hl : Srt key l) : EqK key (l ++ [x]) (insK key x l) := by
  obtain ⟨p, q, h1, h2, h3, h4⟩ := insK_split (key := key) x l hl
  rw [h2, h1, List.append_assoc]
  refine (EqK.refl p).app (r' := [x] ++ q) (EqK.swap fun y hy z hz => ?_)
  obtain rfl := List.mem_singleton.1 hz
  exact h4 y hy
theorem insK_srt (x : α) (l : List α) (hl : Srt key l) : Srt key (insK key x l) := by
  obtain ⟨p, q, h1, h2, h3, h4⟩ := insK_split (key := key) x l hl
  rw [h2]
  subst h1
  have hpq := List.pairwise_append.1 hl
  refine Srt.app hpq.1 (List.pairwise_cons.2 ⟨fun y hy => bl_asymm (h4 y hy), hpq.2.1⟩) fun y hy z hz => ?_
  rcases List.mem_cons.1 hz with rfl | hz
  · exact h3 y hy
  · exact hpq.2.2 y hy z hz
theorem sortK_snoc (l : List α) (x : α) : sortK key (l ++ [x]) = insK key x (sortK key l) := by simp [sortK]
theorem sortK_both (l : List α) : Srt key (sortK key l) ∧ EqK key l (sortK key l) := by
  have : ∀ n, ∀ l : List α, l.length = n → Srt key (sortK key l) ∧ EqK key l (sortK key l) := by
    intro n
    induction n with
    | zero => intro l hl; obtain rfl := List.eq_nil_of_length_eq_zero hl; exact ⟨.nil, EqK.refl _⟩
    | succ n ih =>
      intro l hl
      have hne : l ≠ [] := by intro h; subst h; simp at hl
      obtain ⟨l', x, rfl⟩ : ∃ l' x, l = l' ++ [x] := ⟨l.dropLast, l.getLast hne, (List.dropLast_concat_getLast hne).symm⟩
      obtain ⟨h1, h2⟩ := ih l' (by simpa using hl)
      rw [sortK_snoc]
      exact ⟨insK_srt x _ h1, (h2.app (EqK.refl [x])).trans (insK_eqk x _ h1)⟩
  exact this _ l rfl
theorem sortK_srt (l : List α) : Srt key (sortK key l) := (sortK_both l).1
theorem sortK_eqk (l : List α) : EqK key l (sortK key l) := (sortK_both l).2
theorem sortK_len (l : List α) : (sortK key l).length = l.length := (sortK_eqk l).len.symm
/-- Whatever is sorted, and has the same things in the same order, is the sorted row. -/
theorem sortK_of {l r : List α} (h : EqK key l r) (hr : Srt key r) : r = sortK key l := Srt.unique hr (sortK_srt l) (h.symm.trans (sortK_eqk l))
theorem sortK_self {l : List α} (h : Srt key l) : sortK key l = l := (sortK_of (EqK.refl l) h).symm
theorem sortK_congr {l r : List α} (h : EqK key l r) : sortK key l = sortK key r := (sortK_of (h.symm.trans (sortK_eqk l)) (sortK_srt l))

theorem insK_of (x : α) : ∀ (p q : List α), (∀ y, y ∈ p → bl (key x) (key y) = false) → (∀ y, y ∈ q → bl (key x) (key y) = true) → insK key x (p ++ q) = p ++ x :: q
  | [], [], _, _ => rfl
  | [], y :: q, _, h2 => by
    show insK key x (y :: q) = _
    rw [insK, if_pos (h2 y List.mem_cons_self)]; rfl
  | y :: p, q, h1, h2 => by
    show insK key x (y :: (p ++ q)) = _
    rw [insK, if_neg (by rw [h1 y List.mem_cons_self]; simp), insK_of x p q (fun z hz => h1 z (List.mem_cons_of_mem _ hz)) h2]; rfl
theorem srt_le {l : List α} (h : Srt key l) {i j : Nat} (hij : i ≤ j) (hj : j < l.length) : bl (key l[j]) (key l[i]) = false := by
  rcases Nat.lt_or_ge i j with hlt | hge
  · exact List.pairwise_iff_getElem.1 h i j (by omega) hj hlt
  · have : i = j := by omega
    subst this
    exact bl_irr _
theorem srt_one (x : α) : Srt key [x] := List.pairwise_singleton _ _
theorem srt_le1 {l : List α} (h : l.length ≤ 1) : Srt key l := by
  match l, h with
  | [], _ => exact .nil
  | [x], _ => exact srt_one x
/-- A thing behind those of a sorted row that are below it. -/
theorem sortK_front (x : α) {B : List α} (hB : Srt key B) {i : Nat} (hi : i ≤ B.length) (h1 : ∀ (h : 0 < i), bl (key (B[i - 1]'(by omega))) (key x) = true) (h2 : ∀ (h : i < B.length), bl (key B[i]) (key x) = false) : B.take i ++ x :: B.drop i = sortK key (x :: B) := by
  have hb := List.take_append_drop i B
  have hlow : ∀ y, y ∈ B.take i → bl (key y) (key x) = true := fun y hy => by
    obtain ⟨k, hk, rfl⟩ := List.getElem_of_mem hy
    rw [List.length_take] at hk
    rw [List.getElem_take]
    have g1 := h1 (by omega)
    have g2 := srt_le hB (show k ≤ i - 1 by omega) (by omega)
    exact bl_le_lt g2 g1
  have hhi : ∀ y, y ∈ B.drop i → bl (key y) (key x) = false := fun y hy => by
    obtain ⟨k, hk, rfl⟩ := List.getElem_of_mem hy
    rw [List.length_drop] at hk
    rw [List.getElem_drop]
    have g1 := h2 (by omega)
    have g2 := srt_le hB (show i ≤ i + k by omega) (by omega)
    exact bl_ge_trans g1 g2
  have hp := List.pairwise_append.1 (show Srt key (B.take i ++ B.drop i) by rw [hb]; exact hB)
  refine sortK_of ?_ (Srt.app hp.1 (List.pairwise_cons.2 ⟨hhi, hp.2.1⟩) fun y hy z hz => ?_)
  · have h3 : EqK key ([x] ++ B.take i) (B.take i ++ [x]) := EqK.swap fun y hy z hz => by
      obtain rfl := List.mem_singleton.1 hy
      exact hlow z hz
    have h4 := h3.app (EqK.refl (B.drop i))
    rw [List.append_assoc, hb, List.append_assoc] at h4
    exact h4
  · rcases List.mem_cons.1 hz with rfl | hz
    · exact bl_asymm (hlow y hy)
    · exact hp.2.2 y hy z hz
/-- A thing ahead of those of a sorted row that are above it. -/
theorem sortK_back (x : α) {A : List α} (hA : Srt key A) {i : Nat} (hi : i ≤ A.length) (h1 : ∀ (h : 0 < i), bl (key x) (key (A[i - 1]'(by omega))) = false) (h2 : ∀ (h : i < A.length), bl (key x) (key A[i]) = true) : A.take i ++ x :: A.drop i = sortK key (A ++ [x]) := by
  have hb := List.take_append_drop i A
  rw [sortK_snoc, sortK_self hA]
  conv => rhs; rw [← hb]
  refine (insK_of x _ _ (fun y hy => ?_) (fun y hy => ?_)).symm
  · obtain ⟨k, hk, rfl⟩ := List.getElem_of_mem hy
    rw [List.length_take] at hk
    rw [List.getElem_take]
    exact bl_ge_trans (srt_le hA (show k ≤ i - 1 by omega) (by omega)) (h1 (by omega))
  · obtain ⟨k, hk, rfl⟩ := List.getElem_of_mem hy
    rw [List.length_drop] at hk
    rw [List.getElem_drop]
    exact bl_lt_le (h2 (by omega)) (srt_le hA (show i ≤ i + k by omega) (by omega))
/-- Two sorted rows, cut so that what is behind the first cut is above what is ahead of the second one. -/
theorem sortK_merge {A B : List α} (hA : Srt key A) (hB : Srt key B) {i j : Nat} (hi : i ≤ A.length) (hj : j ≤ B.length)
    (h1 : ∀ (h : 0 < i) (h' : j < B.length), bl (key B[j]) (key (A[i - 1]'(by omega))) = false) (h2 : ∀ (h : i < A.length) (h' : 0 < j), bl (key (B[j - 1]'(by omega))) (key A[i]) = true) :
    EqK key (A ++ B) ((A.take i ++ B.take j) ++ (A.drop i ++ B.drop j)) ∧ sortK key (A.take i ++ B.take j) ++ sortK key (A.drop i ++ B.drop j) = sortK key (A ++ B) := by
  have ha := List.take_append_drop i A
  have hb := List.take_append_drop j B
  have hpa := List.pairwise_append.1 (show Srt key (A.take i ++ A.drop i) by rw [ha]; exact hA)
  have hpb := List.pairwise_append.1 (show Srt key (B.take j ++ B.drop j) by rw [hb]; exact hB)
  have huv : ∀ x, x ∈ A.drop i → ∀ y, y ∈ B.take j → bl (key y) (key x) = true := fun x hx y hy => by
    obtain ⟨k, hk, rfl⟩ := List.getElem_of_mem hx
    obtain ⟨q, hq, rfl⟩ := List.getElem_of_mem hy
    rw [List.length_drop] at hk
    rw [List.length_take] at hq
    rw [List.getElem_drop, List.getElem_take]
    exact bl_le_lt (srt_le hB (show q ≤ j - 1 by omega) (by omega)) (bl_lt_le (h2 (by omega) (by omega)) (srt_le hA (show i ≤ i + k by omega) (by omega)))
  have hab : ∀ x, x ∈ A.take i → ∀ y, y ∈ B.drop j → bl (key y) (key x) = false := fun x hx y hy => by
    obtain ⟨k, hk, rfl⟩ := List.getElem_of_mem hx
    obtain ⟨q, hq, rfl⟩ := List.getElem_of_mem hy
    rw [List.length_take] at hk
    rw [List.length_drop] at hq
    rw [List.getElem_take, List.getElem_drop]
    exact bl_ge_trans (bl_ge_trans (srt_le hA (show k ≤ i - 1 by omega) (by omega)) (h1 (by omega) (by omega))) (srt_le hB (show j ≤ j + q by omega) (by omega))
  have he : EqK key (A ++ B) ((A.take i ++ B.take j) ++ (A.drop i ++ B.drop j)) := by
    have h3 := (EqK.refl (key := key) (A.take i)).app ((EqK.swap huv).app (EqK.refl (B.drop j)))
    rw [List.append_assoc, hb, ← List.append_assoc, ha] at h3
    rw [List.append_assoc, ← List.append_assoc (B.take j)]
    exact h3
  refine ⟨he, sortK_of (he.trans ((sortK_eqk _).app (sortK_eqk _))) (Srt.app (sortK_srt _) (sortK_srt _) fun x hx y hy => ?_)⟩
  have hx' := (sortK_eqk (key := key) (A.take i ++ B.take j)).symm.mem hx
  have hy' := (sortK_eqk (key := key) (A.drop i ++ B.drop j)).symm.mem hy
  rcases List.mem_append.1 hx' with hx' | hx'
  · rcases List.mem_append.1 hy' with hy' | hy'
    · exact hpa.2.2 x hx' y hy'
    · exact hab x hx' y hy'
  · rcases List.mem_append.1 hy' with hy' | hy'
    · exact bl_asymm (huv y hy' x hx')
    · exact hpb.2.2 x hx' y hy'
variable (key)
/-- Rows of so many are sorted, each for itself. -/
def Rn (bs : Nat) (l : List α) : Prop := ∀ i, Srt key ((l.drop (i * bs)).take bs)
variable {key}
theorem Rn.tail {bs : Nat} {l : List α} (h : Rn key bs l) (k : Nat) : Rn key bs (l.drop (k * bs)) := fun i => by
  rw [List.drop_drop, ← Nat.add_mul]
  exact h (k + i)
theorem Rn.head {bs : Nat} {l : List α} (h : Rn key bs l) : Srt key (l.take bs) := by
  have := h 0
  simpa using this
theorem Rn.short {bs : Nat} {l : List α} (h : Srt key l) (hl : l.length ≤ bs) : Rn key bs l := fun i => (h.sublist (List.drop_sublist _ _)).sublist (List.take_sublist _ _)
/-- One sorted row more, ahead. -/
theorem Rn.cons {bs : Nat} {c l : List α} (hc : Srt key c) (hl : c.length = bs) (h : Rn key bs l) : Rn key bs (c ++ l)
  | 0 => by rw [Nat.zero_mul, List.drop_zero, List.take_append_of_le_length (by omega), List.take_of_length_le (by omega)]; exact hc
  | i + 1 => by
    have : (c ++ l).drop ((i + 1) * bs) = l.drop (i * bs) := by
      rw [List.drop_append, List.drop_of_length_le (by rw [hl, Nat.succ_mul]; omega), List.nil_append]
      congr 1
      rw [hl, Nat.succ_mul]; omega
    rw [this]
    exact h i
theorem Rn.app {bs k : Nat} {c l : List α} (hc : Rn key bs c) (hl : c.length = k * bs) (h : Rn key bs l) : Rn key bs (c ++ l) := by
  induction k generalizing c with
  | zero =>
    have : c = [] := List.eq_nil_of_length_eq_zero (by simpa using hl)
    subst this
    exact h
  | succ k ih =>
    rw [Nat.succ_mul] at hl
    have h1 := ih (c := c.drop bs) (by have := hc.tail 1; rwa [Nat.one_mul] at this) (by rw [List.length_drop]; omega)
    have h2 := Rn.cons hc.head (by rw [List.length_take]; omega) h1
    rwa [← List.append_assoc, List.take_append_drop] at h2
/-! ### Each once -/
variable (key)
/-- Of neighbours of one key the first one stays; prev: the one ahead. -/
def dedGo (prev : α) : List α → List α
  | [] => []
  | y :: r => if key y = key prev then dedGo y r else y :: dedGo y r
def ded : List α → List α
  | [] => []
  | x :: l => x :: dedGo key x l
/-- The place of the first one that is not below. -/
def lowK (x : α) (l : List α) : Nat := l.findIdx fun y => !bl (key y) (key x)
def refIns (x : α) (out : List α) : List α := if (out[lowK key x out]?).map key = some (key x) then out else out.take (lowK key x out) ++ x :: out.drop (lowK key x out)
/-- Of each key the first one, in order. -/
def refSort (l : List α) : List α := l.foldl (fun out x => refIns key x out) []
variable {key}
theorem dedGo_sub (prev : α) : ∀ (l : List α), (dedGo key prev l).Sublist l
  | [] => .slnil
  | y :: r => by
    unfold dedGo
    split
    · exact (dedGo_sub y r).cons y
    · exact (dedGo_sub y r).cons_cons y
theorem ded_sub : ∀ (l : List α), (ded key l).Sublist l
  | [] => .slnil
  | x :: l => (dedGo_sub x l).cons_cons x
theorem ded_len (l : List α) : (ded key l).length ≤ l.length := (ded_sub l).length_le
theorem dedGo_filter (prev : α) : ∀ (l : List α), Srt key (prev :: l) → ∀ k, (dedGo key prev l).filter (fun x => decide (key x = k)) = if k = key prev then [] else (l.filter (fun x => decide (key x = k))).take 1
  | [], _, k => by simp [dedGo]
  | y :: r, h, k => by
    have h1 := List.pairwise_cons.1 h
    have h2 := List.pairwise_cons.1 h1.2
    have ih := dedGo_filter y r h1.2 k
    unfold dedGo
    by_cases hy : key y = key prev
    · rw [if_pos hy, ih, hy]
      by_cases hk : k = key prev
      · rw [if_pos hk, if_pos hk]
      · rw [if_neg hk, if_neg hk, List.filter_cons_of_neg (by simp only [decide_eq_true_eq]; rw [hy]; exact fun e => hk e.symm)]
    · rw [if_neg hy]
      by_cases hk : k = key y
      · subst hk
        rw [List.filter_cons_of_pos (by simp), ih, if_pos rfl, if_neg hy, List.filter_cons_of_pos (by simp)]
        simp
      · rw [List.filter_cons_of_neg (by simp only [decide_eq_true_eq]; exact fun e => hk e.symm), ih, if_neg hk, List.filter_cons_of_neg (by simp only [decide_eq_true_eq]; exact fun e => hk e.symm)]
        by_cases hp : k = key prev
        · rw [if_pos hp]
          have : r.filter (fun x => decide (key x = k)) = [] := List.filter_eq_nil_iff.2 (fun z hz => by
            simp only [decide_eq_true_eq]
            intro e
            have g1 := h1.1 y List.mem_cons_self
            have g2 := h2.1 z hz
            rw [e, hp] at g2
            exact hy (bl_tri g1 g2))
          rw [this]; rfl
        · rw [if_neg hp]
theorem ded_filter : ∀ (l : List α), Srt key l → ∀ k, (ded key l).filter (fun x => decide (key x = k)) = (l.filter (fun x => decide (key x = k))).take 1
  | [], _, _ => rfl
  | x :: l, h, k => by
    have ih := dedGo_filter x l h k
    unfold ded
    by_cases hk : k = key x
    · subst hk
      rw [List.filter_cons_of_pos (by simp), ih, if_pos rfl, List.filter_cons_of_pos (by simp)]; simp
    · rw [List.filter_cons_of_neg (by simp only [decide_eq_true_eq]; exact fun e => hk e.symm), ih, if_neg hk, List.filter_cons_of_neg (by simp only [decide_eq_true_eq]; exact fun e => hk e.symm)]
theorem lowK_le (x : α) (l : List α) : lowK key x l ≤ l.length := List.findIdx_le_length
theorem lowK_split (x : α) (l : List α) (h : Srt key l) : (∀ y, y ∈ l.take (lowK key x l) → bl (key y) (key x) = true) ∧ (∀ y, y ∈ l.drop (lowK key x l) → bl (key y) (key x) = false) := by
  induction l with
  | nil => exact ⟨fun _ h => (nomatch h), fun _ h => (nomatch h)⟩
  | cons z l ih =>
    have h' := List.pairwise_cons.1 h
    unfold lowK
    rw [List.findIdx_cons]
    cases hz : bl (key z) (key x)
    · simp only [Bool.not_false, cond_true, List.take_zero, List.drop_zero]
      refine ⟨fun _ h => (nomatch h), fun y hy => ?_⟩
      rcases List.mem_cons.1 hy with rfl | hy
      · exact hz
      · exact bl_ge_trans hz (h'.1 y hy)
    · simp only [Bool.not_true, cond_false]
      obtain ⟨i1, i2⟩ := ih h'.2
      refine ⟨fun y hy => ?_, fun y hy => ?_⟩
      · rw [List.take_succ_cons] at hy
        rcases List.mem_cons.1 hy with rfl | hy
        · exact hz
        · exact i1 y hy
      · rw [List.drop_succ_cons] at hy
        exact i2 y hy
theorem refIns_both (x : α) (out : List α) (h : Srt key out) (hk : ∀ k, (out.filter (fun y => decide (key y = k))).length ≤ 1) :
    Srt key (refIns key x out) ∧ (∀ k, (refIns key x out).filter (fun y => decide (key y = k)) = ((out ++ [x]).filter (fun y => decide (key y = k))).take 1) := by
  obtain ⟨h1, h2⟩ := lowK_split x out h
  have hd : out.take (lowK key x out) ++ out.drop (lowK key x out) = out := List.take_append_drop _ _
  unfold refIns
  split
  · rename_i hx
    refine ⟨h, fun k => ?_⟩
    rw [List.filter_append]
    obtain ⟨z, hz, hzk⟩ := Option.map_eq_some_iff.1 hx
    have hzm : z ∈ out := List.mem_of_getElem? hz
    by_cases he : key x = k
    · have hne : z ∈ out.filter (fun y => decide (key y = k)) := List.mem_filter.2 ⟨hzm, by simp [hzk, he]⟩
      have hl := hk k
      have : 0 < (out.filter (fun y => decide (key y = k))).length := List.length_pos_of_mem hne
      rw [List.take_append_of_le_length (by omega), List.take_of_length_le hl]
    · rw [List.filter_cons_of_neg (by simpa using he), List.filter_nil, List.append_nil, List.take_of_length_le (hk k)]
  · rename_i hx
    have hno : ∀ y, y ∈ out → key y ≠ key x := by
      intro y hy e
      rw [← hd] at hy
      rcases List.mem_append.1 hy with hy | hy
      · exact bl_ne (h1 y hy) e
      · -- the head of what is behind has the key of x
        cases hdd : out.drop (lowK key x out) with
        | nil => rw [hdd] at hy; cases hy
        | cons z r =>
          rw [hdd] at hy h2
          have hsr : Srt key (z :: r) := by rw [← hdd]; exact h.sublist (List.drop_sublist _ _)
          have hzx : key z = key x := by
            apply bl_tri (h2 z List.mem_cons_self)
            rcases List.mem_cons.1 hy with rfl | hy
            · rw [e]; exact bl_irr _
            · have := (List.pairwise_cons.1 hsr).1 y hy
              rw [e] at this
              exact this
          apply hx
          have : out[lowK key x out]? = some z := by
            have := congrArg (·[0]?) hdd
            simpa using this
          rw [this, Option.map_some, hzx]
    have h3 : ∀ y, y ∈ out.drop (lowK key x out) → bl (key x) (key y) = true := fun y hy => by
      cases hb : bl (key x) (key y)
      · exact absurd (bl_tri (h2 y hy) hb) (hno y (List.mem_of_mem_drop hy))
      · rfl
    have hsp := List.pairwise_append.1 (show Srt key (out.take (lowK key x out) ++ out.drop (lowK key x out)) by rw [hd]; exact h)
    refine ⟨Srt.app hsp.1 (List.pairwise_cons.2 ⟨fun y hy => bl_asymm (h3 y hy), hsp.2.1⟩) fun y hy z hz => ?_, fun k => ?_⟩
    · rcases List.mem_cons.1 hz with rfl | hz
      · exact bl_asymm (h1 y hy)
      · exact hsp.2.2 y hy z hz
    · have hf : (out.take (lowK key x out) ++ x :: out.drop (lowK key x out)).filter (fun y => decide (key y = k)) = (out ++ [x]).filter (fun y => decide (key y = k)) := by
        have e1 : EqK key (out ++ [x]) (out.take (lowK key x out) ++ x :: out.drop (lowK key x out)) := by
          conv => lhs; rw [← hd]
          rw [List.append_assoc]
          refine (EqK.refl _).app (r' := [x] ++ _) (EqK.swap fun y hy z hz => ?_)
          obtain rfl := List.mem_singleton.1 hz
          exact h3 y hy
        exact (e1 k).symm
      rw [hf, List.take_of_length_le]
      rw [List.filter_append, List.length_append]
      by_cases he : key x = k
      · have : out.filter (fun y => decide (key y = k)) = [] := List.filter_eq_nil_iff.2 (fun y hy => by
          simp only [decide_eq_true_eq]; rw [← he]; exact hno y hy)
        rw [this]
        have := List.length_filter_le (fun y => decide (key y = k)) [x]
        simpa using this
      · rw [List.filter_cons_of_neg (by simpa using he)]
        have := hk k
        simpa using this
theorem refSort_snoc (l : List α) (x : α) : refSort key (l ++ [x]) = refIns key x (refSort key l) := by simp [refSort]
theorem refSort_both (l : List α) : Srt key (refSort key l) ∧ (∀ k, (refSort key l).filter (fun y => decide (key y = k)) = (l.filter (fun y => decide (key y = k))).take 1) := by
  have : ∀ n, ∀ l : List α, l.length = n → Srt key (refSort key l) ∧ (∀ k, (refSort key l).filter (fun y => decide (key y = k)) = (l.filter (fun y => decide (key y = k))).take 1) := by
    intro n
    induction n with
    | zero => intro l hl; obtain rfl := List.eq_nil_of_length_eq_zero hl; exact ⟨.nil, fun _ => rfl⟩
    | succ n ih =>
      intro l hl
      have hne : l ≠ [] := by intro h; subst h; simp at hl
      obtain ⟨l', x, rfl⟩ : ∃ l' x, l = l' ++ [x] := ⟨l.dropLast, l.getLast hne, (List.dropLast_concat_getLast hne).symm⟩
      obtain ⟨h1, h2⟩ := ih l' (by simpa using hl)
      have h3 := refIns_both x _ h1 (fun k => by rw [h2 k, List.length_take]; omega)
      rw [refSort_snoc]
      refine ⟨h3.1, fun k => ?_⟩
      rw [h3.2 k, List.filter_append, h2 k, List.filter_append]
      cases hq : l'.filter (fun y => decide (key y = k)) with
      | nil => rfl
      | cons z q => simp
  exact this _ l rfl
theorem ded_sortK (l : List α) : ded key (sortK key l) = refSort key l := by
  refine Srt.unique ((sortK_srt l).sublist (ded_sub _)) (refSort_both l).1 (fun k => ?_)
  rw [ded_filter _ (sortK_srt l), (refSort_both l).2, ← sortK_eqk l k]

theorem Rn.tail1 {bs : Nat} {l : List α} (h : Rn key bs l) : Rn key bs (l.drop bs) := by have := h.tail 1; rwa [Nat.one_mul] at this
theorem Rn.all {bs : Nat} {l : List α} (h : Rn key bs l) (hl : l.length ≤ bs) : Srt key l := by
  have := h.head
  rwa [List.take_of_length_le hl] at this
/-- One sorted row more, behind. -/
theorem Rn.snoc {bs k : Nat} {c l : List α} (hc : Rn key bs c) (hl : c.length = k * bs) (h : Srt key l) (h2 : l.length ≤ bs) : Rn key bs (c ++ l) := hc.app hl (Rn.short h h2)
theorem dedGo_snoc (y : α) : ∀ (l : List α) (prev : α), dedGo key prev (l ++ [y]) = dedGo key prev l ++ (if key y = key (l.getLastD prev) then [] else [y])
  | [], prev => by
    simp only [List.nil_append, dedGo, List.getLastD_nil]
    by_cases h : key y = key prev <;> simp [h]
  | z :: l, prev => by
    have h1 := dedGo_snoc y l z
    have h2 : (z :: l).getLastD prev = l.getLastD z := by cases l <;> rfl
    rw [List.cons_append, dedGo, h1, h2]
    conv => rhs; rw [dedGo]
    split <;> simp
theorem ded_take_succ {L : List α} {m : Nat} (hm : 1 ≤ m) (h : m < L.length) : ded key (L.take (m + 1)) = ded key (L.take m) ++ (if key L[m] = key (L[m - 1]'(by omega)) then [] else [L[m]]) := by
  obtain ⟨x, r, rfl⟩ : ∃ x r, L = x :: r := by
    cases L with
    | nil => simp at h
    | cons x r => exact ⟨x, r, rfl⟩
  obtain ⟨q, rfl⟩ : ∃ q, m = q + 1 := ⟨m - 1, by omega⟩
  rw [List.take_succ_eq_append_getElem h, List.take_succ_cons, List.cons_append]
  show x :: dedGo key x (r.take q ++ [_]) = (x :: dedGo key x (r.take q)) ++ _
  rw [dedGo_snoc]
  have hl : (r.take q).getLastD x = (x :: r)[q + 1 - 1]'(by simp at h ⊢; omega) := by
    simp only [Nat.add_sub_cancel]
    cases q with
    | zero => rfl
    | succ q =>
      have hq : q < r.length := by simp at h; omega
      rw [List.take_succ_eq_append_getElem hq, List.getLastD_concat]
      rfl
  rw [hl]
  rfl
theorem ded_short {L : List α} (h : L.length ≤ 1) : ded key L = L := by
  match L, h with
  | [], _ => rfl
  | [x], _ => rfl
theorem lowK_of {x : α} {l : List α} {k : Nat} (hk : k ≤ l.length) (h1 : ∀ i (h : i < l.length), i < k → bl (key l[i]) (key x) = true) (h2 : ∀ (h : k < l.length), bl (key l[k]) (key x) = false) : lowK key x l = k := by
  unfold lowK
  rcases Nat.lt_or_ge k l.length with h | h
  · rw [List.findIdx_eq h]
    exact ⟨by rw [h2 h]; rfl, fun j hj => by rw [h1 j (by omega) hj]; rfl⟩
  · rw [List.findIdx_eq_length_of_false (fun y hy => ?_)]
    · omega
    · obtain ⟨i, hi, rfl⟩ := List.getElem_of_mem hy
      rw [h1 i hi (by omega)]; rfl
theorem refIns_len (x : α) (out : List α) : (refIns key x out).length ≤ out.length + 1 := by
  unfold refIns
  split
  · omega
  · simp only [List.length_append, List.length_cons, List.length_take, List.length_drop]; omega
theorem refSort_len (l : List α) : (refSort key l).length ≤ l.length := by
  have : ∀ (l acc : List α), (l.foldl (fun out x => refIns key x out) acc).length ≤ acc.length + l.length := by
    intro l
    induction l with
    | nil => intro acc; simp
    | cons x l ih =>
      intro acc
      have h1 := ih (refIns key x acc)
      have h2 := refIns_len (key := key) x acc
      simp only [List.foldl_cons, List.length_cons]; omega
  have := this l []
  simpa [refSort] using this
/-! ### Two that change places -/
theorem swp_mid (A M B : List α) (x y : α) {i j : Nat} (hi : i = A.length) (hj : j = A.length + 1 + M.length) : ((A ++ x :: (M ++ y :: B)).set i y).set j x = A ++ y :: (M ++ x :: B) := by
  subst hi; subst hj
  rw [List.set_append_right _ _ (Nat.le_refl _), Nat.sub_self, List.set_cons_zero, List.set_append_right _ _ (by omega)]
  rw [show A.length + 1 + M.length - A.length = M.length + 1 by omega, List.set_cons_succ, List.set_append_right _ _ (Nat.le_refl _), Nat.sub_self, List.set_cons_zero]
end
end Go.Proofs.Ytpcojkbljgpecaa
