/- Models: lists of blocks, and their keys. -/
import Derived.Test.YtpcojkbljgpecaaM4
import Derived.Test.YtpcojkbljgpecaaE21
import Derived.Test.YtpcojkbljgpecaaE18
namespace Go.Proofs.Ytpcojkbljgpecaa
open Go
/-- A block's key. -/
def keyP (p : Ptr) : BL := beB p.birth 8 ++ beB p.pos 4
theorem keyP_len (p : Ptr) : (keyP p).length = 12 := by simp [keyP, beB_len]
abbrev dP (ao : Option Addr) (c : Nat) (l : List Ptr) : Asn := dSl ao l.length c 36 (l.flatMap Ptr.l)
abbrev oP (v : Value) (n : Nat) (l : List Ptr) : Asn := oSl v 30 36 n (l.flatMap Ptr.l)
theorem Ptr.oneL (l : List Ptr) : ∀ u ∈ l.flatMap Ptr.l, u.oneCell' = true := by
  intro u hu
  obtain ⟨p, _, hp⟩ := List.mem_flatMap.1 hu
  exact Ptr.one_l p u hp
theorem ptr_flat (p : Ptr) : [p.val].flatMap (fun x => x.cells.toList) = p.l := by simp [Value.cells, Ptr.val, Ptr.cells]
theorem ptrs_snoc (l : List Ptr) (p : Ptr) : l.flatMap Ptr.l ++ [p.val].flatMap (fun x => x.cells.toList) = (l ++ [p]).flatMap Ptr.l := by rw [ptr_flat]; simp
theorem ptr_oneF (p : Ptr) : ∀ u ∈ [p.val].flatMap (fun x => x.cells.toList), u.oneCell' = true := by rw [ptr_flat]; exact Ptr.one_l p
theorem beB_zero (n : Int) : beB n 0 = [] := rfl
theorem beB_succ (n : Int) (k : Nat) : beB n (k + 1) = byteOf (n / 2 ^ (8 * k)) :: beB n k := rfl

theorem filter_yes {α : Type} {p : α → Bool} {l : List α} {i : Nat} (hi : i < l.length) (h : p l[i] = true) : (l.take (i + 1)).filter p = (l.take i).filter p ++ [l[i]] := by
  rw [List.take_succ_eq_append_getElem hi, List.filter_append, List.filter_cons_of_pos h, List.filter_nil]
theorem filter_no {α : Type} {p : α → Bool} {l : List α} {i : Nat} (hi : i < l.length) (h : p l[i] = false) : (l.take (i + 1)).filter p = (l.take i).filter p := by
  rw [List.take_succ_eq_append_getElem hi, List.filter_append, List.filter_cons_of_neg (by rw [h]; simp), List.filter_nil, List.append_nil]
def elder (ep : Int) (p : Ptr) : Bool := decide (p.birth ≤ ep)
def young (ep : Int) (p : Ptr) : Bool := !elder ep p
theorem filter_le {α : Type} (p : α → Bool) (l : List α) (i : Nat) : ((l.take i).filter p).length ≤ l.length := Nat.le_trans (List.length_filter_le _ _) (by rw [List.length_take]; omega)
theorem take_eq_succ {α : Type} {a b : List α} {i : Nat} (ha : i < a.length) (hb : i < b.length) (h : a.take i = b.take i) (he : a[i] = b[i]) : a.take (i + 1) = b.take (i + 1) := by
  rw [List.take_succ_eq_append_getElem ha, List.take_succ_eq_append_getElem hb, h, he]
theorem ne_of_get {α : Type} {a b : List α} {i : Nat} (ha : i < a.length) (hb : i < b.length) (he : a[i] ≠ b[i]) : a ≠ b := by
  rintro rfl; exact he rfl
theorem get_x1 {α : Type} (X A R : List α) {k : Nat} (h : k < A.length) : (X ++ (A ++ R))[X.length + k]? = some A[k] := by
  rw [List.getElem?_append_right (by omega), show X.length + k - X.length = k by omega, List.getElem?_append_left h, List.getElem?_eq_getElem h]
theorem get_x2 {α : Type} (X A B R : List α) {k : Nat} (h : k < B.length) : (X ++ (A ++ (B ++ R)))[X.length + A.length + k]? = some B[k] := by
  have := get_x1 (X ++ A) B R h
  rwa [List.length_append, List.append_assoc] at this
/-- A thing among others. -/
def insR {α : Type} (X P : List α) (x : α) (R : List α) (j : Nat) : List α := X ++ (P.take j ++ x :: (P.drop j ++ R))
theorem insR_len {α : Type} (X P R : List α) (x : α) (j : Nat) : (insR X P x R j).length = X.length + P.length + 1 + R.length := by
  simp only [insR, List.length_append, List.length_cons, List.length_take, List.length_drop]; omega
theorem insR_get {α : Type} (X P R : List α) (x : α) {j : Nat} (h : j ≤ P.length) : (insR X P x R j)[X.length + j]? = some x := by
  have hl : (X ++ P.take j).length = X.length + j := by rw [List.length_append, List.length_take]; omega
  rw [insR, ← List.append_assoc, List.getElem?_append_right (by omega), hl, Nat.sub_self]; rfl
theorem insR_split {α : Type} (X P R : List α) (x : α) {j : Nat} (h : j < P.length) : insR X P x R (j + 1) = (X ++ P.take j) ++ P[j] :: ([] ++ x :: (P.drop (j + 1) ++ R)) := by
  rw [insR, List.take_succ_eq_append_getElem h]; simp only [List.append_assoc, List.cons_append, List.nil_append]
theorem insR_split' {α : Type} (X P R : List α) (x : α) {j : Nat} (h : j < P.length) : insR X P x R j = (X ++ P.take j) ++ x :: ([] ++ P[j] :: (P.drop (j + 1) ++ R)) := by
  rw [insR, List.drop_eq_getElem_cons h]; simp only [List.append_assoc, List.cons_append, List.nil_append]
theorem insR_low {α : Type} (X P R : List α) (x : α) {j : Nat} (h : j < P.length) : (insR X P x R (j + 1))[X.length + j]? = some P[j] := by
  have hl : (X ++ P.take j).length = X.length + j := by rw [List.length_append, List.length_take]; omega
  rw [insR_split X P R x h, List.getElem?_append_right (by omega), hl, Nat.sub_self]; rfl
theorem insR_high {α : Type} (X P R : List α) (x : α) {j : Nat} (h : j < P.length) : (insR X P x R j)[X.length + (j + 1)]? = some P[j] := by
  have hl : (X ++ P.take j).length = X.length + j := by rw [List.length_append, List.length_take]; omega
  rw [insR_split' X P R x h, List.getElem?_append_right (by omega), hl, show X.length + (j + 1) - (X.length + j) = 1 by omega]; rfl
theorem insR_down {α : Type} (X P R : List α) (x : α) {j : Nat} (h : j < P.length) : ((insR X P x R (j + 1)).set (X.length + (j + 1)) P[j]).set (X.length + j) x = insR X P x R j := by
  have hl : (X ++ P.take j).length = X.length + j := by rw [List.length_append, List.length_take]; omega
  rw [List.set_comm _ _ (by omega), insR_split X P R x h, insR_split' X P R x h]
  exact swp_mid _ [] _ _ _ hl.symm (by rw [hl]; rfl)
theorem insR_up {α : Type} (X P R : List α) (x : α) {j : Nat} (h : j < P.length) : ((insR X P x R j).set (X.length + j) P[j]).set (X.length + (j + 1)) x = insR X P x R (j + 1) := by
  have hl : (X ++ P.take j).length = X.length + j := by rw [List.length_append, List.length_take]; omega
  rw [insR_split X P R x h, insR_split' X P R x h]
  exact swp_mid _ [] _ _ _ hl.symm (by rw [hl]; rfl)
/-- Rows that change places, so many of their things. -/
def swR {α : Type} (X A M B Y : List α) (i : Nat) : List α := X ++ (B.take i ++ (A.drop i ++ (M ++ (A.take i ++ (B.drop i ++ Y)))))
theorem swR_len {α : Type} (X A M B Y : List α) (i : Nat) : (swR X A M B Y i).length = X.length + A.length + M.length + B.length + Y.length := by
  simp only [swR, List.length_append, List.length_take, List.length_drop]; omega
theorem swR_l1 {α : Type} (X B : List α) {i : Nat} (hB : i < B.length) : (X ++ B.take i).length = X.length + i := by rw [List.length_append, List.length_take]; omega
theorem swR_l2 {α : Type} (A M : List α) {i : Nat} (hA : i < A.length) : (A.drop (i + 1) ++ (M ++ A.take i)).length = A.length + M.length - 1 := by rw [List.length_append, List.length_append, List.length_take, List.length_drop]; omega
section
variable {α : Type} (X A M B Y : List α) {i : Nat} (hA : i < A.length) (hB : i < B.length)
include hA hB
theorem swR_split : swR X A M B Y i = (X ++ B.take i) ++ A[i] :: ((A.drop (i + 1) ++ (M ++ A.take i)) ++ B[i] :: (B.drop (i + 1) ++ Y)) := by
  rw [swR, List.drop_eq_getElem_cons hA, List.drop_eq_getElem_cons hB]; simp only [List.append_assoc, List.cons_append, List.nil_append]
theorem swR_succ : swR X A M B Y (i + 1) = (X ++ B.take i) ++ B[i] :: ((A.drop (i + 1) ++ (M ++ A.take i)) ++ A[i] :: (B.drop (i + 1) ++ Y)) := by
  rw [swR, List.take_succ_eq_append_getElem hA, List.take_succ_eq_append_getElem hB]; simp only [List.append_assoc, List.cons_append, List.nil_append]
theorem swR_a : (swR X A M B Y i)[X.length + i]? = some A[i] := by
  have h := swR_l1 X B hB
  rw [swR_split X A M B Y hA hB, List.getElem?_append_right (by omega), h, Nat.sub_self]; rfl
theorem swR_b {p : Nat} (hp : p = X.length + A.length + M.length) : (swR X A M B Y i)[p + i]? = some B[i] := by
  have h1 := swR_l1 X B hB
  have h2 := swR_l2 A M hA
  rw [swR_split X A M B Y hA hB, List.getElem?_append_right (by omega), h1, show p + i - (X.length + i) = (A.length + M.length - 1) + 1 by omega, List.getElem?_cons_succ, List.getElem?_append_right (by omega), h2, Nat.sub_self]; rfl
theorem swR_step {p : Nat} (hp : p = X.length + A.length + M.length) : ((swR X A M B Y i).set (X.length + i) B[i]).set (p + i) A[i] = swR X A M B Y (i + 1) := by
  have h1 := swR_l1 X B hB
  have h2 := swR_l2 A M hA
  rw [swR_split X A M B Y hA hB, swR_succ X A M B Y hA hB]
  exact swp_mid _ _ _ _ _ h1.symm (by omega)
end
end Go.Proofs.Ytpcojkbljgpecaa
