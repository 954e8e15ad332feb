/- The engine, part 22: pointers that come in. -/
import Derived.Test.YtpcojkbljgpecaaE10
import Derived.Test.YtpcojkbljgpecaaE18
namespace Go.Proofs.Ytpcojkbljgpecaa
open Go Go.ChangeShapes Go.WideShapes Go.ChangeAt Go.RowKit
/-- A number of 64 bits. -/
def I64 (n : Int) : Prop := -9223372036854775808 ≤ n ∧ n ≤ 9223372036854775807
def PtrIn (p : Ptr) : Prop := I64 p.pos ∧ I64 p.birth ∧ I64 p.len
theorem Opens.ptr {P : Program} {t ti tu ta te : TypeId} (h : PtrT P t ti tu ta te) (hc : P.cellsOf t = 36) (hci : P.cellsOf ti = 1) (hcu : P.cellsOf tu = 1) : Opens P t Ptr.l (fun _ => emp) PtrIn := by
  intro H enc w fuel cs x hx
  obtain ⟨hl, n, hf⟩ := open_field h.u hx
  rw [hc] at hl
  have hca : P.cellsOf ta = 32 := by unfold Program.cellsOf; rw [h.ia]; rfl
  have hce : P.cellsOf te = 1 := by unfold Program.cellsOf; rw [h.ie]; rfl
  have key : ∀ (i : Nat) (ty off : Nat), ((P.fieldsOf t).toList.map (fun f => (f.name == "_", f.type, f.offset)))[i]? = some (false, ty, off) → ∃ x', DataW.trod enc P w 0 (fun _ => true) true n ty ((cs.drop off).take (P.cellsOf ty)) = some x' := by
    intro i ty off hi
    rw [List.getElem?_map] at hi
    obtain ⟨f, hf1, hf2⟩ := Option.map_eq_some_iff.1 hi
    have hf3 : (P.fieldsOf t)[i]? = some f := by simpa using hf1
    obtain ⟨x', hx'⟩ := hf i f hf3
    simp only [Prod.mk.injEq] at hf2
    obtain ⟨_, rfl, rfl⟩ := hf2
    exact ⟨x', hx'⟩
  rw [h.fs] at key
  obtain ⟨_, x0⟩ := key 0 ti 0 rfl
  obtain ⟨_, x1⟩ := key 1 ti 1 rfl
  obtain ⟨_, x2⟩ := key 2 ti 2 rfl
  obtain ⟨_, x3⟩ := key 3 tu 3 rfl
  obtain ⟨_, x4⟩ := key 4 ta 4 rfl
  obtain ⟨n0, ⟨e0, _⟩, r0⟩ := Opens.int h.ui H enc w n _ _ x0
  obtain ⟨n1, ⟨e1, _⟩, r1⟩ := Opens.int h.ui H enc w n _ _ x1
  obtain ⟨n2, ⟨e2, _⟩, r2⟩ := Opens.int h.ui H enc w n _ _ x2
  obtain ⟨n3, ⟨e3, _⟩, r3⟩ := Opens.u32 h.uu H enc w n _ _ x3
  obtain ⟨l, ⟨e4, _⟩, r4⟩ := Opens.bytesN h.ua h.ue hce hca H enc w n _ _ x4
  rw [hci] at e0 e1 e2
  rw [hcu] at e3
  rw [hca] at e4
  refine ⟨⟨n0, n1, n2, n3, l, r4⟩, ⟨?_, trivial, fun _ h => h.elim⟩, r0, r1, r2⟩
  match cs, hl, e0, e1, e2, e3, e4 with
  | a :: b :: c :: d :: r, hl, e0, e1, e2, e3, e4 =>
    simp only [List.drop_zero, List.take_succ_cons, List.take_zero, List.cons.injEq, and_true] at e0
    simp only [List.drop_succ_cons, List.drop_zero, List.take_succ_cons, List.take_zero, List.cons.injEq, and_true] at e1 e2 e3
    simp only [List.drop_succ_cons, List.drop_zero] at e4
    rw [List.take_of_length_le (by simp at hl; omega)] at e4
    subst e0; subst e1; subst e2; subst e3; subst e4
    rfl
#print axioms Opens.ptr
end Go.Proofs.Ytpcojkbljgpecaa
