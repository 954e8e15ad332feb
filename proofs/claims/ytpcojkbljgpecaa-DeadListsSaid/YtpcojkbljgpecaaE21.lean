/- The engine, part 21: several guarded operations that may come now. -/
import Derived.Test.YtpcojkbljgpecaaE20
namespace Go.Proofs.Ytpcojkbljgpecaa
open Go
section
variable {P : Program} {n : Nat} {ops : Array Oper} {K : Env → World → Prop} {Q : Post} {ρ : Env} {w : World} {act rd : List Nat} {R : World → Prop}
theorem EP_forkG {i : Nat} {p q : Plan} {b' : Bool} {d : Option Nat} {op : Op} {ty : TypeId} {pos : String} {aft : Array Edge} {j : Nat} {want : Bool} {dj : Nat} {b : Bool} (ho : ops[i]? = some ⟨d, op, ty, pos, aft, some (j, want)⟩)
    (hj : (ops[j]?).bind (·.dst) = some dj) (hb : ρ dj = some (.bool b)) (hw : b = want) (hd : dstOk n d = true)
    (h : EOp P n ⟨d, op, ty, pos, aft, none⟩ (fun ρ' w' => (rq ops act rd i = true → R w') ∧ EPlan P n ops act rd R K p false ρ' w') ρ w) (hq : EPlan P n ops act rd R K q true ρ w) : EPlan P n ops act rd R K (.fork i p q) b' ρ w :=
  ⟨⟨_, true, ho, ⟨dj, hj, .inl ⟨b, hb, by simp [hw]⟩⟩, hd, by simp only [if_true]; exact h⟩, hq⟩
theorem EP_forkP {i : Nat} {p q : Plan} {b' : Bool} {d : Nat} {op : Op} {ty : TypeId} {pos : String} {aft : Array Edge} {j : Nat} {want : Bool} {dj : Nat} {b : Bool} (ho : ops[i]? = some ⟨some d, op, ty, pos, aft, some (j, want)⟩)
    (hj : (ops[j]?).bind (·.dst) = some dj) (hb : ρ dj = some (.bool b)) (hw : b = !want) (hd : Nat.blt d n = true) (hR : rq ops act rd i = true → R w)
    (h : EPlan P n ops act rd R K p false (upd ρ d undef) w) (hq : EPlan P n ops act rd R K q true ρ w) : EPlan P n ops act rd R K (.fork i p q) b' ρ w :=
  ⟨⟨_, false, ho, ⟨dj, hj, .inl ⟨b, hb, by cases want <;> simp [hw]⟩⟩, hd, by simpa using ⟨hR, h⟩⟩, hq⟩
theorem EP_forkU {i : Nat} {p q : Plan} {b' : Bool} {d : Nat} {op : Op} {ty : TypeId} {pos : String} {aft : Array Edge} {j : Nat} {want : Bool} {dj : Nat} (ho : ops[i]? = some ⟨some d, op, ty, pos, aft, some (j, want)⟩)
    (hj : (ops[j]?).bind (·.dst) = some dj) (hb : ρ dj = some undef) (hd : Nat.blt d n = true) (hR : rq ops act rd i = true → R w)
    (h : EPlan P n ops act rd R K p false (upd ρ d undef) w) (hq : EPlan P n ops act rd R K q true ρ w) : EPlan P n ops act rd R K (.fork i p q) b' ρ w :=
  ⟨⟨_, false, ho, ⟨dj, hj, .inr ⟨hb, rfl⟩⟩, hd, by simpa using ⟨hR, h⟩⟩, hq⟩
end
end Go.Proofs.Ytpcojkbljgpecaa
