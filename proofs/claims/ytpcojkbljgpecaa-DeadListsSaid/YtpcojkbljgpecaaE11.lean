/- The engine, part 11: slices of structs, element by element; slices and maps and pointers compared with nil. -/
import Derived.Test.YtpcojkbljgpecaaE10
import Derived.Laws.Cover3
namespace Go.Proofs.Ytpcojkbljgpecaa
open Go
section
variable {P : Program} {n : Nat} {ρ : Env} {K : Env → World → Prop} {W w : World} {F D : Nat → Prop} {es ds : List Asn} {d : Nat} {do_ : Option Nat} {ty : TypeId} {pos : String} {aft : Array Edge} {x y : Operand} {t t' : TypeId} {v : Value}

theorem flat_seg {α : Type} (sz : Nat) (f : α → List Value) (hf : ∀ x, (f x).length = sz) {l : List α} {i j : Nat} {e : α} {u : Value} (hi : l[i]? = some e) (hu : (f e)[j]? = some u) : (l.flatMap f)[i * sz + j]? = some u := by
  have hj : j < sz := by have := (List.getElem?_eq_some_iff.1 hu).1; rwa [hf] at this
  rw [flat_get sz f hf l i j e hi hj, hu]

/-- An element of a slice that is only read. -/
theorem R_ldE {α : Type} {f : α → List Value} {l : List α} {b o a m c sz i : Nat} {e : α} (hd : (dSl (some ⟨b, o, none⟩) m c sz (l.flatMap f)).P w) (hf : ∀ x, (f x).length = sz) (hag : ∀ w, (isAgg t).run P w = .ok true w) (hsz : ∀ w, (sizeOf t).run P w = .ok sz w)
    (hx : evO ρ x = some (.pointer (some ⟨b, a, none⟩))) (ha : a = o + i * sz) (hi : l[i]? = some e) (hp : 0 < sz) : RunV P n ⟨do_, .load t x, ty, pos, aft, none⟩ ρ w (.agg (f e).toArray) :=
  R_ldR hd hag hsz hx ha (hf e) (by
    intro hn
    have := congrArg List.length hn
    rw [flat_len sz f hf, List.length_nil] at this
    have hil := (List.getElem?_eq_some_iff.1 hi).1
    rcases Nat.mul_eq_zero.1 this with h | h <;> omega) (fun j u hu => flat_seg sz f hf hi hu)

/-- A scalar of an element. -/
theorem R_ldF {α : Type} {f : α → List Value} {l : List α} {b o a m c sz i j : Nat} {e : α} (hd : (dSl (some ⟨b, o, none⟩) m c sz (l.flatMap f)).P w) (hf : ∀ x, (f x).length = sz) (hag : ∀ w, (isAgg t).run P w = .ok false w)
    (hx : evO ρ x = some (.pointer (some ⟨b, a, none⟩))) (ha : a = o + i * sz + j) (hi : l[i]? = some e) (hv : (f e)[j]? = some v) : RunV P n ⟨do_, .load t x, ty, pos, aft, none⟩ ρ w v :=
  R_ld (i := i * sz + j) hd hag hx (by omega) (flat_seg sz f hf hi hv)

theorem dSlsomeF {α : Type} {f : α → List Value} {l : List α} {ao : Option Addr} {m c sz i : Nat} (hd : (dSl ao m c sz (l.flatMap f)).P w) (hf : ∀ x, (f x).length = sz) (hp : 0 < sz) (hi : i < l.length) : ∃ b o, ao = some ⟨b, o, none⟩ := by
  refine dSl.some hd (fun hn => ?_)
  have := congrArg List.length hn
  rw [flat_len sz f hf, List.length_nil] at this
  rcases Nat.mul_eq_zero.1 this with h | h <;> omega

/-- A cut of a slice of structs that is only read. -/
theorem St.dEcut {α : Type} {f : α → List Value} {l : List α} {ao : Option Addr} {c sz : Nat} (hs : St W F D es ds w) {j : Nat} (hj : ds[j]? = some (dSl ao l.length c sz (l.flatMap f))) (hf : ∀ x, (f x).length = sz) (lo hi : Nat) (h1 : lo ≤ hi) (h2 : hi ≤ l.length) :
    St W F D es (ds ++ [dSl (cutO ao c lo sz) ((l.drop lo).take (hi - lo)).length (c - lo) sz (((l.drop lo).take (hi - lo)).flatMap f)]) w := by
  have e1 : ((l.drop lo).take (hi - lo)).length = hi - lo := by rw [List.length_take, List.length_drop]; omega
  have e2 : ((l.flatMap f).drop (lo * sz)).take ((hi - lo) * sz) = ((l.drop lo).take (hi - lo)).flatMap f := by
    have hdrop : ∀ (l : List α) (k : Nat), (l.flatMap f).drop (k * sz) = (l.drop k).flatMap f := by
      intro l k
      induction k generalizing l with
      | zero => simp
      | succ k ih =>
        cases l with
        | nil => simp
        | cons y l =>
          rw [List.flatMap_cons, List.drop_succ_cons, ← ih l, Nat.succ_mul, Nat.add_comm]
          rw [← List.drop_drop]
          congr 1
          rw [List.drop_append_of_le_length (by rw [hf]; omega), List.drop_of_length_le (by rw [hf]; omega), List.nil_append]
    have htake : ∀ (l : List α) (k : Nat), (l.flatMap f).take (k * sz) = (l.take k).flatMap f := by
      intro l k
      induction k generalizing l with
      | zero => simp
      | succ k ih =>
        cases l with
        | nil => simp
        | cons y l =>
          rw [List.flatMap_cons, List.take_succ_cons, List.flatMap_cons, ← ih l, Nat.succ_mul]
          rw [List.take_append, hf, List.take_of_length_le (by rw [hf]; omega)]
          congr 2; omega
    rw [hdrop, htake]
  refine hs.derive (List.mem_of_getElem? hj) _ (fun h => ?_) (fun k hk => dSl.cut_foot (l := lo) (h := hi) k (by rw [e2]; exact hk))
  have h3 := dSl.cut (l := lo) (h := hi) h h1 h2
  rw [e2] at h3
  rw [e1]; exact h3
theorem St.dEtake {α : Type} {f : α → List Value} {l : List α} {ao : Option Addr} {c sz : Nat} (hs : St W F D es ds w) {j : Nat} (hj : ds[j]? = some (dSl ao l.length c sz (l.flatMap f))) (hf : ∀ x, (f x).length = sz) (hi : Nat) (h2 : hi ≤ l.length) :
    St W F D es (ds ++ [dSl ao (l.take hi).length c sz ((l.take hi).flatMap f)]) w := by
  have h := hs.dEcut hj hf 0 hi (Nat.zero_le _) h2
  have e : cutO ao c 0 sz = ao := by
    unfold cutO
    split
    · rfl
    · cases ao with
      | none => rfl
      | some a => simp [Addr.add]
  rw [e, List.drop_zero, Nat.sub_zero, Nat.sub_zero] at h
  exact h
theorem St.dEdrop {α : Type} {f : α → List Value} {l : List α} {ao : Option Addr} {c sz : Nat} (hs : St W F D es ds w) {j : Nat} (hj : ds[j]? = some (dSl ao l.length c sz (l.flatMap f))) (hf : ∀ x, (f x).length = sz) (lo : Nat) (h2 : lo ≤ l.length) :
    St W F D es (ds ++ [dSl (cutO ao c lo sz) (l.drop lo).length (c - lo) sz ((l.drop lo).flatMap f)]) w := by
  have h := hs.dEcut hj hf lo l.length h2 (Nat.le_refl _)
  rwa [List.take_of_length_le (by rw [List.length_drop]; omega)] at h

theorem R_eqlSlNil {ao : Option Addr} {m c : Nat} {e : TypeId} (hu : P.underlying t = some (.slice e)) (hx : evO ρ x = some (.slice ao m c)) (hy : evO ρ y = some (.slice none 0 0)) : RunV P n ⟨do_, .binOp .eql t x y t', ty, pos, aft, none⟩ ρ w (.bool ao.isNone) := fun ac hr => by
  have h := run_equal_slice_nil (P := P) w t e ao m c hu
  simp [execOp, hr.eval hx, hr.eval hy, eqGuard, binOp, h]
theorem R_neqSlNil {ao : Option Addr} {m c : Nat} {e : TypeId} (hu : P.underlying t = some (.slice e)) (hx : evO ρ x = some (.slice ao m c)) (hy : evO ρ y = some (.slice none 0 0)) : RunV P n ⟨do_, .binOp .neq t x y t', ty, pos, aft, none⟩ ρ w (.bool (!ao.isNone)) := fun ac hr => by
  have h := run_equal_slice_nil (P := P) w t e ao m c hu
  simp [execOp, hr.eval hx, hr.eval hy, eqGuard, binOp, h]
theorem run_eqPN (q : Nat) {p : Option Addr} {e : TypeId} (hu : P.underlying t = some (.pointer e)) : (Op.equalIn (q + 1) t (.pointer p) (.pointer none)).run P w = .ok p.isNone w := by
  cases p <;> simp [Op.equalIn, run_underlying hu]
theorem run_eqPN' {p : Option Addr} {e : TypeId} (hu : P.underlying t = some (.pointer e)) : (Op.equal t (.pointer p) (.pointer none)).run P w = .ok p.isNone w := run_eqPN 9999 hu
theorem R_eqlPtrNil {p : Option Addr} {e : TypeId} (hu : P.underlying t = some (.pointer e)) (hx : evO ρ x = some (.pointer p)) (hy : evO ρ y = some (.pointer none)) : RunV P n ⟨do_, .binOp .eql t x y t', ty, pos, aft, none⟩ ρ w (.bool p.isNone) := fun ac hr => by
  simp [execOp, hr.eval hx, hr.eval hy, eqGuard, binOp, run_eqPN' hu]
theorem R_neqPtrNil {p : Option Addr} {e : TypeId} (hu : P.underlying t = some (.pointer e)) (hx : evO ρ x = some (.pointer p)) (hy : evO ρ y = some (.pointer none)) : RunV P n ⟨do_, .binOp .neq t x y t', ty, pos, aft, none⟩ ρ w (.bool (!p.isNone)) := fun ac hr => by
  simp [execOp, hr.eval hx, hr.eval hy, eqGuard, binOp, run_eqPN' hu]
end
/-- The nil slice is owned by whoever wants it. -/
theorem St.nilSl {W w : World} {F D : Nat → Prop} {es ds : List Asn} (hs : St W F D es ds w) (e sz : Nat) : St W F D (es ++ [oSl (.slice none 0 0) e sz 0 []]) ds w :=
  hs.add _ ⟨by simp, .inl ⟨rfl, rfl⟩⟩ (fun k hk => by simp [oSl, Value.ownBlock] at hk)

#print axioms R_ldE
#print axioms St.dEdrop
#print axioms R_eqlPtrNil
end Go.Proofs.Ytpcojkbljgpecaa
