/- The engine, part 20: numbers cut into bytes, bytes compared, elements of owned slices written over. -/
import Derived.Test.YtpcojkbljgpecaaE19
import Derived.Test.YtpcojkbljgpecaaP2
import Derived.Lib.Bytealg
import Derived.Lib.BytesEntry
import Derived.Laws.Externs
namespace Go.Proofs.Ytpcojkbljgpecaa
open Go
/-- The lowest byte of a number. -/
def byteOf (z : Int) : UInt8 := UInt8.ofNat (z % 256).toNat
theorem byteOf_nat (z : Int) : ((byteOf z).toNat : Int) = z % 256 := by
  unfold byteOf
  rw [UInt8.toNat_ofNat_of_lt' (by simp [UInt8.size]; omega)]
  omega
theorem wrap_byte (z : Int) : IntKind.u8.wrap z = ((byteOf z).toNat : Int) := by
  rw [byteOf_nat]
  unfold IntKind.wrap
  simp [IntKind.bits, IntKind.signed]
/-- A number in k bytes, the highest first. -/
def beB (n : Int) : Nat → BL
  | 0 => []
  | k + 1 => byteOf (n / 2 ^ (8 * k)) :: beB n k
theorem beB_len (n : Int) : ∀ k, (beB n k).length = k
  | 0 => rfl
  | k + 1 => by rw [beB, List.length_cons, beB_len n k]
theorem cmp_cmpB : ∀ a b : BL, Lib.compareBytes a b = cmpB a b
  | [], [] => rfl
  | [], _ :: _ => rfl
  | _ :: _, [] => rfl
  | x :: a, y :: b => by
    rw [Lib.compareBytes, cmp_cmpB a b]
    unfold cmpB
    by_cases h1 : x < y
    · rw [if_pos h1, if_pos ((bl_cons x y a b).2 (.inl h1))]
    · rw [if_neg h1]
      by_cases h2 : y < x
      · rw [if_pos h2, if_neg (fun h => by
          rcases (bl_cons x y a b).1 h with h | ⟨rfl, _⟩
          · exact h1 h
          · exact h1 h2), if_neg (fun h => by injection h with h _; subst h; exact h1 h2)]
      · rw [if_neg h2]
        have e : x = y := UInt8.le_antisymm (UInt8.not_lt.1 h2) (UInt8.not_lt.1 h1)
        subst e
        have g1 : (bl (x :: a) (x :: b) = true) = (bl a b = true) := propext ((bl_cons x x a b).trans ⟨fun h => h.elim (fun h => absurd h h1) (fun h => h.2), fun h => .inr ⟨rfl, h⟩⟩)
        have g2 : (x :: a = x :: b) = (a = b) := propext ⟨fun h => by injection h, fun h => by rw [h]⟩
        simp only [g1, g2]
section
variable {P : Program} {n : Nat} {ρ : Env} {K : Env → World → Prop} {W w : World} {F D : Nat → Prop} {es ds : List Asn} {do_ : Option Nat} {ty : TypeId} {pos : String} {aft : Array Edge} {x y : Operand} {t t' : TypeId} {v : Value} {p q : Int} {k k' : IntKind}
theorem R_shrI (sn : Nat) (hx : evO ρ x = some (.int .i64 p)) (hy : evO ρ y = some (.int k' q)) (hq : q = (sn : Int)) (hsn : sn ≤ 64) : RunV P n ⟨do_, .binOp .shr t x y t', ty, pos, aft, none⟩ ρ w (.int .i64 (p / 2 ^ sn)) := fun ac hr => by
  subst hq
  have hn : ¬ ((sn : Int) < 0) := by omega
  simp only [execOp, hr.eval hx, hr.eval hy, eqGuard, binOp, Op.shift, hn, if_false, Int.toNat_natCast]
  have e : p.fdiv (2 ^ (min sn IntKind.i64.bits)) = p / 2 ^ sn := by
    have e1 : min sn IntKind.i64.bits = sn := Nat.min_eq_left (by simpa [IntKind.bits] using hsn)
    rw [e1, Int.fdiv_eq_ediv_of_nonneg _ (Int.pow_nonneg (by omega))]
  rw [e]
  rfl
theorem R_convB {s u : TypeId} {dsc : TypeDesc} (hs : P.underlying s = some dsc) (hu : P.underlying u = some (.int .u8)) (hx : evO ρ x = some (.int k p)) : RunV P n ⟨do_, .convert s u x, ty, pos, aft, none⟩ ρ w (V8 (byteOf p)) := by
  have h := R_convI (P := P) (n := n) (ρ := ρ) (w := w) (d := do_) (ty := ty) (pos := pos) (aft := aft) hs hu hx
  rw [wrap_byte] at h
  exact h
theorem run_bytesOf {ao : Option Addr} {c : Nat} {l : BL} (h : (dB ao c l).P w) : (Extern.Bytes.bytesOf (.slice ao l.length c)).run P w = .ok (bstr l) w := by
  cases ao with
  | none =>
    have hc := h.1.2.1 rfl
    have hm := h.1.1
    have : l = [] := List.eq_nil_of_length_eq_zero (by omega)
    subst this
    rfl
  | some a =>
    have := Lib.run_loadBytesX (P := P) w (l.map fun b => (b.toNat : Int)) a .empty (fun j z hz => by
      obtain ⟨z', hz', rfl⟩ : ∃ z', l[j]? = some z' ∧ (z'.toNat : Int) = z := by simpa using hz
      have hne : u8s l ≠ [] := by
        intro hn
        have h1 := congrArg List.length hn
        rw [u8s_len] at h1
        have h2 := (List.getElem?_eq_some_iff.1 hz').1
        simp at h1
        subst h1
        simp at h2
      obtain ⟨b, o, hao, hc⟩ := h.2.2 hne
      cases hao
      have e : (⟨b, o, none⟩ : Addr).add j = ⟨b, o + j, none⟩ := by unfold Addr.add; split <;> simp_all
      rw [e]
      exact hc j _ (by simp [u8s, hz']))
    rw [List.length_map] at this
    show (Extern.Bytes.loadBytes a l.length .empty).run P w = _
    rw [this]
    congr 1
    apply ByteArray.ext
    simp [Lib.bytesOf, bstr, List.map_map, Function.comp_def]
/-- Compare, of bytes that are only read. -/
theorem R_cmpB {g : FuncId} {fn : Func} {tys : Array TypeId} {a1 a2 : Option Addr} {c1 c2 : Nat} {l1 l2 : BL} (hf : P.funcs[g]? = some fn) (hname : (fn.name == "runtime.NumGoroutine") = false) (hb : fn.body.isNone = true) (hn : Extern.findNext fn = none) (he : Extern.find fn = some Extern.BytealgCompare.compare)
    (hx : evO ρ x = some (.slice a1 l1.length c1)) (hy : evO ρ y = some (.slice a2 l2.length c2)) (h1 : (dB a1 c1 l1).P w) (h2 : (dB a2 c2 l2).P w) :
    RunV P n ⟨do_, .call ⟨.value (.func g), #[x, y], tys⟩, ty, pos, aft, none⟩ ρ w (.int .i64 (cmpB l1 l2)) := fun ac hr => by
  have hc : (callFunc g #[.slice a1 l1.length c1, .slice a2 l2.length c2]).run P w = .ok (.value (.int .i64 (cmpB l1 l2))) w := by
    rw [run_callFunc_extern hf hname hb hn he]
    have : (Extern.BytealgCompare.compare #[.slice a1 l1.length c1, .slice a2 l2.length c2]).run P w = .ok (.int .i64 (cmpB l1 l2)) w := by
      show Sem.run P (do pure (goInt (Extern.BytealgCompare.cmp (← Extern.Bytes.bytesOf (.slice a1 l1.length c1)) (← Extern.Bytes.bytesOf (.slice a2 l2.length c2))))) w = _
      simp only [Sem.run_bind, run_bytesOf h1, run_bytesOf h2, Sem.run_pure, Result.andThen_ok]
      rw [Lib.cmp_eq]
      show Result.ok (goInt (Lib.compareBytes l1 l2)) w = _
      rw [cmp_cmpB]
      rfl
    rw [this]; rfl
  have e1 : (.func (.func g) #[] #[] : Value) = ac.eval (.func g) := rfl
  have hargs : #[x, y].map ac.eval = #[.slice a1 l1.length c1, .slice a2 l2.length c2] := by
    simp [hr.eval hx, hr.eval hy]
  simp only [execOp, resolve, hargs, ← e1, Deferred.ofValue, invoke, Sem.run_bind, Sem.run_pure, Result.andThen_ok]
  simpa using hc
/-- An element of an owned slice. -/
theorem O_storeE {α : Type} {f : α → List Value} {l : List α} {b o m c e sz j : Nat} {y' : α} (hs : St W F D es ds w) {i : Nat} (hi : es[i]? = some (oSl (.slice (some ⟨b, 0, none⟩) m c) e sz m (l.flatMap f))) (hf : ∀ x, (f x).length = sz) (hsz : ∀ w, (sizeOf t).run P w = .ok sz w) (hx : evO ρ x = some (.pointer (some ⟨b, o, none⟩))) (hy : evO ρ y = some v) (hv : v.cells = (f y').toArray) (h1 : ∀ u ∈ f y', u.oneCell' = true) (ho : o = j * sz) (hj : j < l.length)
    (hK : ∀ w', St W F D (es.set i (oSl (.slice (some ⟨b, 0, none⟩) m c) e sz m ((l.set j y').flatMap f))) ds w' → K ρ w') : EOp P n ⟨none, .store t x y, ty, pos, aft, none⟩ K ρ w := by
  refine O_storeSl (vs := f y') hs hi (by rw [hf]; exact hsz) hx hy hv h1 (by rw [flat_len sz f hf, hf, ho]; calc j * sz + sz = (j + 1) * sz := by rw [Nat.succ_mul]
      _ ≤ l.length * sz := Nat.mul_le_mul_right _ hj) (fun w' hs' => hK w' ?_)
  subst ho
  rwa [setSeg_set hf l j y' hj] at hs'
/-- One thing was appended. -/
theorem St.pushed {α : Type} {f : α → List Value} {l : List α} {v y : Value} {e sz : Nat} (hs : St W F D es ds w) {i : Nat} (hi : es[i]? = some (oSl v e sz (l.length + 1) (l.flatMap f ++ [y].flatMap (fun x => x.cells.toList)))) (x : α) (h : y.cells.toList = f x) :
    St W F D (es.set i (oSl v e sz (l ++ [x]).length ((l ++ [x]).flatMap f))) ds w :=
  hs.asSl hi _ _ (by simp) (by simp [h])
end
#print axioms R_cmpB
#print axioms O_storeE
end Go.Proofs.Ytpcojkbljgpecaa
