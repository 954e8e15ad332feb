/- The engine, part 3: operations that only compute. -/
import Derived.Test.YtpcojkbljgpecaaE2
namespace Go.Proofs.Ytpcojkbljgpecaa
open Go

abbrev BL := List UInt8
def bstr (l : BL) : ByteArray := ⟨l.toArray⟩
/-- Is one text less than another one? -/
def bl (a b : BL) : Bool := Op.bytesLess a b

theorem toList_bstr (l : BL) : (bstr l).toList = l := by
  rw [ByteArray.toList_eq]; simp [bstr]

section
variable {P : Program} {n : Nat} {ρ : Env} {w : World} {d : Option Nat} {ty : TypeId} {pos : String} {aft : Array Edge} {v : Value}

theorem R_move {x : Operand} (hx : evO ρ x = some v) : RunV P n ⟨d, .move x, ty, pos, aft, none⟩ ρ w v := fun a ha => by
  simp only [execOp, ha.eval hx]; rfl
theorem R_assign {x : Operand} (hx : evO ρ x = some v) : RunV P n ⟨d, .assign x, ty, pos, aft, none⟩ ρ w v := fun a ha => by
  simp only [execOp, ha.eval hx]; rfl

theorem R_pickT {c x y : Operand} {b : Bool} (hc : evO ρ c = some (.bool b)) (hb : b = true) (hx : evO ρ x = some v) : RunV P n ⟨d, .pick c x y, ty, pos, aft, none⟩ ρ w v := fun a ha => by
  subst hb
  simp only [execOp, ha.eval hc, ha.eval hx]; rfl
theorem R_pickF {c x y : Operand} {b : Bool} (hc : evO ρ c = some (.bool b)) (hb : b = false) (hy : evO ρ y = some v) : RunV P n ⟨d, .pick c x y, ty, pos, aft, none⟩ ρ w v := fun a ha => by
  subst hb
  simp only [execOp, ha.eval hc, ha.eval hy]; rfl

theorem R_extract {x : Operand} {i : Nat} {vs : Array Value} (hx : evO ρ x = some (.tuple vs)) (hi : vs[i]? = some v) : RunV P n ⟨d, .extract x i, ty, pos, aft, none⟩ ρ w v := fun a ha => by
  simp only [execOp, ha.eval hx, Instr.extract, hi]; rfl

theorem R_nilCheck {x : Operand} {p : Addr} (hx : evO ρ x = some (.pointer (some p))) : RunV P n ⟨d, .nilCheck x, ty, pos, aft, none⟩ ρ w (.pointer (some p)) := fun a ha => by
  simp only [execOp, ha.eval hx]; rfl

/-! ### Integers -/
variable {x y : Operand} {t t' : TypeId} {k : IntKind} {p q : Int}

theorem R_add (hx : evO ρ x = some (.int k p)) (hy : evO ρ y = some (.int k q)) : RunV P n ⟨d, .binOp .add t x y t', ty, pos, aft, none⟩ ρ w (.int k (k.wrap (p + q))) := fun a ha => by
  simp [execOp, ha.eval hx, ha.eval hy, eqGuard, binOp, Op.intArith]
theorem R_sub (hx : evO ρ x = some (.int k p)) (hy : evO ρ y = some (.int k q)) : RunV P n ⟨d, .binOp .sub t x y t', ty, pos, aft, none⟩ ρ w (.int k (k.wrap (p - q))) := fun a ha => by
  simp [execOp, ha.eval hx, ha.eval hy, eqGuard, binOp, Op.intArith]
theorem R_mul (hx : evO ρ x = some (.int k p)) (hy : evO ρ y = some (.int k q)) : RunV P n ⟨d, .binOp .mul t x y t', ty, pos, aft, none⟩ ρ w (.int k (k.wrap (p * q))) := fun a ha => by
  simp [execOp, ha.eval hx, ha.eval hy, eqGuard, binOp, Op.intArith]

theorem wrap_i64 {z : Int} (h1 : -9223372036854775808 ≤ z) (h2 : z ≤ 9223372036854775807) : IntKind.i64.wrap z = z := IntWalk.i64_in z ⟨by omega, by omega⟩

theorem R_addI (hx : evO ρ x = some (.int .i64 p)) (hy : evO ρ y = some (.int .i64 q)) (h : -9223372036854775808 ≤ p + q ∧ p + q ≤ 9223372036854775807) : RunV P n ⟨d, .binOp .add t x y t', ty, pos, aft, none⟩ ρ w (.int .i64 (p + q)) := by
  have := R_add (P := P) (n := n) (ρ := ρ) (w := w) (d := d) (ty := ty) (pos := pos) (aft := aft) (t := t) (t' := t') hx hy
  rwa [wrap_i64 h.1 h.2] at this
theorem R_subI (hx : evO ρ x = some (.int .i64 p)) (hy : evO ρ y = some (.int .i64 q)) (h : -9223372036854775808 ≤ p - q ∧ p - q ≤ 9223372036854775807) : RunV P n ⟨d, .binOp .sub t x y t', ty, pos, aft, none⟩ ρ w (.int .i64 (p - q)) := by
  have := R_sub (P := P) (n := n) (ρ := ρ) (w := w) (d := d) (ty := ty) (pos := pos) (aft := aft) (t := t) (t' := t') hx hy
  rwa [wrap_i64 h.1 h.2] at this
theorem R_mulI (hx : evO ρ x = some (.int .i64 p)) (hy : evO ρ y = some (.int .i64 q)) (h : -9223372036854775808 ≤ p * q ∧ p * q ≤ 9223372036854775807) : RunV P n ⟨d, .binOp .mul t x y t', ty, pos, aft, none⟩ ρ w (.int .i64 (p * q)) := by
  have := R_mul (P := P) (n := n) (ρ := ρ) (w := w) (d := d) (ty := ty) (pos := pos) (aft := aft) (t := t) (t' := t') hx hy
  rwa [wrap_i64 h.1 h.2] at this

theorem R_lss (hx : evO ρ x = some (.int k p)) (hy : evO ρ y = some (.int k q)) : RunV P n ⟨d, .binOp .lss t x y t', ty, pos, aft, none⟩ ρ w (.bool (decide (p < q))) := fun a ha => by
  simp [execOp, ha.eval hx, ha.eval hy, eqGuard, binOp, Op.intCmp]
theorem R_leq (hx : evO ρ x = some (.int k p)) (hy : evO ρ y = some (.int k q)) : RunV P n ⟨d, .binOp .leq t x y t', ty, pos, aft, none⟩ ρ w (.bool (decide (p ≤ q))) := fun a ha => by
  simp [execOp, ha.eval hx, ha.eval hy, eqGuard, binOp, Op.intCmp]
theorem R_gtr (hx : evO ρ x = some (.int k p)) (hy : evO ρ y = some (.int k q)) : RunV P n ⟨d, .binOp .gtr t x y t', ty, pos, aft, none⟩ ρ w (.bool (decide (q < p))) := fun a ha => by
  simp [execOp, ha.eval hx, ha.eval hy, eqGuard, binOp, Op.intCmp]
theorem R_geq (hx : evO ρ x = some (.int k p)) (hy : evO ρ y = some (.int k q)) : RunV P n ⟨d, .binOp .geq t x y t', ty, pos, aft, none⟩ ρ w (.bool (decide (q ≤ p))) := fun a ha => by
  simp [execOp, ha.eval hx, ha.eval hy, eqGuard, binOp, Op.intCmp]
theorem R_eql (hx : evO ρ x = some (.int k p)) (hy : evO ρ y = some (.int k q)) : RunV P n ⟨d, .binOp .eql t x y t', ty, pos, aft, none⟩ ρ w (.bool (decide (p = q))) := fun a ha => by
  simp [execOp, ha.eval hx, ha.eval hy, eqGuard, binOp, Op.intCmp]
  rfl
theorem R_neq (hx : evO ρ x = some (.int k p)) (hy : evO ρ y = some (.int k q)) : RunV P n ⟨d, .binOp .neq t x y t', ty, pos, aft, none⟩ ρ w (.bool (decide (p ≠ q))) := fun a ha => by
  simp [execOp, ha.eval hx, ha.eval hy, eqGuard, binOp, Op.intCmp, bne]
  by_cases h : p = q <;> simp [h]

theorem R_quoI (hx : evO ρ x = some (.int .i64 p)) (hy : evO ρ y = some (.int .i64 q)) (h0 : 0 ≤ p) (h1 : 0 < q) (h2 : p ≤ 9223372036854775807) : RunV P n ⟨d, .binOp .quo t x y t', ty, pos, aft, none⟩ ρ w (.int .i64 (p / q)) := fun a ha => by
  have hq : q ≠ 0 := by omega
  have hd : p.tdiv q = p / q := Int.tdiv_eq_ediv_of_nonneg h0
  have hb : p / q ≤ p := Int.ediv_le_self _ h0
  have hb0 : 0 ≤ p / q := Int.ediv_nonneg h0 (by omega)
  simp [execOp, ha.eval hx, ha.eval hy, eqGuard, binOp, Op.intDiv, hq, hd]
  exact wrap_i64 (by omega) (by omega)
theorem R_remI (hx : evO ρ x = some (.int .i64 p)) (hy : evO ρ y = some (.int .i64 q)) (h0 : 0 ≤ p) (h1 : 0 < q) (h2 : q ≤ 9223372036854775807) : RunV P n ⟨d, .binOp .rem t x y t', ty, pos, aft, none⟩ ρ w (.int .i64 (p % q)) := fun a ha => by
  have hq : q ≠ 0 := by omega
  have hd : p.tmod q = p % q := Int.tmod_eq_emod_of_nonneg h0
  have hb : p % q < q := Int.emod_lt_of_pos _ h1
  have hb0 : 0 ≤ p % q := Int.emod_nonneg _ hq
  simp [execOp, ha.eval hx, ha.eval hy, eqGuard, binOp, Op.intDiv, hq, hd]
  try exact wrap_i64 (by omega) (by omega)

theorem R_not {b : Bool} (hx : evO ρ x = some (.bool b)) : RunV P n ⟨d, .unOp .not t x, ty, pos, aft, none⟩ ρ w (.bool (!b)) := fun a ha => by
  simp [execOp, ha.eval hx, Op.unary]

theorem R_convI {k' : IntKind} {s u : TypeId} {ds : TypeDesc} (hs : P.underlying s = some ds) (hu : P.underlying u = some (.int k')) (hx : evO ρ x = some (.int k p)) : RunV P n ⟨d, .convert s u x, ty, pos, aft, none⟩ ρ w (.int k' (k'.wrap p)) := fun a ha => by
  simp [execOp, ha.eval hx, convert, run_underlying hs, run_underlying hu, Conv.intToInt, Sem.run_bind]

/-! ### Strings: lists of bytes -/
theorem R_strEql {s u : BL} (hx : evO ρ x = some (.string (bstr s))) (hy : evO ρ y = some (.string (bstr u))) : RunV P n ⟨d, .binOp .eql t x y t', ty, pos, aft, none⟩ ρ w (.bool (decide (s = u))) := fun a ha => by
  simp [execOp, ha.eval hx, ha.eval hy, eqGuard, binOp, Op.stringOp, toList_bstr]
  by_cases h : s = u <;> simp [h]
theorem R_strNeq {s u : BL} (hx : evO ρ x = some (.string (bstr s))) (hy : evO ρ y = some (.string (bstr u))) : RunV P n ⟨d, .binOp .neq t x y t', ty, pos, aft, none⟩ ρ w (.bool (decide (s ≠ u))) := fun a ha => by
  simp [execOp, ha.eval hx, ha.eval hy, eqGuard, binOp, Op.stringOp, toList_bstr]
  by_cases h : s = u <;> simp [h]
theorem R_strLss {s u : BL} (hx : evO ρ x = some (.string (bstr s))) (hy : evO ρ y = some (.string (bstr u))) : RunV P n ⟨d, .binOp .lss t x y t', ty, pos, aft, none⟩ ρ w (.bool (bl s u)) := fun a ha => by
  simp [execOp, ha.eval hx, ha.eval hy, eqGuard, binOp, Op.stringOp, toList_bstr, bl]
theorem R_strGeq {s u : BL} (hx : evO ρ x = some (.string (bstr s))) (hy : evO ρ y = some (.string (bstr u))) : RunV P n ⟨d, .binOp .geq t x y t', ty, pos, aft, none⟩ ρ w (.bool (!bl s u)) := fun a ha => by
  simp [execOp, ha.eval hx, ha.eval hy, eqGuard, binOp, Op.stringOp, toList_bstr, bl]

/-! ### Addresses, lengths -/
theorem R_lenS {sa : Option Addr} {m c : Nat} {e : TypeId} (hu : P.underlying t = some (.slice e)) (hx : evO ρ x = some (.slice sa m c)) : RunV P n ⟨d, .call ⟨.builtin .len, #[x], #[t]⟩, ty, pos, aft, none⟩ ρ w (.int .i64 m) := fun a ha => by
  simp [execOp, resolve, invoke, builtin, Builtin.len_, ha.eval hx, run_underlying hu, Sem.run_bind, goInt]
theorem R_lenStr {s : ByteArray} (hu : P.underlying t = some .string) (hx : evO ρ x = some (.string s)) : RunV P n ⟨d, .call ⟨.builtin .len, #[x], #[t]⟩, ty, pos, aft, none⟩ ρ w (.int .i64 s.size) := fun a ha => by
  simp [execOp, resolve, invoke, builtin, Builtin.len_, ha.eval hx, run_underlying hu, Sem.run_bind, goInt]

theorem R_min {t1 t2 : TypeId} (hx : evO ρ x = some (.int k p)) (hy : evO ρ y = some (.int k q)) : RunV P n ⟨d, .call ⟨.builtin .min, #[x, y], #[t1, t2]⟩, ty, pos, aft, none⟩ ρ w (.int k (min p q)) := fun a ha => by
  simp [execOp, resolve, invoke, builtin, Builtin.min_, Builtin.min2, ha.eval hx, ha.eval hy]
  by_cases h : q < p
  · rw [if_pos h]; omega
  · rw [if_neg h]; omega
theorem R_max {t1 t2 : TypeId} (hx : evO ρ x = some (.int k p)) (hy : evO ρ y = some (.int k q)) : RunV P n ⟨d, .call ⟨.builtin .max, #[x, y], #[t1, t2]⟩, ty, pos, aft, none⟩ ρ w (.int k (max p q)) := fun a ha => by
  simp [execOp, resolve, invoke, builtin, Builtin.max_, Builtin.max2, ha.eval hx, ha.eval hy]
  by_cases h : p < q
  · rw [if_pos h]; omega
  · rw [if_neg h]; omega

/-- The offset, in cells, of a field that is not of size 0. -/
def fieldOff (P : Program) (s : TypeId) (f : Nat) : Option Nat :=
  match P.underlying s with
  | some (.struct fs) => match fs[f]? with
    | some fd => match P.info? fd.type with
      | some i => if i.size = 0 then none else some fd.offset
      | none => none
    | none => none
  | _ => none

theorem R_fieldAddr {s f off : Nat} {ad : Addr} (ho : fieldOff P s f = some off) (hx : evO ρ x = some (.pointer (some ad))) : RunV P n ⟨d, .fieldAddr s x f, ty, pos, aft, none⟩ ρ w (.pointer (some (ad.add off))) := fun a ha => by
  unfold fieldOff at ho
  split at ho
  · rename_i fs hu
    split at ho
    · rename_i fd hf
      split at ho
      · rename_i i hi
        split at ho
        · cases ho
        · rename_i hs
          obtain rfl := Option.some.inj ho
          simp [execOp, ha.eval hx, Instr.fieldAt, run_underlying hu, Sem.run_bind, hf, Instr.sureAddr, fieldPlace, sizeOf, typeInfo, hi, hs]
      · cases ho
    · cases ho
  · cases ho

/-- An element of a slice: its type's size in cells. -/
def elemSize (P : Program) (t : TypeId) : Option Nat :=
  match P.underlying t with
  | some (.slice e) => (P.info? e).map (·.size)
  | _ => none

theorem R_indexAddr {ad : Addr} {m c sz : Nat} {i : Int} (hs : elemSize P t = some sz) (hx : evO ρ x = some (.slice (some ad) m c)) (hy : evO ρ y = some (.int k i)) (hi : 0 ≤ i ∧ i < m) :
    RunV P n ⟨d, .indexAddr t x y, ty, pos, aft, none⟩ ρ w (.pointer (some (ad.add (i.toNat * sz)))) := fun a ha => by
  unfold elemSize at hs
  split at hs
  · rename_i e hu
    obtain ⟨inf, hinf, hsz⟩ := Option.map_eq_some_iff.1 hs
    subst hsz
    simp [execOp, ha.eval hx, ha.eval hy, Instr.indexAt, asIntOf, run_underlying hu, Sem.run_bind, hi, sizeOf, typeInfo, hinf]
  · cases hs

def arrSize (P : Program) (t : TypeId) : Option (Nat × Nat) :=
  match P.underlying t with
  | some (.array m e) => (P.info? e).map fun i => (m, i.size)
  | _ => none

theorem R_indexAddrA {ad : Addr} {m sz : Nat} {i : Int} (hs : arrSize P t = some (m, sz)) (hx : evO ρ x = some (.pointer (some ad))) (hy : evO ρ y = some (.int k i)) (hi : 0 ≤ i ∧ i < m) :
    RunV P n ⟨d, .indexAddr t x y, ty, pos, aft, none⟩ ρ w (.pointer (some (ad.add (i.toNat * sz)))) := fun a ha => by
  unfold arrSize at hs
  split at hs
  · rename_i m' e hu
    obtain ⟨inf, hinf, hsz⟩ := Option.map_eq_some_iff.1 hs
    simp only [Prod.mk.injEq] at hsz
    obtain ⟨rfl, rfl⟩ := hsz
    simp [execOp, ha.eval hx, ha.eval hy, Instr.indexAt, asIntOf, run_underlying hu, Sem.run_bind, hi, sizeOf, typeInfo, hinf, Instr.sureAddr]
  · cases hs

theorem R_indexStr {s : ByteArray} {i : Int} {b : UInt8} (hu : P.underlying t = some .string) (hx : evO ρ x = some (.string s)) (hy : evO ρ y = some (.int k i)) (h0 : 0 ≤ i) (hb : s[i.toNat]? = some b) :
    RunV P n ⟨d, .index t x y, ty, pos, aft, none⟩ ρ w (.int .u8 b.toNat) := fun a ha => by
  simp [execOp, ha.eval hx, ha.eval hy, Instr.index, asIntOf, run_underlying hu, Sem.run_bind, h0, hb]

/-- Where a slice's address goes when it is cut at l. -/
def cutAt (ao : Option Addr) (c l sz : Nat) : Option Addr := if c = l then ao else ao.map (·.add (l * sz))

end
#print axioms R_indexStr
end Go.Proofs.Ytpcojkbljgpecaa
