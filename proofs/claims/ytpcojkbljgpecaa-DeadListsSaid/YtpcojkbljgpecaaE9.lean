/- The engine, part 9: words of 32 bits, arrays and structs as values, arrays in memory. -/
import Derived.Test.YtpcojkbljgpecaaE8
import Derived.Laws.Slices
import Derived.Laws.IdiomCopy
import Derived.Laws.CopyRow
namespace Go.Proofs.Ytpcojkbljgpecaa
open Go

def V32 (x : UInt32) : Value := .int .u32 ((x.toNat : Nat) : Int)
def V8 (x : UInt8) : Value := .int .u8 ((x.toNat : Nat) : Int)
def u32s (l : List UInt32) : List Value := l.map V32
theorem u8s_eq (l : BL) : u8s l = l.map V8 := rfl
def shl32 (x : UInt32) (n : Nat) : UInt32 := UInt32.ofNat (x.toNat * 2 ^ n % 2 ^ 32)
def shr32 (x : UInt32) (n : Nat) : UInt32 := UInt32.ofNat (x.toNat / 2 ^ n)

theorem u32_lt (x : UInt32) : x.toNat < 2 ^ IntKind.u32.bits := x.toNat_lt
theorem ofNat32 {n : Nat} (h : n < 2 ^ 32) : (UInt32.ofNat n).toNat = n := by
  rw [UInt32.toNat_ofNat', Nat.mod_eq_of_lt h]

section
variable {P : Program} {n : Nat} {ρ : Env} {K : Env → World → Prop} {W w : World} {F D : Nat → Prop} {es ds : List Asn} {d : Nat} {do_ : Option Nat} {ty : TypeId} {pos : String} {aft : Array Edge} {x y : Operand} {t t' : TypeId} {v : Value} {a b : UInt32} {k k' : IntKind} {q : Int}

theorem R_add32 (hx : evO ρ x = some (V32 a)) (hy : evO ρ y = some (V32 b)) : RunV P n ⟨do_, .binOp .add t x y t', ty, pos, aft, none⟩ ρ w (V32 (a + b)) := by
  have h := R_add (P := P) (n := n) (ρ := ρ) (w := w) (d := do_) (ty := ty) (pos := pos) (aft := aft) (t := t) (t' := t') hx hy
  have e : IntKind.u32.wrap (((a.toNat : Nat) : Int) + ((b.toNat : Nat) : Int)) = (((a + b).toNat : Nat) : Int) := by
    rw [← Int.natCast_add, wrapU_mod rfl, UInt32.toNat_add]; rfl
  rwa [e] at h
theorem R_xor32 (hx : evO ρ x = some (V32 a)) (hy : evO ρ y = some (V32 b)) : RunV P n ⟨do_, .binOp .xor t x y t', ty, pos, aft, none⟩ ρ w (V32 (a ^^^ b)) := by
  have h := R_xorU (P := P) (n := n) (w := w) (do_ := do_) (ty := ty) (pos := pos) (aft := aft) (t := t) (t' := t') rfl hx hy (u32_lt a) (u32_lt b)
  rwa [← UInt32.toNat_xor] at h
theorem R_and32 (hx : evO ρ x = some (V32 a)) (hy : evO ρ y = some (V32 b)) : RunV P n ⟨do_, .binOp .and t x y t', ty, pos, aft, none⟩ ρ w (V32 (a &&& b)) := by
  have h := R_andU (P := P) (n := n) (w := w) (do_ := do_) (ty := ty) (pos := pos) (aft := aft) (t := t) (t' := t') rfl hx hy (u32_lt b)
  rwa [← UInt32.toNat_and] at h
theorem R_or32 (hx : evO ρ x = some (V32 a)) (hy : evO ρ y = some (V32 b)) : RunV P n ⟨do_, .binOp .or t x y t', ty, pos, aft, none⟩ ρ w (V32 (a ||| b)) := by
  have h := R_orU (P := P) (n := n) (w := w) (do_ := do_) (ty := ty) (pos := pos) (aft := aft) (t := t) (t' := t') rfl hx hy (u32_lt a) (u32_lt b)
  rwa [← UInt32.toNat_or] at h
theorem R_not32 (hx : evO ρ x = some (V32 a)) : RunV P n ⟨do_, .unOp .xor t x, ty, pos, aft, none⟩ ρ w (V32 (~~~ a)) := fun ac hr => by
  have e : IntKind.u32.wrap (((BitVec.ofInt 32 4294967295 ^^^ BitVec.ofInt 32 (((a.toNat : Nat) : Int))).toNat : Nat) : Int) = (((~~~ a).toNat : Nat) : Int) := by
    have h1 : BitVec.ofInt 32 (((a.toNat : Nat) : Int)) = a.toBitVec := by
      rw [BitVec.ofInt_natCast]; exact BitVec.eq_of_toNat_eq (by simp)
    have h2 : (BitVec.ofInt 32 4294967295 : BitVec 32) = BitVec.allOnes 32 := by decide
    have h3 : (BitVec.allOnes 32 ^^^ a.toBitVec).toNat = (~~~ a).toNat := by
      rw [BitVec.allOnes_xor]; rfl
    rw [h1, h2, h3]
    exact wrapU rfl (u32_lt _)
  simp only [execOp, hr.eval hx, V32, Op.unary, Op.intBits]
  show Sem.run P (pure (Next.value (Value.int .u32 _))) w = _
  exact congrArg (fun z => Result.ok (Next.value (Value.int .u32 z)) w) e
theorem R_shl32 (sn : Nat) (hx : evO ρ x = some (V32 a)) (hy : evO ρ y = some (.int k' q)) (hq : q = (sn : Int)) : RunV P n ⟨do_, .binOp .shl t x y t', ty, pos, aft, none⟩ ρ w (V32 (shl32 a sn)) := by
  have h := R_shlU (P := P) (n := n) (w := w) (do_ := do_) (ty := ty) (pos := pos) (aft := aft) (t := t) (t' := t') sn rfl hx hy hq
  have e : a.toNat * 2 ^ sn % 2 ^ IntKind.u32.bits = (shl32 a sn).toNat := (ofNat32 (Nat.mod_lt _ (by decide))).symm
  rwa [e] at h
theorem R_shr32 (sn : Nat) (hx : evO ρ x = some (V32 a)) (hy : evO ρ y = some (.int k' q)) (hq : q = (sn : Int)) : RunV P n ⟨do_, .binOp .shr t x y t', ty, pos, aft, none⟩ ρ w (V32 (shr32 a sn)) := by
  have h := R_shrU (P := P) (n := n) (w := w) (do_ := do_) (ty := ty) (pos := pos) (aft := aft) (t := t) (t' := t') sn hx hy hq (u32_lt a)
  have e : a.toNat / 2 ^ sn = (shr32 a sn).toNat := (ofNat32 (Nat.lt_of_le_of_lt (Nat.div_le_self _ _) a.toNat_lt)).symm
  rwa [e] at h
theorem R_conv8to32 {s u : TypeId} {dsc : TypeDesc} {c : UInt8} (hs : P.underlying s = some dsc) (hu : P.underlying u = some (.int .u32)) (hx : evO ρ x = some (V8 c)) : RunV P n ⟨do_, .convert s u x, ty, pos, aft, none⟩ ρ w (V32 c.toUInt32) := by
  have h := R_convN (P := P) (n := n) (w := w) (do_ := do_) (ty := ty) (pos := pos) (aft := aft) (k := .u8) (k' := .u32) rfl hs hu hx (by have := c.toNat_lt; simp [IntKind.bits]; omega)
  exact h
theorem R_conv32to8 {s u : TypeId} {dsc : TypeDesc} (hs : P.underlying s = some dsc) (hu : P.underlying u = some (.int .u8)) (hx : evO ρ x = some (V32 a)) : RunV P n ⟨do_, .convert s u x, ty, pos, aft, none⟩ ρ w (V8 (UInt8.ofNat a.toNat)) := by
  have h := R_convU (P := P) (n := n) (w := w) (do_ := do_) (ty := ty) (pos := pos) (aft := aft) (k := .u32) (k' := .u8) rfl hs hu hx
  have e : a.toNat % 2 ^ IntKind.u8.bits = (UInt8.ofNat a.toNat).toNat := by simp [IntKind.bits]
  rwa [e] at h
theorem R_convU8 {s u : TypeId} {dsc : TypeDesc} {p : Nat} (hs : P.underlying s = some dsc) (hu : P.underlying u = some (.int .u8)) (hx : evO ρ x = some (.int k (p : Int))) : RunV P n ⟨do_, .convert s u x, ty, pos, aft, none⟩ ρ w (V8 (UInt8.ofNat p)) := by
  have h := R_convU (P := P) (n := n) (w := w) (do_ := do_) (ty := ty) (pos := pos) (aft := aft) (k' := .u8) rfl hs hu hx
  have e : p % 2 ^ IntKind.u8.bits = (UInt8.ofNat p).toNat := by simp [IntKind.bits]
  rwa [e] at h
theorem R_negI {p : Int} (hx : evO ρ x = some (.int .i64 p)) (h : -9223372036854775807 ≤ p ∧ p ≤ 9223372036854775807) : RunV P n ⟨do_, .unOp .neg t x, ty, pos, aft, none⟩ ρ w (.int .i64 (-p)) := fun ac hr => by
  have e : IntKind.i64.wrap (0 - p) = -p := by rw [wrap_i64 (by omega) (by omega)]; omega
  rw [Int.zero_sub] at e
  simp [execOp, hr.eval hx, Op.unary, Op.intArith, e]
theorem R_addU {p q : Nat} (hk : k.signed = false) (hx : evO ρ x = some (.int k (p : Int))) (hy : evO ρ y = some (.int k (q : Int))) : RunV P n ⟨do_, .binOp .add t x y t', ty, pos, aft, none⟩ ρ w (.int k (((p + q) % 2 ^ k.bits : Nat) : Int)) := by
  have h := R_add (P := P) (n := n) (ρ := ρ) (w := w) (d := do_) (ty := ty) (pos := pos) (aft := aft) (t := t) (t' := t') hx hy
  rwa [← Int.natCast_add, wrapU_mod hk] at h
theorem R_mulU {p q : Nat} (hk : k.signed = false) (hx : evO ρ x = some (.int k (p : Int))) (hy : evO ρ y = some (.int k (q : Int))) : RunV P n ⟨do_, .binOp .mul t x y t', ty, pos, aft, none⟩ ρ w (.int k (((p * q) % 2 ^ k.bits : Nat) : Int)) := by
  have h := R_mul (P := P) (n := n) (ρ := ρ) (w := w) (d := do_) (ty := ty) (pos := pos) (aft := aft) (t := t) (t' := t') hx hy
  rwa [← Int.natCast_mul, wrapU_mod hk] at h
theorem R_subU {p q : Nat} (hk : k.signed = false) (hx : evO ρ x = some (.int k (p : Int))) (hy : evO ρ y = some (.int k (q : Int))) (h1 : q ≤ p) (h2 : p < 2 ^ k.bits) : RunV P n ⟨do_, .binOp .sub t x y t', ty, pos, aft, none⟩ ρ w (.int k ((p - q : Nat) : Int)) := by
  have h := R_sub (P := P) (n := n) (ρ := ρ) (w := w) (d := do_) (ty := ty) (pos := pos) (aft := aft) (t := t) (t' := t') hx hy
  rw [← Int.ofNat_sub h1, wrapU hk (by omega)] at h
  exact h

/-! ### Values that are arrays and structs -/
theorem R_makeFunc {g : FuncId} {fi ca : List Operand} {fv cv : List Value} (h1 : evArgs ρ fi = some fv) (h2 : evArgs ρ ca = some cv) : RunV P n ⟨do_, .makeFunc (.func g) fi.toArray ca.toArray, ty, pos, aft, none⟩ ρ w (.func (.func g) fv.toArray cv.toArray) := fun ac hr => by
  simp only [execOp, List.map_toArray, evArgs_map hr h1, evArgs_map hr h2]; rfl

theorem R_buildA {m e sz : Nat} {z : Array Value} {parts : Array (Nat × Operand)} (ps : List Operand) {vs : List Value} {cs : Array Value} (hu : P.underlying t = some (.array m e)) (hz : ∀ w, (zeroValue t).run P w = .ok (.agg z) w) (hsz : ∀ w, (sizeOf e).run P w = .ok sz w)
    (hp : parts.toList = ps.zipIdx.map fun x => (x.2, x.1)) (hv : evArgs ρ ps = some vs) (hc : ∀ u, u ∈ vs → u.cells.size = sz) (hl : z.size = vs.length * sz) (hcs : vs.flatMap (·.cells.toList) = cs.toList) :
    RunV P n ⟨do_, .build t parts, ty, pos, aft, none⟩ ρ w (.agg cs) := fun ac hr => by
  have hsum : ∀ (l : List Value), (∀ u, u ∈ l → u.cells.size = sz) → (l.map (·.cells.size)).sum = l.length * sz := by
    intro l hl
    induction l with
    | nil => simp
    | cons q l ih => rw [List.map_cons, List.sum_cons, ih (fun q hq => hl q (List.mem_cons_of_mem _ hq)), hl q List.mem_cons_self, List.length_cons, Nat.succ_mul]; omega
  have hfill := fill_consec (fun i => some (i * sz, sz)) vs 0 0 z (fun j u hj => by
    have hu := hc u (List.mem_of_getElem? hj)
    have hjl : j < vs.length := (List.getElem?_eq_some_iff.1 hj).1
    rw [hu]
    congr 1
    simp only [Nat.zero_add, Prod.mk.injEq, and_true]
    rw [hsum _ (fun q hq => hc q (List.mem_of_mem_take hq)), List.length_take, Nat.min_eq_left (Nat.le_of_lt hjl)]) (by rw [hl, hsum _ hc]; simp)
  have hf : Instr.fill (fun i => some (i * sz, sz)) z (parts.map fun (x : Nat × Operand) => (x.1, ac.eval x.2)).toList = some cs := by
    rw [evParts hr hp hv, hfill, List.take_zero, List.nil_append, hcs]
  simp only [execOp, Instr.build, Sem.run_bind, hz, Result.andThen_ok, run_underlying hu, hsz, Value.cells]
  rw [hf]
  rfl

/-- An array of nothing but zeros. -/
theorem R_build0A {m e sz : Nat} {z : Array Value} (hu : P.underlying t = some (.array m e)) (hz : ∀ w, (zeroValue t).run P w = .ok (.agg z) w) (hsz : ∀ w, (sizeOf e).run P w = .ok sz w) : RunV P n ⟨do_, .build t #[], ty, pos, aft, none⟩ ρ w (.agg z) := fun ac hr => by
  simp only [execOp, Instr.build, Sem.run_bind, hz, Result.andThen_ok, run_underlying hu, hsz, Value.cells, Array.map_empty, Instr.fill, Sem.run_pure]

/-- The offsets and the sizes of a struct's fields. -/
def structPl (P : Program) (t : TypeId) : Option (List (Nat × Nat)) :=
  match P.underlying t with
  | some (.struct fs) => fs.toList.mapM fun f => (P.info? f.type).map fun i => (f.offset, i.size)
  | _ => none

theorem run_places {fs : List Field} {pl : List (Nat × Nat)} (h : fs.mapM (fun f => (P.info? f.type).map fun i => (f.offset, i.size)) = some pl) : Sem.run P (fs.mapM fun f => (do pure (f.offset, ← sizeOf f.type) : Sem (Nat × Nat))) w = .ok pl w := by
  induction fs generalizing pl with
  | nil => simp at h; subst h; rfl
  | cons f fs ih =>
    simp only [List.mapM_cons, Option.bind_eq_bind, Option.bind_eq_some_iff] at h
    obtain ⟨p, hp, pls, hpl, he⟩ := h
    obtain ⟨inf, hinf, rfl⟩ := Option.map_eq_some_iff.1 hp
    simp only [Option.pure_def, Option.some.injEq] at he
    subst he
    have hs : Sem.run P (sizeOf f.type) w = .ok inf.size w := by simp only [sizeOf, typeInfo, Sem.run_bind, run_program, Result.andThen_ok, hinf, Sem.run_pure]
    simp only [List.mapM_cons, Sem.run_bind, hs, Result.andThen_ok, Sem.run_pure, ih hpl]

/-- A struct, by parts: of the parts that are written, the places; the others stay zero. -/
theorem R_buildS {pl : List (Nat × Nat)} {z : Value} {parts : Array (Nat × Operand)} (ps : List (Nat × Operand)) {vs : List Value} {cs : Array Value} (hpl : structPl P t = some pl) (hz : ∀ w, (zeroValue t).run P w = .ok z w)
    (hp : parts.toList = ps) (hv : evArgs ρ (ps.map (·.2)) = some vs) (hf : Instr.fill (fun i => pl[i]?) z.cells ((ps.map (·.1)).zip vs) = some cs) :
    RunV P n ⟨do_, .build t parts, ty, pos, aft, none⟩ ρ w (.agg cs) := fun ac hr => by
  have hparts : (parts.map fun (x : Nat × Operand) => (x.1, ac.eval x.2)).toList = (ps.map (·.1)).zip vs := by
    rw [Array.toList_map, hp, ← evArgs_map hr hv, List.map_map]
    clear hp hv hf
    induction ps with
    | nil => rfl
    | cons q l ih => simp only [List.map_cons, List.zip_cons_cons, ih]; rfl
  unfold structPl at hpl
  split at hpl
  · rename_i fs hu
    have hpl' : Sem.run P (fs.mapM fun f => (do pure (f.offset, ← sizeOf f.type) : Sem (Nat × Nat))) w = .ok pl.toArray w := by
      rw [Array.mapM_eq_mapM_toList, Sem.run_map, run_places hpl]; rfl
    simp only [execOp, Instr.build, Sem.run_bind, hz, Result.andThen_ok, run_underlying hu, hpl']
    have : (fun (i : Nat) => pl.toArray[i]?) = (fun (i : Nat) => pl[i]?) := by funext i; simp
    rw [hparts, this, hf]
    rfl
  · cases hpl

def fieldT (P : Program) (s f : Nat) : Option (Nat × Nat) :=
  match P.underlying s with
  | some (.struct fs) => (fs[f]?).map fun fd => (fd.offset, fd.type)
  | _ => none

theorem R_fieldV {s f off ft : Nat} {cs : Array Value} (hf : fieldT P s f = some (off, ft)) (hag : ∀ w, (isAgg ft).run P w = .ok false w) (hx : evO ρ x = some (.agg cs)) (hc : cs[off]? = some v) : RunV P n ⟨do_, .field s x f, ty, pos, aft, none⟩ ρ w v := fun ac hr => by
  unfold fieldT at hf
  split at hf
  · rename_i fs hu
    obtain ⟨fd, hfd, he⟩ := Option.map_eq_some_iff.1 hf
    simp only [Prod.mk.injEq] at he
    obtain ⟨rfl, rfl⟩ := he
    simp [execOp, hr.eval hx, Instr.field, run_underlying hu, Sem.run_bind, hfd, part, hag, hc, asAgg]
  · cases hf

theorem R_fieldA {s f off ft sz : Nat} {cs : Array Value} (hf : fieldT P s f = some (off, ft)) (hag : ∀ w, (isAgg ft).run P w = .ok true w) (hsz : ∀ w, (sizeOf ft).run P w = .ok sz w) (hx : evO ρ x = some (.agg cs)) : RunV P n ⟨do_, .field s x f, ty, pos, aft, none⟩ ρ w (.agg (cs.extract off (off + sz))) := fun ac hr => by
  unfold fieldT at hf
  split at hf
  · rename_i fs hu
    obtain ⟨fd, hfd, he⟩ := Option.map_eq_some_iff.1 hf
    simp only [Prod.mk.injEq] at he
    obtain ⟨rfl, rfl⟩ := he
    simp [execOp, hr.eval hx, Instr.field, run_underlying hu, Sem.run_bind, hfd, part, hag, hsz, asAgg]
  · cases hf

theorem R_indexV {m e : Nat} {cs : Array Value} {i : Int} (hu : P.underlying t = some (.array m e)) (hsz : ∀ w, (sizeOf e).run P w = .ok 1 w) (hag : ∀ w, (isAgg e).run P w = .ok false w) (hx : evO ρ x = some (.agg cs)) (hy : evO ρ y = some (.int k i)) (h0 : 0 ≤ i) (h1 : i < m) (hc : cs[i.toNat]? = some v) : RunV P n ⟨do_, .index t x y, ty, pos, aft, none⟩ ρ w v := fun ac hr => by
  simp [execOp, hr.eval hx, hr.eval hy, Instr.index, asIntOf, run_underlying hu, Sem.run_bind, h0, h1, part, hag, hsz, hc]

theorem R_indexVA {m e sz : Nat} {cs : Array Value} {i : Int} (hu : P.underlying t = some (.array m e)) (hsz : ∀ w, (sizeOf e).run P w = .ok sz w) (hag : ∀ w, (isAgg e).run P w = .ok true w) (hx : evO ρ x = some (.agg cs)) (hy : evO ρ y = some (.int k i)) (h0 : 0 ≤ i) (h1 : i < m) : RunV P n ⟨do_, .index t x y, ty, pos, aft, none⟩ ρ w (.agg (cs.extract (i.toNat * sz) (i.toNat * sz + sz))) := fun ac hr => by
  simp [execOp, hr.eval hx, hr.eval hy, Instr.index, asIntOf, run_underlying hu, Sem.run_bind, h0, h1, part, hag, hsz]

/-- The pointer to an array whose elements are the first ones of a slice. -/
theorem R_arrPtr {m e : Nat} {arr : TypeId} {ao : Option Addr} {l c : Nat} (hu : P.underlying arr = some (.array m e)) (hx : evO ρ x = some (.slice ao l c)) (hl : m ≤ l) : RunV P n ⟨do_, .sliceToArrayPointer arr x, ty, pos, aft, none⟩ ρ w (.pointer ao) := fun ac hr => by
  have : ¬ l < m := by omega
  simp [execOp, hr.eval hx, Instr.arrayAt, run_underlying hu, Sem.run_bind, this]

/-- The slice of a whole array in memory. -/
theorem R_sliceArr {m e b o : Nat} (hu : P.underlying t = some (.array m e)) (hsz : ∀ w, (sizeOf e).run P w = .ok 1 w) (hx : evO ρ x = some (.pointer (some ⟨b, o, none⟩))) : RunV P n ⟨do_, .slice t x none none none, ty, pos, aft, none⟩ ρ w (.slice (some ⟨b, o, none⟩) m m) := fun ac hr => by
  have e : ∀ z, (⟨b, o, none⟩ : Addr).add (0 * z) = ⟨b, o, none⟩ := fun z => by unfold Addr.add; split <;> simp_all
  simp [execOp, hr.eval hx, Instr.sliceAt, Instr.sliceBounds, Instr.sureAddr, run_underlying hu, Sem.run_bind, hsz]
  intro _
  simpa using e 1

/-- copy into an owned block. -/
theorem O_copy {e i b o dl dc mm : Nat} {tt t2 : TypeId} {c : Array Value} {u : Value} {news : List Value} (hs : St W F D es ds w) (hi : es[i]? = some (blk b c tt)) (hd : Nat.blt d n = true) (hu : P.underlying t = some (.slice e)) (hsz : (P.info? e).map (·.size) = some 1)
    (hx : evO ρ x = some (.slice (some ⟨b, o, none⟩) dl dc)) (hy : evO ρ y = some u) (hsrc : Src w u mm 1 news) (hfit : o + dl ≤ c.size) (h1 : ∀ u ∈ news, u.oneCell' = true)
    (hK : ∀ w', St W F D (es.set i (blk b (c.toList.take o ++ news.take dl ++ c.toList.drop (o + min mm dl)).toArray tt)) ds w' → K (upd ρ d (.int .i64 ((min mm dl : Nat) : Int))) w') : EOp P n ⟨some d, .call ⟨.builtin .copy, #[x, y], #[t, t2]⟩, ty, pos, aft, none⟩ K ρ w := fun a ha => by
  have hb : w.heap[b]? = some (.cells c tt (0, 0)) := hs.at hi
  unfold Oper.wp
  obtain ⟨hlen, hcase⟩ := hsrc
  rw [Nat.mul_one] at hlen
  have hlt : (news.take dl).length = Nat.min mm dl := by
    rw [List.length_take, hlen]; exact Nat.min_comm _ _
  have key : ∃ w', (Builtin.copy_ #[t, t2] ty #[.slice (some ⟨b, o, none⟩) dl dc, u]).run P w = .ok (goInt ((min mm dl : Nat) : Int)) w' ∧ w' = w.setRow b (c.toList.take o ++ news.take dl ++ c.toList.drop (o + min mm dl)).toArray := by
    rcases hcase with ⟨rfl, rfl⟩ | ⟨a2, cc, rfl, hc⟩
    · have hr := run_copy_none (P := P) w t t2 ty e (some ⟨b, o, none⟩) none dl dc 0 0 hu hsz (Nat.zero_min _)
      refine ⟨w, by rw [Nat.zero_min]; exact hr, ?_⟩
      have hn : news = [] := List.eq_nil_of_length_eq_zero hlen
      subst hn
      rw [Nat.zero_min, Nat.add_zero, List.take_nil, List.append_nil, List.take_append_drop]
      exact (setRow_self w b c tt (0, 0) hb).symm
    · have hr := run_copy_row (P := P) w t t2 ty e b o dl dc a2 mm cc c tt (news.take dl) hu hsz hb hlt (fun j v hj => by
        refine hc j v ?_
        rw [List.getElem?_take] at hj
        split at hj
        · exact hj
        · cases hj) (by rw [hlt]; have : Nat.min mm dl ≤ dl := Nat.min_le_right _ _; omega) (fun v hv => h1 v (List.mem_of_mem_take hv))
      rw [hlt] at hr
      exact ⟨_, hr, rfl⟩
  obtain ⟨w', hr, hw'⟩ := key
  subst hw'
  have hrun : (execOp a.eval ⟨some d, .call ⟨.builtin .copy, #[x, y], #[t, t2]⟩, ty, pos, aft, none⟩).run P w = .ok (.value (goInt ((min mm dl : Nat) : Int))) (w.setRow b (c.toList.take o ++ news.take dl ++ c.toList.drop (o + min mm dl)).toArray) := by
    simp only [execOp, resolve, invoke, builtin, Sem.run_bind, Sem.run_pure, Result.andThen_ok, List.map_toArray, List.map_cons, List.map_nil, ha.eval hx, ha.eval hy, hr]
  rw [hrun]
  refine ⟨_, ha.put hd _, hK _ (hs.setBlk hi _ _ ⟨rfl, rfl, rfl⟩ (by simp [World.setRow]) (heap_setRow_same hb) (fun k hk => ?_))⟩
  simp only [World.setRow, Array.getElem?_modify]
  rw [if_neg (by omega)]
end

/-! ### Lists of words and bytes in memory -/
theorem u32s_get {l : List UInt32} {i : Nat} {c : UInt32} (h : l[i]? = some c) : (u32s l).toArray[i]? = some (V32 c) := by simp [u32s, h]
theorem u32s_getD {l : List UInt32} {i o : Nat} (ho : o = i) (h : i < l.length) : (u32s l).toArray[o]? = some (V32 (l.getD i 0)) := by subst ho; simp [u32s, h]
theorem u8s_getD {l : BL} {i o : Nat} (ho : o = i) (h : i < l.length) : (u8s l).toArray[o]? = some (V8 (l.getD i 0)) := by subst ho; simp [u8s_eq, h]
theorem u32s_set (l : List UInt32) (i o : Nat) (ho : o = i) (c : UInt32) : (u32s l).toArray.setIfInBounds o (V32 c) = (u32s (l.set i c)).toArray := by
  subst ho; simp [u32s, List.map_set]
theorem u8s_set (l : BL) (i o : Nat) (ho : o = i) (c : UInt8) : (u8s l).toArray.setIfInBounds o (V8 c) = (u8s (l.set i c)).toArray := by
  subst ho; simp [u8s_eq, List.map_set]
theorem u32s_one (l : List UInt32) : ((u32s l).toArray.all (·.oneCell')) = true := by simp [u32s, V32, Value.oneCell']
theorem u8s_oneA (l : BL) : ((u8s l).toArray.all (·.oneCell')) = true := by simp [u8s, Value.oneCell']

/-- The owned pieces in another order. -/
theorem St.perm {W w : World} {F D : Nat → Prop} {es es' ds : List Asn} (hs : St W F D es ds w) (h : es.Perm es') : St W F D es' ds w :=
  ⟨hs.os, hs.tape, hs.output, hs.size, hs.frame, fun a ha => hs.eh a (h.mem_iff.2 ha), hs.dh, fun a ha => hs.ef a (h.mem_iff.2 ha), hs.df,
    (h.pairwise_iff (fun hab k hb ha => hab k ha hb)).1 hs.ee, fun a ha => hs.ed a (h.mem_iff.2 ha)⟩
theorem St.swap01 {W w : World} {F D : Nat → Prop} {a b : Asn} {es ds : List Asn} (hs : St W F D (a :: b :: es) ds w) : St W F D (b :: a :: es) ds w := hs.perm (List.Perm.swap _ _ _)

/-- A cut of bytes that are only read. -/
theorem St.dBcut {W w : World} {F D : Nat → Prop} {es ds : List Asn} {ao : Option Addr} {c : Nat} {l : BL} (hs : St W F D es ds w) {j : Nat} (hj : ds[j]? = some (dB ao c l)) (lo hi : Nat) (h1 : lo ≤ hi) (h2 : hi ≤ l.length) :
    St W F D es (ds ++ [dB (cutO ao c lo 1) (c - lo) ((l.drop lo).take (hi - lo))]) w := by
  have e1 : ((l.drop lo).take (hi - lo)).length = hi - lo := by rw [List.length_take, List.length_drop]; omega
  have e2 : ((u8s l).drop (lo * 1)).take ((hi - lo) * 1) = u8s ((l.drop lo).take (hi - lo)) := by simp [u8s, List.map_drop, List.map_take]
  refine hs.derive (d := dB ao c l) (List.mem_of_getElem? hj) _ (fun h => ?_) (fun k hk => dSl.cut_foot (l := lo) (h := hi) k (by rw [e2]; exact hk))
  have h3 := dSl.cut (l := lo) (h := hi) h h1 h2
  rw [e2] at h3
  show (dSl _ _ _ _ _).P w
  rw [e1]; exact h3
theorem St.dBdrop {W w : World} {F D : Nat → Prop} {es ds : List Asn} {ao : Option Addr} {c : Nat} {l : BL} (hs : St W F D es ds w) {j : Nat} (hj : ds[j]? = some (dB ao c l)) (lo : Nat) (h2 : lo ≤ l.length) :
    St W F D es (ds ++ [dB (cutO ao c lo 1) (c - lo) (l.drop lo)]) w := by
  have h := hs.dBcut hj lo l.length h2 (Nat.le_refl _)
  rwa [List.take_of_length_le (by rw [List.length_drop]; omega)] at h
theorem St.dBtake {W w : World} {F D : Nat → Prop} {es ds : List Asn} {ao : Option Addr} {c : Nat} {l : BL} (hs : St W F D es ds w) {j : Nat} (hj : ds[j]? = some (dB ao c l)) (hi : Nat) :
    St W F D es (ds ++ [dB ao c (l.take hi)]) w := by
  have e2 : (u8s l).take (min hi l.length * 1) = u8s (l.take hi) := by
    rw [Nat.mul_one, u8s, u8s, ← List.map_take]
    congr 1
    rcases Nat.le_total hi l.length with h | h
    · rw [Nat.min_eq_left h]
    · rw [Nat.min_eq_right h, List.take_length, List.take_of_length_le h]
  refine hs.derive (d := dB ao c l) (List.mem_of_getElem? hj) _ (fun h => ?_) (fun k hk => dSl.hi_foot (h := min hi l.length) k (by rw [e2]; exact hk))
  have h3 := dSl.hi (h := min hi l.length) h (Nat.min_le_right _ _)
  rw [e2] at h3
  show (dSl _ _ _ _ _).P w
  rw [List.length_take]; exact h3

theorem sI {k : IntKind} {p q : Int} (h : p = q) : some (Value.int k p) = some (Value.int k q) := by rw [h]
theorem sB {p q : Bool} (h : p = q) : some (Value.bool p) = some (Value.bool q) := by rw [h]

/-- A result that lies in a block. -/
theorem res_cell {P : Program} {ρ : Env} {W w : World} {F D : Nat → Prop} {es ds : List Asn} {i a b sz : Nat} {c : Array Value} {t tt : TypeId} (hs : St W F D es ds w) (hi : es[i]? = some (blk b c tt)) (hsz : ∀ w, (sizeOf t).run P w = .ok sz w) (hag : ∀ w, (isAgg t).run P w = .ok true w)
    (hx : ρ a = some (.pointer (some ⟨b, 0, none⟩))) (hl : c.size = sz) : ResV P ρ w (.cell a t) (.agg c) := by
  refine ⟨_, hx, ?_⟩
  have h := run_loadRange (P := P) (w := w) (t := t) (b := b) (o := 0) (cs := c.toList) hsz hag (by simpa using hl) (fun i u hu => by rw [cell_blk (hs.at hi)]; simpa using hu)
  simpa using h

#print axioms R_buildA
#print axioms R_buildS
#print axioms R_not32
end Go.Proofs.Ytpcojkbljgpecaa
