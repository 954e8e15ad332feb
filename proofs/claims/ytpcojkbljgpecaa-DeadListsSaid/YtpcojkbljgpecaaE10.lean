/- The engine, part 10: pointers to blocks as values, and whether two of them are the same. -/
import Derived.Test.YtpcojkbljgpecaaE9
import Derived.DeepKeys
namespace Go.Proofs.Ytpcojkbljgpecaa
open Go

/-- A pointer to a block, as the program holds it. -/
structure Ptr where
  pos : Int
  birth : Int
  len : Int
  crc : UInt32
  sha : BL
  hsha : sha.length = 32
deriving DecidableEq
def Ptr.l (p : Ptr) : List Value := .int .i64 p.pos :: .int .i64 p.birth :: .int .i64 p.len :: V32 p.crc :: u8s p.sha
def Ptr.cells (p : Ptr) : Array Value := p.l.toArray
def Ptr.val (p : Ptr) : Value := .agg p.cells
def Ptr.none : Ptr := ⟨0, 0, 0, 0, List.replicate 32 0, rfl⟩
theorem Ptr.len_l (p : Ptr) : p.l.length = 36 := by simp [Ptr.l, u8s, p.hsha]
theorem Ptr.size (p : Ptr) : p.cells.size = 36 := by simp [Ptr.cells, Ptr.len_l]
theorem Ptr.oneA (p : Ptr) : (p.cells.all (·.oneCell')) = true := by
  simp [Ptr.cells, Ptr.l, u8s, V32, Value.oneCell']
theorem Ptr.one_l (p : Ptr) : ∀ u ∈ p.l, u.oneCell' = true := by
  intro u hu
  simp only [Ptr.l, u8s, List.mem_cons, List.mem_map] at hu
  rcases hu with rfl | rfl | rfl | rfl | ⟨c, _, rfl⟩ <;> rfl
theorem Ptr.sha_get (p : Ptr) (i : Nat) (h : i < 32) : p.cells[4 + i]? = some (V8 (p.sha.getD i 0)) := by
  have := p.hsha
  simp only [Ptr.cells, Ptr.l, List.getElem?_toArray]
  rw [show 4 + i = i + 4 by omega]
  simp [u8s_eq, this, h]
theorem Ptr.sha_drop (p : Ptr) : p.cells.extract 4 (4 + 32) = (u8s p.sha).toArray := by
  have h := p.hsha
  apply Array.toList_inj.1
  simp only [Ptr.cells, Ptr.l, Array.toList_extract, List.extract, List.drop_succ_cons, List.drop_zero]
  rw [List.take_of_length_le (by simp [u8s, h])]
theorem V8_inj {a b : UInt8} : V8 a = V8 b ↔ a = b := by
  constructor
  · intro h
    simp only [V8, Value.int.injEq, Int.natCast_inj, true_and] at h
    exact UInt8.toNat_inj.1 h
  · rintro rfl; rfl
theorem V32_inj {a b : UInt32} : V32 a = V32 b ↔ a = b := by
  constructor
  · intro h
    simp only [V32, Value.int.injEq, Int.natCast_inj, true_and] at h
    exact UInt32.toNat_inj.1 h
  · rintro rfl; rfl
theorem u8s_inj {a b : BL} (h : u8s a = u8s b) : a = b := by
  rw [u8s_eq, u8s_eq] at h
  exact (List.map_inj_right (fun x y hxy => V8_inj.1 hxy)).1 h
theorem Ptr.ext_iff' {p q : Ptr} : p = q ↔ p.pos = q.pos ∧ p.birth = q.birth ∧ p.len = q.len ∧ p.crc = q.crc ∧ p.sha = q.sha := by
  constructor
  · rintro rfl; simp
  · obtain ⟨a, b, c, d, e, h⟩ := p
    obtain ⟨a', b', c', d', e', h'⟩ := q
    rintro ⟨rfl, rfl, rfl, rfl, rfl⟩
    rfl
theorem Ptr.l_inj {p q : Ptr} (h : p.l = q.l) : p = q := by
  simp only [Ptr.l, List.cons.injEq, Value.int.injEq, true_and] at h
  obtain ⟨h1, h2, h3, h4, h5⟩ := h
  exact Ptr.ext_iff'.2 ⟨h1, h2, h3, V32_inj.1 h4, u8s_inj h5⟩

/-- What is asked of the type of pointers. -/
structure PtrT (P : Program) (t ti tu ta te : TypeId) : Prop where
  u : P.underlying t = some (.struct (P.fieldsOf t))
  held : P.stoodInHeld t = false
  guard : P.eqGuardType P.depth t = false
  fs : (P.fieldsOf t).toList.map (fun f => (f.name == "_", f.type, f.offset)) = [(false, ti, 0), (false, ti, 1), (false, ti, 2), (false, tu, 3), (false, ta, 4)]
  ui : P.underlying ti = some (.int .i64)
  uu : P.underlying tu = some (.int .u32)
  ua : P.underlying ta = some (.array 32 te)
  ue : P.underlying te = some (.int .u8)
  ia : (P.info? ta).map (·.size) = some 32
  ie : (P.info? te).map (·.size) = some 1

section
variable {P : Program} {n : Nat} {ρ : Env} {K : Env → World → Prop} {w : World} {do_ : Option Nat} {ty : TypeId} {pos : String} {aft : Array Edge} {x y : Operand} {t t' ti tu ta te : TypeId}

theorem run_eqItems8 (d : Nat) (hue : P.underlying te = some (.int .u8)) (c : Nat) (hc : c = 1) {a b : BL} {m : Nat} (ha : a.length = m) (hb : b.length = m) : ∀ (is : List Nat), (∀ i, i ∈ is → i < m) →
    (Op.eqItems (d + 1) te c (u8s a).toArray (u8s b).toArray is).run P w = .ok (decide (∀ i, i ∈ is → a.getD i 0 = b.getD i 0)) w
  | [], _ => by simp [Op.eqItems]
  | i :: is, h => by
    subst hc
    have hi := h i List.mem_cons_self
    have h1 := run_part_plain (P := P) w (e := te) (by simp [Program.plainKey, hue]) (u8s_getD (l := a) (i := i) (o := i * 1) (by simp) (by omega))
    have h2 := run_part_plain (P := P) w (e := te) (by simp [Program.plainKey, hue]) (u8s_getD (l := b) (i := i) (o := i * 1) (by simp) (by omega))
    have h3 := run_equalIn_int (P := P) w d te .u8 .u8 ((a.getD i 0).toNat : Int) ((b.getD i 0).toNat : Int) hue
    have ih := run_eqItems8 d hue 1 rfl ha hb is (fun j hj => h j (List.mem_cons_of_mem _ hj))
    simp only [Op.eqItems, Sem.run_bind, h1, h2, Result.andThen_ok, V8, h3]
    by_cases he : a.getD i 0 = b.getD i 0
    · have : (((a.getD i 0).toNat : Int) == ((b.getD i 0).toNat : Int)) = true := by rw [he]; simp
      simp only [this, Bool.not_true, Bool.false_eq_true, if_false, ih]
      congr 1
      rw [decide_eq_decide]
      exact ⟨fun hh j hj => (List.mem_cons.1 hj).elim (fun e => e ▸ he) (hh j), fun hh j hj => hh j (List.mem_cons_of_mem _ hj)⟩
    · have : (((a.getD i 0).toNat : Int) == ((b.getD i 0).toNat : Int)) = false := by
        rw [beq_eq_false_iff_ne]; intro e; exact he (UInt8.toNat_inj.1 (by exact_mod_cast e))
      simp only [this, Bool.not_false, if_true, Sem.run_pure]
      congr 1
      symm
      rw [decide_eq_false_iff_not]
      intro hall; exact he (hall i List.mem_cons_self)

theorem getD_ext {a b : BL} {m : Nat} (ha : a.length = m) (hb : b.length = m) : (∀ i, i ∈ List.range m → a.getD i 0 = b.getD i 0) ↔ a = b := by
  constructor
  · intro h
    apply List.ext_getElem (by omega)
    intro i h1 h2
    have := h i (by rw [List.mem_range]; omega)
    simpa [List.getD_eq_getElem?_getD, h1, h2] using this
  · rintro rfl _ _; rfl

theorem run_eqPtr (hT : PtrT P t ti tu ta te) (p q : Ptr) : (Op.equalIn 10000 t p.val q.val).run P w = .ok (decide (p = q)) w := by
  rw [Ptr.val, Ptr.val, run_equalIn_struct w 9999 t _ _ hT.u hT.held]
  have hfs := hT.fs
  generalize (P.fieldsOf t).toList = fs at hfs
  rcases fs with _ | ⟨f0, _ | ⟨f1, _ | ⟨f2, _ | ⟨f3, _ | ⟨f4, _ | ⟨f5, fs⟩⟩⟩⟩⟩⟩
  case cons.cons.cons.cons.cons.nil =>
    simp only [List.map_cons, List.map_nil, List.cons.injEq, Prod.mk.injEq, and_true] at hfs
    obtain ⟨⟨n0, t0, o0⟩, ⟨n1, t1, o1⟩, ⟨n2, t2, o2⟩, ⟨n3, t3, o3⟩, ⟨n4, t4, o4⟩⟩ := hfs
    have pi : P.plainKey ti = true := by simp [Program.plainKey, hT.ui]
    have pu : P.plainKey tu = true := by simp [Program.plainKey, hT.uu]
    have part0 : ∀ p : Ptr, (part ti p.cells 0).run P w = .ok (.int .i64 p.pos) w := fun p => run_part_plain w pi rfl
    have part1 : ∀ p : Ptr, (part ti p.cells 1).run P w = .ok (.int .i64 p.birth) w := fun p => run_part_plain w pi rfl
    have part2 : ∀ p : Ptr, (part ti p.cells 2).run P w = .ok (.int .i64 p.len) w := fun p => run_part_plain w pi rfl
    have part3 : ∀ p : Ptr, (part tu p.cells 3).run P w = .ok (V32 p.crc) w := fun p => run_part_plain w pu rfl
    have part4 : ∀ p : Ptr, (part ta p.cells 4).run P w = .ok (.agg (u8s p.sha).toArray) w := fun p => by
      obtain ⟨inf, hinf, hsz⟩ := Option.map_eq_some_iff.1 hT.ia
      rw [← Ptr.sha_drop]
      simp [part, isAgg, run_underlying hT.ua, Sem.run_bind, sizeOf, typeInfo, hinf, hsz]
    have e0 : ∀ a b : Int, (Op.equalIn 9999 ti (.int .i64 a) (.int .i64 b)).run P w = .ok (a == b) w := fun a b => run_equalIn_int (P := P) w 9998 ti .i64 .i64 a b hT.ui
    have e3 : ∀ a b : Int, (Op.equalIn 9999 tu (.int .u32 a) (.int .u32 b)).run P w = .ok (a == b) w := fun a b => run_equalIn_int (P := P) w 9998 tu .u32 .u32 a b hT.uu
    have e4 : ∀ p q : Ptr, (Op.equalIn 9999 ta (.agg (u8s p.sha).toArray) (.agg (u8s q.sha).toArray)).run P w = .ok (decide (p.sha = q.sha)) w := fun p q => by
      obtain ⟨inf, hinf, hsz⟩ := Option.map_eq_some_iff.1 hT.ie
      rw [show (9999 : Nat) = 9998 + 1 from rfl, run_equalIn_array w 9998 _ _ hT.ua hinf]
      have hc : P.cellsOf te = 1 := by simp [Program.cellsOf, hinf, hsz]
      rw [run_eqItems8 9997 hT.ue _ hc p.hsha q.hsha (List.range 32) (fun i hi => List.mem_range.1 hi)]
      congr 1
      exact decide_eq_decide.2 (getD_ext p.hsha q.hsha)
    have n0' : ¬ f0.name = "_" := by simpa using n0
    have n1' : ¬ f1.name = "_" := by simpa using n1
    have n2' : ¬ f2.name = "_" := by simpa using n2
    have n3' : ¬ f3.name = "_" := by simpa using n3
    have n4' : ¬ f4.name = "_" := by simpa using n4
    simp only [Op.eqFields, n0', n1', n2', n3', n4', ne_eq, not_false_eq_true, if_true, Sem.run_bind, t0, t1, t2, t3, t4, o0, o1, o2, o3, o4, part0, part1, part2, part3, part4, Result.andThen_ok]
    simp only [V32, e0, Result.andThen_ok]
    by_cases h0 : p.pos = q.pos
    · by_cases h1 : p.birth = q.birth
      · by_cases h2 : p.len = q.len
        · by_cases h3 : p.crc = q.crc
          · by_cases h4 : p.sha = q.sha
            · simp [Ptr.ext_iff', part0, part1, part2, part3, part4, V32, e0, e3, e4, h0, h1, h2, h3, h4]
            · simp [Ptr.ext_iff', part0, part1, part2, part3, part4, V32, e0, e3, e4, h0, h1, h2, h3, h4]
          · have : ((p.crc.toNat : Int) == (q.crc.toNat : Int)) = false := by
              rw [beq_eq_false_iff_ne]; intro e; exact h3 (UInt32.toNat_inj.1 (by exact_mod_cast e))
            simp [Ptr.ext_iff', part0, part1, part2, part3, part4, V32, e0, e3, e4, h0, h1, h2, h3, this]
        · simp [Ptr.ext_iff', part0, part1, part2, part3, part4, V32, e0, e3, e4, h0, h1, h2]
      · simp [Ptr.ext_iff', part0, part1, part2, part3, part4, V32, e0, e3, e4, h0, h1]
    · simp [Ptr.ext_iff', part0, part1, part2, part3, part4, V32, e0, e3, e4, h0]
  all_goals simp at hfs

theorem R_eqlPtr (hT : PtrT P t ti tu ta te) {p q : Ptr} (hx : evO ρ x = some p.val) (hy : evO ρ y = some q.val) : RunV P n ⟨do_, .binOp .eql t x y t', ty, pos, aft, none⟩ ρ w (.bool (decide (p = q))) := fun ac hr => by
  have hg := run_eqGuard_agg (P := P) w .eql t x y p.cells q.cells hT.guard
  have hb := run_eql_struct (P := P) w t p.cells q.cells
  have he := run_eqPtr (w := w) hT p q
  simp only [Ptr.val] at he
  rw [he] at hb
  simp only [execOp, hr.eval hx, hr.eval hy, Ptr.val, Sem.run_bind, hg, hb, Result.andThen_ok, Sem.run_pure]
theorem R_neqPtr (hT : PtrT P t ti tu ta te) {p q : Ptr} (hx : evO ρ x = some p.val) (hy : evO ρ y = some q.val) : RunV P n ⟨do_, .binOp .neq t x y t', ty, pos, aft, none⟩ ρ w (.bool (decide (p ≠ q))) := fun ac hr => by
  have hg := run_eqGuard_agg (P := P) w .neq t x y p.cells q.cells hT.guard
  have hb := run_neq_struct (P := P) w t p.cells q.cells
  have he := run_eqPtr (w := w) hT p q
  simp only [Ptr.val] at he
  rw [he] at hb
  simp only [execOp, hr.eval hx, hr.eval hy, Ptr.val, Sem.run_bind, hg, hb, Result.andThen_ok, Sem.run_pure]
  simp
end
/-- An owned slice of known address from now on is only read. -/
theorem St.freezeAt {W w : World} {F D : Nat → Prop} {es ds : List Asn} (hs : St W F D es ds w) {i : Nat} {ao : Option Addr} {e sz m mm c : Nat} {xs : List Value} (hi : es[i]? = some (oSl (.slice ao mm c) e sz m xs)) : St W F D (es.eraseIdx i) (ds ++ [dSl ao mm c sz xs]) w := by
  obtain ⟨ao', c', hv, h⟩ := hs.freezeSl hi
  injection hv with h1 h2 h3
  subst h1; subst h2; subst h3
  exact h

theorem R_convIU {P : Program} {n : Nat} {ρ : Env} {w : World} {do_ : Option Nat} {ty : TypeId} {pos : String} {aft : Array Edge} {x : Operand} {s u : TypeId} {dsc : TypeDesc} {q : Int} (hs : P.underlying s = some dsc) (hu : P.underlying u = some (.int .u64)) (hx : evO ρ x = some (.int .i64 q)) (h0 : 0 ≤ q) (h1 : q ≤ 9223372036854775807) :
    RunV P n ⟨do_, .convert s u x, ty, pos, aft, none⟩ ρ w (.int .u64 ((q.toNat : Nat) : Int)) := by
  have h := R_convI (P := P) (n := n) (ρ := ρ) (w := w) (d := do_) (ty := ty) (pos := pos) (aft := aft) hs hu hx
  have e : q = ((q.toNat : Nat) : Int) := (Int.toNat_of_nonneg h0).symm
  have hw : IntKind.u64.wrap q = ((q.toNat : Nat) : Int) := by
    conv => lhs; rw [e]
    exact wrapU rfl (by simp [IntKind.bits]; omega)
  rwa [hw] at h

#print axioms R_eqlPtr
end Go.Proofs.Ytpcojkbljgpecaa
