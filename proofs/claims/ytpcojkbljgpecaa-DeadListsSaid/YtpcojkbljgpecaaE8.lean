/- The engine, part 8: unsigned numbers as naturals; texts turned into bytes; owned slices that are only read from now on. -/
import Derived.Test.YtpcojkbljgpecaaE7
namespace Go.Proofs.Ytpcojkbljgpecaa
open Go

theorem wrapU {k : IntKind} {a : Nat} (hk : k.signed = false) (h : a < 2 ^ k.bits) : k.wrap (a : Int) = a := by
  unfold IntKind.wrap
  have h1 : ((a : Int) % (2 ^ k.bits : Int)) = a := by
    apply Int.emod_eq_of_lt (by omega)
    exact_mod_cast h
  simp [hk, h1]

theorem wrapU_mod {k : IntKind} {a : Nat} (hk : k.signed = false) : k.wrap (a : Int) = ((a % 2 ^ k.bits : Nat) : Int) := by
  unfold IntKind.wrap
  simp [hk]

section
variable {P : Program} {n : Nat} {ρ : Env} {K : Env → World → Prop} {W w : World} {F D : Nat → Prop} {es ds : List Asn} {d : Nat} {do_ : Option Nat} {ty : TypeId} {pos : String} {aft : Array Edge} {x y : Operand} {t t' : TypeId} {k k' : IntKind} {a b : Nat} {q : Int}

theorem R_shrU (sn : Nat) (hx : evO ρ x = some (.int k (a : Int))) (hy : evO ρ y = some (.int k' q)) (hq : q = (sn : Int)) (ha : a < 2 ^ k.bits) : RunV P n ⟨do_, .binOp .shr t x y t', ty, pos, aft, none⟩ ρ w (.int k ((a / 2 ^ sn : Nat) : Int)) := fun ac hr => by
  subst hq
  have hn : ¬ ((sn : Int) < 0) := by omega
  simp only [execOp, hr.eval hx, hr.eval hy, eqGuard, binOp, Op.shift, hn, if_false, Int.toNat_natCast]
  have e : (a : Int).fdiv (2 ^ (min sn k.bits)) = ((a / 2 ^ sn : Nat) : Int) := by
    have e1 : ((2 : Int) ^ (min sn k.bits)) = ((2 ^ (min sn k.bits) : Nat) : Int) := by push_cast; rfl
    rw [e1, Int.fdiv_eq_ediv_of_nonneg _ (Int.natCast_nonneg _)]
    rw [← Int.natCast_ediv]
    congr 1
    rcases Nat.le_total sn k.bits with h | h
    · rw [Nat.min_eq_left h]
    · rw [Nat.min_eq_right h, Nat.div_eq_of_lt ha, Nat.div_eq_of_lt (Nat.lt_of_lt_of_le ha (Nat.pow_le_pow_right (by omega) h))]
  rw [e]
  rfl

theorem R_shlU (sn : Nat) (hk : k.signed = false) (hx : evO ρ x = some (.int k (a : Int))) (hy : evO ρ y = some (.int k' q)) (hq : q = (sn : Int)) : RunV P n ⟨do_, .binOp .shl t x y t', ty, pos, aft, none⟩ ρ w (.int k ((a * 2 ^ sn % 2 ^ k.bits : Nat) : Int)) := fun ac hr => by
  subst hq
  have hn : ¬ ((sn : Int) < 0) := by omega
  simp only [execOp, hr.eval hx, hr.eval hy, eqGuard, binOp, Op.shift, hn, if_false, Int.toNat_natCast]
  have e : k.wrap ((a : Int) * 2 ^ (min sn k.bits)) = ((a * 2 ^ sn % 2 ^ k.bits : Nat) : Int) := by
    have e1 : ((a : Int) * 2 ^ (min sn k.bits)) = ((a * 2 ^ (min sn k.bits) : Nat) : Int) := by push_cast; rfl
    rw [e1, wrapU_mod hk]
    congr 1
    rcases Nat.le_total sn k.bits with h | h
    · rw [Nat.min_eq_left h]
    · rw [Nat.min_eq_right h, Nat.mul_mod_left]
      have : 2 ^ sn = 2 ^ (sn - k.bits) * 2 ^ k.bits := by rw [← Nat.pow_add]; congr 1; omega
      rw [this, ← Nat.mul_assoc, Nat.mul_mod_left]
  rw [e]
  rfl

theorem bits_back {k : IntKind} (hk : k.signed = false) (r : BitVec k.bits) : k.wrap (r.toNat : Int) = r.toNat := wrapU hk r.isLt

theorem R_orU (hk : k.signed = false) (hx : evO ρ x = some (.int k (a : Int))) (hy : evO ρ y = some (.int k (b : Int))) (ha : a < 2 ^ k.bits) (hb : b < 2 ^ k.bits) : RunV P n ⟨do_, .binOp .or t x y t', ty, pos, aft, none⟩ ρ w (.int k ((a ||| b : Nat) : Int)) := fun ac hr => by
  have e : BitVec.ofInt k.bits (a : Int) ||| BitVec.ofInt k.bits (b : Int) = BitVec.ofNat k.bits (a ||| b) := by
    rw [BitVec.ofInt_natCast, BitVec.ofInt_natCast, BitVec.ofNat_or]
  have hl : a ||| b < 2 ^ k.bits := Nat.or_lt_two_pow ha hb
  simp only [execOp, hr.eval hx, hr.eval hy, eqGuard, binOp, Op.intBits, ne_eq, not_true, if_false, e, BitVec.toNat_ofNat, Nat.mod_eq_of_lt hl, wrapU hk hl]
  rfl
theorem R_andU (hk : k.signed = false) (hx : evO ρ x = some (.int k (a : Int))) (hy : evO ρ y = some (.int k (b : Int))) (hb : b < 2 ^ k.bits) : RunV P n ⟨do_, .binOp .and t x y t', ty, pos, aft, none⟩ ρ w (.int k ((a &&& b : Nat) : Int)) := fun ac hr => by
  have e : BitVec.ofInt k.bits (a : Int) &&& BitVec.ofInt k.bits (b : Int) = BitVec.ofNat k.bits (a &&& b) := by
    rw [BitVec.ofInt_natCast, BitVec.ofInt_natCast, BitVec.ofNat_and]
  have hl : a &&& b < 2 ^ k.bits := Nat.and_lt_two_pow _ hb
  simp only [execOp, hr.eval hx, hr.eval hy, eqGuard, binOp, Op.intBits, ne_eq, not_true, if_false, e, BitVec.toNat_ofNat, Nat.mod_eq_of_lt hl, wrapU hk hl]
  rfl
theorem R_xorU (hk : k.signed = false) (hx : evO ρ x = some (.int k (a : Int))) (hy : evO ρ y = some (.int k (b : Int))) (ha : a < 2 ^ k.bits) (hb : b < 2 ^ k.bits) : RunV P n ⟨do_, .binOp .xor t x y t', ty, pos, aft, none⟩ ρ w (.int k ((a ^^^ b : Nat) : Int)) := fun ac hr => by
  have e : BitVec.ofInt k.bits (a : Int) ^^^ BitVec.ofInt k.bits (b : Int) = BitVec.ofNat k.bits (a ^^^ b) := by
    rw [BitVec.ofInt_natCast, BitVec.ofInt_natCast, BitVec.ofNat_xor]
  have hl : a ^^^ b < 2 ^ k.bits := Nat.xor_lt_two_pow ha hb
  simp only [execOp, hr.eval hx, hr.eval hy, eqGuard, binOp, Op.intBits, ne_eq, not_true, if_false, e, BitVec.toNat_ofNat, Nat.mod_eq_of_lt hl, wrapU hk hl]
  rfl

/-- c &^ 128 of a byte. -/
theorem R_andNot128 (hx : evO ρ x = some (.int .u8 (a : Int))) (hy : evO ρ y = some (.int .u8 128)) (ha : a < 256) : RunV P n ⟨do_, .binOp .andNot t x y t', ty, pos, aft, none⟩ ρ w (.int .u8 ((a % 128 : Nat) : Int)) := fun ac hr => by
  have e : ∀ a : Fin 256, IntKind.u8.wrap (((BitVec.ofInt 8 ((a.val : Nat) : Int) &&& ~~~(BitVec.ofInt 8 128)).toNat : Nat) : Int) = ((a.val % 128 : Nat) : Int) := by decide +kernel
  have := e ⟨a, ha⟩
  simp only [execOp, hr.eval hx, hr.eval hy, eqGuard, binOp, Op.intBits, ne_eq, not_true, if_false]
  show Sem.run P (pure (Next.value (Value.int .u8 _))) w = _
  exact congrArg (fun z => Result.ok (Next.value (Value.int .u8 z)) w) this

/-- Conversions of naturals. -/
theorem R_convU {s u : TypeId} {dsc : TypeDesc} (hk : k'.signed = false) (hs : P.underlying s = some dsc) (hu : P.underlying u = some (.int k')) (hx : evO ρ x = some (.int k (a : Int))) : RunV P n ⟨do_, .convert s u x, ty, pos, aft, none⟩ ρ w (.int k' ((a % 2 ^ k'.bits : Nat) : Int)) := by
  have := R_convI (P := P) (n := n) (ρ := ρ) (w := w) (d := do_) (ty := ty) (pos := pos) (aft := aft) hs hu hx
  rwa [wrapU_mod hk] at this
theorem R_convN {s u : TypeId} {dsc : TypeDesc} (hk : k'.signed = false) (hs : P.underlying s = some dsc) (hu : P.underlying u = some (.int k')) (hx : evO ρ x = some (.int k (a : Int))) (ha : a < 2 ^ k'.bits) : RunV P n ⟨do_, .convert s u x, ty, pos, aft, none⟩ ρ w (.int k' (a : Int)) := by
  have := R_convI (P := P) (n := n) (ρ := ρ) (w := w) (d := do_) (ty := ty) (pos := pos) (aft := aft) hs hu hx
  rwa [wrapU hk ha] at this
theorem R_convS {s u : TypeId} {dsc : TypeDesc} (hs : P.underlying s = some dsc) (hu : P.underlying u = some (.int .i64)) (hx : evO ρ x = some (.int k q)) (h0 : -9223372036854775808 ≤ q) (h1 : q ≤ 9223372036854775807) : RunV P n ⟨do_, .convert s u x, ty, pos, aft, none⟩ ρ w (.int .i64 q) := by
  have := R_convI (P := P) (n := n) (ρ := ρ) (w := w) (d := do_) (ty := ty) (pos := pos) (aft := aft) hs hu hx
  rwa [wrap_i64 h0 h1] at this

/-- A text as new bytes, that are only read. -/
theorem O_convBytes {s u e : TypeId} {ud : TypeDesc} {l : BL} (hs : St W F D es ds w) (hd : Nat.blt d n = true) (h1 : P.underlying s = some ud) (h2 : P.underlying u = some (.slice e)) (h3 : P.underlying e = some (.int .u8)) (hx : evO ρ x = some (.string (bstr l)))
    (hK : ∀ b c w', W.heap.size ≤ b → St W F D es (ds ++ [dB (some ⟨b, 0, none⟩) c l]) w' → K (upd ρ d (.slice (some ⟨b, 0, none⟩) l.length c)) w') : EOp P n ⟨some d, .convert s u x, ty, pos, aft, none⟩ K ρ w := fun a ha => by
  unfold Oper.wp
  have hsz : (bstr l).size = l.length := by simp [bstr, ByteArray.size]
  have hrun : (execOp a.eval ⟨some d, .convert s u x, ty, pos, aft, none⟩).run P w = .ok (.value (.slice (some ⟨w.heap.size, 0, none⟩) l.length (grownCap w (bstr l).size 0 e))) (Lib.bytesWorld w e (bstr l)) := by
    simp only [execOp, ha.eval hx, Sem.run_bind, Lib.run_convert_string_bytes w s u e (bstr l) h1 h2 h3, Result.andThen_ok, Sem.run_pure, hsz]
  rw [hrun]
  have hsize : (Lib.bytesWorld w e (bstr l)).heap.size = w.heap.size + 1 := by
    simp [Lib.bytesWorld, World.freeze, World.alloc, World.drew, -World.alloc_eq, -World.drew_eq]
  have hst : St W F D es ds (Lib.bytesWorld w e (bstr l)) := hs.grow (by simp [Lib.bytesWorld, World.freeze, World.alloc, World.drew, -World.alloc_eq, -World.drew_eq]) (by simp [Lib.bytesWorld, World.freeze, World.alloc, World.drew, -World.alloc_eq, -World.drew_eq]) (by simp [Lib.bytesWorld, World.freeze, World.alloc, World.drew, -World.alloc_eq, -World.drew_eq]) (by omega) (fun k hk => Lib.bytesWorld_at_old w e (bstr l) k hk)
  refine ⟨_, ha.put hd _, hK _ _ _ hs.size (hst.data _ ?_ ?_)⟩
  · refine ⟨⟨by rw [← hsz]; exact grownCap_ge w _ 0 e, by simp, by intro ad had _; cases had; rfl⟩, by simp [u8s], fun _ => ⟨_, _, rfl, fun i u hu => ?_⟩⟩
    have hnew : ∃ fr, (Lib.bytesWorld w e (bstr l)).heap[w.heap.size]? = some (.cells (Lib.bytesCells w e (bstr l)) e fr) := by
      simp only [Lib.bytesWorld, World.freeze, Nat.one_ne_zero, if_false, Array.getElem?_modify, if_true]
      rw [show (w.drew.alloc (.cells (Lib.bytesCells w e (bstr l)) e)).heap[w.heap.size]? = some (.cells (Lib.bytesCells w e (bstr l)) e) from heap_alloc_new w.drew _]
      exact ⟨_, rfl⟩
    obtain ⟨fr, hfr⟩ := hnew
    rw [cell_blk hfr, Nat.zero_add]
    simp only [u8s, List.getElem?_map, Option.map_eq_some_iff] at hu
    obtain ⟨c, hc, rfl⟩ := hu
    have hil : i < l.length := (List.getElem?_eq_some_iff.1 hc).1
    simp only [Lib.bytesCells, Array.getElem?_append, bstr]
    simp [hil, (List.getElem?_eq_some_iff.1 hc).2]
  · intro k hk
    obtain ⟨_, ad, had, rfl⟩ := hk
    obtain rfl := Option.some.inj had
    refine ⟨by rw [hsize]; exact Nat.lt_succ_self _, fun h => absurd (Nat.lt_of_lt_of_le h hs.size) (Nat.lt_irrefl _), fun a ha hak => absurd (hs.ef a ha _ hak).1 (Nat.lt_irrefl _)⟩

/-- An owned slice from now on is only read. -/
theorem St.freezeSl (hs : St W F D es ds w) {i : Nat} {v : Value} {e sz m : Nat} {xs : List Value} (hi : es[i]? = some (oSl v e sz m xs)) : ∃ ao c, v = .slice ao m c ∧ St W F D (es.eraseIdx i) (ds ++ [dSl ao m c sz xs]) w := by
  have h := hs.at hi
  have hv : ∃ ao c, v = .slice ao m c := by
    rcases h.2 with ⟨rfl, hm⟩ | ⟨g, cap, cur, rfl, _⟩
    · subst hm; exact ⟨none, 0, rfl⟩
    · exact ⟨_, cap, rfl⟩
  obtain ⟨ao, c, rfl⟩ := hv
  obtain ⟨_, hmc, hlen, hc, hnil⟩ := own_cells h rfl
  have hok : SOk ao c := ⟨fun h => (hnil h).2, fun ad had _ => by obtain ⟨g, rfl, _⟩ := hc ad had; rfl⟩
  refine ⟨ao, c, rfl, hs.freeze hi _ (fun _ => ⟨⟨hmc, hok⟩, hlen, fun hne => ?_⟩) (fun k hk => ?_)⟩
  · cases ao with
    | none =>
      have := (hnil rfl).1
      subst this
      rw [Nat.zero_mul] at hlen
      exact absurd (List.eq_nil_of_length_eq_zero hlen) hne
    | some ad =>
      obtain ⟨g, rfl, hcc⟩ := hc ad rfl
      exact ⟨g, 0, rfl, hcc⟩
  · obtain ⟨_, ad, rfl, rfl⟩ := hk
    rfl
end

theorem one_flat1 {v : Value} (h : v.oneCell' = true) : ∀ u ∈ [v].flatMap (fun x => x.cells.toList), u.oneCell' = true := by
  intro u hu
  cases v <;> simp_all [Value.cells, Value.oneCell']
theorem flat1 {v : Value} (h : v.oneCell' = true) : [v].flatMap (fun x => x.cells.toList) = [v] := by
  cases v <;> simp_all [Value.cells, Value.oneCell']
theorem size1 {v : Value} (h : v.oneCell' = true) : ∀ u, u ∈ [v] → u.cells.size = 1 := by
  intro u hu
  rw [List.mem_singleton.1 hu]
  cases v <;> simp_all [Value.cells, Value.oneCell']
theorem sizeN {v : Value} {sz : Nat} (h : v.cells.size = sz) : ∀ u, u ∈ [v] → u.cells.size = sz := by
  intro u hu
  rw [List.mem_singleton.1 hu]; exact h

/-- A piece told in other words. -/
theorem St.as {W w : World} {F D : Nat → Prop} {es ds : List Asn} (hs : St W F D es ds w) {es' ds' : List Asn} (h1 : es = es') (h2 : ds = ds') : St W F D es' ds' w := h1 ▸ h2 ▸ hs

theorem St.asSl {W w : World} {F D : Nat → Prop} {es ds : List Asn} (hs : St W F D es ds w) {i : Nat} {v : Value} {e sz m : Nat} {xs : List Value} (hi : es[i]? = some (oSl v e sz m xs)) (m' : Nat) (xs' : List Value) (h1 : m = m') (h2 : xs = xs') : St W F D (es.set i (oSl v e sz m' xs')) ds w := by
  subst h1; subst h2
  have : es.set i (oSl v e sz m xs) = es := by
    apply List.ext_getElem?
    intro j
    rw [List.getElem?_set]
    split
    · rename_i h; subst h; rw [hi]; split
      · rfl
      · rename_i h; exact absurd (List.getElem?_eq_some_iff.1 hi).1 h
    · rfl
  rw [this]; exact hs

theorem u8s_append (a b : BL) : u8s (a ++ b) = u8s a ++ u8s b := by simp [u8s]
theorem u8s_snoc (l : BL) {z : Int} (b : UInt8) (h : z = ((b.toNat : Nat) : Int)) : u8s l ++ [Value.int .u8 z].flatMap (fun x => x.cells.toList) = u8s (l ++ [b]) := by
  rw [flat1 rfl, h]; simp [u8s]
theorem u8_ofNat (n : Nat) : ((UInt8.ofNat n).toNat : Int) = ((n % 256 : Nat) : Int) := by simp
theorem R_lenStrB {P : Program} {n : Nat} {ρ : Env} {w : World} {do_ : Option Nat} {ty : TypeId} {pos : String} {aft : Array Edge} {x : Operand} {t : TypeId} {l : BL} (hu : P.underlying t = some .string) (hx : evO ρ x = some (.string (bstr l))) : RunV P n ⟨do_, .call ⟨.builtin .len, #[x], #[t]⟩, ty, pos, aft, none⟩ ρ w (.int .i64 (l.length : Int)) := by
  have := R_lenStr (P := P) (n := n) (ρ := ρ) (w := w) (d := do_) (ty := ty) (pos := pos) (aft := aft) hu hx
  have e : (bstr l).size = l.length := by simp [bstr, ByteArray.size]
  rwa [e] at this

theorem u8s_get {l : BL} {i : Nat} {c : UInt8} (h : l[i]? = some c) : (u8s l)[i]? = some (.int .u8 ((c.toNat : Nat) : Int)) := by simp [u8s, h]
theorem u8s_nil {l : BL} {i : Nat} (h : i < l.length) : u8s l ≠ [] := by
  intro e
  have := congrArg List.length e
  simp [u8s] at this
  subst this
  simp at h
theorem dSl.hi {w : World} {ao : Option Addr} {m c sz h : Nat} {cs : List Value} (hd : (dSl ao m c sz cs).P w) (h2 : h ≤ m) : (dSl ao h c sz (cs.take (h * sz))).P w := by
  obtain ⟨⟨hmc, hok⟩, hlen, hr⟩ := hd
  have hb : h * sz ≤ cs.length := by rw [hlen]; exact Nat.mul_le_mul_right _ h2
  refine ⟨⟨by omega, hok⟩, by rw [List.length_take]; omega, fun hne => ?_⟩
  obtain ⟨b, o, hao, hrow⟩ := hr (by intro h; subst h; simp at hne)
  refine ⟨b, o, hao, fun i u hu => ?_⟩
  rw [List.getElem?_take] at hu
  split at hu
  · exact hrow i u hu
  · cases hu
theorem dSl.hi_foot {ao : Option Addr} {m c sz h : Nat} {cs : List Value} : ∀ k, (dSl ao h c sz (cs.take (h * sz))).foot k → (dSl ao m c sz cs).foot k := by
  intro k ⟨hne, ad, hao, hk⟩
  exact ⟨by intro h; subst h; simp at hne, ad, hao, hk⟩

def u64s (l : List Nat) : List Value := l.map fun (n : Nat) => .int .u64 ((n : Nat) : Int)
theorem u64s_get {l : List Nat} {i : Nat} {c : Nat} (h : l[i]? = some c) : (u64s l)[i]? = some (.int .u64 (c : Int)) := by simp [u64s, h]

#print axioms R_andNot128
#print axioms O_convBytes
#print axioms St.freezeSl
end Go.Proofs.Ytpcojkbljgpecaa
