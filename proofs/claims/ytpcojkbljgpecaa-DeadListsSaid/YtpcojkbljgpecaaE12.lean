/- The engine, part 12: maps whose keys are numbers: made, looked up, written, ranged over. -/
import Derived.Test.YtpcojkbljgpecaaE11
import Derived.Maps.RangeRun
namespace Go.Proofs.Ytpcojkbljgpecaa
open Go

def entOf (l : List MapEntry) : List (Value × Value) := l.map fun e => (e.key, e.val)
def mapI (l : List (Int × Value)) : List (Value × Value) := l.map fun p => (.int .i64 p.1, p.2)
/-- The place and the value of a key, counted from a number on. -/
def fnd : List (Int × Value) → Int → Nat → Option (Nat × Value)
  | [], _, _ => none
  | p :: l, k, i => if k = p.1 then some (i, p.2) else fnd l k (i + 1)
def mget : List (Int × Value) → Int → Option Value
  | [], _ => none
  | p :: l, k => if k = p.1 then some p.2 else mget l k
def mput : List (Int × Value) → Int → Value → List (Int × Value)
  | [], k, v => [(k, v)]
  | p :: l, k, v => if k = p.1 then (k, v) :: l else p :: mput l k v
theorem fnd_mget : ∀ (l : List (Int × Value)) (k : Int) (i : Nat), (fnd l k i).map (·.2) = mget l k
  | [], _, _ => rfl
  | p :: l, k, i => by
    unfold fnd mget
    split
    · rfl
    · exact fnd_mget l k (i + 1)
theorem fnd_ge : ∀ (l : List (Int × Value)) (k : Int) (i j : Nat) (v : Value), fnd l k i = some (j, v) → i ≤ j
  | p :: l, k, i, j, v, h => by
    unfold fnd at h
    split at h
    · simp only [Option.some.injEq, Prod.mk.injEq] at h; omega
    · have := fnd_ge l k (i + 1) j v h; omega
theorem mget_mput_same : ∀ (l : List (Int × Value)) (k : Int) (v : Value), mget (mput l k v) k = some v
  | [], k, v => by simp [mput, mget]
  | p :: l, k, v => by
    unfold mput
    split
    · simp [mget]
    · rename_i h; simp [mget, h, mget_mput_same l k v]
theorem mget_mput_ne : ∀ (l : List (Int × Value)) (k j : Int) (v : Value), j ≠ k → mget (mput l k v) j = mget l j
  | [], k, j, v, h => by simp [mput, mget, h]
  | p :: l, k, j, v, h => by
    unfold mput
    split
    · rename_i hk
      subst hk
      simp [mget, h]
    · simp only [mget]
      split
      · rfl
      · exact mget_mput_ne l k j v h

theorem findNow_int : ∀ (es : List MapEntry) (l : List (Int × Value)) (k : Int) (i : Nat), entOf es = mapI l → Instr.findNow (.int .i64) (.int .i64 k) es i = some (fnd l k i)
  | [], [], _, _, _ => rfl
  | e :: es, p :: l, k, i, h => by
    simp only [entOf, mapI, List.map_cons, List.cons.injEq, Prod.mk.injEq] at h
    obtain ⟨⟨h1, h2⟩, h3⟩ := h
    unfold Instr.findNow fnd
    rw [h1, h2]
    simp only [Instr.sameNow, if_true]
    by_cases hk : k = p.1
    · simp [hk]
    · have : (k == p.1) = false := by simpa using hk
      rw [this, if_neg hk]
      exact findNow_int es l k (i + 1) h3
  | [], _ :: _, _, _, h => by simp [entOf, mapI] at h
  | _ :: _, [], _, _, h => by simp [entOf, mapI] at h

theorem modify_int : ∀ (es : List MapEntry) (l : List (Int × Value)) (k : Int) (v v0 : Value) (i j : Nat), entOf es = mapI l → fnd l k i = some (j, v0) → j - i < es.length ∧ ((es[j - i]?).map (·.key)) = some (.int .i64 k) ∧ entOf (es.modify (j - i) fun e => { e with key := .int .i64 k, val := v }) = mapI (mput l k v)
  | e :: es, p :: l, k, v, v0, i, j, h, hf => by
    simp only [entOf, mapI, List.map_cons, List.cons.injEq, Prod.mk.injEq] at h
    obtain ⟨⟨h1, h2⟩, h3⟩ := h
    unfold fnd at hf
    unfold mput
    split at hf
    · rename_i hk
      simp only [Option.some.injEq, Prod.mk.injEq] at hf
      obtain ⟨rfl, _⟩ := hf
      rw [if_pos hk, Nat.sub_self]
      refine ⟨by simp, by simp [h1, hk], ?_⟩
      simp only [List.modify_zero_cons, entOf, mapI, List.map_cons, List.cons.injEq, Prod.mk.injEq, true_and, h3, and_self]
    · rename_i hk
      rw [if_neg hk]
      have hge := fnd_ge l k (i + 1) j v0 hf
      have ih := modify_int es l k v v0 (i + 1) j h3 hf
      obtain ⟨d, hd⟩ : ∃ d, j - i = d + 1 := ⟨j - (i + 1), by omega⟩
      have hd' : j - (i + 1) = d := by omega
      rw [hd'] at ih
      rw [hd]
      refine ⟨by simp; omega, by simpa using ih.2.1, ?_⟩
      have h4 := ih.2.2
      simp only [entOf, mapI] at h4
      simp only [List.modify_succ_cons, entOf, mapI, List.map_cons, h1, h2, h4]
  | [], [], _, _, _, _, _, _, h => by simp [fnd] at h
  | [], _ :: _, _, _, _, _, _, h, _ => by simp [entOf, mapI] at h
  | _ :: _, [], _, _, _, _, _, h, _ => by simp [entOf, mapI] at h
theorem mput_none : ∀ (l : List (Int × Value)) (k : Int) (v : Value) (i : Nat), fnd l k i = none → mput l k v = l ++ [(k, v)]
  | [], _, _, _, _ => rfl
  | p :: l, k, v, i, h => by
    unfold fnd at h
    split at h
    · cases h
    · rename_i hk
      unfold mput
      rw [if_neg hk, mput_none l k v (i + 1) h]
      rfl

/-- A map in memory. -/
def mpA (b : Nat) (l : List (Int × Value)) : Asn :=
  ⟨fun k => k = b, fun w => ∃ es clock, w.heap[b]? = some (.map es clock) ∧ entOf es.toList = mapI l ∧ (es.toList.map (·.born)).Nodup ∧ ∀ e ∈ es.toList, e.born < clock,
   fun w w' h hp => by obtain ⟨es, clock, h1, h2⟩ := hp; exact ⟨es, clock, by rw [h b rfl]; exact h1, h2⟩⟩

section
variable {P : Program} {n : Nat} {ρ : Env} {K : Env → World → Prop} {W w : World} {F D : Nat → Prop} {es ds : List Asn} {d : Nat} {do_ : Option Nat} {ty : TypeId} {pos : String} {aft : Array Edge} {x y z : Operand} {t t' : TypeId} {v : Value}

theorem St.pushObj (hs : St W F D es ds w) (o : Obj) (a : Asn) (hf : ∀ k, a.foot k → k = w.heap.size) (hP : a.P (w.alloc o)) : St W F D (es ++ [a]) ds (w.alloc o) := by
  have h1 : St W F D es ds (w.alloc o) := hs.grow rfl rfl rfl (by rw [heap_alloc]; simp) (fun k hk => by show (w.heap.push _)[k]? = _; rw [Array.getElem?_push, if_neg (Nat.ne_of_lt hk)])
  refine h1.add _ hP (fun k hk => ?_)
  obtain rfl := hf k hk
  exact ⟨by rw [heap_alloc]; simp, fun h => absurd (Nat.lt_of_lt_of_le h hs.size) (Nat.lt_irrefl _), fun a ha hk => absurd (hs.ef a ha _ hk).1 (Nat.lt_irrefl _), fun d hd hk => absurd (hs.df d hd _ hk).1 (Nat.lt_irrefl _)⟩

theorem O_makeMap (hs : St W F D es ds w) (hd : Nat.blt d n = true)
    (hK : ∀ b w', W.heap.size ≤ b → St W F D (es ++ [mpA b []]) ds w' → K (upd ρ d (.map (some b))) w') : EOp P n ⟨some d, .makeMap t none, ty, pos, aft, none⟩ K ρ w := fun a ha => by
  unfold Oper.wp
  have hrun : (execOp a.eval ⟨some d, .makeMap t none, ty, pos, aft, none⟩).run P w = .ok (.value (.map (some w.heap.size))) (w.alloc (.map #[] 0)) := by
    simp [execOp, Instr.makeMap, newObj, Sem.run]
  rw [hrun]
  exact ⟨_, ha.put hd _, hK _ _ hs.size (hs.pushObj _ (mpA w.heap.size []) (fun k hk => hk) ⟨#[], 0, heap_alloc_new w _, rfl, by simp, by simp⟩)⟩

theorem R_lenMap {b : Nat} {l : List (Int × Value)} {kt et : TypeId} (hb : (mpA b l).P w) (hu : P.underlying t = some (.map kt et)) (hx : evO ρ x = some (.map (some b))) : RunV P n ⟨do_, .call ⟨.builtin .len, #[x], #[t]⟩, ty, pos, aft, none⟩ ρ w (.int .i64 (l.length : Int)) := fun a ha => by
  obtain ⟨es, clock, h1, h2, _⟩ := hb
  have hl : es.size = l.length := by
    have := congrArg List.length h2
    simpa [entOf, mapI] using this
  simp [execOp, resolve, invoke, builtin, Builtin.len_, ha.eval hx, run_underlying hu, Sem.run_bind, goInt, MapKept.run_getObj_map h1, hl]

theorem run_checkI {kt : TypeId} {e : Bool} {k : Int} (hk : P.underlying kt = some (.int .i64)) : (Instr.checkKey e 10000 kt (.int .i64 k)).run P w = .ok () w := by
  rw [show (10000 : Nat) = 9999 + 1 from rfl]
  unfold Instr.checkKey
  simp only [Sem.run_bind, run_underlying hk, Result.andThen_ok]
  rfl

theorem run_findI {kt : TypeId} {k : Int} {es : List MapEntry} {l : List (Int × Value)} (hk : P.underlying kt = some (.int .i64)) (he : entOf es = mapI l) : (Instr.findKey kt (.int .i64 k) es).run P w = .ok (fnd l k 0) w := by
  unfold Instr.findKey
  simp only [Sem.run_bind, run_underlying hk, Result.andThen_ok, findNow_int es l k 0 he]
  rfl

/-- A look-up that tells also whether the key is there. -/
theorem R_lookupOk {b : Nat} {l : List (Int × Value)} {kt et : TypeId} {k : Int} {zv : Value} (hb : (mpA b l).P w) (hu : P.underlying t = some (.map kt et)) (hk : P.underlying kt = some (.int .i64)) (hz : ∀ w, (zeroValue et).run P w = .ok zv w)
    (hx : evO ρ x = some (.map (some b))) (hy : evO ρ y = some (.int .i64 k)) : RunV P n ⟨do_, .lookup t x y true, ty, pos, aft, none⟩ ρ w (.tuple #[(mget l k).getD zv, .bool (mget l k).isSome]) := fun a ha => by
  obtain ⟨es, clock, h1, h2, _⟩ := hb
  simp only [execOp, ha.eval hx, ha.eval hy, Instr.lookup, Sem.run_bind, run_underlying hu, Result.andThen_ok, MapKept.run_getObj_map h1, Sem.run_pure, run_checkI hk, run_findI hk h2]
  rw [← fnd_mget l k 0]
  cases fnd l k 0 <;> simp [Sem.run_bind, hz]

theorem R_lookup {b : Nat} {l : List (Int × Value)} {kt et : TypeId} {k : Int} {zv : Value} (hb : (mpA b l).P w) (hu : P.underlying t = some (.map kt et)) (hk : P.underlying kt = some (.int .i64)) (hz : ∀ w, (zeroValue et).run P w = .ok zv w)
    (hx : evO ρ x = some (.map (some b))) (hy : evO ρ y = some (.int .i64 k)) : RunV P n ⟨do_, .lookup t x y false, ty, pos, aft, none⟩ ρ w ((mget l k).getD zv) := fun a ha => by
  obtain ⟨es, clock, h1, h2, _⟩ := hb
  simp only [execOp, ha.eval hx, ha.eval hy, Instr.lookup, Sem.run_bind, run_underlying hu, Result.andThen_ok, MapKept.run_getObj_map h1, Sem.run_pure, run_checkI hk, run_findI hk h2]
  rw [← fnd_mget l k 0]
  cases fnd l k 0 <;> simp [Sem.run_bind, hz]

theorem heap_set_same {h : Array Obj} {b : Nat} {o o' : Obj} (hb : h[b]? = some o) : (h.setIfInBounds b o')[b]? = some o' := by
  have := (Array.getElem?_eq_some_iff.1 hb).1
  simp [this]

theorem O_mapUpdate {b i : Nat} {l : List (Int × Value)} {kt et : TypeId} {k : Int} (hs : St W F D es ds w) (hi : es[i]? = some (mpA b l)) (hu : P.underlying t = some (.map kt et)) (hk : P.underlying kt = some (.int .i64))
    (hx : evO ρ x = some (.map (some b))) (hy : evO ρ y = some (.int .i64 k)) (hz : evO ρ z = some v)
    (hK : ∀ w', St W F D (es.set i (mpA b (mput l k v))) ds w' → K ρ w') : EOp P n ⟨none, .mapUpdate t x y z, ty, pos, aft, none⟩ K ρ w := fun a ha => by
  obtain ⟨ms, clock, h1, h2, h3, h4⟩ : (mpA b l).P w := hs.at hi
  unfold Oper.wp
  have key : ∃ ms' clock', (Instr.mapUpdate t (.map (some b)) (.int .i64 k) v).run P w = .ok () { w with heap := w.heap.setIfInBounds b (.map ms' clock') } ∧ entOf ms'.toList = mapI (mput l k v) ∧ (ms'.toList.map (·.born)).Nodup ∧ ∀ e ∈ ms'.toList, e.born < clock' := by
    cases hf : fnd l k 0 with
    | none =>
      refine ⟨ms.push { key := .int .i64 k, val := v, born := clock }, clock + 1, ?_, ?_, ?_, ?_⟩
      · simp only [Instr.mapUpdate, Sem.run_bind, run_underlying hu, Result.andThen_ok, MapKept.run_getObj_map h1, run_checkI hk, run_findI hk h2, hf, MapKept.run_setObj_map _ h1]
      · rw [mput_none l k v 0 hf]
        simp only [entOf, mapI] at h2
        simp [entOf, mapI, h2]
      · rw [Array.toList_push, List.map_append, List.nodup_append]
        refine ⟨h3, by simp, ?_⟩
        intro x hx y hy
        obtain ⟨e, he, rfl⟩ := List.mem_map.1 hx
        simp only [List.map_cons, List.map_nil, List.mem_singleton] at hy
        have := h4 e he
        omega
      · intro e he
        rw [Array.toList_push, List.mem_append] at he
        rcases he with he | he
        · have := h4 e he; omega
        · obtain rfl := List.mem_singleton.1 he; exact Nat.lt_succ_self _
    | some jv =>
      obtain ⟨j, v0⟩ := jv
      obtain ⟨hj, hkey, hmod⟩ := modify_int ms.toList l k v v0 0 j h2 hf
      simp only [Nat.sub_zero] at hj hkey hmod
      refine ⟨ms.modify j fun e => { e with key := .int .i64 k, val := v }, clock, ?_, ?_, ?_, ?_⟩
      · have hkk : ((ms[j]?).map (·.key)).getD (Value.int .i64 k) = .int .i64 k := by
          rw [Array.getElem?_toList] at hkey
          rw [hkey]; rfl
        have hst : (Instr.keyThatStays (.int .i64 k) (.int .i64 k)).run P w = .ok (.int .i64 k) w := by
          unfold Instr.keyThatStays
          rw [if_pos (by simp [Instr.sameBits])]
          rfl
        simp only [Instr.mapUpdate, Sem.run_bind, run_underlying hu, Result.andThen_ok, MapKept.run_getObj_map h1, run_checkI hk, run_findI hk h2, hf, hkk, hst, MapKept.run_setObj_map _ h1]
      · rw [Array.toList_modify]; exact hmod
      · have : ((ms.modify j fun e => { e with key := Value.int .i64 k, val := v }).toList.map (·.born)) = ms.toList.map (·.born) := by
          rw [Array.toList_modify]
          apply List.ext_getElem?
          intro q
          simp only [List.getElem?_map, List.getElem?_modify]
          cases ms.toList[q]? with
          | none => rfl
          | some e => by_cases hjq : j = q <;> simp [hjq]
        rw [this]; exact h3
      · intro e he
        rw [Array.toList_modify] at he
        obtain ⟨q, hq, rfl⟩ := List.getElem_of_mem he
        have hq2 : q < ms.toList.length := by simpa using hq
        have h5 := h4 (ms.toList[q]) (List.getElem_mem hq2)
        rw [List.getElem_modify]
        split <;> exact h5
  obtain ⟨ms', clock', hrun, e1, e2, e3⟩ := key
  have hr : (execOp a.eval ⟨none, .mapUpdate t x y z, ty, pos, aft, none⟩).run P w = .ok .skip { w with heap := w.heap.setIfInBounds b (.map ms' clock') } := by
    simp only [execOp, ha.eval hx, ha.eval hy, ha.eval hz, Sem.run_bind, hrun, Result.andThen_ok, Sem.run_pure]
  rw [hr]
  refine ⟨ρ, by simpa [Act.put] using ha, hK _ (hs.change hi (mpA b (mput l k v)) rfl rfl rfl (by simp) (fun q _ hq => ?_) ⟨ms', clock', heap_set_same h1, e1, e2, e3⟩ (fun q hq => ⟨.inl hq, ?_⟩))⟩
  · have hne : b ≠ q := fun e => hq e.symm
    show (w.heap.setIfInBounds b _)[q]? = _
    rw [Array.getElem?_setIfInBounds_ne hne]
  · obtain rfl : q = b := hq
    have := (Array.getElem?_eq_some_iff.1 h1).1
    simpa using this
/-! ### Ranging over a map -/
/-- A map and an iterator over it: what it holds, what is still to come (in whatever order), and the entry that came last. -/
def rngA (r b : Nat) (l rest : List (Int × Value)) (cur : Option (Int × Value)) : Asn :=
  ⟨fun k => k = r ∨ k = b, fun w => ∃ (ms : Array MapEntry) (clock since : Nat) (seen : Array Nat) (c0 : Nat), w.heap[b]? = some (.map ms clock) ∧ entOf ms.toList = mapI l ∧ (ms.toList.map (·.born)).Nodup ∧ (∀ e ∈ ms.toList, e.born < clock) ∧ w.heap[r]? = some (.mapIter (some b) since seen c0) ∧
      (∀ e ∈ ms.toList, e.born < since) ∧ since ≤ c0 ∧ since ≤ clock ∧ (entOf (leftOf ms seen).toList).Perm (mapI rest) ∧ (∀ p, cur = some p → c0 = clock ∧ ∃ e ∈ ms.toList, ∃ s0 : Array Nat, seen = s0.push e.born ∧ e.key = .int .i64 p.1 ∧ e.val = p.2),
   fun w w' h hp => by
    obtain ⟨ms, clock, since, seen, c0, h1, h2, h3, h4, h5, h6⟩ := hp
    exact ⟨ms, clock, since, seen, c0, by rw [h b (.inr rfl)]; exact h1, h2, h3, h4, by rw [h r (.inl rfl)]; exact h5, h6⟩⟩

theorem leftOf_nil (ms : Array MapEntry) : leftOf ms #[] = ms := by
  unfold leftOf
  exact Array.filter_eq_self.2 (fun x _ => by simp)

theorem filter_born_perm : ∀ (L : List MapEntry) (e : MapEntry), (L.map (·.born)).Nodup → e ∈ L → L.Perm (e :: L.filter fun x => x.born != e.born)
  | x :: L, e, hn, he => by
    rw [List.map_cons, List.nodup_cons] at hn
    rcases List.mem_cons.1 he with rfl | he
    · rw [List.filter_cons_of_neg (by simp)]
      have : L.filter (fun x => x.born != e.born) = L := List.filter_eq_self.2 (fun y hy => by
        simp only [bne_iff_ne, ne_eq]
        intro hh
        exact hn.1 (hh ▸ List.mem_map.2 ⟨y, hy, rfl⟩))
      rw [this]
    · have hx : x.born ≠ e.born := fun hh => hn.1 (hh ▸ List.mem_map.2 ⟨e, he, rfl⟩)
      rw [List.filter_cons_of_pos (by simpa using hx)]
      exact ((filter_born_perm L e hn.2 he).cons x).trans (List.Perm.swap _ _ _)

theorem leftOf_push (ms : Array MapEntry) (seen : Array Nat) (e : MapEntry) (hn : (ms.toList.map (·.born)).Nodup) (he : e ∈ (leftOf ms seen).toList) : (leftOf ms seen).toList.Perm (e :: (leftOf ms (seen.push e.born)).toList) := by
  have hsub : ((leftOf ms seen).toList.map (·.born)).Nodup := by
    unfold leftOf
    rw [Array.toList_filter]
    exact (List.filter_sublist.map _).nodup hn
  have h := filter_born_perm _ e hsub he
  have e1 : (leftOf ms (seen.push e.born)).toList = (leftOf ms seen).toList.filter fun x => x.born != e.born := by
    unfold leftOf
    rw [Array.toList_filter, Array.toList_filter, List.filter_filter]
    congr 1
    funext x
    by_cases hx : x.born = e.born
    · simp [hx]
    · have : (x.born != e.born) = true := by simpa using hx
      simp [this, hx]
  rw [e1]; exact h

theorem O_range {b i : Nat} {l : List (Int × Value)} {kt et : TypeId} (hs : St W F D es ds w) (hi : es[i]? = some (mpA b l)) (hd : Nat.blt d n = true) (hu : P.underlying t = some (.map kt et)) (hx : evO ρ x = some (.map (some b)))
    (hK : ∀ r w', W.heap.size ≤ r → St W F D (es.set i (rngA r b l l none)) ds w' → K (upd ρ d (.pointer (some ⟨r, 0, none⟩))) w') : EOp P n ⟨some d, .range t x, ty, pos, aft, none⟩ K ρ w := fun a ha => by
  obtain ⟨ms, clock, h1, h2, h3, h4⟩ : (mpA b l).P w := hs.at hi
  have hblt := (Array.getElem?_eq_some_iff.1 h1).1
  unfold Oper.wp
  have hrun : (execOp a.eval ⟨some d, .range t x, ty, pos, aft, none⟩).run P w = .ok (.value (.pointer (some ⟨w.heap.size, 0, none⟩))) (w.alloc (.mapIter (some b) clock #[] clock)) := by
    simp only [execOp, ha.eval hx, Sem.run_bind, run_range_map w t kt et b ms clock hu h1, Result.andThen_ok, Sem.run_pure]
  rw [hrun]
  refine ⟨_, ha.put hd _, hK _ _ hs.size (hs.change hi (rngA w.heap.size b l l none) rfl rfl rfl (by rw [heap_alloc]; simp) (fun k hk _ => by show (w.heap.push _)[k]? = _; rw [Array.getElem?_push, if_neg (Nat.ne_of_lt hk)]) ?_ (fun k hk => ?_))⟩
  · refine ⟨ms, clock, clock, #[], clock, ?_, h2, h3, h4, heap_alloc_new w _, h4, Nat.le_refl _, Nat.le_refl _, ?_, fun p hp => by cases hp⟩
    · rw [heap_alloc_old w _ hblt]; exact h1
    · rw [leftOf_nil, h2]
  · rcases hk with rfl | rfl
    · exact ⟨.inr (Nat.le_refl _), by rw [heap_alloc]; simp⟩
    · exact ⟨.inl rfl, by rw [heap_alloc]; simp; omega⟩

theorem O_next {b i r : Nat} {l rest : List (Int × Value)} {cur : Option (Int × Value)} (hs : St W F D es ds w) (hi : es[i]? = some (rngA r b l rest cur)) (hd : Nat.blt d n = true) (hx : evO ρ x = some (.pointer (some ⟨r, 0, none⟩)))
    (hK1 : rest = [] → ∀ w', St W F D es ds w' → K (upd ρ d (.tuple #[.bool false])) w')
    (hK2 : ∀ p rest' w', rest.Perm (p :: rest') → St W F D (es.set i (rngA r b l rest' (some p))) ds w' → K (upd ρ d (.tuple #[.bool true, .int .i64 p.1, p.2])) w') : EOp P n ⟨some d, .next x false, ty, pos, aft, none⟩ K ρ w := fun a ha => by
  obtain ⟨ms, clock, since, seen, c0, h1, h2, h3, h4, h5, h6, h7, hcc, h8, h9⟩ : (rngA r b l rest cur).P w := hs.at hi
  unfold Oper.wp
  rcases run_next_at (P := P) w ty r b since c0 seen ms clock h5 h1 h6 h7 with ⟨hz, hrun⟩ | ⟨e, he, w1, hw1, hrun⟩
  · have hr : (execOp a.eval ⟨some d, .next x false, ty, pos, aft, none⟩).run P w = .ok (.value (.tuple #[.bool false])) w := by
      simp only [execOp, ha.eval hx, Sem.run_bind, hrun, Result.andThen_ok, Sem.run_pure]
    rw [hr]
    have hrest : rest = [] := by
      have := h8.length_eq
      simp only [entOf, mapI, List.length_map, Array.length_toList, hz] at this
      exact List.eq_nil_of_length_eq_zero this.symm
    exact ⟨_, ha.put hd _, hK1 hrest _ hs⟩
  · have hem : e ∈ ms.toList := by
      unfold leftOf at he
      rw [Array.toList_filter] at he
      exact (List.mem_filter.1 he).1
    have hpr : (e.key, e.val) ∈ mapI rest := h8.mem_iff.1 (List.mem_map.2 ⟨e, he, rfl⟩)
    obtain ⟨p, hp, hpe⟩ := List.mem_map.1 hpr
    simp only [Prod.mk.injEq] at hpe
    obtain ⟨hk, hv⟩ := hpe
    obtain ⟨s1, s2, rfl⟩ := List.append_of_mem hp
    have hperm : (s1 ++ p :: s2).Perm (p :: (s1 ++ s2)) := List.perm_middle
    have hr : (execOp a.eval ⟨some d, .next x false, ty, pos, aft, none⟩).run P w = .ok (.value (.tuple #[.bool true, .int .i64 p.1, p.2])) (ChangeMaps.setBlock w1 r (.mapIter (some b) since (seen.push e.born) clock)) := by
      simp only [execOp, ha.eval hx, Sem.run_bind, hrun, Result.andThen_ok, Sem.run_pure, hk, hv]
    rw [hr]
    have hsw : St W F D es ds w1 := by
      rcases hw1 with rfl | rfl
      · exact hs
      · exact hs.grow rfl rfl rfl (Nat.le_refl _) (fun _ _ => rfl)
    have hw5 : w1.heap[r]? = some (.mapIter (some b) since seen c0) := by rcases hw1 with rfl | rfl <;> exact h5
    have hw1' : w1.heap[b]? = some (.map ms clock) := by rcases hw1 with rfl | rfl <;> exact h1
    have hrb : r ≠ b := by intro e; subst e; rw [hw5] at hw1'; cases hw1'
    refine ⟨_, ha.put hd _, hK2 p (s1 ++ s2) _ hperm (hsw.change hi (rngA r b l (s1 ++ s2) (some p)) rfl rfl rfl (by simp [ChangeMaps.setBlock]) (fun k _ hk => ?_) ?_ (fun k hk => ⟨.inl hk, ?_⟩))⟩
    · have hkr : r ≠ k := fun e => hk (.inl e.symm)
      show (w1.heap.setIfInBounds r _)[k]? = _
      rw [Array.getElem?_setIfInBounds_ne hkr]
    · refine ⟨ms, clock, since, seen.push e.born, clock, ?_, h2, h3, h4, heap_set_same hw5, h6, hcc, hcc, ?_, fun q hq => ?_⟩
      · show (w1.heap.setIfInBounds r _)[b]? = _
        rw [Array.getElem?_setIfInBounds_ne hrb]; exact hw1'
      · have hl := leftOf_push ms seen e h3 he
        have h10 : (entOf (leftOf ms seen).toList).Perm ((e.key, e.val) :: entOf (leftOf ms (seen.push e.born)).toList) := hl.map _
        have h11 : (mapI (s1 ++ p :: s2)).Perm ((Value.int .i64 p.1, p.2) :: mapI (s1 ++ s2)) := hperm.map _
        rw [← hk, ← hv] at h10
        exact ((h10.symm.trans h8).trans h11).cons_inv
      · obtain rfl := Option.some.inj hq
        exact ⟨rfl, e, hem, seen, rfl, hk.symm, hv.symm⟩
    · show k < (w1.heap.setIfInBounds r _).size
      rw [Array.size_setIfInBounds]
      rcases hk with rfl | rfl
      · exact (Array.getElem?_eq_some_iff.1 hw5).1
      · exact (Array.getElem?_eq_some_iff.1 hw1').1

theorem R_entry {b r : Nat} {l rest : List (Int × Value)} {p : Int × Value} (hb : (rngA r b l rest (some p)).P w) (hx : evO ρ x = some (.pointer (some ⟨r, 0, none⟩))) : RunV P n ⟨do_, .entry x, ty, pos, aft, none⟩ ρ w (.tuple #[.int .i64 p.1, p.2]) := fun a ha => by
  obtain ⟨ms, clock, since, seen, c0, h1, h2, h3, h4, h5, h6, h7, hcc, h8, h9⟩ := hb
  obtain ⟨rfl, e, he, s0, rfl, hk, hv⟩ := h9 p rfl
  have := run_entry_at (P := P) w r b since s0 ms c0 e h5 h1 he h3
  simp only [execOp, ha.eval hx, Sem.run_bind, this, Result.andThen_ok, Sem.run_pure, hk, hv]

/-- The iterator is let go. -/
theorem St.unrange {b i r : Nat} {l rest : List (Int × Value)} {cur : Option (Int × Value)} (hs : St W F D es ds w) (hi : es[i]? = some (rngA r b l rest cur)) : St W F D (es.set i (mpA b l)) ds w := by
  obtain ⟨ms, clock, since, seen, c0, h1, h2, h3, h4, h5, h6, h7, hcc, h8, h9⟩ : (rngA r b l rest cur).P w := hs.at hi
  refine hs.change hi (mpA b l) rfl rfl rfl (Nat.le_refl _) (fun _ _ _ => rfl) ⟨ms, clock, h1, h2, h3, h4⟩ (fun k hk => ⟨.inl (.inr hk), ?_⟩)
  obtain rfl : k = b := hk
  exact (Array.getElem?_eq_some_iff.1 h1).1
end
#print axioms O_next
#print axioms O_mapUpdate
#print axioms R_lookup
end Go.Proofs.Ytpcojkbljgpecaa
