/- The engine, part 5: memory: boxes, loads, stores, slices that are read, slices that are owned. -/
import Derived.Test.YtpcojkbljgpecaaE4
namespace Go.Proofs.Ytpcojkbljgpecaa
open Go

theorem cell_blk {w : World} {b o : Nat} {c : Array Value} {t : TypeId} {fr : Nat × Nat} (h : w.heap[b]? = some (.cells c t fr)) : w.cell? ⟨b, o, none⟩ = c[o]? := by
  simp [World.cell?, h]

theorem cell_same {w w' : World} {b o : Nat} (h : w'.heap[b]? = w.heap[b]?) : w'.cell? ⟨b, o, none⟩ = w.cell? ⟨b, o, none⟩ := by
  simp [World.cell?, h]

/-- A nil slice has no room; an address with room is that of a variable. -/
def SOk (ao : Option Addr) (c : Nat) : Prop := (ao = none → c = 0) ∧ ∀ ad, ao = some ad → 0 < c → ad.spot = none

/-- A slice that is only read: its address, length, capacity, and the cells of its elements (sz cells each). -/
def dSl (ao : Option Addr) (m c sz : Nat) (cs : List Value) : Asn :=
  ⟨fun k => cs ≠ [] ∧ ∃ ad, ao = some ad ∧ k = ad.block,
   fun w => (m ≤ c ∧ SOk ao c) ∧ cs.length = m * sz ∧ (cs ≠ [] → ∃ b o, ao = some ⟨b, o, none⟩ ∧ ∀ i u, cs[i]? = some u → w.cell? ⟨b, o + i, none⟩ = some u),
   fun w w' h hp => ⟨hp.1, hp.2.1, fun hne => by
    obtain ⟨b, o, hao, hc⟩ := hp.2.2 hne
    exact ⟨b, o, hao, fun i u hu => by rw [cell_same (h b ⟨hne, _, hao, rfl⟩)]; exact hc i u hu⟩⟩⟩

/-- A slice that the call owns: nil, or the head of a row. -/
def oSl (v : Value) (e : TypeId) (sz m : Nat) (cs : List Value) : Asn :=
  ⟨fun k => v.ownBlock = some k, fun w => w.ownsRow 0 e sz v m cs,
   fun w w' h hp => by
    refine ⟨hp.1, ?_⟩
    rcases hp.2 with hn | ⟨g, cap, cur, rfl, hb, hg, rest⟩
    · exact .inl hn
    · exact .inr ⟨g, cap, cur, rfl, hb, by rw [h g rfl]; exact hg, rest⟩⟩

theorem St.at {W w : World} {F D : Nat → Prop} {es ds : List Asn} (hs : St W F D es ds w) {i : Nat} {a : Asn} (hi : es[i]? = some a) : a.P w := hs.eh a (List.mem_of_getElem? hi)
theorem St.rd {W w : World} {F D : Nat → Prop} {es ds : List Asn} (hs : St W F D es ds w) {i : Nat} {d : Asn} (hi : ds[i]? = some d) : d.P w := hs.dh d (List.mem_of_getElem? hi)

section
variable {P : Program} {n : Nat} {ρ : Env} {K : Env → World → Prop} {W w : World} {F D : Nat → Prop} {es ds : List Asn} {d : Nat} {do_ : Option Nat} {ty : TypeId} {pos : String} {aft : Array Edge} {x y : Operand} {t : TypeId} {v : Value}

/-! ### Addresses in full -/
theorem R_field {s f off b o : Nat} (ho : fieldOff P s f = some off) (hx : evO ρ x = some (.pointer (some ⟨b, o, none⟩))) : RunV P n ⟨do_, .fieldAddr s x f, ty, pos, aft, none⟩ ρ w (.pointer (some ⟨b, o + off, none⟩)) := by
  have h := R_fieldAddr (P := P) (n := n) (ρ := ρ) (w := w) (d := do_) (ty := ty) (pos := pos) (aft := aft) ho hx
  have e : (⟨b, o, none⟩ : Addr).add off = ⟨b, o + off, none⟩ := by unfold Addr.add; split <;> simp_all
  rwa [e] at h

theorem R_idx {b o m c sz : Nat} {ao : Option Addr} {k : IntKind} {i : Int} (hs : elemSize P t = some sz) (hx : evO ρ x = some (.slice ao m c)) (hao : ao = some ⟨b, o, none⟩) (hy : evO ρ y = some (.int k i)) (h0 : 0 ≤ i) (h1 : i < m) :
    RunV P n ⟨do_, .indexAddr t x y, ty, pos, aft, none⟩ ρ w (.pointer (some ⟨b, o + i.toNat * sz, none⟩)) := by
  subst hao
  have h := R_indexAddr (P := P) (n := n) (ρ := ρ) (w := w) (d := do_) (ty := ty) (pos := pos) (aft := aft) hs hx hy ⟨h0, h1⟩
  have e : (⟨b, o, none⟩ : Addr).add (i.toNat * sz) = ⟨b, o + i.toNat * sz, none⟩ := by unfold Addr.add; split <;> simp_all
  rwa [e] at h

theorem R_idxA {b o m sz : Nat} {k : IntKind} {i : Int} (hs : arrSize P t = some (m, sz)) (hx : evO ρ x = some (.pointer (some ⟨b, o, none⟩))) (hy : evO ρ y = some (.int k i)) (h0 : 0 ≤ i) (h1 : i < m) :
    RunV P n ⟨do_, .indexAddr t x y, ty, pos, aft, none⟩ ρ w (.pointer (some ⟨b, o + i.toNat * sz, none⟩)) := by
  have h := R_indexAddrA (P := P) (n := n) (ρ := ρ) (w := w) (d := do_) (ty := ty) (pos := pos) (aft := aft) hs hx hy ⟨h0, h1⟩
  have e : (⟨b, o, none⟩ : Addr).add (i.toNat * sz) = ⟨b, o + i.toNat * sz, none⟩ := by unfold Addr.add; split <;> simp_all
  rwa [e] at h

/-! ### Loads -/
theorem R_load {ad : Addr} (hag : ∀ w, (isAgg t).run P w = .ok false w) (hx : evO ρ x = some (.pointer (some ad))) (hc : w.cell? ad = some v) : RunV P n ⟨do_, .load t x, ty, pos, aft, none⟩ ρ w v := fun a ha => by
  simp [execOp, ha.eval hx, Instr.loadAt, Instr.sureAddr, loadVar, Sem.run_bind, hag, load, Sem.run, hc]

/-- A scalar out of an owned block. -/
theorem R_loadB {b o : Nat} {c : Array Value} {tt : TypeId} (hs : St W F D es ds w) {i : Nat} (hi : es[i]? = some (blk b c tt)) (hag : ∀ w, (isAgg t).run P w = .ok false w) (hx : evO ρ x = some (.pointer (some ⟨b, o, none⟩))) (hc : c[o]? = some v) :
    RunV P n ⟨do_, .load t x, ty, pos, aft, none⟩ ρ w v := R_load hag hx (by rw [cell_blk (hs.at hi)]; exact hc)

theorem run_loadRange {b o : Nat} {cs : List Value} {sz : Nat} (hsz : ∀ w, (sizeOf t).run P w = .ok sz w) (hag : ∀ w, (isAgg t).run P w = .ok true w) (hl : cs.length = sz) (hc : ∀ i u, cs[i]? = some u → w.cell? ⟨b, o + i, none⟩ = some u) :
    (loadVar t ⟨b, o, none⟩).run P w = .ok (.agg cs.toArray) w := by
  have h := run_loadCells_list (P := P) w ⟨b, o, none⟩ cs (fun j u hu => by
    have e : (⟨b, o, none⟩ : Addr).add j = ⟨b, o + j, none⟩ := by unfold Addr.add; split <;> simp_all
    rw [e]; exact hc j u hu)
  subst hl
  simp [loadVar, Sem.run_bind, hag, hsz, h]

theorem R_loadR {b o : Nat} {cs : List Value} {sz : Nat} (hsz : ∀ w, (sizeOf t).run P w = .ok sz w) (hag : ∀ w, (isAgg t).run P w = .ok true w) (hx : evO ρ x = some (.pointer (some ⟨b, o, none⟩))) (hl : cs.length = sz)
    (hc : ∀ i u, cs[i]? = some u → w.cell? ⟨b, o + i, none⟩ = some u) : RunV P n ⟨do_, .load t x, ty, pos, aft, none⟩ ρ w (.agg cs.toArray) := fun a ha => by
  simp [execOp, ha.eval hx, Instr.loadAt, Instr.sureAddr, run_loadRange hsz hag hl hc]

/-- A whole struct or array out of an owned block. -/
theorem R_loadW {b : Nat} {c : Array Value} {tt : TypeId} {sz : Nat} (hs : St W F D es ds w) {i : Nat} (hi : es[i]? = some (blk b c tt)) (hsz : ∀ w, (sizeOf t).run P w = .ok sz w) (hag : ∀ w, (isAgg t).run P w = .ok true w) (hx : evO ρ x = some (.pointer (some ⟨b, 0, none⟩)))
    (hl : c.size = sz) : RunV P n ⟨do_, .load t x, ty, pos, aft, none⟩ ρ w (.agg c) := by
  have h := R_loadR (P := P) (n := n) (ρ := ρ) (w := w) (do_ := do_) (ty := ty) (pos := pos) (aft := aft) (cs := c.toList) hsz hag hx (by simpa using hl) (fun i u hu => by rw [cell_blk (hs.at hi)]; simpa using hu)
  simpa using h

/-- A part of it. -/
theorem R_loadP {b o : Nat} {c : Array Value} {tt : TypeId} {sz : Nat} {cs : List Value} (hs : St W F D es ds w) {i : Nat} (hi : es[i]? = some (blk b c tt)) (hsz : ∀ w, (sizeOf t).run P w = .ok sz w) (hag : ∀ w, (isAgg t).run P w = .ok true w) (hx : evO ρ x = some (.pointer (some ⟨b, o, none⟩)))
    (hl : cs.length = sz) (hc : ∀ i u, cs[i]? = some u → c[o + i]? = some u) : RunV P n ⟨do_, .load t x, ty, pos, aft, none⟩ ρ w (.agg cs.toArray) :=
  R_loadR hsz hag hx hl (fun i u hu => by rw [cell_blk (hs.at hi)]; exact hc i u hu)

/-! ### New blocks -/
theorem O_box (hs : St W F D es ds w) (hd : Nat.blt d n = true) (hx : evO ρ x = some v)
    (hK : ∀ b w', W.heap.size ≤ b → St W F D (es ++ [blk b v.cells t]) ds w' → K (upd ρ d (.pointer (some ⟨b, 0, none⟩))) w') : EOp P n ⟨some d, .box t x, ty, pos, aft, none⟩ K ρ w := fun a ha => by
  unfold Oper.wp
  have hrun : (execOp a.eval ⟨some d, .box t x, ty, pos, aft, none⟩).run P w = .ok (.value (.pointer (some ⟨w.heap.size, 0, none⟩))) (w.alloc (.cells v.cells t)) := by
    simp [execOp, ha.eval hx, Instr.box, newVar, newRow, newObj, Sem.run]
  rw [hrun]
  exact ⟨_, ha.put hd _, hK _ _ hs.size (hs.push _ _)⟩

theorem O_alloc {z : Value} (hs : St W F D es ds w) (hd : Nat.blt d n = true) (hz : ∀ w, (zeroValue t).run P w = .ok z w)
    (hK : ∀ b w', W.heap.size ≤ b → St W F D (es ++ [blk b z.cells t]) ds w' → K (upd ρ d (.pointer (some ⟨b, 0, none⟩))) w') : EOp P n ⟨some d, .alloc t, ty, pos, aft, none⟩ K ρ w := fun a ha => by
  unfold Oper.wp
  have hrun : (execOp a.eval ⟨some d, .alloc t, ty, pos, aft, none⟩).run P w = .ok (.value (.pointer (some ⟨w.heap.size, 0, none⟩))) (w.alloc (.cells z.cells t)) := by
    simp [execOp, Instr.alloc, newVar, newRow, newObj, Sem.run_bind, hz, Sem.run]
  rw [hrun]
  exact ⟨_, ha.put hd _, hK _ _ hs.size (hs.push _ _)⟩

/-! ### Stores into an owned block -/
theorem heap_setRow_same {w : World} {b : Nat} {c c' : Array Value} {t : TypeId} (h : w.heap[b]? = some (.cells c t (0, 0))) : (w.setRow b c').heap[b]? = some (.cells c' t (0, 0)) := by
  exact setRow_heap w b c c' t (0, 0) h

theorem St.setBlk (hs : St W F D es ds w) {i b : Nat} {c : Array Value} {tt : TypeId} (hi : es[i]? = some (blk b c tt)) (c' : Array Value) (w' : World) (hw : w'.os = w.os ∧ w'.tape = w.tape ∧ w'.output = w.output) (hsz : w'.heap.size = w.heap.size)
    (hb : w'.heap[b]? = some (.cells c' tt (0, 0))) (ho : ∀ k, k ≠ b → w'.heap[k]? = w.heap[k]?) : St W F D (es.set i (blk b c' tt)) ds w' :=
  hs.change hi _ hw.1 hw.2.1 hw.2.2 (by omega) (fun k _ hk => ho k hk) hb (fun k hk => ⟨.inl hk, by
    obtain rfl : k = b := hk
    exact (Array.getElem?_eq_some_iff.1 hb).1⟩)

theorem setCell_facts (w : World) (b o : Nat) (u : Value) (c : Array Value) (t : TypeId) (h : w.heap[b]? = some (.cells c t (0, 0))) :
    (w.setCell ⟨b, o, none⟩ u).heap[b]? = some (.cells (c.setIfInBounds o u) t (0, 0)) ∧ (∀ k, k ≠ b → (w.setCell ⟨b, o, none⟩ u).heap[k]? = w.heap[k]?) ∧ (w.setCell ⟨b, o, none⟩ u).heap.size = w.heap.size := by
  refine ⟨?_, fun k hk => ?_, by simp [World.setCell]⟩
  · simp only [World.setCell, Array.getElem?_modify, h]; simp
  · simp only [World.setCell, Array.getElem?_modify]
    rw [if_neg (by omega)]

/-- A scalar. -/
theorem O_store {b o : Nat} {c : Array Value} {tt : TypeId} (hs : St W F D es ds w) {i : Nat} (hi : es[i]? = some (blk b c tt)) (hsz : ∀ w, (sizeOf t).run P w = .ok 1 w) (hx : evO ρ x = some (.pointer (some ⟨b, o, none⟩))) (hy : evO ρ y = some v) (h1 : v.oneCell' = true) (ho : Nat.blt o c.size = true)
    (hK : ∀ w', St W F D (es.set i (blk b (c.setIfInBounds o v) tt)) ds w' → K ρ w') : EOp P n ⟨none, .store t x y, ty, pos, aft, none⟩ K ρ w := fun a ha => by
  have hb : w.heap[b]? = some (.cells c tt (0, 0)) := hs.at hi
  have ho' : o < c.size := by simpa using ho
  have hcell : w.cell? ⟨b, o, none⟩ = some c[o] := by rw [cell_blk hb]; simp [ho']
  have hfz : w.frozen? ⟨b, o, none⟩ = false := by simp [World.frozen?, hb]
  have hcs : v.cells = #[v] := by cases v <;> first | rfl | (simp [Value.oneCell'] at h1)
  obtain ⟨f1, f2, f3⟩ := setCell_facts w b o v c tt hb
  unfold Oper.wp
  have hrun : (execOp a.eval ⟨none, .store t x y, ty, pos, aft, none⟩).run P w = .ok .skip (w.setCell ⟨b, o, none⟩ v) := by
    have e : (⟨b, o, none⟩ : Addr).add 0 = ⟨b, o, none⟩ := by simp [Addr.add]
    have hst := run_store P w ⟨b, o, none⟩ v .plain h1
    rw [hcell] at hst
    simp only [hfz, Bool.false_eq_true, if_false] at hst
    simp [execOp, ha.eval hx, ha.eval hy, Instr.storeAt, Instr.sureAddr, storeVar, Sem.run_bind, hsz, hcs, storeCells, e, hst]
  rw [hrun]
  exact ⟨ρ, by simpa [Act.put] using ha, hK _ (hs.setBlk hi _ _ ⟨rfl, rfl, rfl⟩ f3 f1 f2)⟩

/-- A whole block. -/
theorem O_storeW {b : Nat} {c cs : Array Value} {tt : TypeId} {sz : Nat} (hs : St W F D es ds w) {i : Nat} (hi : es[i]? = some (blk b c tt)) (hinf : (P.info? t).map (·.size) = some sz) (hx : evO ρ x = some (.pointer (some ⟨b, 0, none⟩))) (hy : evO ρ y = some (.agg cs))
    (hl : c.size = sz) (hl' : cs.size = sz) (h1 : cs.all (·.oneCell') = true) (hK : ∀ w', St W F D (es.set i (blk b cs tt)) ds w' → K ρ w') : EOp P n ⟨none, .store t x y, ty, pos, aft, none⟩ K ρ w := fun a ha => by
  have hb : w.heap[b]? = some (.cells c tt (0, 0)) := hs.at hi
  refine wp_store_row (o := ⟨none, .store t x y, ty, pos, aft, none⟩) t x y rfl b cs (ha.eval hx) (ha.eval hy) tt c hb (by rw [hinf, hl']) (by rw [hl, hl']) h1 ?_
  refine ⟨ρ, by simpa [Act.put] using ha, hK _ (hs.setBlk hi _ _ ⟨rfl, rfl, rfl⟩ (by simp [World.setRow]) (heap_setRow_same hb) (fun k hk => ?_))⟩
  simp only [World.setRow, Array.getElem?_modify]
  rw [if_neg (by omega)]
end
#print axioms O_storeW
#print axioms O_store
end Go.Proofs.Ytpcojkbljgpecaa
