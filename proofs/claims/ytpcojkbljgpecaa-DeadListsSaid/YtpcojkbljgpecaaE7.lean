/- The engine, part 7: slices that are made, appended to, cut; texts and bytes; unsigned numbers. -/
import Derived.Test.YtpcojkbljgpecaaE6
import Derived.Lib.AppendStr
import Derived.Lib.ConvBytes
import Derived.Laws.BytesArg
namespace Go.Proofs.Ytpcojkbljgpecaa
open Go

/-- What is asked of a slice type: its element's type, size in cells, size in bytes. -/
def einfoB (P : Program) (t e sz by_ : Nat) : Bool :=
  match P.underlying t, P.info? e with
  | some (.slice e'), some i => Nat.beq e' e && Nat.beq i.size sz && Nat.beq i.bytes by_ && Nat.blt 0 sz && (match i.zero with
    | some z => Nat.beq z.cells.size sz
    | none => false)
  | _, _ => false

theorem einfo_parts {P : Program} {t e sz by_ : Nat} (h : einfoB P t e sz by_ = true) : P.underlying t = some (.slice e) ∧ 0 < sz ∧ ∃ i z, P.info? e = some i ∧ i.zero = some z ∧ i.size = sz ∧ i.bytes = by_ ∧ z.cells.size = sz := by
  unfold einfoB at h
  split at h
  · rename_i e' i hu hi
    simp only [Bool.and_eq_true, Nat.blt_eq, Nat.beq_eq] at h
    obtain ⟨⟨⟨⟨h1, h2⟩, h3⟩, h4⟩, h5⟩ := h
    split at h5
    · rename_i z hz
      simp only [Nat.beq_eq] at h5
      subst h1
      exact ⟨hu, h4, i, z, hi, hz, h2, h3, h5⟩
    · cases h5
  · cases h

/-! ### Parts laid one behind the other -/
theorem foldl_set_seg : ∀ (v : List Value) (k off : Nat) (cells : Array Value), off + k + v.length ≤ cells.size →
    ((v.zipIdx k).foldl (fun (cs : Array Value) (x : Value × Nat) => cs.setIfInBounds (off + x.2) x.1) cells).toList = cells.toList.take (off + k) ++ v ++ cells.toList.drop (off + k + v.length)
  | [], k, off, cells, _ => by simp
  | u :: v, k, off, cells, h => by
    rw [List.zipIdx_cons, List.foldl_cons]
    have hlen : off + (k + 1) + v.length ≤ (cells.setIfInBounds (off + k) u).size := by simp at h ⊢; omega
    rw [foldl_set_seg v (k + 1) off _ hlen]
    have hk : off + k < cells.toList.length := by simp at h ⊢; omega
    simp only [Array.toList_setIfInBounds, List.length_cons]
    have e1 : (cells.toList.set (off + k) u).take (off + (k + 1)) = cells.toList.take (off + k) ++ [u] := by
      rw [← Nat.add_assoc, List.take_succ_eq_append_getElem (by simpa using hk)]
      rw [List.take_set_of_le (Nat.le_refl _)]
      simp
    have e2 : (cells.toList.set (off + k) u).drop (off + (k + 1) + v.length) = cells.toList.drop (off + k + (v.length + 1)) := by
      rw [List.drop_set_of_lt (by omega)]
      congr 1; omega
    rw [e1, e2]
    simp

/-- Consecutive places: (offset, size). -/
def places : Nat → List Nat → List (Nat × Nat)
  | _, [] => []
  | off, s :: l => (off, s) :: places (off + s) l

theorem fill_consec (pl : Nat → Option (Nat × Nat)) : ∀ (vs : List Value) (k off : Nat) (cells : Array Value),
    (∀ j v, vs[j]? = some v → pl (k + j) = some (off + ((vs.take j).map (·.cells.size)).sum, v.cells.size)) → cells.size = off + (vs.map (·.cells.size)).sum →
    Instr.fill pl cells (vs.zipIdx k |>.map fun x => (x.2, x.1)) = some (cells.toList.take off ++ vs.flatMap (·.cells.toList)).toArray
  | [], k, off, cells, _, hs => by
    simp only [List.map_nil, List.sum_nil, Nat.add_zero] at hs
    subst hs; simp [Instr.fill, List.take_of_length_le]
  | v :: vs, k, off, cells, hp, hs => by
    have h0 := hp 0 v rfl
    simp only [Nat.add_zero, List.take_zero, List.map_nil, List.sum_nil] at h0
    simp only [List.map_cons, List.sum_cons] at hs
    rw [List.zipIdx_cons, List.map_cons, Instr.fill, h0]
    have hc : ¬ (v.cells.size ≠ v.cells.size || off + v.cells.size > cells.size) = true := by simp; omega
    simp only [hc, Bool.false_eq_true, if_false]
    have hseg := foldl_set_seg v.cells.toList 0 off cells (by simp; omega)
    have hz : v.cells.zipIdx.foldl (fun (cs : Array Value) (x : Value × Nat) => cs.setIfInBounds (off + x.2) x.1) cells = (cells.toList.take off ++ v.cells.toList ++ cells.toList.drop (off + v.cells.size)).toArray := by
      rw [← Array.foldl_toList, Array.toList_zipIdx]
      apply Array.toList_inj.1
      simpa using hseg
    have hz' : v.cells.zipIdx.foldl (fun cs (x : Value × Nat) => match x with | (c, j) => cs.setIfInBounds (off + j) c) cells = (cells.toList.take off ++ v.cells.toList ++ cells.toList.drop (off + v.cells.size)).toArray := hz
    rw [hz']
    rw [fill_consec pl vs (k + 1) (off + v.cells.size) _ (fun j u hu => by
      have := hp (j + 1) u (by simpa using hu)
      rw [show k + (j + 1) = k + 1 + j by omega] at this
      rw [this]
      simp [Nat.add_assoc]) (by simp; omega)]
    congr 2
    simp only [List.flatMap_cons]
    rw [List.take_append_of_le_length (by simp; omega), List.take_of_length_le (by simp; omega), List.append_assoc]

section
variable {P : Program} {n : Nat} {ρ : Env} {K : Env → World → Prop} {W w : World} {F D : Nat → Prop} {es ds : List Asn} {d : Nat} {do_ : Option Nat} {ty : TypeId} {pos : String} {aft : Array Edge} {x y : Operand} {t : TypeId} {v : Value}

def partsOf (ps : List Operand) : Array (Nat × Operand) := (ps.zipIdx.map fun x => (x.2, x.1)).toArray

theorem evParts {a : Act} (ha : Rep n a ρ) {parts : Array (Nat × Operand)} {ps : List Operand} {vs : List Value} (hp : parts.toList = ps.zipIdx.map fun x => (x.2, x.1)) (hv : evArgs ρ ps = some vs) :
    (parts.map fun (x : Nat × Operand) => (x.1, a.eval x.2)).toList = vs.zipIdx.map fun x => (x.2, x.1) := by
  rw [Array.toList_map, hp, List.map_map]
  have h := evArgs_map ha hv
  rw [← h, List.zipIdx_map, List.map_map]
  rfl

/-- A slice literal, all of whose elements are given. -/
theorem O_buildSlice {m e sz by_ : Nat} {parts : Array (Nat × Operand)} (ps : List Operand) {vs : List Value} (hs : St W F D es ds w) (hd : Nat.blt d n = true) (he : einfoB P t e sz by_ = true) (hp : parts.toList = ps.zipIdx.map fun x => (x.2, x.1)) (hv : evArgs ρ ps = some vs)
    (hm : vs.length = m) (hc : ∀ u, u ∈ vs → u.cells.size = sz) (hbig : m * sz ≤ 65536)
    (hK : ∀ b w', W.heap.size ≤ b → St W F D (es ++ [oSl (.slice (some ⟨b, 0, none⟩) m m) e sz m (vs.flatMap (·.cells.toList))]) ds w' → K (upd ρ d (.slice (some ⟨b, 0, none⟩) m m)) w') : EOp P n ⟨some d, .buildSlice t m parts, ty, pos, aft, none⟩ K ρ w := fun a ha => by
  obtain ⟨hu, hsz0, i, z, hi, hz, hisz, _, hzc⟩ := einfo_parts he
  have hsum : (vs.map (·.cells.size)).sum = m * sz := by
    subst hm
    clear hv hbig hK hp
    induction vs with
    | nil => simp
    | cons u vs ih =>
      rw [List.map_cons, List.sum_cons, ih (fun q hq => hc q (List.mem_cons_of_mem _ hq)), hc u List.mem_cons_self, List.length_cons, Nat.succ_mul]; omega
  have hrun : (execOp a.eval ⟨some d, .buildSlice t m parts, ty, pos, aft, none⟩).run P w = .ok (.value (.slice (some ⟨w.heap.size, 0, none⟩) m m)) (w.alloc (.cells (vs.flatMap (·.cells.toList)).toArray e)) := by
    have hfill : ∀ zs : Array Value, zs.size = m * sz → Instr.fill (fun i => some (i * sz, sz)) zs (parts.map fun (x : Nat × Operand) => (x.1, a.eval x.2)).toList = some (vs.flatMap (·.cells.toList)).toArray := fun zs hzs => by
      rw [evParts ha hp hv]
      have := fill_consec (fun i => some (i * sz, sz)) vs 0 0 zs (fun j u hj => by
        have hu := hc u (List.mem_of_getElem? hj)
        have hjl : j < vs.length := (List.getElem?_eq_some_iff.1 hj).1
        rw [hu]
        congr 1
        simp only [Nat.zero_add, Prod.mk.injEq, and_true]
        have : ∀ (l : List Value), (∀ u, u ∈ l → u.cells.size = sz) → (l.map (·.cells.size)).sum = l.length * sz := by
          intro l hl
          induction l with
          | nil => simp
          | cons q l ih => rw [List.map_cons, List.sum_cons, ih (fun q hq => hl q (List.mem_cons_of_mem _ hq)), hl q List.mem_cons_self, List.length_cons, Nat.succ_mul]; omega
        rw [this _ (fun q hq => hc q (List.mem_of_mem_take hq)), List.length_take, Nat.min_eq_left (Nat.le_of_lt hjl)]) (by rw [hzs, hsum]; simp)
      simpa using this
    have hnot : ¬ (m * sz > 2 ^ 24) := by omega
    have hpart : ∀ (zc : Array Value), (Instr.buildSlice t m (parts.map fun (x : Nat × Operand) => (x.1, a.eval x.2))).run P w = .ok (.slice (some ⟨w.heap.size, 0, none⟩) m m) (w.alloc (.cells (vs.flatMap (·.cells.toList)).toArray e)) := fun _ => by
      unfold Instr.buildSlice
      by_cases h0 : m * sz = 0
      · have hz0 := hfill ((Array.range (m * sz)).map fun i => (#[] : Array Value)[i % (#[] : Array Value).size]!) (by simp)
        simp only [Sem.run_bind, run_underlying hu, Result.andThen_ok, sizeOf, typeInfo, run_program, hi, Sem.run_pure, hisz, hnot, if_false]
        simp only [h0] at hz0 ⊢
        simp only [if_true, pure_bind, hz0]
        rfl
      · have hz1 := hfill ((Array.range (m * sz)).map fun i => z.cells[i % z.cells.size]!) (by simp)
        simp only [Sem.run_bind, run_underlying hu, Result.andThen_ok, sizeOf, typeInfo, run_program, hi, Sem.run_pure, hisz, hnot, if_false, h0, zeroValue, hz]
        simp only [hz1]
        rfl
    simp only [execOp, Sem.run_bind, hpart #[], Result.andThen_ok, Sem.run_pure]
  unfold Oper.wp
  rw [hrun]
  have hpush := hs.push (vs.flatMap (·.cells.toList)).toArray e
  have hlen : (vs.flatMap (·.cells.toList)).length = m * sz := by
    rw [List.length_flatMap]; simpa using hsum
  have hown : (oSl (.slice (some ⟨w.heap.size, 0, none⟩) m m) e sz m (vs.flatMap (·.cells.toList))).P (w.alloc (.cells (vs.flatMap (·.cells.toList)).toArray e)) :=
    ⟨hlen, .inr ⟨w.heap.size, m, _, rfl, Nat.zero_le _, heap_alloc_new w _, Nat.le_refl _, by
      unfold maxLen
      have : m ≤ m * sz := Nat.le_mul_of_pos_right m hsz0
      omega, by simpa using hlen, by rw [← hlen]; exact List.take_length⟩⟩
  refine ⟨_, ha.put hd _, hK _ _ hs.size ?_⟩
  have h1 := hpush.change (i := es.length) (a := blk w.heap.size (vs.flatMap (·.cells.toList)).toArray e) (by simp) _ rfl rfl rfl (Nat.le_refl _) (fun _ _ _ => rfl) hown (fun k hk => ⟨.inl (by
    have : k = w.heap.size := by simpa [oSl, Value.ownBlock, eq_comm] using hk
    exact this), by
      have : k = w.heap.size := by simpa [oSl, Value.ownBlock, eq_comm] using hk
      subst this
      rw [heap_alloc]; simp⟩)
  simpa using h1

/-! ### append, onto an owned slice -/
theorem St.appendOwn (hs : St W F D es ds w) {i : Nat} {v v' : Value} {e sz m m' : Nat} {xs ys : List Value} {w' : World} (hi : es[i]? = some (oSl v e sz m xs)) (hown : w'.ownsRow 0 e sz v' m' ys) (hg : w.grownBy w' v.ownBlock)
    (hv : ∀ k, v'.ownBlock = some k → v.ownBlock = some k ∨ w.heap.size ≤ k) : St W F D (es.set i (oSl v' e sz m' ys)) ds w' :=
  hs.change hi _ hg.os hg.tape hg.output hg.size (fun k hk hf => hg.block k hk (fun h => hf h.symm)) hown (fun k hk => ⟨hv k hk, (hown.lt k hk).2⟩)

/-- Appending tells a slice at the old block, or at a new one. -/
theorem run_append_at {t ty_ e sz by_ : Nat} (he : einfoB P t e sz by_ = true) {v : Value} {m : Nat} {xs : List Value} (hown : w.ownsRow 0 e sz v m xs) {a : Addr} {mm c : Nat} {news : List Value} (hl : news.length = mm * sz)
    (hnews : ∀ j u, news[j]? = some u → w.cell? (a.add j) = some u) (h1 : ∀ u ∈ news, u.oneCell' = true) (hbytes : (m + mm) * by_ ≤ 140737488355328) (hmax : m + mm ≤ 4294967296) :
    ∃ v' w', (Builtin.append_ #[t, t] ty_ #[v, .slice (some a) mm c]).run P w = .ok v' w' ∧ w'.ownsRow 0 e sz v' (m + mm) (xs ++ news) ∧ w.grownBy w' v.ownBlock ∧ (∀ k, v'.ownBlock = some k → v.ownBlock = some k ∨ w.heap.size ≤ k) := by
  obtain ⟨hu, hsz0, i, z, hi, hz, hisz, hby, hzc⟩ := einfo_parts he
  have hmx : m + mm ≤ maxLen := by unfold maxLen; omega
  -- at a base that is the heap's size or the old block's number, the law tells where the new one lies
  rcases hown.2 with ⟨hv, hm⟩ | ⟨g, cap, cur, hv, hb, hg, hrest⟩
  · subst hv
    have hown' : w.ownsRow w.heap.size e sz (.slice none 0 0) m xs := ⟨hown.1, .inl ⟨rfl, hm⟩⟩
    obtain ⟨v', w', hr, h2, h3, _⟩ := run_append_own w w.heap.size t ty_ e i z sz by_ hu hi hz hisz hby hzc hsz0 _ m xs hown' a mm c news hl hnews h1 hmx hbytes (Nat.le_refl _)
    exact ⟨v', w', hr, ⟨h2.1, h2.2.imp id (fun ⟨g, cap, cur, a1, _, a3⟩ => ⟨g, cap, cur, a1, Nat.zero_le _, a3⟩)⟩, h3, fun k hk => .inr (h2.lt k hk).1⟩
  · subst hv
    obtain ⟨v', w', hr, h2, h3, _⟩ := run_append_own w 0 t ty_ e i z sz by_ hu hi hz hisz hby hzc hsz0 _ m xs hown a mm c news hl hnews h1 hmx hbytes (Nat.zero_le _)
    refine ⟨v', w', hr, h2, h3, fun k hk => ?_⟩
    obtain ⟨hnc, hcm, hcs, htake⟩ := hrest
    by_cases hroom : m + mm ≤ cap
    · have hr2 := run_append_room (P := P) w t ty_ e i hu hi g m cap cur hg a mm c news (by rw [hisz]; exact hl) hnews h1 hroom (by rw [hisz, hl, hcs, ← Nat.add_mul]; exact Nat.mul_le_mul_right _ hroom)
      rw [hr] at hr2
      obtain ⟨rfl, rfl⟩ := Result.ok.inj hr2
      exact .inl hk
    · have holds : ∀ j u, xs[j]? = some u → w.cell? ((⟨g, 0, none⟩ : Addr).add j) = some u := hown.cells (g := g) rfl
      have hr2 := run_append_grow (P := P) w t ty_ e i z hu hi hz ⟨g, 0, none⟩ m cap xs (by rw [hisz]; exact hown.1) holds a mm c news (by rw [hisz]; exact hl) hnews (by omega) (by unfold maxLen at hmx; omega) (growslice_fits (by omega) (by rw [hby]; exact hbytes))
      rw [hr] at hr2
      obtain ⟨rfl, rfl⟩ := Result.ok.inj hr2
      refine .inr ?_
      have : k = w.heap.size := by simpa [Value.ownBlock, eq_comm] using hk
      omega

/-- What lies in an owned slice. -/
theorem own_cells {v : Value} {e sz m : Nat} {xs : List Value} (h : (oSl v e sz m xs).P w) {ao : Option Addr} {mm c : Nat} (hv : v = .slice ao mm c) : mm = m ∧ m ≤ c ∧ xs.length = m * sz ∧ (∀ ad, ao = some ad → ∃ g, ad = ⟨g, 0, none⟩ ∧ ∀ i u, xs[i]? = some u → w.cell? ⟨g, 0 + i, none⟩ = some u) ∧ (ao = none → m = 0 ∧ c = 0) := by
  subst hv
  refine ⟨?_, ?_, h.1, ?_, ?_⟩
  · rcases h.2 with ⟨hv, hm⟩ | ⟨g, cap, cur, hv, _⟩
    · injection hv with h1 h2 h3; omega
    · injection hv
  · rcases h.2 with ⟨hv, hm⟩ | ⟨g, cap, cur, hv, _, _, hnc, _⟩
    · omega
    · injection hv with h1 h2 h3; omega
  · intro ad had
    subst had
    rcases h.2 with ⟨hv, hm⟩ | ⟨g, cap, cur, hv, _, hg, hnc, hcm, hcs, htake⟩
    · injection hv with h1; cases h1
    · injection hv with h1 h2 h3
      obtain rfl := Option.some.inj h1
      refine ⟨g, rfl, fun i u hu => ?_⟩
      rw [Nat.zero_add, cell_blk hg]
      rw [← htake, List.getElem?_take] at hu
      split at hu
      · simpa using hu
      · cases hu
  · intro hao
    subst hao
    rcases h.2 with ⟨hv, hm⟩ | ⟨g, cap, cur, hv, _⟩
    · injection hv with h1 h2 h3; exact ⟨hm, h3⟩
    · injection hv with h1; cases h1

/-- The source of an append, as it lies in memory: a slice and its cells. -/
def Src (w : World) (v : Value) (mm sz : Nat) (news : List Value) : Prop :=
  news.length = mm * sz ∧ ((v = .slice none 0 0 ∧ mm = 0) ∨ ∃ a c, v = .slice (some a) mm c ∧ ∀ j u, news[j]? = some u → w.cell? (a.add j) = some u)

theorem Src.own {v : Value} {e sz m : Nat} {xs : List Value} (h : (oSl v e sz m xs).P w) : Src w v m sz xs := by
  refine ⟨h.1, ?_⟩
  rcases h.2 with ⟨hv, hm⟩ | ⟨g, cap, cur, rfl, hrest⟩
  · exact .inl ⟨hv, hm⟩
  · obtain ⟨_, _, _, hc, _⟩ := own_cells h rfl
    obtain ⟨g', hg', hcc⟩ := hc _ rfl
    simp only [Addr.mk.injEq, and_true] at hg'
    subst hg'
    exact .inr ⟨⟨g, 0, none⟩, cap, rfl, fun j u hu => by
      have e : (⟨g, 0, none⟩ : Addr).add j = ⟨g, 0 + j, none⟩ := by unfold Addr.add; split <;> simp_all
      rw [e]; exact hcc j u hu⟩

/-- A slice that is only read, of an address or nil with capacity 0. -/
theorem Src.data {ao : Option Addr} {m c sz : Nat} {xs : List Value} (h : (dSl ao m c sz xs).P w) : Src w (.slice ao m c) m sz xs := by
  refine ⟨h.2.1, ?_⟩
  cases ao with
  | none =>
    have hc := h.1.2.1 rfl
    have hm : m = 0 := by have := h.1.1; omega
    subst hc; subst hm
    exact .inl ⟨rfl, rfl⟩
  | some ad =>
    refine .inr ⟨ad, c, rfl, ?_⟩
    by_cases hne : xs = []
    · subst hne; simp
    · obtain ⟨b', o', hao, hr⟩ := h.2.2 hne
      simp only [Option.some.injEq] at hao
      subst hao
      intro j u hu
      have e : (⟨b', o', none⟩ : Addr).add j = ⟨b', o' + j, none⟩ := by unfold Addr.add; split <;> simp_all
      rw [e]; exact hr j u hu

theorem O_append {e sz by_ m mm i : Nat} {xs news : List Value} {v u : Value} (hs : St W F D es ds w) (hi : es[i]? = some (oSl v e sz m xs)) (hd : Nat.blt d n = true) (he : einfoB P t e sz by_ = true) (hx : evO ρ x = some v) (hy : evO ρ y = some u)
    (hsrc : Src w u mm sz news) (h1 : ∀ u ∈ news, u.oneCell' = true) (hbytes : (m + mm) * by_ ≤ 140737488355328) (hmax : m + mm ≤ 4294967296)
    (hK : ∀ v' w', St W F D (es.set i (oSl v' e sz (m + mm) (xs ++ news))) ds w' → K (upd ρ d v') w') : EOp P n ⟨some d, .call ⟨.builtin .append, #[x, y], #[t, t]⟩, ty, pos, aft, none⟩ K ρ w := fun a ha => by
  have hown : w.ownsRow 0 e sz v m xs := hs.at hi
  unfold Oper.wp
  have key : ∃ v' w', (Builtin.append_ #[t, t] ty #[v, u]).run P w = .ok v' w' ∧ w'.ownsRow 0 e sz v' (m + mm) (xs ++ news) ∧ w.grownBy w' v.ownBlock ∧ (∀ k, v'.ownBlock = some k → v.ownBlock = some k ∨ w.heap.size ≤ k) := by
    obtain ⟨hlen, ⟨rfl, rfl⟩ | ⟨b, c, rfl, hc⟩⟩ := hsrc
    · have hn : news = [] := List.eq_nil_of_length_eq_zero (by simpa using hlen)
      subst hn
      obtain ⟨hu, hsz0, inf, z, hinf, hz, hisz, hby, hzc⟩ := einfo_parts he
      have hr := run_append_owned_none (P := P) w 0 t ty e inf sz hu hinf v m xs hown
      exact ⟨v, w, hr, by simpa using hown, ⟨rfl, rfl, rfl, Nat.le_refl _, fun _ _ _ => rfl⟩, fun k hk => .inl hk⟩
    · exact run_append_at he hown hlen hc h1 hbytes hmax
  obtain ⟨v', w', hr, h2, h3, h4⟩ := key
  have hrun : (execOp a.eval ⟨some d, .call ⟨.builtin .append, #[x, y], #[t, t]⟩, ty, pos, aft, none⟩).run P w = .ok (.value v') w' := by
    simp only [execOp, resolve, invoke, builtin, Sem.run_bind, Sem.run_pure, Result.andThen_ok, List.map_toArray, List.map_cons, List.map_nil, ha.eval hx, ha.eval hy, hr]
  rw [hrun]
  exact ⟨_, ha.put hd _, hK _ _ (hs.appendOwn hi h2 h3 h4)⟩

/-- A text appended to owned bytes. -/
theorem O_appendStr {e u i m : Nat} {xs : List Value} {v : Value} {l : BL} (hs : St W F D es ds w) (hi : es[i]? = some (oSl v e 1 m xs)) (hd : Nat.blt d n = true) (he : einfoB P t e 1 1 = true) (hu : P.underlying u = some .string) (hz : ∀ w, (zeroValue e).run P w = .ok (.int .u8 0) w) (hx : evO ρ x = some v) (hy : evO ρ y = some (.string (bstr l)))
    (hmax : m + l.length ≤ 4294967296)
    (hK : ∀ v' w', St W F D (es.set i (oSl v' e 1 (m + l.length) (xs ++ l.map fun b => .int .u8 b.toNat))) ds w' → K (upd ρ d v') w') : EOp P n ⟨some d, .call ⟨.builtin .append, #[x, y], #[t, u]⟩, ty, pos, aft, none⟩ K ρ w := fun a ha => by
  have hown : w.ownsRow 0 e 1 v m xs := hs.at hi
  obtain ⟨hut, hsz0, inf, z, hinf, hzz, hisz, hby, hzc⟩ := einfo_parts he
  have hz0 : inf.zero = some (.int .u8 0) := by
    have := hz w
    simp only [zeroValue, Sem.run_bind, typeInfo, run_program, Result.andThen_ok, hinf, Sem.run_pure, hzz] at this
    rw [hzz]; congr 1; injection this
  have hsize : (bstr l).size = l.length := by simp [bstr, ByteArray.size]
  have hcells : Lib.strCells (bstr l) = l.map fun b => .int .u8 b.toNat := by simp [Lib.strCells, bstr]
  unfold Oper.wp
  -- the block: by the two cases of the owned slice
  have key : ∃ v' w', (Builtin.append_ #[t, u] ty #[v, .string (bstr l)]).run P w = .ok v' w' ∧ w'.ownsRow 0 e 1 v' (m + l.length) (xs ++ l.map fun b => .int .u8 b.toNat) ∧ w.grownBy w' v.ownBlock ∧ (∀ k, v'.ownBlock = some k → v.ownBlock = some k ∨ w.heap.size ≤ k) := by
    rw [← hcells, ← hsize]
    have hmx : m + (bstr l).size ≤ maxLen := by rw [hsize]; unfold maxLen; omega
    have hmx2 : m + (bstr l).size ≤ 140737488355328 := by rw [hsize]; omega
    rcases hown.2 with ⟨hv, hm⟩ | ⟨g, cap, cur, hv, hb, hg, hrest⟩
    · subst hv
      have hown' : w.ownsRow w.heap.size e 1 (.slice none 0 0) m xs := ⟨hown.1, .inl ⟨rfl, hm⟩⟩
      obtain ⟨v', w', hr, h2, h3, _⟩ := Lib.run_append_own_string (P := P) w w.heap.size t u ty e inf hut hu hinf hz0 hisz hby _ m xs hown' (bstr l) hmx hmx2 (Nat.le_refl _)
      exact ⟨v', w', hr, ⟨h2.1, h2.2.imp id (fun ⟨g, cap, cur, a1, _, a3⟩ => ⟨g, cap, cur, a1, Nat.zero_le _, a3⟩)⟩, h3, fun k hk => .inr (h2.lt k hk).1⟩
    · subst hv
      obtain ⟨v', w', hr, h2, h3, _⟩ := Lib.run_append_own_string (P := P) w 0 t u ty e inf hut hu hinf hz0 hisz hby _ m xs hown (bstr l) hmx hmx2 (Nat.zero_le _)
      refine ⟨v', w', hr, h2, h3, fun k hk => ?_⟩
      obtain ⟨hnc, hcm, hcs, htake⟩ := hrest
      by_cases hroom : m + (bstr l).size ≤ cap
      · have hr2 := Lib.run_append_room_string (P := P) w t u ty e inf hut hu hinf hisz g m cap cur hg (bstr l) hroom (by rw [hcs]; omega)
        rw [hr] at hr2
        obtain ⟨rfl, rfl⟩ := Result.ok.inj hr2
        exact .inl hk
      · have holds : ∀ j u, xs[j]? = some u → w.cell? ((⟨g, 0, none⟩ : Addr).add j) = some u := hown.cells (g := g) rfl
        have hr2 := Lib.run_append_grow_string (P := P) w t u ty e inf _ hut hu hinf hz0 ⟨g, 0, none⟩ m cap xs (by rw [hisz]; exact hown.1) holds (bstr l) (by omega) (by unfold maxLen at hmx; omega) (growslice_fits (by omega) (by rw [hby]; omega))
        rw [hr] at hr2
        obtain ⟨rfl, rfl⟩ := Result.ok.inj hr2
        refine .inr ?_
        have : k = w.heap.size := by simpa [Value.ownBlock, eq_comm] using hk
        omega
  obtain ⟨v', w', hr, h2, h3, h4⟩ := key
  have hrun : (execOp a.eval ⟨some d, .call ⟨.builtin .append, #[x, y], #[t, u]⟩, ty, pos, aft, none⟩).run P w = .ok (.value v') w' := by
    simp only [execOp, resolve, invoke, builtin, Sem.run_bind, Sem.run_pure, Result.andThen_ok, List.map_toArray, List.map_cons, List.map_nil, ha.eval hx, ha.eval hy, hr]
  rw [hrun]
  exact ⟨_, ha.put hd _, hK _ _ (hs.appendOwn hi h2 h3 h4)⟩

/-! ### Slices cut -/
theorem sl_bound {k : IntKind} {i : Int} {y : Nat} {code : BoundsCode} (h0 : 0 ≤ i) (h1 : i ≤ y) : (Instr.sliceBound (.int k i) y code).run P w = .ok i.toNat w := by
  rw [run_sliceBound]; all_goals first | rfl | omega

def cutO (ao : Option Addr) (c l sz : Nat) : Option Addr := if c = l then ao else ao.map (·.add (l * sz))

theorem R_sliceHi {ao : Option Addr} {m c sz : Nat} {k : IntKind} {h : Int} (hs : elemSize P t = some sz) (hx : evO ρ x = some (.slice ao m c)) (hy : evO ρ y = some (.int k h)) (h0 : 0 ≤ h) (h1 : h ≤ c) :
    RunV P n ⟨do_, .slice t x none (some y) none, ty, pos, aft, none⟩ ρ w (.slice ao h.toNat c) := fun a ha => by
  unfold elemSize at hs
  split at hs
  · rename_i e hu
    obtain ⟨inf, hinf, hsz⟩ := Option.map_eq_some_iff.1 hs
    simp only [execOp, ha.eval hx, ha.eval hy, Option.map_some, Option.map_none, Instr.sliceAt, Sem.run_bind, run_underlying hu, Result.andThen_ok, Instr.slice, Instr.sliceBounds, sl_bound h0 h1, Sem.run_pure, sizeOf, typeInfo, run_program, hinf, if_true]
    by_cases hc : c = 0
    · simp [hc]
    · simp only [hc, if_false, Nat.zero_mul, Nat.sub_zero]
      cases ao with
      | none => rfl
      | some ad => simp [Addr.add]
  · cases hs

theorem R_sliceLo {ao : Option Addr} {m c sz : Nat} {k : IntKind} {l : Int} (hs : elemSize P t = some sz) (hx : evO ρ x = some (.slice ao m c)) (hy : evO ρ y = some (.int k l)) (h0 : 0 ≤ l) (h1 : l ≤ m) :
    RunV P n ⟨do_, .slice t x (some y) none none, ty, pos, aft, none⟩ ρ w (.slice (cutO ao c l.toNat sz) (m - l.toNat) (c - l.toNat)) := fun a ha => by
  unfold elemSize at hs
  split at hs
  · rename_i e hu
    obtain ⟨inf, hinf, hsz⟩ := Option.map_eq_some_iff.1 hs
    subst hsz
    simp only [execOp, ha.eval hx, ha.eval hy, Option.map_some, Option.map_none, Instr.sliceAt, Sem.run_bind, run_underlying hu, Result.andThen_ok, Instr.slice, Instr.sliceBounds, sl_bound h0 h1, Sem.run_pure, sizeOf, typeInfo, run_program, hinf, Option.isSome_none, Bool.false_eq_true, if_false]
    rfl
  · cases hs

theorem R_sliceLH {z : Operand} {ao : Option Addr} {m c sz : Nat} {k k' : IntKind} {l h : Int} (hs : elemSize P t = some sz) (hx : evO ρ x = some (.slice ao m c)) (hy : evO ρ y = some (.int k l)) (hz : evO ρ z = some (.int k' h)) (h0 : 0 ≤ l) (h1 : l ≤ h) (h2 : h ≤ c) :
    RunV P n ⟨do_, .slice t x (some y) (some z) none, ty, pos, aft, none⟩ ρ w (.slice (cutO ao c l.toNat sz) (h.toNat - l.toNat) (c - l.toNat)) := fun a ha => by
  unfold elemSize at hs
  split at hs
  · rename_i e hu
    obtain ⟨inf, hinf, hsz⟩ := Option.map_eq_some_iff.1 hs
    subst hsz
    have e2 : (h.toNat : Int) = h := Int.toNat_of_nonneg (by omega)
    simp only [execOp, ha.eval hx, ha.eval hy, ha.eval hz, Option.map_some, Option.map_none, Instr.sliceAt, Sem.run_bind, run_underlying hu, Result.andThen_ok, Instr.slice, Instr.sliceBounds, sl_bound (show 0 ≤ h by omega) h2, sl_bound (y := h.toNat) h0 (by omega), Sem.run_pure, sizeOf, typeInfo, run_program, hinf, Option.isSome_none, Bool.false_eq_true, if_false]
    rfl
  · cases hs

/-- A cut of a slice that is only read. -/
theorem dSl.cut {ao : Option Addr} {m c sz l h : Nat} {cs : List Value} (hd : (dSl ao m c sz cs).P w) (h1 : l ≤ h) (h2 : h ≤ m) : (dSl (cutO ao c l sz) (h - l) (c - l) sz ((cs.drop (l * sz)).take ((h - l) * sz))).P w := by
  obtain ⟨⟨hmc, hok⟩, hlen, hr⟩ := hd
  have hb : h * sz ≤ cs.length := by rw [hlen]; exact Nat.mul_le_mul_right _ h2
  have hls : l * sz ≤ h * sz := Nat.mul_le_mul_right _ h1
  have hok' : SOk (cutO ao c l sz) (c - l) := by
    unfold cutO
    split
    · exact ⟨fun h => by rw [hok.1 h]; omega, fun ad h h2 => hok.2 ad h (by omega)⟩
    · refine ⟨fun h => ?_, fun ad h h2 => ?_⟩
      · have : ao = none := by cases ao <;> simp_all
        rw [hok.1 this]; omega
      · cases ao with
        | none => cases h
        | some a =>
          simp only [Option.map_some, Option.some.injEq] at h
          rw [← h]
          unfold Addr.add
          split
          · exact hok.2 a rfl (by omega)
          · rfl
  refine ⟨⟨by omega, hok'⟩, by rw [List.length_take, List.length_drop, Nat.sub_mul]; omega, fun hne => ?_⟩
  have hne' : cs ≠ [] := by intro h; subst h; simp at hne
  obtain ⟨b, o, hao, hrow⟩ := hr hne'
  have hcl : ¬ c = l := by
    intro e
    have : h - l = 0 := by omega
    rw [this, Nat.zero_mul, List.take_zero] at hne
    exact hne rfl
  refine ⟨b, o + l * sz, ?_, fun i u hu => ?_⟩
  · unfold cutO
    rw [if_neg hcl, hao]
    simp [Addr.add]
  · rw [List.getElem?_take] at hu
    split at hu
    · rw [List.getElem?_drop] at hu
      rw [Nat.add_assoc]
      exact hrow _ u hu
    · cases hu

theorem dSl.cut_foot {ao : Option Addr} {m c sz l h : Nat} {cs : List Value} : ∀ k, (dSl (cutO ao c l sz) (h - l) (c - l) sz ((cs.drop (l * sz)).take ((h - l) * sz))).foot k → (dSl ao m c sz cs).foot k := by
  intro k ⟨hne, ad, hao, hk⟩
  have hne' : cs ≠ [] := by intro h; subst h; simp at hne
  refine ⟨hne', ?_⟩
  unfold cutO at hao
  split at hao
  · exact ⟨ad, hao, hk⟩
  · cases ao with
    | none => cases hao
    | some ad' =>
      simp only [Option.map_some, Option.some.injEq] at hao
      refine ⟨ad', rfl, ?_⟩
      rw [hk, ← hao]
      unfold Addr.add
      split <;> rfl

/-! ### Bytes and texts -/
def u8s (l : BL) : List Value := l.map fun b => .int .u8 b.toNat
theorem u8s_len (l : BL) : (u8s l).length = l.length := by simp [u8s]
theorem u8s_one (l : BL) : ∀ u ∈ u8s l, u.oneCell' = true := by
  intro u hu
  obtain ⟨b, _, rfl⟩ := List.mem_map.1 hu
  rfl
/-- Bytes that are only read. -/
abbrev dB (ao : Option Addr) (c : Nat) (l : BL) : Asn := dSl ao l.length c 1 (u8s l)

theorem R_convStr {s u e : TypeId} {ao : Option Addr} {c : Nat} {l : BL} (hs : P.underlying s = some (.slice e)) (he : P.underlying e = some (.int .u8)) (hu : P.underlying u = some .string) (hx : evO ρ x = some (.slice ao l.length c)) (hd : (dB ao c l).P w) :
    RunV P n ⟨do_, .convert s u x, ty, pos, aft, none⟩ ρ w (.string (bstr l)) := fun a ha => by
  have hrun : (convert s u (.slice ao l.length c)).run P w = .ok (.string (bstr l)) w := by
    by_cases hne : l = []
    · subst hne
      rw [run_convert_bytes_string w s u e _ _ c hs he hu]
      cases ao with
      | none => simp [Conv.bytesToString]; rfl
      | some ad =>
        have := run_bytesToString (P := P) w ad 0 c [] (by simp [loadCells, loadCellsFrom])
        have e : bstr [] = ByteArray.empty := rfl
        rw [e]; simpa using this
    · obtain ⟨b, o, hao, hrow⟩ := hd.2.2 (by simpa [u8s] using hne)
      subst hao
      have := run_convert_bytes_arg (P := P) w s e hs he b o l.length c (l.map fun b => ((b.toNat : Nat) : Int)) (by simp) (fun i hi => by
        rw [hrow i (.int .u8 (l[i]).toNat) (by simp [u8s, hi])]
        simp [hi]) u hu
      rw [this]
      congr 2
      simp [strOfNums, bstr, List.map_map, Function.comp_def]
  simp only [execOp, ha.eval hx, Sem.run_bind, hrun, Result.andThen_ok, Sem.run_pure]
end
#print axioms O_append
#print axioms O_appendStr
#print axioms R_convStr
end Go.Proofs.Ytpcojkbljgpecaa
