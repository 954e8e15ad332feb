/- The engine, part 17: data that hold slices; stores into parts of what is owned. -/
import Derived.Test.YtpcojkbljgpecaaE14
import Derived.Laws.CopyRow
namespace Go.Proofs.Ytpcojkbljgpecaa
open Go

/-- Two statements together. -/
def Asn.and (a b : Asn) : Asn :=
  ⟨fun k => a.foot k ∨ b.foot k, fun w => a.P w ∧ b.P w, fun w w' h hp => ⟨a.st w w' (fun k hk => h k (.inl hk)) hp.1, b.st w w' (fun k hk => h k (.inr hk)) hp.2⟩⟩

/-- All of some. -/
def dAll {α : Type} (g : α → Asn) (l : List α) : Asn :=
  ⟨fun k => ∃ x, x ∈ l ∧ (g x).foot k, fun w => ∀ x, x ∈ l → (g x).P w, fun w w' h hp x hx => (g x).st w w' (fun k hk => h k ⟨x, hx, hk⟩) (hp x hx)⟩

/-- A slice of things that hold slices themselves: f: a thing's cells; g: what it holds. -/
def dDp {α : Type} (f : α → List Value) (g : α → Asn) (sz : Nat) (ao : Option Addr) (c : Nat) (l : List α) : Asn := (dSl ao l.length c sz (l.flatMap f)).and (dAll g l)

/-- Bytes: where they lie, how many fit there, and what they are. -/
structure SB where
  ao : Option Addr
  c : Nat
  b : BL
def SB.val (s : SB) : Value := .slice s.ao s.b.length s.c
def SB.l (s : SB) : List Value := [s.val]
def SB.D (s : SB) : Asn := dB s.ao s.c s.b
theorem SB.len (s : SB) : s.l.length = 1 := rfl
theorem SB.one (l : List SB) : ∀ u ∈ l.flatMap SB.l, u.oneCell' = true := by
  intro u hu
  obtain ⟨s, _, hs⟩ := List.mem_flatMap.1 hu
  obtain rfl := List.mem_singleton.1 hs
  rfl
abbrev dSS (ao : Option Addr) (c : Nat) (l : List SB) : Asn := dDp SB.l SB.D 1 ao c l

section
variable {W w : World} {F D : Nat → Prop} {es ds : List Asn}

/-- What follows of some that are only read. -/
theorem St.derL (hs : St W F D es ds w) (js : List Nat) (d' : Asn) (hP : (∀ d, d ∈ pickD js ds → d.P w) → d'.P w) (hf : ∀ k, d'.foot k → ∃ d, d ∈ pickD js ds ∧ d.foot k) : St W F D es (ds ++ [d']) w :=
  hs.data d' (hP fun d hd => hs.dh d (mem_pickD hd)) (fun k hk => by
    obtain ⟨d, hd, hdk⟩ := hf k hk
    have hm := mem_pickD hd
    exact ⟨(hs.df d hm k hdk).1, (hs.df d hm k hdk).2, fun a ha hak => hs.ed a ha d hm k hak hdk⟩)

theorem get_last {α : Type} (l : List α) (x : α) : (l ++ [x])[l.length]? = some x := by simp
theorem mem_pick1 {α : Type} {j : Nat} {l : List α} {x : α} (h : l[j]? = some x) {js : List Nat} (hj : j ∈ js) : x ∈ pickD js l := by
  unfold pickD
  exact List.mem_filterMap.2 ⟨j, hj, h⟩

theorem St.dAnd1 (hs : St W F D es ds w) {j : Nat} {a b : Asn} (hj : ds[j]? = some (a.and b)) : St W F D es (ds ++ [a]) w := hs.derive (List.mem_of_getElem? hj) _ (fun h => h.1) (fun _ hk => .inl hk)
theorem St.dAnd2 (hs : St W F D es ds w) {j : Nat} {a b : Asn} (hj : ds[j]? = some (a.and b)) : St W F D es (ds ++ [b]) w := hs.derive (List.mem_of_getElem? hj) _ (fun h => h.2) (fun _ hk => .inr hk)
theorem St.mkAnd (hs : St W F D es ds w) {j k : Nat} {a b : Asn} (hj : ds[j]? = some a) (hk : ds[k]? = some b) : St W F D es (ds ++ [a.and b]) w :=
  hs.derL [j, k] _ (fun h => ⟨h _ (mem_pick1 hj (by simp)), h _ (mem_pick1 hk (by simp))⟩) (fun x hx => hx.elim (fun hx => ⟨a, mem_pick1 hj (by simp), hx⟩) (fun hx => ⟨b, mem_pick1 hk (by simp), hx⟩))

section
variable {α : Type} {f : α → List Value} {g : α → Asn} {sz c : Nat} {ao : Option Addr} {l l' : List α} {x : α}
theorem St.dAllGet (hs : St W F D es ds w) {j : Nat} (hj : ds[j]? = some (dAll g l)) (hx : x ∈ l) : St W F D es (ds ++ [g x]) w :=
  hs.derive (List.mem_of_getElem? hj) _ (fun h => h x hx) (fun _ hk => ⟨x, hx, hk⟩)
theorem St.dDpGet (hs : St W F D es ds w) {j : Nat} (hj : ds[j]? = some (dDp f g sz ao c l)) (hx : x ∈ l) : St W F D es (ds ++ [g x]) w :=
  hs.derive (List.mem_of_getElem? hj) _ (fun h => h.2 x hx) (fun _ hk => .inr ⟨x, hx, hk⟩)
theorem St.dDpSl (hs : St W F D es ds w) {j : Nat} (hj : ds[j]? = some (dDp f g sz ao c l)) : St W F D es (ds ++ [dSl ao l.length c sz (l.flatMap f)]) w := hs.dAnd1 hj
theorem St.dDpAll (hs : St W F D es ds w) {j : Nat} (hj : ds[j]? = some (dDp f g sz ao c l)) : St W F D es (ds ++ [dAll g l]) w := hs.dAnd2 hj
theorem St.mkDp (hs : St W F D es ds w) {j k : Nat} (hj : ds[j]? = some (dSl ao l.length c sz (l.flatMap f))) (hk : ds[k]? = some (dAll g l)) : St W F D es (ds ++ [dDp f g sz ao c l]) w := hs.mkAnd hj hk
theorem St.dAllNil (hs : St W F D es ds w) (g : α → Asn) : St W F D es (ds ++ [dAll g []]) w :=
  hs.data _ (fun _ h => nomatch h) (fun _ ⟨_, h, _⟩ => nomatch h)
theorem St.dAllSnoc (hs : St W F D es ds w) {j k : Nat} (hj : ds[j]? = some (dAll g l)) (hk : ds[k]? = some (g x)) : St W F D es (ds ++ [dAll g (l ++ [x])]) w :=
  hs.derL [j, k] _ (fun h y hy => by
    rcases List.mem_append.1 hy with hy | hy
    · exact h _ (mem_pick1 hj (by simp)) y hy
    · obtain rfl := List.mem_singleton.1 hy
      exact h _ (mem_pick1 hk (by simp))) (fun k' ⟨y, hy, hyk⟩ => by
    rcases List.mem_append.1 hy with hy | hy
    · exact ⟨_, mem_pick1 hj (by simp), y, hy, hyk⟩
    · obtain rfl := List.mem_singleton.1 hy
      exact ⟨_, mem_pick1 hk (by simp), hyk⟩)
theorem St.dAllApp (hs : St W F D es ds w) {j k : Nat} (hj : ds[j]? = some (dAll g l)) (hk : ds[k]? = some (dAll g l')) : St W F D es (ds ++ [dAll g (l ++ l')]) w :=
  hs.derL [j, k] _ (fun h y hy => by
    rcases List.mem_append.1 hy with hy | hy
    · exact h _ (mem_pick1 hj (by simp)) y hy
    · exact h _ (mem_pick1 hk (by simp)) y hy) (fun k' ⟨y, hy, hyk⟩ => by
    rcases List.mem_append.1 hy with hy | hy
    · exact ⟨_, mem_pick1 hj (by simp), y, hy, hyk⟩
    · exact ⟨_, mem_pick1 hk (by simp), y, hy, hyk⟩)
theorem St.dAllSub (hs : St W F D es ds w) {j : Nat} (hj : ds[j]? = some (dAll g l)) (h : ∀ y, y ∈ l' → y ∈ l) : St W F D es (ds ++ [dAll g l']) w :=
  hs.derive (List.mem_of_getElem? hj) _ (fun hp y hy => hp y (h y hy)) (fun _ ⟨y, hy, hk⟩ => ⟨y, h y hy, hk⟩)
/-- Things that are made of others. -/
theorem St.dAllMap {β : Type} {g' : β → Asn} {m : List β} (hs : St W F D es ds w) {j : Nat} (hj : ds[j]? = some (dAll g l)) (h : ∀ y, y ∈ m → ∃ x, x ∈ l ∧ (∀ w, (g x).P w → (g' y).P w) ∧ ∀ k, (g' y).foot k → (g x).foot k) : St W F D es (ds ++ [dAll g' m]) w :=
  hs.derive (List.mem_of_getElem? hj) _ (fun hp y hy => by
    obtain ⟨x, hx, h1, _⟩ := h y hy
    exact h1 _ (hp x hx)) (fun k ⟨y, hy, hk⟩ => by
    obtain ⟨x, hx, _, h2⟩ := h y hy
    exact ⟨x, hx, h2 k hk⟩)
/-- A cut of a slice of things that hold slices. -/
theorem St.dDpCut (hs : St W F D es ds w) {j : Nat} (hj : ds[j]? = some (dDp f g sz ao c l)) (hf : ∀ x, (f x).length = sz) (lo hi : Nat) (h1 : lo ≤ hi) (h2 : hi ≤ l.length) :
    St W F D es (ds ++ [dDp f g sz (cutO ao c lo sz) (c - lo) ((l.drop lo).take (hi - lo))]) w := by
  have hm := List.mem_of_getElem? hj
  have a1 : St W F D es (ds ++ [dSl ao l.length c sz (l.flatMap f)]) w := hs.dDpSl hj
  have a2 := a1.dEcut (j := ds.length) (get_last _ _) hf lo hi h1 h2
  have hsl : (dSl (cutO ao c lo sz) ((l.drop lo).take (hi - lo)).length (c - lo) sz (((l.drop lo).take (hi - lo)).flatMap f)).P w := a2.dh _ (by simp)
  have hsub : ∀ y, y ∈ (l.drop lo).take (hi - lo) → y ∈ l := fun y hy => List.mem_of_mem_drop (List.mem_of_mem_take hy)
  have hfoot : ∀ k, (dSl (cutO ao c lo sz) ((l.drop lo).take (hi - lo)).length (c - lo) sz (((l.drop lo).take (hi - lo)).flatMap f)).foot k → (dSl ao l.length c sz (l.flatMap f)).foot k := by
    rintro k ⟨hne, ad, had, rfl⟩
    refine ⟨fun hn => hne ?_, ?_⟩
    · rw [List.flatMap_eq_nil_iff] at hn ⊢
      exact fun y hy => hn y (hsub y hy)
    · unfold cutO at had
      split at had
      · exact ⟨ad, had, rfl⟩
      · cases ao with
        | none => cases had
        | some a =>
          simp only [Option.map_some, Option.some.injEq] at had
          subst had
          exact ⟨a, rfl, by unfold Addr.add; split <;> rfl⟩
  exact hs.derive hm _ (fun h => ⟨hsl, fun y hy => h.2 y (hsub y hy)⟩) (fun k hk => hk.elim (fun hk => .inl (hfoot k hk)) (fun ⟨y, hy, hyk⟩ => .inr ⟨y, hsub y hy, hyk⟩))
theorem St.dDpTake (hs : St W F D es ds w) {j : Nat} (hj : ds[j]? = some (dDp f g sz ao c l)) (hf : ∀ x, (f x).length = sz) (hi : Nat) (h2 : hi ≤ l.length) : St W F D es (ds ++ [dDp f g sz ao c (l.take hi)]) w := by
  have h := hs.dDpCut hj hf 0 hi (Nat.zero_le _) h2
  have e : cutO ao c 0 sz = ao := by
    unfold cutO
    split
    · rfl
    · cases ao with
      | none => rfl
      | some a => simp [Addr.add]
  rwa [e, List.drop_zero, Nat.sub_zero, Nat.sub_zero] at h
theorem St.dDpDrop (hs : St W F D es ds w) {j : Nat} (hj : ds[j]? = some (dDp f g sz ao c l)) (hf : ∀ x, (f x).length = sz) (lo : Nat) (h2 : lo ≤ l.length) : St W F D es (ds ++ [dDp f g sz (cutO ao c lo sz) (c - lo) (l.drop lo)]) w := by
  have h := hs.dDpCut hj hf lo l.length h2 (Nat.le_refl _)
  rwa [List.take_of_length_le (by rw [List.length_drop]; omega)] at h
/-- An owned slice of things that hold slices, from now on only read. -/
theorem St.freezeDp (hs : St W F D es ds w) {i j e m mm : Nat} (hi : es[i]? = some (oSl (.slice ao mm c) e sz m (l.flatMap f))) (hmm : mm = l.length) (hj : ds[j]? = some (dAll g l)) : St W F D (es.eraseIdx i) (ds ++ [dSl ao mm c sz (l.flatMap f), dDp f g sz ao c l]) w := by
  subst hmm
  have h1 := hs.freezeAt hi
  have hjl : j < ds.length := (List.getElem?_eq_some_iff.1 hj).1
  have h2 := h1.mkDp (j := ds.length) (k := j) (f := f) (g := g) (l := l) (get_last _ _) (by rw [List.getElem?_append_left hjl]; exact hj)
  rwa [List.append_assoc] at h2
end
end

/-! ### Parts that are written over -/
def setSeg (xs : List Value) (o : Nat) (vs : List Value) : List Value := xs.take o ++ vs ++ xs.drop (o + vs.length)
theorem setSeg_len {xs vs : List Value} {o : Nat} (h : o + vs.length ≤ xs.length) : (setSeg xs o vs).length = xs.length := by
  simp only [setSeg, List.length_append, List.length_take, List.length_drop]; omega
theorem setSeg_append_right {xs ys vs : List Value} {o p : Nat} (h : p = xs.length + o) : setSeg (xs ++ ys) p vs = xs ++ setSeg ys o vs := by
  subst h
  unfold setSeg
  rw [List.take_append, List.drop_append, List.take_of_length_le (by omega), List.drop_of_length_le (by omega)]
  simp only [List.nil_append, List.append_assoc]
  congr 3
  · rw [Nat.add_sub_cancel_left]
  · congr 1; omega
theorem setSeg_append_left {xs ys vs : List Value} {o : Nat} (h : o + vs.length ≤ xs.length) : setSeg (xs ++ ys) o vs = setSeg xs o vs ++ ys := by
  unfold setSeg
  rw [List.take_append_of_le_length (by omega), List.drop_append_of_le_length h]
  simp only [List.append_assoc]
theorem setSeg_elem {α : Type} {f : α → List Value} {sz : Nat} (hf : ∀ x, (f x).length = sz) {x' : α} {j : Nat} {vs : List Value} (hj : j + vs.length ≤ sz) : ∀ (l : List α) (i : Nat) (hi : i < l.length), f x' = setSeg (f l[i]) j vs → setSeg (l.flatMap f) (i * sz + j) vs = (l.set i x').flatMap f
  | y :: l, 0, _, h => by
    rw [List.flatMap_cons, Nat.zero_mul, Nat.zero_add, setSeg_append_left (by rw [hf]; exact hj), List.set_cons_zero, List.flatMap_cons, h]
    rfl
  | y :: l, i + 1, hi, h => by
    rw [List.flatMap_cons, List.set_cons_succ, List.flatMap_cons, setSeg_append_right (o := i * sz + j) (by rw [hf, Nat.succ_mul]; omega), setSeg_elem hf hj l i (by simpa using hi) h]
theorem setSeg_set {α : Type} {f : α → List Value} {sz : Nat} (hf : ∀ x, (f x).length = sz) (l : List α) (i : Nat) (x' : α) (hi : i < l.length) : setSeg (l.flatMap f) (i * sz) (f x') = (l.set i x').flatMap f := by
  have h := setSeg_elem hf (x' := x') (j := 0) (vs := f x') (by rw [hf]; omega) l i hi (by unfold setSeg; rw [List.take_zero, List.nil_append, List.drop_of_length_le (by rw [hf, hf]; omega), List.append_nil])
  rwa [Nat.add_zero] at h
theorem setSeg_u8 (l : BL) (i : Nat) (c : UInt8) (hi : i < l.length) : setSeg (u8s l) i [V8 c] = u8s (l.set i c) := by
  have h := setSeg_set (f := fun b : UInt8 => [V8 b]) (sz := 1) (fun _ => rfl) l i c hi
  have e : ∀ l : BL, l.flatMap (fun b : UInt8 => [V8 b]) = u8s l := fun l => by
    induction l with
    | nil => rfl
    | cons b l ih => rw [List.flatMap_cons, ih]; rfl
  rwa [e, e, Nat.mul_one] at h

section
variable {P : Program} {n : Nat} {ρ : Env} {K : Env → World → Prop} {W w : World} {F D : Nat → Prop} {es ds : List Asn} {ty : TypeId} {pos : String} {aft : Array Edge} {x y : Operand} {t : TypeId} {v : Value}

theorem run_storeAt {b o : Nat} {c : Array Value} {tt : TypeId} {vs : List Value} (hb : w.heap[b]? = some (.cells c tt (0, 0))) (hsz : ∀ w, (sizeOf t).run P w = .ok vs.length w) (hv : v.cells = vs.toArray) (h1 : ∀ u ∈ vs, u.oneCell' = true) (ho : o + vs.length ≤ c.size) :
    (Instr.storeAt t (.pointer (some ⟨b, o, none⟩)) v).run P w = .ok () (w.setRow b (setSeg c.toList o vs).toArray) := by
  have hst := run_storeCells_at P b o tt vs 0 c w hb (by simpa using ho) h1
  simp only [Nat.add_zero] at hst
  have e : v.cells.toList = vs := by rw [hv]
  have e2 : v.cells.size = vs.length := by rw [hv]; simp
  simp only [Instr.storeAt, Instr.sureAddr, storeVar, Sem.run_bind, Sem.run_pure, Result.andThen_ok, hsz, e2, ne_eq, not_true, if_false, e, hst, setSeg]

theorem setRow_facts {w : World} {b : Nat} {c c' : Array Value} {tt : TypeId} (hb : w.heap[b]? = some (.cells c tt (0, 0))) : (w.setRow b c').heap[b]? = some (.cells c' tt (0, 0)) ∧ (∀ k, k ≠ b → (w.setRow b c').heap[k]? = w.heap[k]?) ∧ (w.setRow b c').heap.size = w.heap.size := by
  refine ⟨heap_setRow_same hb, fun k hk => ?_, by simp [World.setRow]⟩
  simp only [World.setRow, Array.getElem?_modify]
  rw [if_neg (by omega)]

/-- Into a part of an owned block. -/
theorem O_storeP {b o : Nat} {c : Array Value} {tt : TypeId} {vs : List Value} (hs : St W F D es ds w) {i : Nat} (hi : es[i]? = some (blk b c tt)) (hsz : ∀ w, (sizeOf t).run P w = .ok vs.length w) (hx : evO ρ x = some (.pointer (some ⟨b, o, none⟩))) (hy : evO ρ y = some v) (hv : v.cells = vs.toArray) (h1 : ∀ u ∈ vs, u.oneCell' = true) (ho : o + vs.length ≤ c.size)
    (hK : ∀ w', St W F D (es.set i (blk b (setSeg c.toList o vs).toArray tt)) ds w' → K ρ w') : EOp P n ⟨none, .store t x y, ty, pos, aft, none⟩ K ρ w := fun a ha => by
  have hb : w.heap[b]? = some (.cells c tt (0, 0)) := hs.at hi
  have hst := run_storeAt (P := P) hb hsz hv h1 ho
  obtain ⟨f1, f2, f3⟩ := setRow_facts (c' := (setSeg c.toList o vs).toArray) hb
  unfold Oper.wp
  have hrun : (execOp a.eval ⟨none, .store t x y, ty, pos, aft, none⟩).run P w = .ok .skip (w.setRow b (setSeg c.toList o vs).toArray) := by
    simp only [execOp, ha.eval hx, ha.eval hy, Sem.run_bind, hst, Result.andThen_ok, Sem.run_pure]
  rw [hrun]
  exact ⟨ρ, by simpa [Act.put] using ha, hK _ (hs.setBlk hi _ _ ⟨rfl, rfl, rfl⟩ f3 f1 f2)⟩

/-- Into an owned slice. -/
theorem O_storeSl {b o m c e sz : Nat} {xs vs : List Value} (hs : St W F D es ds w) {i : Nat} (hi : es[i]? = some (oSl (.slice (some ⟨b, 0, none⟩) m c) e sz m xs)) (hsz : ∀ w, (sizeOf t).run P w = .ok vs.length w) (hx : evO ρ x = some (.pointer (some ⟨b, o, none⟩))) (hy : evO ρ y = some v) (hv : v.cells = vs.toArray) (h1 : ∀ u ∈ vs, u.oneCell' = true) (ho : o + vs.length ≤ xs.length)
    (hK : ∀ w', St W F D (es.set i (oSl (.slice (some ⟨b, 0, none⟩) m c) e sz m (setSeg xs o vs))) ds w' → K ρ w') : EOp P n ⟨none, .store t x y, ty, pos, aft, none⟩ K ρ w := fun a ha => by
  have hown : w.ownsRow 0 e sz (.slice (some ⟨b, 0, none⟩) m c) m xs := hs.at hi
  obtain ⟨hlen, hh⟩ := hown
  rcases hh with ⟨hv0, _⟩ | ⟨g, cap, cur, hv0, hb0, hb, hmc, hcm, hcs, htk⟩
  · cases hv0
  injection hv0 with q1 q2 q3
  injection q1 with q1
  injection q1 with q1
  subst q1; subst q3
  have hcl : xs.length ≤ cur.size := by rw [hlen, hcs]; exact Nat.mul_le_mul_right _ hmc
  have hst := run_storeAt (P := P) hb hsz hv h1 (Nat.le_trans ho hcl)
  obtain ⟨f1, f2, f3⟩ := setRow_facts (c' := (setSeg cur.toList o vs).toArray) hb
  unfold Oper.wp
  have hrun : (execOp a.eval ⟨none, .store t x y, ty, pos, aft, none⟩).run P w = .ok .skip (w.setRow b (setSeg cur.toList o vs).toArray) := by
    simp only [execOp, ha.eval hx, ha.eval hy, Sem.run_bind, hst, Result.andThen_ok, Sem.run_pure]
  rw [hrun]
  have hsplit : cur.toList = xs ++ cur.toList.drop (m * sz) := by rw [← htk, List.take_append_drop]
  have hnew : setSeg cur.toList o vs = setSeg xs o vs ++ cur.toList.drop (m * sz) := by
    conv => lhs; rw [hsplit]
    exact setSeg_append_left ho
  have hsl := setSeg_len ho
  refine ⟨ρ, by simpa [Act.put] using ha, hK _ (hs.change hi _ rfl rfl rfl (by omega) (fun k _ hk => f2 k (fun e => hk (by simp [oSl, Value.ownBlock, e]))) ⟨by rw [hsl, hlen], .inr ⟨b, c, (setSeg cur.toList o vs).toArray, rfl, Nat.zero_le _, f1, hmc, hcm, ?_, ?_⟩⟩ (fun k hk => ⟨.inl hk, ?_⟩))⟩
  · rw [List.size_toArray, setSeg_len (by simpa using Nat.le_trans ho hcl), Array.length_toList, hcs]
  · show (setSeg cur.toList o vs).take (m * sz) = _
    rw [hnew, List.take_append_of_le_length (by rw [hsl, hlen]; exact Nat.le_refl _), List.take_of_length_le (by rw [hsl, hlen]; exact Nat.le_refl _)]
  · have : k = b := by simpa [oSl, Value.ownBlock, eq_comm] using hk
    subst this
    rw [f3]
    exact (Array.getElem?_eq_some_iff.1 hb).1
end
#print axioms O_storeSl
#print axioms O_storeP
#print axioms St.freezeDp
end Go.Proofs.Ytpcojkbljgpecaa
