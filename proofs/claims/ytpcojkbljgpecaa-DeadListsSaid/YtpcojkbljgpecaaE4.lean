/- The engine, part 4: what is known of memory: pieces that are owned, pieces that are only read; calls by contract. -/
import Derived.Test.YtpcojkbljgpecaaE3
namespace Go.Proofs.Ytpcojkbljgpecaa
open Go

/-- A statement on some blocks of the heap. -/
structure Asn where
  foot : Nat → Prop
  P : World → Prop
  st : ∀ w w', (∀ k, foot k → w'.heap[k]? = w.heap[k]?) → P w → P w'

def footL (l : List Asn) (k : Nat) : Prop := ∃ a, a ∈ l ∧ a.foot k

/-- A block of its own, known whole. -/
def blk (b : Nat) (c : Array Value) (t : TypeId) : Asn :=
  ⟨fun k => k = b, fun w => w.heap[b]? = some (.cells c t (0, 0)), fun w w' h hp => by rw [h b rfl]; exact hp⟩

/-- The state of a walk: W: the world in which the call began; F: which of its blocks may be written; D: which of its blocks are only read; es: what is owned; ds: what is only read. -/
structure St (W : World) (F D : Nat → Prop) (es ds : List Asn) (w : World) : Prop where
  os : w.os = W.os
  tape : w.tape = W.tape
  output : w.output = W.output
  size : W.heap.size ≤ w.heap.size
  frame : ∀ k, k < W.heap.size → ¬ F k → w.heap[k]? = W.heap[k]?
  eh : ∀ a, a ∈ es → a.P w
  dh : ∀ a, a ∈ ds → a.P w
  ef : ∀ a, a ∈ es → ∀ k, a.foot k → k < w.heap.size ∧ (k < W.heap.size → F k)
  df : ∀ a, a ∈ ds → ∀ k, a.foot k → k < w.heap.size ∧ (k < W.heap.size → D k ∨ F k)
  ee : es.Pairwise (fun a b => ∀ k, a.foot k → ¬ b.foot k)
  ed : ∀ a, a ∈ es → ∀ d, d ∈ ds → ∀ k, a.foot k → ¬ d.foot k

section
variable {W : World} {F D : Nat → Prop} {es ds : List Asn} {w w' : World}

theorem pairwise_set {α : Type} {R : α → α → Prop} {l : List α} {i : Nat} {a a' : α} (h : l.Pairwise R) (hi : l[i]? = some a)
    (h1 : ∀ x, x ∈ l → R x a → R x a') (h2 : ∀ x, x ∈ l → R a x → R a' x) : (l.set i a').Pairwise R := by
  induction l generalizing i with
  | nil => cases hi
  | cons x l ih =>
    rw [List.pairwise_cons] at h
    cases i with
    | zero =>
      simp only [List.getElem?_cons_zero, Option.some.injEq] at hi
      subst hi
      rw [List.set_cons_zero, List.pairwise_cons]
      exact ⟨fun y hy => h2 y (List.mem_cons_of_mem _ hy) (h.1 y hy), h.2⟩
    | succ i =>
      simp only [List.getElem?_cons_succ] at hi
      rw [List.set_cons_succ, List.pairwise_cons]
      refine ⟨fun y hy => ?_, ih h.2 hi (fun y hy => h1 y (List.mem_cons_of_mem _ hy)) (fun y hy => h2 y (List.mem_cons_of_mem _ hy))⟩
      rcases List.mem_or_eq_of_mem_set hy with hy | rfl
      · exact h.1 y hy
      · exact h1 x List.mem_cons_self (h.1 a (List.mem_of_getElem? hi))

/-- One of the owned pieces turns, and new blocks may come. -/
theorem St.change (hs : St W F D es ds w) {i : Nat} {a : Asn} (hi : es[i]? = some a) (a' : Asn) (ho : w'.os = w.os) (ht : w'.tape = w.tape) (hout : w'.output = w.output) (hsz : w.heap.size ≤ w'.heap.size)
    (hsame : ∀ k, k < w.heap.size → ¬ a.foot k → w'.heap[k]? = w.heap[k]?) (hP : a'.P w') (hf : ∀ k, a'.foot k → (a.foot k ∨ w.heap.size ≤ k) ∧ k < w'.heap.size) : St W F D (es.set i a') ds w' := by
  have ha : a ∈ es := List.mem_of_getElem? hi
  have hother : ∀ b, b ∈ es → (∀ k, a.foot k → ¬ b.foot k) → b.P w' := fun b hb hab =>
    b.st w w' (fun k hk => hsame k (hs.ef b hb k hk).1 (fun hak => hab k hak hk)) (hs.eh b hb)
  -- each member of the new list is the new piece, or an old one apart from the old piece
  have hmem : ∀ b, b ∈ es.set i a' → b = a' ∨ (b ∈ es ∧ ∀ k, a.foot k → ¬ b.foot k) := by
    intro b hb
    obtain ⟨j, hj, hjb⟩ := List.getElem_of_mem hb
    rw [List.length_set] at hj
    by_cases hij : i = j
    · left; subst hij; rw [← hjb, List.getElem_set_self]
    · right
      rw [List.getElem_set_ne hij] at hjb
      refine ⟨hjb ▸ List.getElem_mem hj, fun k hak hbk => ?_⟩
      have hil := (List.getElem?_eq_some_iff.1 hi)
      obtain ⟨hil, hia⟩ := hil
      have hp := List.pairwise_iff_getElem.1 hs.ee
      rcases Nat.lt_or_gt_of_ne hij with h | h
      · exact hp i j hil hj h k (hia ▸ hak) (hjb ▸ hbk)
      · exact hp j i hj hil h k (hjb ▸ hbk) (hia ▸ hak)
  refine ⟨ho.trans hs.os, ht.trans hs.tape, hout.trans hs.output, Nat.le_trans hs.size hsz, ?_, ?_, ?_, ?_, ?_, ?_, ?_⟩
  · intro k hk hF
    rw [hsame k (Nat.lt_of_lt_of_le hk hs.size) (fun hak => hF ((hs.ef a ha k hak).2 hk)), hs.frame k hk hF]
  · intro b hb
    rcases hmem b hb with rfl | ⟨hb, hab⟩
    · exact hP
    · exact hother b hb hab
  · intro d hd
    exact d.st w w' (fun k hk => hsame k (hs.df d hd k hk).1 (fun hak => hs.ed a ha d hd k hak hk)) (hs.dh d hd)
  · intro b hb k hk
    rcases hmem b hb with rfl | ⟨hb, _⟩
    · refine ⟨(hf k hk).2, fun hkW => ?_⟩
      rcases (hf k hk).1 with h | h
      · exact (hs.ef a ha k h).2 hkW
      · exact absurd (Nat.lt_of_lt_of_le hkW (Nat.le_trans hs.size h)) (Nat.lt_irrefl _)
    · exact ⟨Nat.lt_of_lt_of_le (hs.ef b hb k hk).1 hsz, (hs.ef b hb k hk).2⟩
  · intro d hd k hk
    exact ⟨Nat.lt_of_lt_of_le (hs.df d hd k hk).1 hsz, (hs.df d hd k hk).2⟩
  · refine pairwise_set hs.ee hi (fun x hx hxa k hxk ha'k => ?_) (fun x hx hax k ha'k hxk => ?_)
    · rcases (hf k ha'k).1 with h | h
      · exact hxa k hxk h
      · exact absurd (hs.ef x hx k hxk).1 (Nat.not_lt.2 h)
    · rcases (hf k ha'k).1 with h | h
      · exact hax k h hxk
      · exact absurd (hs.ef x hx k hxk).1 (Nat.not_lt.2 h)
  · intro b hb d hd k hbk hdk
    rcases hmem b hb with rfl | ⟨hb, _⟩
    · rcases (hf k hbk).1 with h | h
      · exact hs.ed a ha d hd k h hdk
      · exact absurd (hs.df d hd k hdk).1 (Nat.not_lt.2 h)
    · exact hs.ed b hb d hd k hbk hdk

/-- New blocks alone. -/
theorem St.grow (hs : St W F D es ds w) (ho : w'.os = w.os) (ht : w'.tape = w.tape) (hout : w'.output = w.output) (hsz : w.heap.size ≤ w'.heap.size)
    (hsame : ∀ k, k < w.heap.size → w'.heap[k]? = w.heap[k]?) : St W F D es ds w' :=
  ⟨ho.trans hs.os, ht.trans hs.tape, hout.trans hs.output, Nat.le_trans hs.size hsz,
    fun k hk hF => by rw [hsame k (Nat.lt_of_lt_of_le hk hs.size), hs.frame k hk hF],
    fun b hb => b.st w w' (fun k hk => hsame k (hs.ef b hb k hk).1) (hs.eh b hb),
    fun d hd => d.st w w' (fun k hk => hsame k (hs.df d hd k hk).1) (hs.dh d hd),
    fun b hb k hk => ⟨Nat.lt_of_lt_of_le (hs.ef b hb k hk).1 hsz, (hs.ef b hb k hk).2⟩,
    fun d hd k hk => ⟨Nat.lt_of_lt_of_le (hs.df d hd k hk).1 hsz, (hs.df d hd k hk).2⟩, hs.ee, hs.ed⟩

/-- A piece that is new. -/
theorem St.add (hs : St W F D es ds w) (a' : Asn) (hP : a'.P w) (hf : ∀ k, a'.foot k → k < w.heap.size ∧ (k < W.heap.size → F k) ∧ (∀ a, a ∈ es → ¬ a.foot k) ∧ (∀ d, d ∈ ds → ¬ d.foot k)) : St W F D (es ++ [a']) ds w := by
  refine ⟨hs.os, hs.tape, hs.output, hs.size, hs.frame, ?_, hs.dh, ?_, hs.df, ?_, ?_⟩
  · intro b hb
    rcases List.mem_append.1 hb with hb | hb
    · exact hs.eh b hb
    · obtain rfl := List.mem_singleton.1 hb; exact hP
  · intro b hb k hk
    rcases List.mem_append.1 hb with hb | hb
    · exact hs.ef b hb k hk
    · obtain rfl := List.mem_singleton.1 hb; exact ⟨(hf k hk).1, (hf k hk).2.1⟩
  · rw [List.pairwise_append]
    refine ⟨hs.ee, List.pairwise_singleton _ _, fun x hx y hy k hxk hyk => ?_⟩
    obtain rfl := List.mem_singleton.1 hy
    exact (hf k hyk).2.2.1 x hx hxk
  · intro b hb d hd k hbk hdk
    rcases List.mem_append.1 hb with hb | hb
    · exact hs.ed b hb d hd k hbk hdk
    · obtain rfl := List.mem_singleton.1 hb; exact (hf k hbk).2.2.2 d hd hdk

theorem heap_alloc (w : World) (o : Obj) : (w.alloc o).heap = w.heap.push o := rfl

/-- A new block. -/
theorem St.push (hs : St W F D es ds w) (c : Array Value) (t : TypeId) : St W F D (es ++ [blk w.heap.size c t]) ds (w.alloc (.cells c t)) := by
  have h1 : St W F D es ds (w.alloc (.cells c t)) := hs.grow rfl rfl rfl (by rw [heap_alloc]; simp) (fun k hk => by show (w.heap.push _)[k]? = _; rw [Array.getElem?_push, if_neg (Nat.ne_of_lt hk)])
  refine h1.add _ (heap_alloc_new w _) (fun k hk => ?_)
  obtain rfl : k = w.heap.size := hk
  exact ⟨by rw [heap_alloc]; simp, fun h => absurd (Nat.lt_of_lt_of_le h hs.size) (Nat.lt_irrefl _), fun a ha hk => absurd (hs.ef a ha _ hk).1 (Nat.lt_irrefl _), fun d hd hk => absurd (hs.df d hd _ hk).1 (Nat.lt_irrefl _)⟩

theorem St.drew (hs : St W F D es ds w) : St W F D es ds { w with drawn := w.drawn + 1 } := hs.grow rfl rfl rfl (Nat.le_refl _) (fun _ _ => rfl)

/-- One more that is only read. -/
theorem St.data (hs : St W F D es ds w) (d' : Asn) (hP : d'.P w) (hf : ∀ k, d'.foot k → k < w.heap.size ∧ (k < W.heap.size → D k ∨ F k) ∧ (∀ a, a ∈ es → ¬ a.foot k)) : St W F D es (ds ++ [d']) w := by
  refine ⟨hs.os, hs.tape, hs.output, hs.size, hs.frame, hs.eh, ?_, hs.ef, ?_, hs.ee, ?_⟩
  · intro b hb
    rcases List.mem_append.1 hb with hb | hb
    · exact hs.dh b hb
    · obtain rfl := List.mem_singleton.1 hb; exact hP
  · intro b hb k hk
    rcases List.mem_append.1 hb with hb | hb
    · exact hs.df b hb k hk
    · obtain rfl := List.mem_singleton.1 hb; exact ⟨(hf k hk).1, (hf k hk).2.1⟩
  · intro b hb d hd k hbk hdk
    rcases List.mem_append.1 hd with hd | hd
    · exact hs.ed b hb d hd k hbk hdk
    · obtain rfl := List.mem_singleton.1 hd; exact (hf k hdk).2.2 b hb hbk

/-- What follows of something that is only read. -/
theorem St.derive (hs : St W F D es ds w) {d : Asn} (hd : d ∈ ds) (d' : Asn) (hP : d.P w → d'.P w) (hf : ∀ k, d'.foot k → d.foot k) : St W F D es (ds ++ [d']) w :=
  hs.data d' (hP (hs.dh d hd)) (fun k hk => ⟨(hs.df d hd k (hf k hk)).1, (hs.df d hd k (hf k hk)).2, fun a ha hak => hs.ed a ha d hd k hak (hf k hk)⟩)

/-- An owned piece that is only read from now on. -/
theorem St.freeze (hs : St W F D es ds w) {i : Nat} {a : Asn} (hi : es[i]? = some a) (d' : Asn) (hP : a.P w → d'.P w) (hf : ∀ k, d'.foot k → a.foot k) : St W F D (es.eraseIdx i) (ds ++ [d']) w := by
  have ha : a ∈ es := List.mem_of_getElem? hi
  have hsub : (es.eraseIdx i).Sublist es := List.eraseIdx_sublist es i
  have hap : ∀ b, b ∈ es.eraseIdx i → ∀ k, a.foot k → ¬ b.foot k := by
    intro b hb k hak hbk
    rw [List.mem_eraseIdx_iff_getElem] at hb
    obtain ⟨j, hj, hji, rfl⟩ := hb
    obtain ⟨hil, rfl⟩ := List.getElem?_eq_some_iff.1 hi
    have hp := List.pairwise_iff_getElem.1 hs.ee
    rcases Nat.lt_or_gt_of_ne hji with h | h
    · exact hp j i hj hil h k hbk hak
    · exact hp i j hil hj h k hak hbk
  have h1 : St W F D (es.eraseIdx i) ds w := ⟨hs.os, hs.tape, hs.output, hs.size, hs.frame, fun b hb => hs.eh b (hsub.subset hb), hs.dh, fun b hb => hs.ef b (hsub.subset hb), hs.df, hs.ee.sublist hsub, fun b hb => hs.ed b (hsub.subset hb)⟩
  exact h1.data d' (hP (hs.eh a ha)) (fun k hk => ⟨(hs.ef a ha k (hf k hk)).1, fun h => .inr ((hs.ef a ha k (hf k hk)).2 h), fun b hb hbk => hap b hb k (hf k hk) hbk⟩)

/-- Those of a list that a mask picks. -/
def sel {α : Type} : List Bool → List α → List α
  | true :: m, a :: l => a :: sel m l
  | false :: m, _ :: l => sel m l
  | _, _ => []

/-- What a mask picks is replaced, in order; what is over comes behind. -/
def merge {α : Type} : List Bool → List α → List α → List α
  | true :: m, _ :: l, b :: new => b :: merge m l new
  | true :: m, _ :: l, [] => merge m l []
  | false :: m, a :: l, new => a :: merge m l new
  | _, l, new => l ++ new

/-- Those of a list at some places. -/
def pickD {α : Type} (js : List Nat) (l : List α) : List α := js.filterMap (l[·]?)

theorem mem_pickD {α : Type} {js : List Nat} {l : List α} {x : α} (h : x ∈ pickD js l) : x ∈ l := by
  unfold pickD at h
  obtain ⟨j, _, hj⟩ := List.mem_filterMap.1 h
  exact List.mem_of_getElem? hj

theorem sel_sub {α : Type} : ∀ (m : List Bool) (l : List α), (sel m l).Sublist l
  | [], [] => .slnil
  | [], _ :: _ => by simp [sel]
  | true :: _, [] => .slnil
  | false :: _, [] => .slnil
  | true :: m, a :: l => by rw [sel]; exact (sel_sub m l).cons_cons a
  | false :: m, a :: l => by rw [sel]; exact (sel_sub m l).cons a

theorem mem_sel {α : Type} {m : List Bool} {l : List α} {x : α} (h : x ∈ sel m l) : x ∈ l := (sel_sub m l).subset h

/-- Fewer pieces. -/
theorem St.fin (hs : St W F D es ds w) (m : List Bool) (js : List Nat) : St W F D (sel m es) (pickD js ds) w :=
  ⟨hs.os, hs.tape, hs.output, hs.size, hs.frame, fun a ha => hs.eh a (mem_sel ha), fun a ha => hs.dh a (mem_pickD ha), fun a ha => hs.ef a (mem_sel ha), fun a ha => hs.df a (mem_pickD ha),
    hs.ee.sublist (sel_sub m es), fun a ha d hd => hs.ed a (mem_sel ha) d (mem_pickD hd)⟩

/-- The state in which a callee begins. -/
theorem St.enter (hs : St W F D es ds w) (m : List Bool) (js : List Nat) : St w (footL (sel m es)) (fun k => ¬ footL es k ∧ (k < W.heap.size → D k ∨ F k)) (sel m es) (pickD js ds) w :=
  ⟨rfl, rfl, rfl, Nat.le_refl _, fun _ _ _ => rfl, fun a ha => hs.eh a (mem_sel ha), fun a ha => hs.dh a (mem_pickD ha), fun a ha k hk => ⟨(hs.ef a (mem_sel ha) k hk).1, fun _ => ⟨a, ha, hk⟩⟩,
    fun d hd k hk => ⟨(hs.df d (mem_pickD hd) k hk).1, fun _ => .inl ⟨fun ⟨a, ha, hak⟩ => hs.ed a ha d (mem_pickD hd) k hak hk, (hs.df d (mem_pickD hd) k hk).2⟩⟩,
    hs.ee.sublist (sel_sub m es), fun a ha d hd => hs.ed a (mem_sel ha) d (mem_pickD hd)⟩

/-- A piece of the caller's that the callee was not handed is apart from those that it was. -/
theorem mem_merge {R : Asn → Asn → Prop} (hsym : ∀ x y, R x y → R y x) {m : List Bool} {es es1 : List Asn} {x : Asn} (hpw : es.Pairwise R) : x ∈ merge m es es1 → x ∈ es1 ∨ (x ∈ es ∧ ∀ y, y ∈ sel m es → R x y) := by
  induction m generalizing es es1 with
  | nil =>
    intro h
    cases es with
    | nil => left; simpa [merge] using h
    | cons a l =>
      simp only [merge, List.mem_append] at h
      rcases h with h | h
      · right; exact ⟨h, fun y hy => by simp [sel] at hy⟩
      · left; exact h
  | cons b m ih =>
    intro h
    cases es with
    | nil => left; cases b <;> simpa [merge] using h
    | cons a l =>
      rw [List.pairwise_cons] at hpw
      cases b with
      | true =>
        have key : ∀ es2 : List Asn, x ∈ merge m l es2 → x ∈ es2 ∨ (x ∈ a :: l ∧ ∀ y, y ∈ sel (true :: m) (a :: l) → R x y) := fun es2 h => by
          rcases ih hpw.2 h with h | ⟨hx, hp⟩
          · exact .inl h
          · refine .inr ⟨List.mem_cons_of_mem _ hx, fun y hy => ?_⟩
            rw [sel] at hy
            rcases List.mem_cons.1 hy with rfl | hy
            · exact hsym _ _ (hpw.1 x hx)
            · exact hp y hy
        cases es1 with
        | nil => simp only [merge] at h; exact key [] h
        | cons c es1 =>
          simp only [merge, List.mem_cons] at h
          rcases h with rfl | h
          · exact .inl List.mem_cons_self
          · exact (key es1 h).imp (List.mem_cons_of_mem _) id
      | false =>
        simp only [merge, List.mem_cons] at h
        rcases h with rfl | h
        · right
          refine ⟨List.mem_cons_self, fun y hy => ?_⟩
          rw [sel] at hy
          exact hpw.1 y (mem_sel hy)
        · rcases ih hpw.2 h with h | ⟨hx, hp⟩
          · exact .inl h
          · exact .inr ⟨List.mem_cons_of_mem _ hx, fun y hy => by rw [sel] at hy; exact hp y hy⟩

theorem pairwise_merge {R : Asn → Asn → Prop} (hsym : ∀ x y, R x y → R y x) {m : List Bool} {es es1 : List Asn} (h : es.Pairwise R) (h1 : es1.Pairwise R)
    (hx : ∀ x, x ∈ es → (∀ y, y ∈ sel m es → R x y) → ∀ y, y ∈ es1 → R x y) : (merge m es es1).Pairwise R := by
  induction m generalizing es es1 with
  | nil =>
    cases es with
    | nil => simpa [merge] using h1
    | cons a l =>
      simp only [merge]
      rw [List.pairwise_append]
      exact ⟨h, h1, fun x hxm y hy => hx x hxm (fun y hy => by simp [sel] at hy) y hy⟩
  | cons b m ih =>
    cases es with
    | nil => cases b <;> simpa [merge] using h1
    | cons a l =>
      rw [List.pairwise_cons] at h
      cases b with
      | true =>
        have up : ∀ x, x ∈ l → (∀ y, y ∈ sel m l → R x y) → ∀ z, z ∈ sel (true :: m) (a :: l) → R x z := fun x hxl hy z hz => by
          rw [sel] at hz
          rcases List.mem_cons.1 hz with rfl | hz
          · exact hsym _ _ (h.1 x hxl)
          · exact hy z hz
        cases es1 with
        | nil => simp only [merge]; exact ih h.2 h1 (fun x hxl hy y hye => by cases hye)
        | cons c es1 =>
          rw [List.pairwise_cons] at h1
          simp only [merge]
          rw [List.pairwise_cons]
          refine ⟨fun x hxm => ?_, ih h.2 h1.2 (fun x hxl hy y hye => hx x (List.mem_cons_of_mem _ hxl) (up x hxl hy) y (List.mem_cons_of_mem _ hye))⟩
          rcases mem_merge hsym h.2 hxm with hxe | ⟨hxl, hy⟩
          · exact h1.1 x hxe
          · exact hsym _ _ (hx x (List.mem_cons_of_mem _ hxl) (up x hxl hy) c List.mem_cons_self)
      | false =>
        simp only [merge]
        rw [List.pairwise_cons]
        refine ⟨fun x hxm => ?_, ih h.2 h1 (fun x hxl hy y hye => hx x (List.mem_cons_of_mem _ hxl) (fun z hz => by rw [sel] at hz; exact hy z hz) y hye)⟩
        rcases mem_merge hsym h.2 hxm with hxe | ⟨hxl, hy⟩
        · exact hx a List.mem_cons_self (fun y hy => by rw [sel] at hy; exact h.1 y (mem_sel hy)) x hxe
        · exact h.1 x hxl

theorem apart_symm (x y : Asn) (h : ∀ k, x.foot k → ¬ y.foot k) : ∀ k, y.foot k → ¬ x.foot k := fun k hy hx => h k hx hy

/-- The state behind a call. -/
theorem St.leave (hs : St W F D es ds w) (m : List Bool) {es1 ds1 : List Asn}
    (hc : St w (footL (sel m es)) (fun k => ¬ footL es k ∧ (k < W.heap.size → D k ∨ F k)) es1 ds1 w') : St W F D (merge m es es1) (ds ++ ds1) w' := by
  have hkeep : ∀ k, k < w.heap.size → ¬ footL (sel m es) k → w'.heap[k]? = w.heap[k]? := fun k hk hf => hc.frame k hk hf
  -- where a piece that the callee hands back may lie
  have hnew : ∀ a, a ∈ es1 → ∀ k, a.foot k → k < w'.heap.size ∧ (footL (sel m es) k ∨ w.heap.size ≤ k) := fun a ha k hk =>
    ⟨(hc.ef a ha k hk).1, (Nat.lt_or_ge k w.heap.size).imp (fun h => (hc.ef a ha k hk).2 h) id⟩
  have hold : ∀ x, x ∈ es → (∀ y, y ∈ sel m es → ∀ k, x.foot k → ¬ y.foot k) → ∀ k, x.foot k → ¬ footL (sel m es) k := fun x _ hy k hk ⟨y, hym, hyk⟩ => hy y hym k hk hyk
  refine ⟨hc.os.trans hs.os, hc.tape.trans hs.tape, hc.output.trans hs.output, Nat.le_trans hs.size hc.size, ?_, ?_, ?_, ?_, ?_, ?_, ?_⟩
  · intro k hk hF
    rw [hkeep k (Nat.lt_of_lt_of_le hk hs.size) (fun ⟨a, ha, hak⟩ => hF ((hs.ef a (mem_sel ha) k hak).2 hk)), hs.frame k hk hF]
  · intro a ha
    rcases mem_merge apart_symm hs.ee ha with ha | ⟨ha, hy⟩
    · exact hc.eh a ha
    · exact a.st w w' (fun k hk => hkeep k (hs.ef a ha k hk).1 (hold a ha hy k hk)) (hs.eh a ha)
  · intro d hd
    rcases List.mem_append.1 hd with hd | hd
    · exact d.st w w' (fun k hk => hkeep k (hs.df d hd k hk).1 (fun ⟨a, ha, hak⟩ => hs.ed a (mem_sel ha) d hd k hak hk)) (hs.dh d hd)
    · exact hc.dh d hd
  · intro a ha k hk
    rcases mem_merge apart_symm hs.ee ha with ha | ⟨ha, hy⟩
    · refine ⟨(hnew a ha k hk).1, fun hkW => ?_⟩
      rcases (hnew a ha k hk).2 with ⟨b, hb, hbk⟩ | h
      · exact (hs.ef b (mem_sel hb) k hbk).2 hkW
      · exact absurd (Nat.lt_of_lt_of_le hkW (Nat.le_trans hs.size h)) (Nat.lt_irrefl _)
    · exact ⟨Nat.lt_of_lt_of_le (hs.ef a ha k hk).1 hc.size, (hs.ef a ha k hk).2⟩
  · intro d hd k hk
    rcases List.mem_append.1 hd with hd | hd
    · exact ⟨Nat.lt_of_lt_of_le (hs.df d hd k hk).1 hc.size, (hs.df d hd k hk).2⟩
    · refine ⟨(hc.df d hd k hk).1, fun hkW => ?_⟩
      rcases (hc.df d hd k hk).2 (Nat.lt_of_lt_of_le hkW hs.size) with h | ⟨b, hb, hbk⟩
      · exact h.2 hkW
      · exact .inr ((hs.ef b (mem_sel hb) k hbk).2 hkW)
  · refine pairwise_merge apart_symm hs.ee hc.ee (fun x hx hy y hy1 k hxk hyk => ?_)
    rcases (hnew y hy1 k hyk).2 with h | h
    · exact hold x hx hy k hxk h
    · exact absurd (hs.ef x hx k hxk).1 (Nat.not_lt.2 h)
  · intro a ha d hd k hak hdk
    rcases mem_merge apart_symm hs.ee ha with ha | ⟨ha, hy⟩
    · rcases List.mem_append.1 hd with hd | hd
      · rcases (hnew a ha k hak).2 with ⟨b, hb, hbk⟩ | h
        · exact hs.ed b (mem_sel hb) d hd k hbk hdk
        · exact absurd (hs.df d hd k hdk).1 (Nat.not_lt.2 h)
      · exact hc.ed a ha d hd k hak hdk
    · rcases List.mem_append.1 hd with hd | hd
      · exact hs.ed a ha d hd k hak hdk
      · rcases Nat.lt_or_ge k w.heap.size with h | h
        · rcases (hc.df d hd k hdk).2 h with h | h
          · exact h.1 ⟨a, ha, hak⟩
          · exact hold a ha hy k hak h
        · exact absurd (hs.ef a ha k hak).1 (Nat.not_lt.2 h)
end

/-! ### Calls -/
def Ret (R : Value → World → Prop) : Ending → World → Prop
  | .returned v, w => R v w
  | _, _ => False

/-- A contract: from pieces es0, ds0 on, the call ends with a value and pieces of which Φ holds. -/
def Spec (P : Program) (f : FuncId) (args : Array Value) (w : World) (es0 ds0 : List Asn) (Φ : Value → List Asn → List Asn → Prop) : Prop :=
  ∀ D, St w (footL es0) D es0 ds0 w → Calls P f args w (Ret fun v w' => ∃ es1 ds1, Φ v es1 ds1 ∧ St w (footL es0) D es1 ds1 w')

theorem Spec.intro {P : Program} {f : FuncId} {args : Array Value} {w : World} {es0 ds0 : List Asn} {Φ : Value → List Asn → List Asn → Prop}
    (h : ∀ F D, St w F D es0 ds0 w → Calls P f args w (Ret fun v w' => ∃ es1 ds1, Φ v es1 ds1 ∧ St w F D es1 ds1 w')) : Spec P f args w es0 ds0 Φ := fun D hs => h _ D hs

def ResV (P : Program) (ρ : Env) (w : World) : ResultVar → Value → Prop
  | .tmp t, v => ρ t = some v
  | .cell a t, v => ∃ ad, ρ a = some (.pointer (some ad)) ∧ (loadVar t ad).run P w = .ok v w

def ResL (P : Program) (ρ : Env) (w : World) : List ResultVar → List Value → Prop
  | [], [] => True
  | r :: rs, v :: vs => ResV P ρ w r v ∧ ResL P ρ w rs vs
  | _, _ => False

/-- The value of several results. -/
def tupleOf : List Value → Value
  | [v] => v
  | vs => .tuple vs.toArray

def RetPost (P : Program) (rs : List ResultVar) (R : Value → World → Prop) : Post
  | .normal, ρ, w => ∃ vs, ResL P ρ w rs vs ∧ R (tupleOf vs) w
  | .ret, ρ, w => ∃ vs, ResL P ρ w rs vs ∧ R (tupleOf vs) w
  | _, _, _ => False

def argE : Nat → List Value → Env
  | _, [] => fun _ => none
  | i, v :: l => upd (argE (i + 1) l) i v

def resOne (a : Act) : ResultVar → Sem Value
  | .tmp t => pure (a.tmps.getD t undef)
  | .cell p t => do loadVar t (← asAddr (a.tmps.getD p undef))

theorem run_results_list {P : Program} {n : Nat} {a : Act} {ρ : Env} {w : World} (ha : Rep n a ρ) : ∀ (rs : List ResultVar) (vs : List Value), ResL P ρ w rs vs →
    Sem.run P (rs.mapM (resOne a)) w = Result.ok vs w
  | [], [], _ => rfl
  | r :: rs, v :: vs, h => by
    have ih := run_results_list ha rs vs h.2
    have h1 : (resOne a r).run P w = .ok v w := by
      cases r with
      | tmp t =>
        have hv := ha.val t v h.1
        simp only [resOne, hv]; rfl
      | cell p t =>
        obtain ⟨ad, hp, hl⟩ := h.1
        have hv := ha.val p _ hp
        simp only [resOne, hv, asAddr, Sem.run_bind, Sem.run_pure, Result.andThen_ok, hl]
    rw [List.mapM_cons]
    simp only [Sem.run_bind, Sem.run_pure, Result.andThen_ok, h1, ih]
  | [], _ :: _, h => h.elim
  | _ :: _, [], h => h.elim

theorem run_results {P : Program} {n : Nat} {a : Act} {ρ : Env} {w : World} {fn : Func} (ha : Rep n a ρ) {vs : List Value} (h : ResL P ρ w fn.results.toList vs) : (results fn a.tmps).run P w = .ok (tupleOf vs) w := by
  have hl := run_results_list ha _ _ h
  have e : results fn a.tmps = (do let vs ← fn.results.mapM (resOne a); pure (if h : vs.size = 1 then vs[0] else .tuple vs)) := by
    unfold results
    congr 1
  rw [e, Sem.run_bind, Array.mapM_eq_mapM_toList, Sem.run_map, hl]
  simp only [Result.andThen_ok, Sem.run_pure]
  congr 1
  match vs with
  | [] => rfl
  | [v] => rfl
  | v :: u :: vs => simp [tupleOf]

theorem argE_get : ∀ (l : List Value) (i t : Nat) (v : Value), argE i l t = some v → i ≤ t ∧ l[t - i]? = some v
  | [], _, _, _, h => by cases h
  | u :: l, i, t, v, h => by
    by_cases ht : t = i
    · subst ht
      rw [argE, upd_same] at h
      exact ⟨Nat.le_refl _, by simpa using h⟩
    · rw [argE, upd_ne _ _ ht] at h
      obtain ⟨h1, h2⟩ := argE_get l (i + 1) t v h
      refine ⟨by omega, ?_⟩
      have : t - i = (t - (i + 1)) + 1 := by omega
      rw [this, List.getElem?_cons_succ]
      exact h2

theorem Calls_of_EC {P : Program} {f : FuncId} {fn : Func} {c : Code} {n : Nat} {args : List Value} {w : World} {R : Value → World → Prop} (hf : P.funcs[f]? = some fn) (hb : fn.body = some c) (hn : fn.ntmps = n) (hl : Nat.ble args.length n = true)
    (h : EC P n c (RetPost P fn.results.toList R) (argE 0 args) w) : Calls P f args.toArray w (Ret R) := by
  have hl' : args.length ≤ n := by simpa using hl
  subst hn
  refine calls_of_wp hf hb ?_
  have hrep : Rep fn.ntmps { tmps := args.toArray ++ Array.replicate (fn.ntmps - args.toArray.size) undef, defers := [] } (argE 0 args) := by
    refine ⟨rfl, by simp; omega, fun t v hv => ?_⟩
    obtain ⟨_, h2⟩ := argE_get args 0 t v hv
    have hlt : t < args.length := by
      have := (List.getElem?_eq_some_iff.1 h2).1; simpa using this
    have h3 : args[t]? = some v := by simpa using h2
    simp [Array.getD_eq_getD_getElem?, Array.getElem?_append, hlt]
    simpa [hlt] using h3
  refine wp_mono (h _ hrep) fun e a w' hq => ?_
  cases e with
  | normal =>
    obtain ⟨ρ, hr, vs, hv, hR⟩ := hq
    exact ⟨hr.defers, _, run_results hr hv, hR⟩
  | ret =>
    obtain ⟨ρ, hr, vs, hv, hR⟩ := hq
    exact ⟨hr.defers, _, run_results hr hv, hR⟩
  | exit i => obtain ⟨ρ, hr, hh⟩ := hq; exact hh.elim
  | goto l => exact hq.elim
  | panic c => exact hq.elim
  | outgrown => exact hq.elim

def evArgs (ρ : Env) : List Operand → Option (List Value)
  | [] => some []
  | x :: l => match evO ρ x with
    | some v => match evArgs ρ l with
      | some vs => some (v :: vs)
      | none => none
    | none => none

theorem evArgs_map {n : Nat} {a : Act} {ρ : Env} (ha : Rep n a ρ) : ∀ {l : List Operand} {vs : List Value}, evArgs ρ l = some vs → l.map a.eval = vs
  | [], vs, h => by simpa [evArgs] using h
  | x :: l, vs, h => by
    unfold evArgs at h
    cases hx : evO ρ x with
    | none => rw [hx] at h; cases h
    | some v =>
      rw [hx] at h
      simp only at h
      cases hr : evArgs ρ l with
      | none => rw [hr] at h; cases h
      | some us =>
        rw [hr] at h
        simp only [Option.some.injEq] at h
        subst h
        rw [List.map_cons, ha.eval hx, evArgs_map ha hr]

/-- A call of a function (or of a function value with what it captured), by its contract. -/
theorem O_call {P : Program} {n : Nat} {ρ : Env} {K : Env → World → Prop} {W w : World} {F D : Nat → Prop} {es ds : List Asn} {d : Option Nat} {ty : TypeId} {pos : String} {aft : Array Edge}
    {x : Operand} {args : List Operand} {tys : Array TypeId} {g : FuncId} {fi ca : Array Value} {vs : List Value} {Φ : Value → List Asn → List Asn → Prop}
    (hs : St W F D es ds w) (m : List Bool) (js : List Nat) (hd : dstOk n d = true) (hx : evO ρ x = some (.func (.func g) fi ca)) (ha : evArgs ρ args = some vs)
    (hcall : ∀ A w, (callFunc g A).run P w = .ok (.enter g A) w) (hc : Spec P g (fi ++ vs.toArray ++ ca) w (sel m es) (pickD js ds) Φ)
    (hK : ∀ v es1 ds1 w', Φ v es1 ds1 → St W F D (merge m es es1) (ds ++ ds1) w' → K (updo ρ d v) w') :
    EOp P n ⟨d, .call ⟨.value x, args.toArray, tys⟩, ty, pos, aft, none⟩ K ρ w := fun a hr => by
  have hargs : args.toArray.map a.eval = vs.toArray := by
    rw [List.map_toArray, evArgs_map hr ha]
  unfold Oper.wp
  have hrun : (execOp a.eval ⟨d, .call ⟨.value x, args.toArray, tys⟩, ty, pos, aft, none⟩).run P w = .ok (.enter g (fi ++ vs.toArray ++ ca)) w := by
    simp only [execOp, resolve, hargs, hr.eval hx, Deferred.ofValue, invoke, Sem.run_bind, Sem.run_pure, Result.andThen_ok, hcall]
  rw [hrun]
  refine Calls.mono (hc _ (hs.enter m js)) fun e w' he => ?_
  cases e with
  | returned v =>
    obtain ⟨es1, ds1, hΦ, hst⟩ := he
    exact ⟨_, hr.puto hd v, hK v es1 ds1 w' hΦ (hs.leave m hst)⟩
  | panicked c => exact he.elim
  | outgrown => exact he.elim
#print axioms O_call
#print axioms Calls_of_EC
end Go.Proofs.Ytpcojkbljgpecaa
