/- The engine, part 2: a region that draws its order, by a plan that the kernel checks: what only reads is taken first, the others branch. -/
import Derived.Test.YtpcojkbljgpecaaE1
namespace Go.Proofs.Ytpcojkbljgpecaa
open Go

/-- Must what is read in the region still hold behind operation j? (j changes the world, and one of the reading operations need not come before it.) -/
def rq (ops : Array Oper) (act rd : List Nat) (j : Nat) : Bool :=
  act.contains j && rd.any fun i => !(match ops[j]? with
    | some o => o.after.any fun e => Region.binds .any e && e.on == i
    | none => false)

theorem rq_of {ops : Array Oper} {act rd : List Nat} {i j : Nat} {listed : Array Bool} (ha : act.contains j = true) (hi : rd.contains i = true) (hl : listed.getD i true = false)
    (hj : j ∈ Region.ready .any ops listed) : rq ops act rd j = true := by
  unfold rq
  rw [ha, Bool.true_and, List.any_eq_true]
  refine ⟨i, by simpa using hi, ?_⟩
  obtain ⟨_, o, ho, hall⟩ := mem_ready.1 hj
  rw [ho]
  simp only [Bool.not_eq_true']
  rw [Bool.eq_false_iff]
  intro hany
  rw [Array.any_eq_true'] at hany
  obtain ⟨e, he, hb⟩ := hany
  simp only [Bool.and_eq_true, beq_iff_eq] at hb
  have h1 := hall e he hb.1
  rw [hb.2] at h1
  rcases Nat.lt_or_ge i listed.size with h' | h'
  · simp [h'] at hl h1; rw [hl] at h1; cases h1
  · simp [Array.getElem?_eq_none h'] at h1

section
variable {P : Program} {ops : Array Oper} {Q : Exit → Act → World → Prop}

def wpAnyR (P : Program) (ops : Array Oper) (Q : Exit → Act → World → Prop) (act rd : List Nat) (R : World → Prop) : Nat → Array Bool → Act → World → Prop
  | 0, listed, a, w => Region.ready .any ops listed = [] ∧ Q .normal a w
  | fuel + 1, listed, a, w =>
    (Region.ready .any ops listed = [] → Q .normal a w) ∧
    ∀ i ∈ Region.ready .any ops listed, wpOp P ops Q i (fun a' w' => (rq ops act rd i = true → R w') ∧ (act.contains i = false → w' = w) ∧ wpAnyR P ops Q act rd R fuel (listed.setIfInBounds i true) a' w') a w

theorem wpAny_of_R {act rd : List Nat} {R : World → Prop} : ∀ (fuel : Nat) (listed : Array Bool) (a : Act) (w : World), wpAnyR P ops Q act rd R fuel listed a w → wpAny P .any ops Q fuel listed a w
  | 0, _, _, _, h => h
  | fuel + 1, _, _, _, h => ⟨h.1, fun i hi => wpOp_mono (fun a' w' h' => wpAny_of_R fuel _ a' w' h'.2.2) (h.2 i hi)⟩

theorem rq_false {ops : Array Oper} {act rd : List Nat} {i : Nat} (h : act.contains i = false) : rq ops act rd i = false := by
  unfold rq; rw [h, Bool.false_and]

theorem wpAnyR_first {act rd : List Nat} {R : World → Prop} {i : Nat} {oi : Oper} {v : Value} (hi : ops[i]? = some oi) (hsel : ∀ (j : Nat) (o : Oper) cs b, ops[j]? = some o → o.op ≠ .select cs b)
    (hQ : ∀ c a w, Q (.panic c) (a.put oi.dst v) w → Q (.panic c) a w) (hact : act.contains i = false) :
    ∀ (fuel : Nat) (listed : Array Bool) (a : Act) (w : World),
      (∀ j oj, ops[j]? = some oj → j ≠ i → listed.getD j true = false → (∀ e ∈ oj.after, Region.binds .any e = true → e.on ≠ i) → oi.apart ops oj = true) →
      i ∈ Region.ready .any ops listed → YieldsIf P ops (fun w => rd.contains i = true → R w) oi v a → (rd.contains i = true → R w) →
      wpAnyR P ops Q act rd R fuel (listed.setIfInBounds i true) (a.put oi.dst v) w → wpAnyR P ops Q act rd R (fuel + 1) listed a w := by
  intro fuel
  induction fuel with
  | zero =>
    intro listed a w _ hr hy hS H
    refine ⟨fun h => (by rw [h] at hr; cases hr), fun j hj => ?_⟩
    by_cases hji : j = i
    · subst hji; exact hy.wpOp hi hS ⟨fun hp => (by rw [rq_false hact] at hp; cases hp), fun _ => rfl, H⟩
    · have := ready_mono hj hji
      rw [H.1] at this
      cases this
  | succ fuel ih =>
    intro listed a w hfree hr hy hS H
    refine ⟨fun h => (by rw [h] at hr; cases hr), fun j hj => ?_⟩
    by_cases hji : j = i
    · subst hji; exact hy.wpOp hi hS ⟨fun hp => (by rw [rq_false hact] at hp; cases hp), fun _ => rfl, H⟩
    · have h1 := H.2 j (ready_mono hj hji)
      obtain ⟨hjun, oj, hoj, hall⟩ := mem_ready.1 hj
      have hnot : ∀ e ∈ oj.after, Region.binds .any e = true → e.on ≠ i := fun e he hb heq => by
        have h1 := hall e he hb
        have h0 := (mem_ready.1 hr).1
        rw [heq] at h1
        rcases Nat.lt_or_ge i listed.size with h' | h'
        · simp [h'] at h0 h1; rw [h0] at h1; cases h1
        · simp [Array.getElem?_eq_none h'] at h1
      have h2 := wpOp_putIf hoj (hfree j oj hoj hji hjun hnot) (fun cs b => hsel i oi cs b hi) (fun cs b => hsel j oj cs b hoj) hQ hy h1
      have hfree' : ∀ k ok, ops[k]? = some ok → k ≠ i → (listed.setIfInBounds j true).getD k true = false →
          (∀ e ∈ ok.after, Region.binds .any e = true → e.on ≠ i) → oi.apart ops ok = true := fun k ok hk hki hun hno => by
        refine hfree k ok hk hki ?_ hno
        by_cases hjk : j = k
        · subst hjk; exact hjun
        · rw [getD_set_ne true hjk] at hun; exact hun
      refine wpOp_mono (fun a' w' h3 => ?_) h2
      obtain ⟨hy', hp', hsame, hrest⟩ := h3
      have hR' : rd.contains i = true → R w' := fun hc => by
        cases hja : act.contains j with
        | true => exact hp' (rq_of hja hc (mem_ready.1 hr).1 hj)
        | false => rw [hsame hja]; exact hS hc
      refine ⟨hp', hsame, ih (listed.setIfInBounds j true) a' w' hfree' (ready_mono hr (Ne.symm hji)) hy' hR' ?_⟩
      rw [Array.setIfInBounds_comm _ _ hji]
      exact hrest
end

/-- The order in which a region's operations are looked at: what only reads first; where several may come, each. -/
inductive Plan where
  | done
  | take (i : Nat) (p : Plan)
  | fork (i : Nat) (p q : Plan)

def heads : Plan → List Nat
  | .fork i _ q => i :: heads q
  | _ => []

def planOk (ops : Array Oper) (act : List Nat) : Plan → Nat → Array Bool → Bool → Bool
  | .done, _, l, b => b || (Region.ready .any ops l).isEmpty
  | .take i p, f, l, b => !b && !act.contains i && (match f with
    | 0 => false
    | f + 1 => (Region.ready .any ops l).contains i && Region.free .any ops l i && planOk ops act p f (l.setIfInBounds i true) false)
  | .fork i p q, f, l, b => (b || (Region.ready .any ops l == i :: heads q)) && act.contains i && (match f with
    | 0 => false
    | f + 1 => planOk ops act p f (l.setIfInBounds i true) false) && planOk ops act q f l true

/-- What is to be shown of a region, along its plan. -/
def EPlan (P : Program) (n : Nat) (ops : Array Oper) (act rd : List Nat) (R : World → Prop) (K : Env → World → Prop) : Plan → Bool → Env → World → Prop
  | .done, b, ρ, w => b = true ∨ K ρ w
  | .take i p, _, ρ, w => ∃ o v t, ops[i]? = some o ∧ wantedE ops ρ o t ∧ dstOk n o.dst = true ∧ (rd.contains i = true → R w) ∧
      (if t then ∀ w', (rd.contains i = true → R w') → RunV P n o ρ w' v else v = undef) ∧ EPlan P n ops act rd R K p false (updo ρ o.dst v) w
  | .fork i p q, _, ρ, w => (∃ o t, ops[i]? = some o ∧ wantedE ops ρ o t ∧ dstOk n o.dst = true ∧
      (if t then EOp P n o (fun ρ' w' => (rq ops act rd i = true → R w') ∧ EPlan P n ops act rd R K p false ρ' w') ρ w
       else (rq ops act rd i = true → R w) ∧ EPlan P n ops act rd R K p false (updo ρ o.dst undef) w)) ∧ EPlan P n ops act rd R K q true ρ w

section
variable {P : Program} {n : Nat} {ops : Array Oper} {K : Env → World → Prop} {Q : Post} {ρ : Env} {w : World}

theorem lift_noPanic {Q : Post} {c : List PanicEntry} {a : Act} {w : World} : ¬ lift n Q (.panic c) a w := fun h => h

theorem plan_sound {act rd : List Nat} {R : World → Prop} (hsel : Region.noSelect ops = true) : ∀ (p : Plan) (f : Nat) (l : Array Bool) (ρ : Env) (w : World) (a : Act),
    Rep n a ρ →
    (planOk ops act p f l false = true → EPlan P n ops act rd R K p false ρ w → wpAnyR P ops (lift n (Then K fun _ _ _ => False)) act rd R f l a w) ∧
    (planOk ops act p f l true = true → EPlan P n ops act rd R K p true ρ w → ∀ f', f = f' + 1 → ∀ i ∈ heads p, wpOp P ops (lift n (Then K fun _ _ _ => False)) i (fun a' w' => (rq ops act rd i = true → R w') ∧ (act.contains i = false → w' = w) ∧ wpAnyR P ops (lift n (Then K fun _ _ _ => False)) act rd R f' (l.setIfInBounds i true) a' w') a w) := by
  intro p
  induction p with
  | done =>
    intro f l ρ w a ha
    refine ⟨fun hp h => ?_, fun _ _ f' _ i hi => by cases hi⟩
    have hr : Region.ready .any ops l = [] := by simpa [planOk] using hp
    have hk : lift n (Then K fun _ _ _ => False) .normal a w := ⟨ρ, ha, h.resolve_left (by simp)⟩
    cases f with
    | zero => exact ⟨hr, hk⟩
    | succ f => exact ⟨fun _ => hk, fun i hi => by rw [hr] at hi; cases hi⟩
  | take i p ih =>
    intro f l ρ w a ha
    refine ⟨fun hp h => ?_, fun hp => by simp [planOk] at hp⟩
    cases f with
    | zero => simp [planOk] at hp
    | succ f =>
      simp only [planOk, Bool.not_false, Bool.true_and, Bool.and_eq_true, Bool.not_eq_true'] at hp
      obtain ⟨hact, ⟨hr, hf⟩, hp'⟩ := hp
      obtain ⟨o, v, t, ho, hw, hd, hR, hrun, hrest⟩ := h
      refine wpAnyR_first (v := v) ho (Region.noSelect_spec hsel) (fun c a w h => h) hact f l a w (Region.free_spec ho hf) (by simpa using hr) ?_ hR ((ih f _ _ w _ (ha.puto hd v)).1 hp' hrest)
      cases t with
      | true => exact .inl ⟨wanted_of ha hw, fun w' hw' => by simpa using hrun w' hw' a ha⟩
      | false => exact .inr ⟨wanted_of ha hw, by simpa using hrun⟩
  | fork i p q ihp ihq =>
    have one : ∀ (f : Nat) (l : Array Bool) (ρ : Env) (w : World) (a : Act), Rep n a ρ → act.contains i = true → planOk ops act p f (l.setIfInBounds i true) false = true →
        (∃ o t, ops[i]? = some o ∧ wantedE ops ρ o t ∧ dstOk n o.dst = true ∧
          (if t then EOp P n o (fun ρ' w' => (rq ops act rd i = true → R w') ∧ EPlan P n ops act rd R K p false ρ' w') ρ w
           else (rq ops act rd i = true → R w) ∧ EPlan P n ops act rd R K p false (updo ρ o.dst undef) w)) →
        wpOp P ops (lift n (Then K fun _ _ _ => False)) i (fun a' w' => (rq ops act rd i = true → R w') ∧ (act.contains i = false → w' = w) ∧ wpAnyR P ops (lift n (Then K fun _ _ _ => False)) act rd R f (l.setIfInBounds i true) a' w') a w := by
      intro f l ρ w a ha hact hp h
      obtain ⟨o, t, ho, hw, hd, h⟩ := h
      unfold wpOp
      simp only [ho]
      rw [wanted_of ha hw]
      cases t with
      | true =>
        simp only [if_true] at h ⊢
        left
        have := h a ha
        unfold Oper.wp at this ⊢
        generalize (execOp a.eval o).run P w = res at this ⊢
        cases res with
        | ok nx w' =>
          cases nx <;> simp only [Oper.upon] at this ⊢ <;>
            first
              | (obtain ⟨ρ', hr, hk1, hk⟩ := this; exact ⟨hk1, (by rw [hact]; simp), (ihp f _ ρ' _ _ hr).1 hp hk⟩)
              | exact Calls.mono this (fun e w'' he => by
                  cases e with
                  | returned v => obtain ⟨ρ', hr, hk1, hk⟩ := he; exact ⟨hk1, (by rw [hact]; simp), (ihp f _ ρ' _ _ hr).1 hp hk⟩
                  | panicked c => exact he.elim
                  | outgrown => exact absurd he (fun ⟨_, _, h⟩ => h))
              | exact Rows.mono this (fun v w'' he => by obtain ⟨ρ', hr, hk1, hk⟩ := he; exact ⟨hk1, (by rw [hact]; simp), (ihp f _ ρ' _ _ hr).1 hp hk⟩)
              | exact this
        | halt x w' => cases x <;> simp only [Oper.upon] at this ⊢ <;> exact this
      | false =>
        simp only [Bool.false_eq_true, if_false] at h ⊢
        exact ⟨h.1, (by rw [hact]; simp), (ihp f _ _ w _ (ha.puto hd undef)).1 hp h.2⟩
    intro f l ρ w a ha
    refine ⟨fun hp h => ?_, fun hp h => ?_⟩
    · cases f with
      | zero => simp [planOk] at hp
      | succ f =>
        simp only [planOk, Bool.false_or, Bool.and_eq_true, beq_iff_eq] at hp
        obtain ⟨⟨⟨hr, hact⟩, hp1⟩, hq⟩ := hp
        refine ⟨fun h0 => (by rw [hr] at h0; cases h0), fun j hj => ?_⟩
        rw [hr] at hj
        rcases List.mem_cons.1 hj with rfl | hj
        · exact one f l ρ w a ha hact hp1 h.1
        · exact (ihq (f + 1) l ρ w a ha).2 hq h.2 f rfl j hj
    · intro f' hf j hj
      subst hf
      simp only [planOk, Bool.true_or, Bool.true_and, Bool.and_eq_true] at hp
      obtain ⟨⟨hact, hp1⟩, hq⟩ := hp
      rcases List.mem_cons.1 hj with rfl | hj
      · exact one f' l ρ w a ha hact hp1 h.1
      · exact (ihq (f' + 1) l ρ w a ha).2 hq h.2 f' rfl j hj

/-- A region that draws its order. -/
theorem EC_draw {id : Nat} {l : List Oper} (act rd : List Nat) (R : World → Prop) (p : Plan) (hm : P.follows .mixedOrders = true)
    (hok : (Region.noSelect l.toArray && planOk l.toArray act p l.toArray.size (Array.replicate l.toArray.size false) false) = true)
    (h : EPlan P n l.toArray act rd R (Q .normal) p false ρ { w with drawn := w.drawn + 1 }) : EC P n (.region id l.toArray true) Q ρ w := fun a ha => by
  rw [Bool.and_eq_true] at hok
  have h1 := (plan_sound hok.1 p _ _ _ _ a ha).1 hok.2 h
  have h2 : (Code.region id l.toArray true).wp P (lift n (Then (Q .normal) fun _ _ _ => False)) a w := wp_region_any hm (wpAny_of_R _ _ _ _ h1)
  exact wp_mono h2 fun e a' w' hh => by
    cases e with
    | normal => exact hh
    | exit i => exact hh.choose_spec.2.elim
    | ret => exact hh.choose_spec.2.elim
    | goto l => exact hh
    | panic c => exact hh
    | outgrown => exact hh

variable {act rd : List Nat} {R : World → Prop}

theorem EP_done {b : Bool} (h : K ρ w) : EPlan P n ops act rd R K .done b ρ w := .inr h
theorem EP_end : EPlan P n ops act rd R K .done true ρ w := .inl rfl

theorem EP_take {i : Nat} {p : Plan} {d : Option Nat} {op : Op} {ty : TypeId} {pos : String} {aft : Array Edge} {v : Value} (ho : ops[i]? = some ⟨d, op, ty, pos, aft, none⟩) (hd : dstOk n d = true)
    (hnr : rd.contains i = false) (hr : ∀ w', RunV P n ⟨d, op, ty, pos, aft, none⟩ ρ w' v) (h : EPlan P n ops act rd R K p false (updo ρ d v) w) : EPlan P n ops act rd R K (.take i p) false ρ w :=
  ⟨_, v, true, ho, rfl, hd, fun hc => (by rw [hnr] at hc; cases hc), by simpa using fun w' _ => hr w', h⟩

/-- One that reads. -/
theorem EP_read {i : Nat} {p : Plan} {d : Option Nat} {op : Op} {ty : TypeId} {pos : String} {aft : Array Edge} {v : Value} (ho : ops[i]? = some ⟨d, op, ty, pos, aft, none⟩) (hd : dstOk n d = true)
    (hrd : rd.contains i = true) (hR : R w) (hr : ∀ w', R w' → RunV P n ⟨d, op, ty, pos, aft, none⟩ ρ w' v) (h : EPlan P n ops act rd R K p false (updo ρ d v) w) : EPlan P n ops act rd R K (.take i p) false ρ w :=
  ⟨_, v, true, ho, rfl, hd, fun _ => hR, by simp only [if_true]; exact fun w' hw' => hr w' (hw' hrd), h⟩

/-- A guarded one that is wanted, as if it had no guard. -/
theorem RunV.guard {d : Option Nat} {op : Op} {ty : TypeId} {pos : String} {aft : Array Edge} {g : Option (Nat × Bool)} {v : Value} (h : RunV P n ⟨d, op, ty, pos, aft, none⟩ ρ w v) : RunV P n ⟨d, op, ty, pos, aft, g⟩ ρ w v := h

theorem EP_takeG {i : Nat} {p : Plan} {d : Option Nat} {op : Op} {ty : TypeId} {pos : String} {aft : Array Edge} {j : Nat} {want : Bool} {dj : Nat} {b : Bool} {v : Value} (ho : ops[i]? = some ⟨d, op, ty, pos, aft, some (j, want)⟩)
    (hj : (ops[j]?).bind (·.dst) = some dj) (hb : ρ dj = some (.bool b)) (hw : b = want) (hd : dstOk n d = true)
    (hnr : rd.contains i = false) (hr : ∀ w', RunV P n ⟨d, op, ty, pos, aft, none⟩ ρ w' v) (h : EPlan P n ops act rd R K p false (updo ρ d v) w) : EPlan P n ops act rd R K (.take i p) false ρ w :=
  ⟨_, v, true, ho, ⟨dj, hj, .inl ⟨b, hb, by simp [hw]⟩⟩, hd, fun hc => (by rw [hnr] at hc; cases hc), by simpa using fun w' _ => (hr w').guard, h⟩

theorem EP_readG {i : Nat} {p : Plan} {d : Option Nat} {op : Op} {ty : TypeId} {pos : String} {aft : Array Edge} {j : Nat} {want : Bool} {dj : Nat} {b : Bool} {v : Value} (ho : ops[i]? = some ⟨d, op, ty, pos, aft, some (j, want)⟩)
    (hj : (ops[j]?).bind (·.dst) = some dj) (hb : ρ dj = some (.bool b)) (hw : b = want) (hd : dstOk n d = true)
    (hrd : rd.contains i = true) (hR : R w) (hr : ∀ w', R w' → RunV P n ⟨d, op, ty, pos, aft, none⟩ ρ w' v) (h : EPlan P n ops act rd R K p false (updo ρ d v) w) : EPlan P n ops act rd R K (.take i p) false ρ w :=
  ⟨_, v, true, ho, ⟨dj, hj, .inl ⟨b, hb, by simp [hw]⟩⟩, hd, fun _ => hR, by simp only [if_true]; exact fun w' hw' => (hr w' (hw' hrd)).guard, h⟩

/-- A guarded one that is passed over (one that only reads, and one that does not). -/
theorem EP_passT {i : Nat} {p : Plan} {d : Nat} {op : Op} {ty : TypeId} {pos : String} {aft : Array Edge} {j : Nat} {want : Bool} {dj : Nat} {b : Bool} (ho : ops[i]? = some ⟨some d, op, ty, pos, aft, some (j, want)⟩)
    (hj : (ops[j]?).bind (·.dst) = some dj) (hb : ρ dj = some (.bool b)) (hw : b = !want) (hd : Nat.blt d n = true) (hR : rd.contains i = true → R w)
    (h : EPlan P n ops act rd R K p false (upd ρ d undef) w) : EPlan P n ops act rd R K (.take i p) false ρ w :=
  ⟨_, undef, false, ho, ⟨dj, hj, .inl ⟨b, hb, by cases want <;> simp [hw]⟩⟩, hd, hR, by simp, h⟩

theorem EP_passF {i : Nat} {p : Plan} {d : Nat} {op : Op} {ty : TypeId} {pos : String} {aft : Array Edge} {j : Nat} {want : Bool} {dj : Nat} {b : Bool} (ho : ops[i]? = some ⟨some d, op, ty, pos, aft, some (j, want)⟩)
    (hj : (ops[j]?).bind (·.dst) = some dj) (hb : ρ dj = some (.bool b)) (hw : b = !want) (hd : Nat.blt d n = true) (hR : rq ops act rd i = true → R w)
    (h : EPlan P n ops act rd R K p false (upd ρ d undef) w) : EPlan P n ops act rd R K (.fork i p .done) false ρ w :=
  ⟨⟨_, false, ho, ⟨dj, hj, .inl ⟨b, hb, by cases want <;> simp [hw]⟩⟩, hd, by simpa using ⟨hR, h⟩⟩, .inl rfl⟩

theorem EP_passTU {i : Nat} {p : Plan} {d : Nat} {op : Op} {ty : TypeId} {pos : String} {aft : Array Edge} {j : Nat} {want : Bool} {dj : Nat} (ho : ops[i]? = some ⟨some d, op, ty, pos, aft, some (j, want)⟩)
    (hj : (ops[j]?).bind (·.dst) = some dj) (hb : ρ dj = some undef) (hd : Nat.blt d n = true) (hR : rd.contains i = true → R w)
    (h : EPlan P n ops act rd R K p false (upd ρ d undef) w) : EPlan P n ops act rd R K (.take i p) false ρ w :=
  ⟨_, undef, false, ho, ⟨dj, hj, .inr ⟨hb, rfl⟩⟩, hd, hR, by simp, h⟩

theorem EP_passFU {i : Nat} {p : Plan} {d : Nat} {op : Op} {ty : TypeId} {pos : String} {aft : Array Edge} {j : Nat} {want : Bool} {dj : Nat} (ho : ops[i]? = some ⟨some d, op, ty, pos, aft, some (j, want)⟩)
    (hj : (ops[j]?).bind (·.dst) = some dj) (hb : ρ dj = some undef) (hd : Nat.blt d n = true) (hR : rq ops act rd i = true → R w)
    (h : EPlan P n ops act rd R K p false (upd ρ d undef) w) : EPlan P n ops act rd R K (.fork i p .done) false ρ w :=
  ⟨⟨_, false, ho, ⟨dj, hj, .inr ⟨hb, rfl⟩⟩, hd, by simpa using ⟨hR, h⟩⟩, .inl rfl⟩

/-- One that changes the world, and that alone may come now. -/
theorem EP_act {i : Nat} {p : Plan} {d : Option Nat} {op : Op} {ty : TypeId} {pos : String} {aft : Array Edge} (ho : ops[i]? = some ⟨d, op, ty, pos, aft, none⟩) (hd : dstOk n d = true)
    (h : EOp P n ⟨d, op, ty, pos, aft, none⟩ (fun ρ' w' => (rq ops act rd i = true → R w') ∧ EPlan P n ops act rd R K p false ρ' w') ρ w) : EPlan P n ops act rd R K (.fork i p .done) false ρ w :=
  ⟨⟨_, true, ho, rfl, hd, by simpa using h⟩, .inl rfl⟩

theorem EP_actG {i : Nat} {p : Plan} {d : Option Nat} {op : Op} {ty : TypeId} {pos : String} {aft : Array Edge} {j : Nat} {want : Bool} {dj : Nat} {b : Bool} (ho : ops[i]? = some ⟨d, op, ty, pos, aft, some (j, want)⟩)
    (hj : (ops[j]?).bind (·.dst) = some dj) (hb : ρ dj = some (.bool b)) (hw : b = want) (hd : dstOk n d = true)
    (h : EOp P n ⟨d, op, ty, pos, aft, none⟩ (fun ρ' w' => (rq ops act rd i = true → R w') ∧ EPlan P n ops act rd R K p false ρ' w') ρ w) : EPlan P n ops act rd R K (.fork i p .done) false ρ w :=
  ⟨⟨_, true, ho, ⟨dj, hj, .inl ⟨b, hb, by simp [hw]⟩⟩, hd, by simp only [if_true]; exact h⟩, .inl rfl⟩

/-- Several may come now: each is looked at. -/
theorem EP_fork {i : Nat} {p q : Plan} {b' : Bool} {d : Option Nat} {op : Op} {ty : TypeId} {pos : String} {aft : Array Edge} (ho : ops[i]? = some ⟨d, op, ty, pos, aft, none⟩) (hd : dstOk n d = true)
    (h : EOp P n ⟨d, op, ty, pos, aft, none⟩ (fun ρ' w' => (rq ops act rd i = true → R w') ∧ EPlan P n ops act rd R K p false ρ' w') ρ w) (hq : EPlan P n ops act rd R K q true ρ w) : EPlan P n ops act rd R K (.fork i p q) b' ρ w :=
  ⟨⟨_, true, ho, rfl, hd, by simpa using h⟩, hq⟩
end
#print axioms EC_draw
end Go.Proofs.Ytpcojkbljgpecaa
