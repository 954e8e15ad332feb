/- The engine, part 1: environments, judgements for code and for lists of operations, regions that draw their order by a checked plan. -/
import Derived.WalkKit
import Derived.OrdersHeld
import Derived.KernelRfl
namespace Go.Proofs.Ytpcojkbljgpecaa
open Go

/-- What is known of a frame's slots. -/
abbrev Env := Nat → Option Value

def upd (ρ : Env) (d : Nat) (v : Value) : Env := fun t => bif Nat.beq t d then some v else ρ t

def envL : List (Nat × Value) → Env
  | [] => fun _ => none
  | x :: l => upd (envL l) x.1 x.2

def updo (ρ : Env) (d : Option Nat) (v : Value) : Env :=
  match d with
  | some d => upd ρ d v
  | none => ρ

def evO (ρ : Env) : Operand → Option Value
  | .tmp t => ρ t
  | .const v => some v
  | .global g => some (.pointer (some ⟨g, 0, none⟩))
  | .func f => some (.func (.func f) #[] #[])

theorem upd_same (ρ : Env) (d : Nat) (v : Value) : upd ρ d v d = some v := by simp [upd]
theorem upd_ne (ρ : Env) {d t : Nat} (v : Value) (h : t ≠ d) : upd ρ d v t = ρ t := by
  have : Nat.beq t d = false := by
    rw [Bool.eq_false_iff]; intro hb; exact h (Nat.eq_of_beq_eq_true hb)
  simp [upd, this]

structure Rep (n : Nat) (a : Act) (ρ : Env) : Prop where
  defers : a.defers = []
  size : a.tmps.size = n
  val : ∀ t v, ρ t = some v → a.tmps.getD t undef = v

theorem Rep.eval {n : Nat} {a : Act} {ρ : Env} (h : Rep n a ρ) {x : Operand} {v : Value} (hx : evO ρ x = some v) : a.eval x = v := by
  cases x with
  | tmp t => exact h.val t v hx
  | const u => simpa [evO, Act.eval] using hx
  | global g => simpa [evO, Act.eval] using hx
  | func f => simpa [evO, Act.eval] using hx

theorem Rep.mono {n : Nat} {a : Act} {ρ ρ' : Env} (h : Rep n a ρ) (hl : ∀ t v, ρ' t = some v → ρ t = some v) : Rep n a ρ' :=
  ⟨h.defers, h.size, fun t v hv => h.val t v (hl t v hv)⟩

theorem Rep.put {n : Nat} {a : Act} {ρ : Env} (h : Rep n a ρ) {d : Nat} (hd : Nat.blt d n = true) (v : Value) : Rep n (a.put (some d) v) (upd ρ d v) := by
  have hd' : d < n := by simpa [Nat.blt_eq] using hd
  refine ⟨h.defers, by simp [Act.put, h.size], fun t u hu => ?_⟩
  by_cases ht : t = d
  · subst ht
    rw [upd_same] at hu
    obtain rfl := Option.some.inj hu
    simp [Act.put, h.size, hd']
  · rw [upd_ne ρ v ht] at hu
    have := h.val t u hu
    simp only [Act.put]
    rw [← this]
    simp [Array.getD_eq_getD_getElem?, Array.getElem?_setIfInBounds_ne (Ne.symm ht)]

def dstOk (n : Nat) : Option Nat → Bool
  | some d => Nat.blt d n
  | none => true

theorem Rep.puto {n : Nat} {a : Act} {ρ : Env} (h : Rep n a ρ) {d : Option Nat} (hd : dstOk n d = true) (v : Value) : Rep n (a.put d v) (updo ρ d v) := by
  cases d with
  | some d => exact h.put hd v
  | none => exact h

abbrev Post := Exit → Env → World → Prop

def lift (n : Nat) (Q : Post) : Exit → Act → World → Prop
  | .normal, a, w => ∃ ρ, Rep n a ρ ∧ Q .normal ρ w
  | .exit i, a, w => ∃ ρ, Rep n a ρ ∧ Q (.exit i) ρ w
  | .ret, a, w => ∃ ρ, Rep n a ρ ∧ Q .ret ρ w
  | _, _, _ => False

theorem exists_least {p : Nat → Prop} (h : ∃ n, p n) : ∃ n, p n ∧ ∀ m, p m → n ≤ m := by
  obtain ⟨n, hn⟩ := h
  induction n using Nat.strongRecOn with
  | _ n ih =>
    by_cases hm : ∃ m, m < n ∧ p m
    · obtain ⟨m, hlt, hp⟩ := hm
      exact ih m hlt hp
    · exact ⟨n, hn, fun m hp => Nat.le_of_not_lt fun hlt => hm ⟨m, hlt, hp⟩⟩

def EC (P : Program) (n : Nat) (c : Code) (Q : Post) (ρ : Env) (w : World) : Prop := ∀ a, Rep n a ρ → c.wp P (lift n Q) a w

def Then (K : Env → World → Prop) (Q : Post) : Post
  | .normal, ρ, w => K ρ w
  | e, ρ, w => Q e ρ w

def InBlock (id : Nat) (Q : Post) : Post
  | .exit j, ρ, w => bif Nat.beq j id then Q .normal ρ w else Q (.exit j) ρ w
  | e, ρ, w => Q e ρ w

section
variable {P : Program} {n : Nat} {Q : Post} {ρ : Env} {w : World}

theorem EC_skip (h : Q .normal ρ w) : EC P n .skip Q ρ w := fun _ ha => wp_skip ⟨ρ, ha, h⟩
theorem EC_ret (h : Q .ret ρ w) : EC P n .ret Q ρ w := fun _ ha => wp_ret ⟨ρ, ha, h⟩
theorem EC_exit {i : Nat} (h : Q (.exit i) ρ w) : EC P n (.exit i) Q ρ w := fun _ ha => wp_exit ⟨ρ, ha, h⟩

theorem EC_seq {x y : Code} (h : EC P n x (Then (EC P n y Q) Q) ρ w) : EC P n (.seq x y) Q ρ w := fun a ha =>
  wp_seq (wp_mono (h a ha) fun e a' w' hq => by
    cases e with
    | normal => obtain ⟨ρ', hr, hk⟩ := hq; exact hk a' hr
    | exit i => exact hq
    | ret => exact hq
    | goto l => exact hq.elim
    | panic c => exact hq.elim
    | outgrown => exact hq.elim)

theorem EC_mono {c : Code} {Q' : Post} (hq : ∀ e ρ w, Q e ρ w → Q' e ρ w) (h : EC P n c Q ρ w) : EC P n c Q' ρ w := fun a ha =>
  wp_mono (h a ha) fun e a' w' hh => by
    cases e with
    | normal => obtain ⟨ρ', hr, hk⟩ := hh; exact ⟨ρ', hr, hq _ _ _ hk⟩
    | exit i => obtain ⟨ρ', hr, hk⟩ := hh; exact ⟨ρ', hr, hq _ _ _ hk⟩
    | ret => obtain ⟨ρ', hr, hk⟩ := hh; exact ⟨ρ', hr, hq _ _ _ hk⟩
    | goto l => exact hh.elim
    | panic c => exact hh.elim
    | outgrown => exact hh.elim

/-- Less may be known. -/
theorem EC_weaken {c : Code} {ρ' : Env} (hl : ∀ t v, ρ' t = some v → ρ t = some v) (h : EC P n c Q ρ' w) : EC P n c Q ρ w := fun a ha => h a (ha.mono hl)

/-- The ways through a piece of code meet again in a state that is written down. -/
theorem EC_cut {x y : Code} (M : Env → World → Prop) (h : EC P n x (Then M Q) ρ w) (hy : ∀ ρ w, M ρ w → EC P n y Q ρ w) : EC P n (.seq x y) Q ρ w :=
  EC_seq (EC_mono (fun e ρ w hh => by cases e <;> first | exact hy _ _ hh | exact hh) h)

theorem EC_block {i : Nat} {c : Code} (h : EC P n c (InBlock i Q) ρ w) : EC P n (.block i c) Q ρ w := fun a ha =>
  wp_block (wp_mono (h a ha) fun e a' w' hq => by
    cases e with
    | normal => exact hq
    | exit j =>
      obtain ⟨ρ', hr, hk⟩ := hq
      simp only [Exit.inBlock]
      by_cases hj : j = i
      · subst hj
        simp only [if_true]
        simp only [InBlock, Nat.beq_refl, cond_true] at hk
        exact ⟨ρ', hr, hk⟩
      · rw [if_neg hj]
        have : Nat.beq j i = false := by
          rw [Bool.eq_false_iff]; intro hb; exact hj (Nat.eq_of_beq_eq_true hb)
        simp only [InBlock, this, cond_false] at hk
        exact ⟨ρ', hr, hk⟩
    | ret => exact hq
    | goto l => exact hq.elim
    | panic c => exact hq.elim
    | outgrown => exact hq.elim)

theorem EC_cond {c : Operand} {x y : Code} {t : Bool} (hc : evO ρ c = some (.bool t)) (ht : t = true → EC P n x Q ρ w) (hf : t = false → EC P n y Q ρ w) : EC P n (.cond c x y) Q ρ w := fun a ha =>
  wp_cond_split (ha.eval hc) (fun h => ht h a ha) (fun h => hf h a ha)

theorem EC_loop {c : Code} (I : Nat → Env → World → Prop) (m : Nat) (h0 : I m ρ w)
    (round : ∀ m ρ w, I m ρ w → EC P n c (Then (fun ρ' w' => ∃ m', m' < m ∧ I m' ρ' w') Q) ρ w) : EC P n (.loop c) Q ρ w := by
  classical
  intro a ha
  let J : Act → World → Prop := fun a w => ∃ m ρ, Rep n a ρ ∧ I m ρ w
  let μ : Act → World → Nat := fun a w => if h : J a w then (exists_least h).choose else 0
  refine wp_loop J μ ⟨m, ρ, ha, h0⟩ fun a w hJ => ?_
  have hμ : μ a w = (exists_least hJ).choose := dif_pos hJ
  obtain ⟨ρ1, hr1, hI1⟩ := (exists_least hJ).choose_spec.1
  refine wp_mono (round _ ρ1 w hI1 a hr1) fun e a' w' hq => ?_
  cases e with
  | normal =>
    obtain ⟨ρ', hr, m', hlt, hI'⟩ := hq
    have hJ' : J a' w' := ⟨m', ρ', hr, hI'⟩
    refine ⟨hJ', ?_⟩
    have h1 : μ a' w' = (exists_least hJ').choose := dif_pos hJ'
    have h2 := (exists_least hJ').choose_spec.2 m' ⟨ρ', hr, hI'⟩
    omega
  | exit i => exact hq
  | ret => exact hq
  | goto l => exact hq.elim
  | panic c => exact hq.elim
  | outgrown => exact hq.elim

/-- Slots that hold what a list says. -/
def Slots (ρ : Env) : List (Nat × Value) → Prop
  | [] => True
  | x :: l => ρ x.1 = some x.2 ∧ Slots ρ l

theorem Slots.le {ρ : Env} : ∀ {l : List (Nat × Value)}, Slots ρ l → ∀ t v, envL l t = some v → ρ t = some v
  | [], _, _, _, h => by cases h
  | x :: l, h, t, v, hv => by
    by_cases ht : t = x.1
    · subst ht
      rw [envL, upd_same] at hv
      rw [h.1, hv]
    · rw [envL, upd_ne _ _ ht] at hv
      exact Slots.le h.2 t v hv

theorem EC_slots {c : Code} (l : List (Nat × Value)) (hs : Slots ρ l) (h : EC P n c Q (envL l) w) : EC P n c Q ρ w := EC_weaken hs.le h
end

/-! ### Operations -/
def RunV (P : Program) (n : Nat) (o : Oper) (ρ : Env) (w : World) (v : Value) : Prop := ∀ a, Rep n a ρ → (execOp a.eval o).run P w = .ok (.value v) w

/-- One operation, behind which K holds. -/
def EOp (P : Program) (n : Nat) (o : Oper) (K : Env → World → Prop) (ρ : Env) (w : World) : Prop :=
  ∀ a, Rep n a ρ → o.wp P a w (fun a' w' => ∃ ρ', Rep n a' ρ' ∧ K ρ' w') (fun _ _ _ => False)

def EL (P : Program) (n : Nat) (ops : Array Oper) (l : List Oper) (K : Env → World → Prop) (ρ : Env) (w : World) : Prop :=
  ∀ a, Rep n a ρ → wpList P ops (lift n (Then K fun _ _ _ => False)) l a w

def wantedE (ops : Array Oper) (ρ : Env) (o : Oper) (t : Bool) : Prop :=
  match o.guard with
  | none => t = true
  | some (j, want) => ∃ d, (ops[j]?).bind (·.dst) = some d ∧ ((∃ b, ρ d = some (.bool b) ∧ t = (b == want)) ∨ (ρ d = some undef ∧ t = false))

theorem wanted_of {n : Nat} {ops : Array Oper} {a : Act} {ρ : Env} {o : Oper} {t : Bool} (ha : Rep n a ρ) (h : wantedE ops ρ o t) : Region.wanted o (yielded ops a.tmps) = t := by
  unfold wantedE at h
  unfold Region.wanted
  cases hg : o.guard with
  | none => rw [hg] at h; simpa using h.symm
  | some p =>
    obtain ⟨j, want⟩ := p
    rw [hg] at h
    obtain ⟨d, hd, ⟨b, hb, rfl⟩ | ⟨hb, rfl⟩⟩ := h
    · have hv := ha.val d _ hb
      have hlt : a.tmps[d]? = some (.bool b) := by
        have h1 : (a.tmps[d]?).getD undef = .bool b := by simpa [Array.getD_eq_getD_getElem?] using hv
        cases hq : a.tmps[d]? with
        | none => rw [hq] at h1; simp [undef] at h1
        | some u => rw [hq] at h1; simpa using h1
      simp [yielded, hd, hlt]
    · have hv := ha.val d _ hb
      have h1 : (a.tmps[d]?).getD undef = undef := by simpa [Array.getD_eq_getD_getElem?] using hv
      have hlt : a.tmps[d]? = none ∨ a.tmps[d]? = some undef := by
        cases hq : a.tmps[d]? with
        | none => exact .inl rfl
        | some u => rw [hq] at h1; right; simpa using h1
      rcases hlt with hlt | hlt <;> simp [yielded, hd, hlt, undef]

section
variable {P : Program} {n : Nat} {ops : Array Oper} {rest : List Oper} {o : Oper} {K : Env → World → Prop} {Q : Post} {ρ : Env} {w : World}

theorem EC_region {id : Nat} {l : List Oper} (h : EL P n l.toArray l (Q .normal) ρ w) : EC P n (.region id l.toArray false) Q ρ w := fun a ha =>
  wp_region_lit (by
    have := h a ha
    have mono : ∀ (l' : List Oper) (a : Act) (w : World), wpList P l.toArray (lift n (Then (Q .normal) fun _ _ _ => False)) l' a w → wpList P l.toArray (lift n Q) l' a w := by
      have up : ∀ e a w, lift n (Then (Q .normal) fun _ _ _ => False) e a w → lift n Q e a w := by
        intro e a w hh
        cases e with
        | normal => exact hh
        | exit i => exact hh.choose_spec.2.elim
        | ret => exact hh.choose_spec.2.elim
        | goto l => exact hh
        | panic c => exact hh
        | outgrown => exact hh
      have nolet : ¬ LetsOut (lift n (Then (Q .normal) fun _ _ _ => False)) := fun ⟨_, _, h⟩ => h
      intro l'
      induction l' with
      | nil => intro a w hh; exact up _ _ _ hh
      | cons o r ih =>
        intro a w hh
        unfold wpList at hh ⊢
        split at hh
        · rename_i hw
          rw [if_pos hw]
          rcases hh with hh | ⟨_, hh⟩
          · left
            unfold Oper.wp at hh ⊢
            generalize (execOp a.eval o).run P w = res at hh ⊢
            cases res with
            | ok nx w' =>
              cases nx <;> simp only [Oper.upon] at hh ⊢ <;>
                first
                  | exact ih _ _ hh
                  | exact Calls.mono hh (fun e w'' he => by
                      cases e with
                      | returned v => exact ih _ _ he
                      | panicked c => exact he.elim
                      | outgrown => exact absurd he nolet)
                  | exact Rows.mono hh (fun v w'' he => ih _ _ he)
                  | exact hh
            | halt x w' => cases x <;> simp only [Oper.upon] at hh ⊢ <;> exact hh
          · exact absurd hh nolet
        · rename_i hw
          rw [if_neg hw]
          exact ih _ _ hh
    exact mono l a w this)

theorem EL_nil (h : K ρ w) : EL P n ops [] K ρ w := fun _ ha => ⟨ρ, ha, h⟩

/-- An operation without a guard, by its own law. -/
theorem EL_op (hg : o.guard = none) (h : EOp P n o (EL P n ops rest K) ρ w) : EL P n ops (o :: rest) K ρ w := fun a ha => by
  unfold wpList
  rw [if_pos (by simp [Region.wanted, hg])]
  left
  have := h a ha
  unfold Oper.wp at this ⊢
  generalize (execOp a.eval o).run P w = res at this ⊢
  cases res with
  | ok nx w' =>
    cases nx <;> simp only [Oper.upon] at this ⊢ <;>
      first
        | (obtain ⟨ρ', hr, hk⟩ := this; exact hk _ hr)
        | exact Calls.mono this (fun e w'' he => by
            cases e with
            | returned v => obtain ⟨ρ', hr, hk⟩ := he; exact hk _ hr
            | panicked c => exact he.elim
            | outgrown => exact absurd he (fun ⟨_, _, h⟩ => h))
        | exact Rows.mono this (fun v w'' he => by obtain ⟨ρ', hr, hk⟩ := he; exact hk _ hr)
        | exact this
  | halt x w' => cases x <;> simp only [Oper.upon] at this ⊢ <;> exact this

theorem EOp_val {v : Value} (hd : dstOk n o.dst = true) (hr : RunV P n o ρ w v) (h : K (updo ρ o.dst v) w) : EOp P n o K ρ w := fun a ha => by
  unfold Oper.wp
  rw [hr a ha]
  exact ⟨_, ha.puto hd v, h⟩

theorem EL_run {d : Option Nat} {op : Op} {ty : TypeId} {pos : String} {aft : Array Edge} {v : Value} (hd : dstOk n d = true) (hr : RunV P n ⟨d, op, ty, pos, aft, none⟩ ρ w v) (h : EL P n ops rest K (updo ρ d v) w) :
    EL P n ops (⟨d, op, ty, pos, aft, none⟩ :: rest) K ρ w := EL_op rfl (EOp_val hd hr h)

/-- A guarded operation that is wanted. -/
theorem EL_want {d : Option Nat} {op : Op} {ty : TypeId} {pos : String} {aft : Array Edge} {j : Nat} {want : Bool} {dj : Nat} {b : Bool}
    (hj : (ops[j]?).bind (·.dst) = some dj) (hb : ρ dj = some (.bool b)) (hw : b = want)
    (h : EL P n ops (⟨d, op, ty, pos, aft, none⟩ :: rest) K ρ w) : EL P n ops (⟨d, op, ty, pos, aft, some (j, want)⟩ :: rest) K ρ w := fun a ha => by
  have := h a ha
  unfold wpList at this ⊢
  rw [if_pos (by simp [Region.wanted])] at this
  rw [if_pos (wanted_of (o := ⟨d, op, ty, pos, aft, some (j, want)⟩) ha (t := true) ⟨dj, hj, .inl ⟨b, hb, by simp [hw]⟩⟩)]
  exact this

/-- A guarded operation that is passed over. -/
theorem EL_pass {d : Nat} {op : Op} {ty : TypeId} {pos : String} {aft : Array Edge} {j : Nat} {want : Bool} {dj : Nat} {b : Bool}
    (hd : Nat.blt d n = true) (hj : (ops[j]?).bind (·.dst) = some dj) (hb : ρ dj = some (.bool b)) (hw : b = !want)
    (h : EL P n ops rest K (upd ρ d undef) w) : EL P n ops (⟨some d, op, ty, pos, aft, some (j, want)⟩ :: rest) K ρ w := fun a ha => by
  have := h _ (ha.put hd undef)
  unfold wpList
  rw [if_neg (by rw [wanted_of (o := ⟨some d, op, ty, pos, aft, some (j, want)⟩) ha (t := false) ⟨dj, hj, .inl ⟨b, hb, by cases want <;> simp [hw]⟩⟩]; simp)]
  exact this

/-- One whose guard was itself passed over. -/
theorem EL_passU {d : Nat} {op : Op} {ty : TypeId} {pos : String} {aft : Array Edge} {j : Nat} {want : Bool} {dj : Nat}
    (hd : Nat.blt d n = true) (hj : (ops[j]?).bind (·.dst) = some dj) (hb : ρ dj = some undef)
    (h : EL P n ops rest K (upd ρ d undef) w) : EL P n ops (⟨some d, op, ty, pos, aft, some (j, want)⟩ :: rest) K ρ w := fun a ha => by
  have := h _ (ha.put hd undef)
  unfold wpList
  rw [if_neg (by rw [wanted_of (o := ⟨some d, op, ty, pos, aft, some (j, want)⟩) ha (t := false) ⟨dj, hj, .inr ⟨hb, rfl⟩⟩]; simp)]
  exact this
end

#print axioms EC_loop
#print axioms EL_pass
end Go.Proofs.Ytpcojkbljgpecaa
