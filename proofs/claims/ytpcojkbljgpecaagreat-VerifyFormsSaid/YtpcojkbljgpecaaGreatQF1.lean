/- Part 1 of the proof: engine, models, walks and plain laws, in build order. -/
import Derived.WalkKit
import Derived.OrdersHeld
import Derived.KernelRfl
import Derived.Lib.AppendStr
import Derived.Lib.ConvBytes
import Derived.Laws.BytesArg
import Derived.Laws.Slices
import Derived.Laws.IdiomCopy
import Derived.Laws.CopyRow
import Derived.DeepKeys
import Derived.Laws.Cover3
import Derived.Maps.RangeRun
import Derived.Test.YtpcojkbljgpecaaGreatProg
set_option linter.unusedVariables false
set_option linter.unusedSimpArgs false
namespace Go.Proofs.YtpcojkbljgpecaaGreat
open Go

/-- What is known of a frame's slots. -/
abbrev Env := Nat → Option Value

def upd (ρ : Env) (d : Nat) (v : Value) : Env := fun t => bif Nat.beq t d then some v else ρ t

def envL : List (Nat × Value) → Env
  | [] => fun _ => none
  | x :: l => upd (envL l) x.1 x.2

def updo (ρ : Env) (d : Option Nat) (v : Value) : Env :=
  match d with
  | some d => upd ρ d v
  | none => ρ

def evO (ρ : Env) : Operand → Option Value
  | .tmp t => ρ t
  | .const v => some v
  | .global g => some (.pointer (some ⟨g, 0, none⟩))
  | .func f => some (.func (.func f) #[] #[])

theorem upd_same (ρ : Env) (d : Nat) (v : Value) : upd ρ d v d = some v := by simp [upd]
theorem upd_ne (ρ : Env) {d t : Nat} (v : Value) (h : t ≠ d) : upd ρ d v t = ρ t := by
  have : Nat.beq t d = false := by
    rw [Bool.eq_false_iff]; intro hb; exact h (Nat.eq_of_beq_eq_true hb)
  simp [upd, this]

structure Rep (n : Nat) (a : Act) (ρ : Env) : Prop where
  defers : a.defers = []
  size : a.tmps.size = n
  val : ∀ t v, ρ t = some v → a.tmps.getD t undef = v

theorem Rep.eval {n : Nat} {a : Act} {ρ : Env} (h : Rep n a ρ) {x : Operand} {v : Value} (hx : evO ρ x = some v) : a.eval x = v := by
  cases x with
  | tmp t => exact h.val t v hx
  | const u => simpa [evO, Act.eval] using hx
  | global g => simpa [evO, Act.eval] using hx
  | func f => simpa [evO, Act.eval] using hx

theorem Rep.mono {n : Nat} {a : Act} {ρ ρ' : Env} (h : Rep n a ρ) (hl : ∀ t v, ρ' t = some v → ρ t = some v) : Rep n a ρ' :=
  ⟨h.defers, h.size, fun t v hv => h.val t v (hl t v hv)⟩

theorem Rep.put {n : Nat} {a : Act} {ρ : Env} (h : Rep n a ρ) {d : Nat} (hd : Nat.blt d n = true) (v : Value) : Rep n (a.put (some d) v) (upd ρ d v) := by
  have hd' : d < n := by simpa [Nat.blt_eq] using hd
  refine ⟨h.defers, by simp [Act.put, h.size], fun t u hu => ?_⟩
  by_cases ht : t = d
  · subst ht
    rw [upd_same] at hu
    obtain rfl := Option.some.inj hu
    simp [Act.put, h.size, hd']
  · rw [upd_ne ρ v ht] at hu
    have := h.val t u hu
    simp only [Act.put]
    rw [← this]
    simp [Array.getD_eq_getD_getElem?, Array.getElem?_setIfInBounds_ne (Ne.symm ht)]

def dstOk (n : Nat) : Option Nat → Bool
  | some d => Nat.blt d n
  | none => true

theorem Rep.puto {n : Nat} {a : Act} {ρ : Env} (h : Rep n a ρ) {d : Option Nat} (hd : dstOk n d = true) (v : Value) : Rep n (a.put d v) (updo ρ d v) := by
  cases d with
  | some d => exact h.put hd v
  | none => exact h

abbrev Post := Exit → Env → World → Prop

def lift (n : Nat) (Q : Post) : Exit → Act → World → Prop
  | .normal, a, w => ∃ ρ, Rep n a ρ ∧ Q .normal ρ w
  | .exit i, a, w => ∃ ρ, Rep n a ρ ∧ Q (.exit i) ρ w
  | .ret, a, w => ∃ ρ, Rep n a ρ ∧ Q .ret ρ w
  | _, _, _ => False

theorem exists_least {p : Nat → Prop} (h : ∃ n, p n) : ∃ n, p n ∧ ∀ m, p m → n ≤ m := by
  obtain ⟨n, hn⟩ := h
  induction n using Nat.strongRecOn with
  | _ n ih =>
    by_cases hm : ∃ m, m < n ∧ p m
    · obtain ⟨m, hlt, hp⟩ := hm
      exact ih m hlt hp
    · exact ⟨n, hn, fun m hp => Nat.le_of_not_lt fun hlt => hm ⟨m, hlt, hp⟩⟩

def EC (P : Program) (n : Nat) (c : Code) (Q : Post) (ρ : Env) (w : World) : Prop := ∀ a, Rep n a ρ → c.wp P (lift n Q) a w

def Then (K : Env → World → Prop) (Q : Post) : Post
  | .normal, ρ, w => K ρ w
  | e, ρ, w => Q e ρ w

def InBlock (id : Nat) (Q : Post) : Post
  | .exit j, ρ, w => bif Nat.beq j id then Q .normal ρ w else Q (.exit j) ρ w
  | e, ρ, w => Q e ρ w

section
variable {P : Program} {n : Nat} {Q : Post} {ρ : Env} {w : World}

theorem EC_skip (h : Q .normal ρ w) : EC P n .skip Q ρ w := fun _ ha => wp_skip ⟨ρ, ha, h⟩
theorem EC_ret (h : Q .ret ρ w) : EC P n .ret Q ρ w := fun _ ha => wp_ret ⟨ρ, ha, h⟩
theorem EC_exit {i : Nat} (h : Q (.exit i) ρ w) : EC P n (.exit i) Q ρ w := fun _ ha => wp_exit ⟨ρ, ha, h⟩

theorem EC_seq {x y : Code} (h : EC P n x (Then (EC P n y Q) Q) ρ w) : EC P n (.seq x y) Q ρ w := fun a ha =>
  wp_seq (wp_mono (h a ha) fun e a' w' hq => by
    cases e with
    | normal => obtain ⟨ρ', hr, hk⟩ := hq; exact hk a' hr
    | exit i => exact hq
    | ret => exact hq
    | goto l => exact hq.elim
    | panic c => exact hq.elim
    | outgrown => exact hq.elim)

theorem EC_mono {c : Code} {Q' : Post} (hq : ∀ e ρ w, Q e ρ w → Q' e ρ w) (h : EC P n c Q ρ w) : EC P n c Q' ρ w := fun a ha =>
  wp_mono (h a ha) fun e a' w' hh => by
    cases e with
    | normal => obtain ⟨ρ', hr, hk⟩ := hh; exact ⟨ρ', hr, hq _ _ _ hk⟩
    | exit i => obtain ⟨ρ', hr, hk⟩ := hh; exact ⟨ρ', hr, hq _ _ _ hk⟩
    | ret => obtain ⟨ρ', hr, hk⟩ := hh; exact ⟨ρ', hr, hq _ _ _ hk⟩
    | goto l => exact hh.elim
    | panic c => exact hh.elim
    | outgrown => exact hh.elim

/-- Less may be known. -/
theorem EC_weaken {c : Code} {ρ' : Env} (hl : ∀ t v, ρ' t = some v → ρ t = some v) (h : EC P n c Q ρ' w) : EC P n c Q ρ w := fun a ha => h a (ha.mono hl)

/-- The ways through a piece of code meet again in a state that is written down. -/
theorem EC_cut {x y : Code} (M : Env → World → Prop) (h : EC P n x (Then M Q) ρ w) (hy : ∀ ρ w, M ρ w → EC P n y Q ρ w) : EC P n (.seq x y) Q ρ w :=
  EC_seq (EC_mono (fun e ρ w hh => by cases e <;> first | exact hy _ _ hh | exact hh) h)

theorem EC_block {i : Nat} {c : Code} (h : EC P n c (InBlock i Q) ρ w) : EC P n (.block i c) Q ρ w := fun a ha =>
  wp_block (wp_mono (h a ha) fun e a' w' hq => by
    cases e with
    | normal => exact hq
    | exit j =>
      obtain ⟨ρ', hr, hk⟩ := hq
      simp only [Exit.inBlock]
      by_cases hj : j = i
      · subst hj
        simp only [if_true]
        simp only [InBlock, Nat.beq_refl, cond_true] at hk
        exact ⟨ρ', hr, hk⟩
      · rw [if_neg hj]
        have : Nat.beq j i = false := by
          rw [Bool.eq_false_iff]; intro hb; exact hj (Nat.eq_of_beq_eq_true hb)
        simp only [InBlock, this, cond_false] at hk
        exact ⟨ρ', hr, hk⟩
    | ret => exact hq
    | goto l => exact hq.elim
    | panic c => exact hq.elim
    | outgrown => exact hq.elim)

theorem EC_cond {c : Operand} {x y : Code} {t : Bool} (hc : evO ρ c = some (.bool t)) (ht : t = true → EC P n x Q ρ w) (hf : t = false → EC P n y Q ρ w) : EC P n (.cond c x y) Q ρ w := fun a ha =>
  wp_cond_split (ha.eval hc) (fun h => ht h a ha) (fun h => hf h a ha)

theorem EC_loop {c : Code} (I : Nat → Env → World → Prop) (m : Nat) (h0 : I m ρ w)
    (round : ∀ m ρ w, I m ρ w → EC P n c (Then (fun ρ' w' => ∃ m', m' < m ∧ I m' ρ' w') Q) ρ w) : EC P n (.loop c) Q ρ w := by
  classical
  intro a ha
  let J : Act → World → Prop := fun a w => ∃ m ρ, Rep n a ρ ∧ I m ρ w
  let μ : Act → World → Nat := fun a w => if h : J a w then (exists_least h).choose else 0
  refine wp_loop J μ ⟨m, ρ, ha, h0⟩ fun a w hJ => ?_
  have hμ : μ a w = (exists_least hJ).choose := dif_pos hJ
  obtain ⟨ρ1, hr1, hI1⟩ := (exists_least hJ).choose_spec.1
  refine wp_mono (round _ ρ1 w hI1 a hr1) fun e a' w' hq => ?_
  cases e with
  | normal =>
    obtain ⟨ρ', hr, m', hlt, hI'⟩ := hq
    have hJ' : J a' w' := ⟨m', ρ', hr, hI'⟩
    refine ⟨hJ', ?_⟩
    have h1 : μ a' w' = (exists_least hJ').choose := dif_pos hJ'
    have h2 := (exists_least hJ').choose_spec.2 m' ⟨ρ', hr, hI'⟩
    omega
  | exit i => exact hq
  | ret => exact hq
  | goto l => exact hq.elim
  | panic c => exact hq.elim
  | outgrown => exact hq.elim

/-- Slots that hold what a list says. -/
def Slots (ρ : Env) : List (Nat × Value) → Prop
  | [] => True
  | x :: l => ρ x.1 = some x.2 ∧ Slots ρ l

theorem Slots.le {ρ : Env} : ∀ {l : List (Nat × Value)}, Slots ρ l → ∀ t v, envL l t = some v → ρ t = some v
  | [], _, _, _, h => by cases h
  | x :: l, h, t, v, hv => by
    by_cases ht : t = x.1
    · subst ht
      rw [envL, upd_same] at hv
      rw [h.1, hv]
    · rw [envL, upd_ne _ _ ht] at hv
      exact Slots.le h.2 t v hv

theorem EC_slots {c : Code} (l : List (Nat × Value)) (hs : Slots ρ l) (h : EC P n c Q (envL l) w) : EC P n c Q ρ w := EC_weaken hs.le h
end

/-! ### Operations -/
def RunV (P : Program) (n : Nat) (o : Oper) (ρ : Env) (w : World) (v : Value) : Prop := ∀ a, Rep n a ρ → (execOp a.eval o).run P w = .ok (.value v) w

/-- One operation, behind which K holds. -/
def EOp (P : Program) (n : Nat) (o : Oper) (K : Env → World → Prop) (ρ : Env) (w : World) : Prop :=
  ∀ a, Rep n a ρ → o.wp P a w (fun a' w' => ∃ ρ', Rep n a' ρ' ∧ K ρ' w') (fun _ _ _ => False)

def EL (P : Program) (n : Nat) (ops : Array Oper) (l : List Oper) (K : Env → World → Prop) (ρ : Env) (w : World) : Prop :=
  ∀ a, Rep n a ρ → wpList P ops (lift n (Then K fun _ _ _ => False)) l a w

def wantedE (ops : Array Oper) (ρ : Env) (o : Oper) (t : Bool) : Prop :=
  match o.guard with
  | none => t = true
  | some (j, want) => ∃ d, (ops[j]?).bind (·.dst) = some d ∧ ((∃ b, ρ d = some (.bool b) ∧ t = (b == want)) ∨ (ρ d = some undef ∧ t = false))

theorem wanted_of {n : Nat} {ops : Array Oper} {a : Act} {ρ : Env} {o : Oper} {t : Bool} (ha : Rep n a ρ) (h : wantedE ops ρ o t) : Region.wanted o (yielded ops a.tmps) = t := by
  unfold wantedE at h
  unfold Region.wanted
  cases hg : o.guard with
  | none => rw [hg] at h; simpa using h.symm
  | some p =>
    obtain ⟨j, want⟩ := p
    rw [hg] at h
    obtain ⟨d, hd, ⟨b, hb, rfl⟩ | ⟨hb, rfl⟩⟩ := h
    · have hv := ha.val d _ hb
      have hlt : a.tmps[d]? = some (.bool b) := by
        have h1 : (a.tmps[d]?).getD undef = .bool b := by simpa [Array.getD_eq_getD_getElem?] using hv
        cases hq : a.tmps[d]? with
        | none => rw [hq] at h1; simp [undef] at h1
        | some u => rw [hq] at h1; simpa using h1
      simp [yielded, hd, hlt]
    · have hv := ha.val d _ hb
      have h1 : (a.tmps[d]?).getD undef = undef := by simpa [Array.getD_eq_getD_getElem?] using hv
      have hlt : a.tmps[d]? = none ∨ a.tmps[d]? = some undef := by
        cases hq : a.tmps[d]? with
        | none => exact .inl rfl
        | some u => rw [hq] at h1; right; simpa using h1
      rcases hlt with hlt | hlt <;> simp [yielded, hd, hlt, undef]

section
variable {P : Program} {n : Nat} {ops : Array Oper} {rest : List Oper} {o : Oper} {K : Env → World → Prop} {Q : Post} {ρ : Env} {w : World}

theorem EC_region {id : Nat} {l : List Oper} (h : EL P n l.toArray l (Q .normal) ρ w) : EC P n (.region id l.toArray false) Q ρ w := fun a ha =>
  wp_region_lit (by
    have := h a ha
    have mono : ∀ (l' : List Oper) (a : Act) (w : World), wpList P l.toArray (lift n (Then (Q .normal) fun _ _ _ => False)) l' a w → wpList P l.toArray (lift n Q) l' a w := by
      have up : ∀ e a w, lift n (Then (Q .normal) fun _ _ _ => False) e a w → lift n Q e a w := by
        intro e a w hh
        cases e with
        | normal => exact hh
        | exit i => exact hh.choose_spec.2.elim
        | ret => exact hh.choose_spec.2.elim
        | goto l => exact hh
        | panic c => exact hh
        | outgrown => exact hh
      have nolet : ¬ LetsOut (lift n (Then (Q .normal) fun _ _ _ => False)) := fun ⟨_, _, h⟩ => h
      intro l'
      induction l' with
      | nil => intro a w hh; exact up _ _ _ hh
      | cons o r ih =>
        intro a w hh
        unfold wpList at hh ⊢
        split at hh
        · rename_i hw
          rw [if_pos hw]
          rcases hh with hh | ⟨_, hh⟩
          · left
            unfold Oper.wp at hh ⊢
            generalize (execOp a.eval o).run P w = res at hh ⊢
            cases res with
            | ok nx w' =>
              cases nx <;> simp only [Oper.upon] at hh ⊢ <;>
                first
                  | exact ih _ _ hh
                  | exact Calls.mono hh (fun e w'' he => by
                      cases e with
                      | returned v => exact ih _ _ he
                      | panicked c => exact he.elim
                      | outgrown => exact absurd he nolet)
                  | exact Rows.mono hh (fun v w'' he => ih _ _ he)
                  | exact hh
            | halt x w' => cases x <;> simp only [Oper.upon] at hh ⊢ <;> exact hh
          · exact absurd hh nolet
        · rename_i hw
          rw [if_neg hw]
          exact ih _ _ hh
    exact mono l a w this)

theorem EL_nil (h : K ρ w) : EL P n ops [] K ρ w := fun _ ha => ⟨ρ, ha, h⟩

/-- An operation without a guard, by its own law. -/
theorem EL_op (hg : o.guard = none) (h : EOp P n o (EL P n ops rest K) ρ w) : EL P n ops (o :: rest) K ρ w := fun a ha => by
  unfold wpList
  rw [if_pos (by simp [Region.wanted, hg])]
  left
  have := h a ha
  unfold Oper.wp at this ⊢
  generalize (execOp a.eval o).run P w = res at this ⊢
  cases res with
  | ok nx w' =>
    cases nx <;> simp only [Oper.upon] at this ⊢ <;>
      first
        | (obtain ⟨ρ', hr, hk⟩ := this; exact hk _ hr)
        | exact Calls.mono this (fun e w'' he => by
            cases e with
            | returned v => obtain ⟨ρ', hr, hk⟩ := he; exact hk _ hr
            | panicked c => exact he.elim
            | outgrown => exact absurd he (fun ⟨_, _, h⟩ => h))
        | exact Rows.mono this (fun v w'' he => by obtain ⟨ρ', hr, hk⟩ := he; exact hk _ hr)
        | exact this
  | halt x w' => cases x <;> simp only [Oper.upon] at this ⊢ <;> exact this

theorem EOp_val {v : Value} (hd : dstOk n o.dst = true) (hr : RunV P n o ρ w v) (h : K (updo ρ o.dst v) w) : EOp P n o K ρ w := fun a ha => by
  unfold Oper.wp
  rw [hr a ha]
  exact ⟨_, ha.puto hd v, h⟩

theorem EL_run {d : Option Nat} {op : Op} {ty : TypeId} {pos : String} {aft : Array Edge} {v : Value} (hd : dstOk n d = true) (hr : RunV P n ⟨d, op, ty, pos, aft, none⟩ ρ w v) (h : EL P n ops rest K (updo ρ d v) w) :
    EL P n ops (⟨d, op, ty, pos, aft, none⟩ :: rest) K ρ w := EL_op rfl (EOp_val hd hr h)

/-- A guarded operation that is wanted. -/
theorem EL_want {d : Option Nat} {op : Op} {ty : TypeId} {pos : String} {aft : Array Edge} {j : Nat} {want : Bool} {dj : Nat} {b : Bool}
    (hj : (ops[j]?).bind (·.dst) = some dj) (hb : ρ dj = some (.bool b)) (hw : b = want)
    (h : EL P n ops (⟨d, op, ty, pos, aft, none⟩ :: rest) K ρ w) : EL P n ops (⟨d, op, ty, pos, aft, some (j, want)⟩ :: rest) K ρ w := fun a ha => by
  have := h a ha
  unfold wpList at this ⊢
  rw [if_pos (by simp [Region.wanted])] at this
  rw [if_pos (wanted_of (o := ⟨d, op, ty, pos, aft, some (j, want)⟩) ha (t := true) ⟨dj, hj, .inl ⟨b, hb, by simp [hw]⟩⟩)]
  exact this

/-- A guarded operation that is passed over. -/
theorem EL_pass {d : Nat} {op : Op} {ty : TypeId} {pos : String} {aft : Array Edge} {j : Nat} {want : Bool} {dj : Nat} {b : Bool}
    (hd : Nat.blt d n = true) (hj : (ops[j]?).bind (·.dst) = some dj) (hb : ρ dj = some (.bool b)) (hw : b = !want)
    (h : EL P n ops rest K (upd ρ d undef) w) : EL P n ops (⟨some d, op, ty, pos, aft, some (j, want)⟩ :: rest) K ρ w := fun a ha => by
  have := h _ (ha.put hd undef)
  unfold wpList
  rw [if_neg (by rw [wanted_of (o := ⟨some d, op, ty, pos, aft, some (j, want)⟩) ha (t := false) ⟨dj, hj, .inl ⟨b, hb, by cases want <;> simp [hw]⟩⟩]; simp)]
  exact this

/-- One whose guard was itself passed over. -/
theorem EL_passU {d : Nat} {op : Op} {ty : TypeId} {pos : String} {aft : Array Edge} {j : Nat} {want : Bool} {dj : Nat}
    (hd : Nat.blt d n = true) (hj : (ops[j]?).bind (·.dst) = some dj) (hb : ρ dj = some undef)
    (h : EL P n ops rest K (upd ρ d undef) w) : EL P n ops (⟨some d, op, ty, pos, aft, some (j, want)⟩ :: rest) K ρ w := fun a ha => by
  have := h _ (ha.put hd undef)
  unfold wpList
  rw [if_neg (by rw [wanted_of (o := ⟨some d, op, ty, pos, aft, some (j, want)⟩) ha (t := false) ⟨dj, hj, .inr ⟨hb, rfl⟩⟩]; simp)]
  exact this
end

end Go.Proofs.YtpcojkbljgpecaaGreat
namespace Go.Proofs.YtpcojkbljgpecaaGreat
open Go

/-- Must what is read in the region still hold behind operation j? (j changes the world, and one of the reading operations need not come before it.) -/
def rq (ops : Array Oper) (act rd : List Nat) (j : Nat) : Bool :=
  act.contains j && rd.any fun i => !(match ops[j]? with
    | some o => o.after.any fun e => Region.binds .any e && e.on == i
    | none => false)

theorem rq_of {ops : Array Oper} {act rd : List Nat} {i j : Nat} {listed : Array Bool} (ha : act.contains j = true) (hi : rd.contains i = true) (hl : listed.getD i true = false)
    (hj : j ∈ Region.ready .any ops listed) : rq ops act rd j = true := by
  unfold rq
  rw [ha, Bool.true_and, List.any_eq_true]
  refine ⟨i, by simpa using hi, ?_⟩
  obtain ⟨_, o, ho, hall⟩ := mem_ready.1 hj
  rw [ho]
  simp only [Bool.not_eq_true']
  rw [Bool.eq_false_iff]
  intro hany
  rw [Array.any_eq_true'] at hany
  obtain ⟨e, he, hb⟩ := hany
  simp only [Bool.and_eq_true, beq_iff_eq] at hb
  have h1 := hall e he hb.1
  rw [hb.2] at h1
  rcases Nat.lt_or_ge i listed.size with h' | h'
  · simp [h'] at hl h1; rw [hl] at h1; cases h1
  · simp [Array.getElem?_eq_none h'] at h1

section
variable {P : Program} {ops : Array Oper} {Q : Exit → Act → World → Prop}

def wpAnyR (P : Program) (ops : Array Oper) (Q : Exit → Act → World → Prop) (act rd : List Nat) (R : World → Prop) : Nat → Array Bool → Act → World → Prop
  | 0, listed, a, w => Region.ready .any ops listed = [] ∧ Q .normal a w
  | fuel + 1, listed, a, w =>
    (Region.ready .any ops listed = [] → Q .normal a w) ∧
    ∀ i ∈ Region.ready .any ops listed, wpOp P ops Q i (fun a' w' => (rq ops act rd i = true → R w') ∧ (act.contains i = false → w' = w) ∧ wpAnyR P ops Q act rd R fuel (listed.setIfInBounds i true) a' w') a w

theorem wpAny_of_R {act rd : List Nat} {R : World → Prop} : ∀ (fuel : Nat) (listed : Array Bool) (a : Act) (w : World), wpAnyR P ops Q act rd R fuel listed a w → wpAny P .any ops Q fuel listed a w
  | 0, _, _, _, h => h
  | fuel + 1, _, _, _, h => ⟨h.1, fun i hi => wpOp_mono (fun a' w' h' => wpAny_of_R fuel _ a' w' h'.2.2) (h.2 i hi)⟩

theorem rq_false {ops : Array Oper} {act rd : List Nat} {i : Nat} (h : act.contains i = false) : rq ops act rd i = false := by
  unfold rq; rw [h, Bool.false_and]

theorem wpAnyR_first {act rd : List Nat} {R : World → Prop} {i : Nat} {oi : Oper} {v : Value} (hi : ops[i]? = some oi) (hsel : ∀ (j : Nat) (o : Oper) cs b, ops[j]? = some o → o.op ≠ .select cs b)
    (hQ : ∀ c a w, Q (.panic c) (a.put oi.dst v) w → Q (.panic c) a w) (hact : act.contains i = false) :
    ∀ (fuel : Nat) (listed : Array Bool) (a : Act) (w : World),
      (∀ j oj, ops[j]? = some oj → j ≠ i → listed.getD j true = false → (∀ e ∈ oj.after, Region.binds .any e = true → e.on ≠ i) → oi.apart ops oj = true) →
      i ∈ Region.ready .any ops listed → YieldsIf P ops (fun w => rd.contains i = true → R w) oi v a → (rd.contains i = true → R w) →
      wpAnyR P ops Q act rd R fuel (listed.setIfInBounds i true) (a.put oi.dst v) w → wpAnyR P ops Q act rd R (fuel + 1) listed a w := by
  intro fuel
  induction fuel with
  | zero =>
    intro listed a w _ hr hy hS H
    refine ⟨fun h => (by rw [h] at hr; cases hr), fun j hj => ?_⟩
    by_cases hji : j = i
    · subst hji; exact hy.wpOp hi hS ⟨fun hp => (by rw [rq_false hact] at hp; cases hp), fun _ => rfl, H⟩
    · have := ready_mono hj hji
      rw [H.1] at this
      cases this
  | succ fuel ih =>
    intro listed a w hfree hr hy hS H
    refine ⟨fun h => (by rw [h] at hr; cases hr), fun j hj => ?_⟩
    by_cases hji : j = i
    · subst hji; exact hy.wpOp hi hS ⟨fun hp => (by rw [rq_false hact] at hp; cases hp), fun _ => rfl, H⟩
    · have h1 := H.2 j (ready_mono hj hji)
      obtain ⟨hjun, oj, hoj, hall⟩ := mem_ready.1 hj
      have hnot : ∀ e ∈ oj.after, Region.binds .any e = true → e.on ≠ i := fun e he hb heq => by
        have h1 := hall e he hb
        have h0 := (mem_ready.1 hr).1
        rw [heq] at h1
        rcases Nat.lt_or_ge i listed.size with h' | h'
        · simp [h'] at h0 h1; rw [h0] at h1; cases h1
        · simp [Array.getElem?_eq_none h'] at h1
      have h2 := wpOp_putIf hoj (hfree j oj hoj hji hjun hnot) (fun cs b => hsel i oi cs b hi) (fun cs b => hsel j oj cs b hoj) hQ hy h1
      have hfree' : ∀ k ok, ops[k]? = some ok → k ≠ i → (listed.setIfInBounds j true).getD k true = false →
          (∀ e ∈ ok.after, Region.binds .any e = true → e.on ≠ i) → oi.apart ops ok = true := fun k ok hk hki hun hno => by
        refine hfree k ok hk hki ?_ hno
        by_cases hjk : j = k
        · subst hjk; exact hjun
        · rw [getD_set_ne true hjk] at hun; exact hun
      refine wpOp_mono (fun a' w' h3 => ?_) h2
      obtain ⟨hy', hp', hsame, hrest⟩ := h3
      have hR' : rd.contains i = true → R w' := fun hc => by
        cases hja : act.contains j with
        | true => exact hp' (rq_of hja hc (mem_ready.1 hr).1 hj)
        | false => rw [hsame hja]; exact hS hc
      refine ⟨hp', hsame, ih (listed.setIfInBounds j true) a' w' hfree' (ready_mono hr (Ne.symm hji)) hy' hR' ?_⟩
      rw [Array.setIfInBounds_comm _ _ hji]
      exact hrest
end

/-- The order in which a region's operations are looked at: what only reads first; where several may come, each. -/
inductive Plan where
  | done
  | take (i : Nat) (p : Plan)
  | fork (i : Nat) (p q : Plan)

def heads : Plan → List Nat
  | .fork i _ q => i :: heads q
  | _ => []

def planOk (ops : Array Oper) (act : List Nat) : Plan → Nat → Array Bool → Bool → Bool
  | .done, _, l, b => b || (Region.ready .any ops l).isEmpty
  | .take i p, f, l, b => !b && !act.contains i && (match f with
    | 0 => false
    | f + 1 => (Region.ready .any ops l).contains i && Region.free .any ops l i && planOk ops act p f (l.setIfInBounds i true) false)
  | .fork i p q, f, l, b => (b || (Region.ready .any ops l == i :: heads q)) && act.contains i && (match f with
    | 0 => false
    | f + 1 => planOk ops act p f (l.setIfInBounds i true) false) && planOk ops act q f l true

/-- What is to be shown of a region, along its plan. -/
def EPlan (P : Program) (n : Nat) (ops : Array Oper) (act rd : List Nat) (R : World → Prop) (K : Env → World → Prop) : Plan → Bool → Env → World → Prop
  | .done, b, ρ, w => b = true ∨ K ρ w
  | .take i p, _, ρ, w => ∃ o v t, ops[i]? = some o ∧ wantedE ops ρ o t ∧ dstOk n o.dst = true ∧ (rd.contains i = true → R w) ∧
      (if t then ∀ w', (rd.contains i = true → R w') → RunV P n o ρ w' v else v = undef) ∧ EPlan P n ops act rd R K p false (updo ρ o.dst v) w
  | .fork i p q, _, ρ, w => (∃ o t, ops[i]? = some o ∧ wantedE ops ρ o t ∧ dstOk n o.dst = true ∧
      (if t then EOp P n o (fun ρ' w' => (rq ops act rd i = true → R w') ∧ EPlan P n ops act rd R K p false ρ' w') ρ w
       else (rq ops act rd i = true → R w) ∧ EPlan P n ops act rd R K p false (updo ρ o.dst undef) w)) ∧ EPlan P n ops act rd R K q true ρ w

section
variable {P : Program} {n : Nat} {ops : Array Oper} {K : Env → World → Prop} {Q : Post} {ρ : Env} {w : World}

theorem lift_noPanic {Q : Post} {c : List PanicEntry} {a : Act} {w : World} : ¬ lift n Q (.panic c) a w := fun h => h

theorem plan_sound {act rd : List Nat} {R : World → Prop} (hsel : Region.noSelect ops = true) : ∀ (p : Plan) (f : Nat) (l : Array Bool) (ρ : Env) (w : World) (a : Act),
    Rep n a ρ →
    (planOk ops act p f l false = true → EPlan P n ops act rd R K p false ρ w → wpAnyR P ops (lift n (Then K fun _ _ _ => False)) act rd R f l a w) ∧
    (planOk ops act p f l true = true → EPlan P n ops act rd R K p true ρ w → ∀ f', f = f' + 1 → ∀ i ∈ heads p, wpOp P ops (lift n (Then K fun _ _ _ => False)) i (fun a' w' => (rq ops act rd i = true → R w') ∧ (act.contains i = false → w' = w) ∧ wpAnyR P ops (lift n (Then K fun _ _ _ => False)) act rd R f' (l.setIfInBounds i true) a' w') a w) := by
  intro p
  induction p with
  | done =>
    intro f l ρ w a ha
    refine ⟨fun hp h => ?_, fun _ _ f' _ i hi => by cases hi⟩
    have hr : Region.ready .any ops l = [] := by simpa [planOk] using hp
    have hk : lift n (Then K fun _ _ _ => False) .normal a w := ⟨ρ, ha, h.resolve_left (by simp)⟩
    cases f with
    | zero => exact ⟨hr, hk⟩
    | succ f => exact ⟨fun _ => hk, fun i hi => by rw [hr] at hi; cases hi⟩
  | take i p ih =>
    intro f l ρ w a ha
    refine ⟨fun hp h => ?_, fun hp => by simp [planOk] at hp⟩
    cases f with
    | zero => simp [planOk] at hp
    | succ f =>
      simp only [planOk, Bool.not_false, Bool.true_and, Bool.and_eq_true, Bool.not_eq_true'] at hp
      obtain ⟨hact, ⟨hr, hf⟩, hp'⟩ := hp
      obtain ⟨o, v, t, ho, hw, hd, hR, hrun, hrest⟩ := h
      refine wpAnyR_first (v := v) ho (Region.noSelect_spec hsel) (fun c a w h => h) hact f l a w (Region.free_spec ho hf) (by simpa using hr) ?_ hR ((ih f _ _ w _ (ha.puto hd v)).1 hp' hrest)
      cases t with
      | true => exact .inl ⟨wanted_of ha hw, fun w' hw' => by simpa using hrun w' hw' a ha⟩
      | false => exact .inr ⟨wanted_of ha hw, by simpa using hrun⟩
  | fork i p q ihp ihq =>
    have one : ∀ (f : Nat) (l : Array Bool) (ρ : Env) (w : World) (a : Act), Rep n a ρ → act.contains i = true → planOk ops act p f (l.setIfInBounds i true) false = true →
        (∃ o t, ops[i]? = some o ∧ wantedE ops ρ o t ∧ dstOk n o.dst = true ∧
          (if t then EOp P n o (fun ρ' w' => (rq ops act rd i = true → R w') ∧ EPlan P n ops act rd R K p false ρ' w') ρ w
           else (rq ops act rd i = true → R w) ∧ EPlan P n ops act rd R K p false (updo ρ o.dst undef) w)) →
        wpOp P ops (lift n (Then K fun _ _ _ => False)) i (fun a' w' => (rq ops act rd i = true → R w') ∧ (act.contains i = false → w' = w) ∧ wpAnyR P ops (lift n (Then K fun _ _ _ => False)) act rd R f (l.setIfInBounds i true) a' w') a w := by
      intro f l ρ w a ha hact hp h
      obtain ⟨o, t, ho, hw, hd, h⟩ := h
      unfold wpOp
      simp only [ho]
      rw [wanted_of ha hw]
      cases t with
      | true =>
        simp only [if_true] at h ⊢
        left
        have := h a ha
        unfold Oper.wp at this ⊢
        generalize (execOp a.eval o).run P w = res at this ⊢
        cases res with
        | ok nx w' =>
          cases nx <;> simp only [Oper.upon] at this ⊢ <;>
            first
              | (obtain ⟨ρ', hr, hk1, hk⟩ := this; exact ⟨hk1, (by rw [hact]; simp), (ihp f _ ρ' _ _ hr).1 hp hk⟩)
              | exact Calls.mono this (fun e w'' he => by
                  cases e with
                  | returned v => obtain ⟨ρ', hr, hk1, hk⟩ := he; exact ⟨hk1, (by rw [hact]; simp), (ihp f _ ρ' _ _ hr).1 hp hk⟩
                  | panicked c => exact he.elim
                  | outgrown => exact absurd he (fun ⟨_, _, h⟩ => h))
              | exact Rows.mono this (fun v w'' he => by obtain ⟨ρ', hr, hk1, hk⟩ := he; exact ⟨hk1, (by rw [hact]; simp), (ihp f _ ρ' _ _ hr).1 hp hk⟩)
              | exact this
        | halt x w' => cases x <;> simp only [Oper.upon] at this ⊢ <;> exact this
      | false =>
        simp only [Bool.false_eq_true, if_false] at h ⊢
        exact ⟨h.1, (by rw [hact]; simp), (ihp f _ _ w _ (ha.puto hd undef)).1 hp h.2⟩
    intro f l ρ w a ha
    refine ⟨fun hp h => ?_, fun hp h => ?_⟩
    · cases f with
      | zero => simp [planOk] at hp
      | succ f =>
        simp only [planOk, Bool.false_or, Bool.and_eq_true, beq_iff_eq] at hp
        obtain ⟨⟨⟨hr, hact⟩, hp1⟩, hq⟩ := hp
        refine ⟨fun h0 => (by rw [hr] at h0; cases h0), fun j hj => ?_⟩
        rw [hr] at hj
        rcases List.mem_cons.1 hj with rfl | hj
        · exact one f l ρ w a ha hact hp1 h.1
        · exact (ihq (f + 1) l ρ w a ha).2 hq h.2 f rfl j hj
    · intro f' hf j hj
      subst hf
      simp only [planOk, Bool.true_or, Bool.true_and, Bool.and_eq_true] at hp
      obtain ⟨⟨hact, hp1⟩, hq⟩ := hp
      rcases List.mem_cons.1 hj with rfl | hj
      · exact one f' l ρ w a ha hact hp1 h.1
      · exact (ihq (f' + 1) l ρ w a ha).2 hq h.2 f' rfl j hj

/-- A region that draws its order. -/
theorem EC_draw {id : Nat} {l : List Oper} (act rd : List Nat) (R : World → Prop) (p : Plan) (hm : P.follows .mixedOrders = true)
    (hok : (Region.noSelect l.toArray && planOk l.toArray act p l.toArray.size (Array.replicate l.toArray.size false) false) = true)
    (h : EPlan P n l.toArray act rd R (Q .normal) p false ρ { w with drawn := w.drawn + 1 }) : EC P n (.region id l.toArray true) Q ρ w := fun a ha => by
  rw [Bool.and_eq_true] at hok
  have h1 := (plan_sound hok.1 p _ _ _ _ a ha).1 hok.2 h
  have h2 : (Code.region id l.toArray true).wp P (lift n (Then (Q .normal) fun _ _ _ => False)) a w := wp_region_any hm (wpAny_of_R _ _ _ _ h1)
  exact wp_mono h2 fun e a' w' hh => by
    cases e with
    | normal => exact hh
    | exit i => exact hh.choose_spec.2.elim
    | ret => exact hh.choose_spec.2.elim
    | goto l => exact hh
    | panic c => exact hh
    | outgrown => exact hh

variable {act rd : List Nat} {R : World → Prop}

theorem EP_done {b : Bool} (h : K ρ w) : EPlan P n ops act rd R K .done b ρ w := .inr h
theorem EP_end : EPlan P n ops act rd R K .done true ρ w := .inl rfl

theorem EP_take {i : Nat} {p : Plan} {d : Option Nat} {op : Op} {ty : TypeId} {pos : String} {aft : Array Edge} {v : Value} (ho : ops[i]? = some ⟨d, op, ty, pos, aft, none⟩) (hd : dstOk n d = true)
    (hnr : rd.contains i = false) (hr : ∀ w', RunV P n ⟨d, op, ty, pos, aft, none⟩ ρ w' v) (h : EPlan P n ops act rd R K p false (updo ρ d v) w) : EPlan P n ops act rd R K (.take i p) false ρ w :=
  ⟨_, v, true, ho, rfl, hd, fun hc => (by rw [hnr] at hc; cases hc), by simpa using fun w' _ => hr w', h⟩

/-- One that reads. -/
theorem EP_read {i : Nat} {p : Plan} {d : Option Nat} {op : Op} {ty : TypeId} {pos : String} {aft : Array Edge} {v : Value} (ho : ops[i]? = some ⟨d, op, ty, pos, aft, none⟩) (hd : dstOk n d = true)
    (hrd : rd.contains i = true) (hR : R w) (hr : ∀ w', R w' → RunV P n ⟨d, op, ty, pos, aft, none⟩ ρ w' v) (h : EPlan P n ops act rd R K p false (updo ρ d v) w) : EPlan P n ops act rd R K (.take i p) false ρ w :=
  ⟨_, v, true, ho, rfl, hd, fun _ => hR, by simp only [if_true]; exact fun w' hw' => hr w' (hw' hrd), h⟩

/-- A guarded one that is wanted, as if it had no guard. -/
theorem RunV.guard {d : Option Nat} {op : Op} {ty : TypeId} {pos : String} {aft : Array Edge} {g : Option (Nat × Bool)} {v : Value} (h : RunV P n ⟨d, op, ty, pos, aft, none⟩ ρ w v) : RunV P n ⟨d, op, ty, pos, aft, g⟩ ρ w v := h

theorem EP_takeG {i : Nat} {p : Plan} {d : Option Nat} {op : Op} {ty : TypeId} {pos : String} {aft : Array Edge} {j : Nat} {want : Bool} {dj : Nat} {b : Bool} {v : Value} (ho : ops[i]? = some ⟨d, op, ty, pos, aft, some (j, want)⟩)
    (hj : (ops[j]?).bind (·.dst) = some dj) (hb : ρ dj = some (.bool b)) (hw : b = want) (hd : dstOk n d = true)
    (hnr : rd.contains i = false) (hr : ∀ w', RunV P n ⟨d, op, ty, pos, aft, none⟩ ρ w' v) (h : EPlan P n ops act rd R K p false (updo ρ d v) w) : EPlan P n ops act rd R K (.take i p) false ρ w :=
  ⟨_, v, true, ho, ⟨dj, hj, .inl ⟨b, hb, by simp [hw]⟩⟩, hd, fun hc => (by rw [hnr] at hc; cases hc), by simpa using fun w' _ => (hr w').guard, h⟩

theorem EP_readG {i : Nat} {p : Plan} {d : Option Nat} {op : Op} {ty : TypeId} {pos : String} {aft : Array Edge} {j : Nat} {want : Bool} {dj : Nat} {b : Bool} {v : Value} (ho : ops[i]? = some ⟨d, op, ty, pos, aft, some (j, want)⟩)
    (hj : (ops[j]?).bind (·.dst) = some dj) (hb : ρ dj = some (.bool b)) (hw : b = want) (hd : dstOk n d = true)
    (hrd : rd.contains i = true) (hR : R w) (hr : ∀ w', R w' → RunV P n ⟨d, op, ty, pos, aft, none⟩ ρ w' v) (h : EPlan P n ops act rd R K p false (updo ρ d v) w) : EPlan P n ops act rd R K (.take i p) false ρ w :=
  ⟨_, v, true, ho, ⟨dj, hj, .inl ⟨b, hb, by simp [hw]⟩⟩, hd, fun _ => hR, by simp only [if_true]; exact fun w' hw' => (hr w' (hw' hrd)).guard, h⟩

/-- A guarded one that is passed over (one that only reads, and one that does not). -/
theorem EP_passT {i : Nat} {p : Plan} {d : Nat} {op : Op} {ty : TypeId} {pos : String} {aft : Array Edge} {j : Nat} {want : Bool} {dj : Nat} {b : Bool} (ho : ops[i]? = some ⟨some d, op, ty, pos, aft, some (j, want)⟩)
    (hj : (ops[j]?).bind (·.dst) = some dj) (hb : ρ dj = some (.bool b)) (hw : b = !want) (hd : Nat.blt d n = true) (hR : rd.contains i = true → R w)
    (h : EPlan P n ops act rd R K p false (upd ρ d undef) w) : EPlan P n ops act rd R K (.take i p) false ρ w :=
  ⟨_, undef, false, ho, ⟨dj, hj, .inl ⟨b, hb, by cases want <;> simp [hw]⟩⟩, hd, hR, by simp, h⟩

theorem EP_passF {i : Nat} {p : Plan} {d : Nat} {op : Op} {ty : TypeId} {pos : String} {aft : Array Edge} {j : Nat} {want : Bool} {dj : Nat} {b : Bool} (ho : ops[i]? = some ⟨some d, op, ty, pos, aft, some (j, want)⟩)
    (hj : (ops[j]?).bind (·.dst) = some dj) (hb : ρ dj = some (.bool b)) (hw : b = !want) (hd : Nat.blt d n = true) (hR : rq ops act rd i = true → R w)
    (h : EPlan P n ops act rd R K p false (upd ρ d undef) w) : EPlan P n ops act rd R K (.fork i p .done) false ρ w :=
  ⟨⟨_, false, ho, ⟨dj, hj, .inl ⟨b, hb, by cases want <;> simp [hw]⟩⟩, hd, by simpa using ⟨hR, h⟩⟩, .inl rfl⟩

theorem EP_passTU {i : Nat} {p : Plan} {d : Nat} {op : Op} {ty : TypeId} {pos : String} {aft : Array Edge} {j : Nat} {want : Bool} {dj : Nat} (ho : ops[i]? = some ⟨some d, op, ty, pos, aft, some (j, want)⟩)
    (hj : (ops[j]?).bind (·.dst) = some dj) (hb : ρ dj = some undef) (hd : Nat.blt d n = true) (hR : rd.contains i = true → R w)
    (h : EPlan P n ops act rd R K p false (upd ρ d undef) w) : EPlan P n ops act rd R K (.take i p) false ρ w :=
  ⟨_, undef, false, ho, ⟨dj, hj, .inr ⟨hb, rfl⟩⟩, hd, hR, by simp, h⟩

theorem EP_passFU {i : Nat} {p : Plan} {d : Nat} {op : Op} {ty : TypeId} {pos : String} {aft : Array Edge} {j : Nat} {want : Bool} {dj : Nat} (ho : ops[i]? = some ⟨some d, op, ty, pos, aft, some (j, want)⟩)
    (hj : (ops[j]?).bind (·.dst) = some dj) (hb : ρ dj = some undef) (hd : Nat.blt d n = true) (hR : rq ops act rd i = true → R w)
    (h : EPlan P n ops act rd R K p false (upd ρ d undef) w) : EPlan P n ops act rd R K (.fork i p .done) false ρ w :=
  ⟨⟨_, false, ho, ⟨dj, hj, .inr ⟨hb, rfl⟩⟩, hd, by simpa using ⟨hR, h⟩⟩, .inl rfl⟩

/-- One that changes the world, and that alone may come now. -/
theorem EP_act {i : Nat} {p : Plan} {d : Option Nat} {op : Op} {ty : TypeId} {pos : String} {aft : Array Edge} (ho : ops[i]? = some ⟨d, op, ty, pos, aft, none⟩) (hd : dstOk n d = true)
    (h : EOp P n ⟨d, op, ty, pos, aft, none⟩ (fun ρ' w' => (rq ops act rd i = true → R w') ∧ EPlan P n ops act rd R K p false ρ' w') ρ w) : EPlan P n ops act rd R K (.fork i p .done) false ρ w :=
  ⟨⟨_, true, ho, rfl, hd, by simpa using h⟩, .inl rfl⟩

theorem EP_actG {i : Nat} {p : Plan} {d : Option Nat} {op : Op} {ty : TypeId} {pos : String} {aft : Array Edge} {j : Nat} {want : Bool} {dj : Nat} {b : Bool} (ho : ops[i]? = some ⟨d, op, ty, pos, aft, some (j, want)⟩)
    (hj : (ops[j]?).bind (·.dst) = some dj) (hb : ρ dj = some (.bool b)) (hw : b = want) (hd : dstOk n d = true)
    (h : EOp P n ⟨d, op, ty, pos, aft, none⟩ (fun ρ' w' => (rq ops act rd i = true → R w') ∧ EPlan P n ops act rd R K p false ρ' w') ρ w) : EPlan P n ops act rd R K (.fork i p .done) false ρ w :=
  ⟨⟨_, true, ho, ⟨dj, hj, .inl ⟨b, hb, by simp [hw]⟩⟩, hd, by simp only [if_true]; exact h⟩, .inl rfl⟩

/-- Several may come now: each is looked at. -/
theorem EP_fork {i : Nat} {p q : Plan} {b' : Bool} {d : Option Nat} {op : Op} {ty : TypeId} {pos : String} {aft : Array Edge} (ho : ops[i]? = some ⟨d, op, ty, pos, aft, none⟩) (hd : dstOk n d = true)
    (h : EOp P n ⟨d, op, ty, pos, aft, none⟩ (fun ρ' w' => (rq ops act rd i = true → R w') ∧ EPlan P n ops act rd R K p false ρ' w') ρ w) (hq : EPlan P n ops act rd R K q true ρ w) : EPlan P n ops act rd R K (.fork i p q) b' ρ w :=
  ⟨⟨_, true, ho, rfl, hd, by simpa using h⟩, hq⟩
end
end Go.Proofs.YtpcojkbljgpecaaGreat
namespace Go.Proofs.YtpcojkbljgpecaaGreat
open Go

abbrev BL := List UInt8
def bstr (l : BL) : ByteArray := ⟨l.toArray⟩
/-- Is one text less than another one? -/
def bl (a b : BL) : Bool := Op.bytesLess a b

theorem toList_bstr (l : BL) : (bstr l).toList = l := by
  rw [ByteArray.toList_eq]; simp [bstr]

section
variable {P : Program} {n : Nat} {ρ : Env} {w : World} {d : Option Nat} {ty : TypeId} {pos : String} {aft : Array Edge} {v : Value}

theorem R_move {x : Operand} (hx : evO ρ x = some v) : RunV P n ⟨d, .move x, ty, pos, aft, none⟩ ρ w v := fun a ha => by
  simp only [execOp, ha.eval hx]; rfl
theorem R_assign {x : Operand} (hx : evO ρ x = some v) : RunV P n ⟨d, .assign x, ty, pos, aft, none⟩ ρ w v := fun a ha => by
  simp only [execOp, ha.eval hx]; rfl

theorem R_pickT {c x y : Operand} {b : Bool} (hc : evO ρ c = some (.bool b)) (hb : b = true) (hx : evO ρ x = some v) : RunV P n ⟨d, .pick c x y, ty, pos, aft, none⟩ ρ w v := fun a ha => by
  subst hb
  simp only [execOp, ha.eval hc, ha.eval hx]; rfl
theorem R_pickF {c x y : Operand} {b : Bool} (hc : evO ρ c = some (.bool b)) (hb : b = false) (hy : evO ρ y = some v) : RunV P n ⟨d, .pick c x y, ty, pos, aft, none⟩ ρ w v := fun a ha => by
  subst hb
  simp only [execOp, ha.eval hc, ha.eval hy]; rfl

theorem R_extract {x : Operand} {i : Nat} {vs : Array Value} (hx : evO ρ x = some (.tuple vs)) (hi : vs[i]? = some v) : RunV P n ⟨d, .extract x i, ty, pos, aft, none⟩ ρ w v := fun a ha => by
  simp only [execOp, ha.eval hx, Instr.extract, hi]; rfl

theorem R_nilCheck {x : Operand} {p : Addr} (hx : evO ρ x = some (.pointer (some p))) : RunV P n ⟨d, .nilCheck x, ty, pos, aft, none⟩ ρ w (.pointer (some p)) := fun a ha => by
  simp only [execOp, ha.eval hx]; rfl

/-! ### Integers -/
variable {x y : Operand} {t t' : TypeId} {k : IntKind} {p q : Int}

theorem R_add (hx : evO ρ x = some (.int k p)) (hy : evO ρ y = some (.int k q)) : RunV P n ⟨d, .binOp .add t x y t', ty, pos, aft, none⟩ ρ w (.int k (k.wrap (p + q))) := fun a ha => by
  simp [execOp, ha.eval hx, ha.eval hy, eqGuard, binOp, Op.intArith]
theorem R_sub (hx : evO ρ x = some (.int k p)) (hy : evO ρ y = some (.int k q)) : RunV P n ⟨d, .binOp .sub t x y t', ty, pos, aft, none⟩ ρ w (.int k (k.wrap (p - q))) := fun a ha => by
  simp [execOp, ha.eval hx, ha.eval hy, eqGuard, binOp, Op.intArith]
theorem R_mul (hx : evO ρ x = some (.int k p)) (hy : evO ρ y = some (.int k q)) : RunV P n ⟨d, .binOp .mul t x y t', ty, pos, aft, none⟩ ρ w (.int k (k.wrap (p * q))) := fun a ha => by
  simp [execOp, ha.eval hx, ha.eval hy, eqGuard, binOp, Op.intArith]

theorem wrap_i64 {z : Int} (h1 : -9223372036854775808 ≤ z) (h2 : z ≤ 9223372036854775807) : IntKind.i64.wrap z = z := IntWalk.i64_in z ⟨by omega, by omega⟩

theorem R_addI (hx : evO ρ x = some (.int .i64 p)) (hy : evO ρ y = some (.int .i64 q)) (h : -9223372036854775808 ≤ p + q ∧ p + q ≤ 9223372036854775807) : RunV P n ⟨d, .binOp .add t x y t', ty, pos, aft, none⟩ ρ w (.int .i64 (p + q)) := by
  have := R_add (P := P) (n := n) (ρ := ρ) (w := w) (d := d) (ty := ty) (pos := pos) (aft := aft) (t := t) (t' := t') hx hy
  rwa [wrap_i64 h.1 h.2] at this
theorem R_subI (hx : evO ρ x = some (.int .i64 p)) (hy : evO ρ y = some (.int .i64 q)) (h : -9223372036854775808 ≤ p - q ∧ p - q ≤ 9223372036854775807) : RunV P n ⟨d, .binOp .sub t x y t', ty, pos, aft, none⟩ ρ w (.int .i64 (p - q)) := by
  have := R_sub (P := P) (n := n) (ρ := ρ) (w := w) (d := d) (ty := ty) (pos := pos) (aft := aft) (t := t) (t' := t') hx hy
  rwa [wrap_i64 h.1 h.2] at this
theorem R_mulI (hx : evO ρ x = some (.int .i64 p)) (hy : evO ρ y = some (.int .i64 q)) (h : -9223372036854775808 ≤ p * q ∧ p * q ≤ 9223372036854775807) : RunV P n ⟨d, .binOp .mul t x y t', ty, pos, aft, none⟩ ρ w (.int .i64 (p * q)) := by
  have := R_mul (P := P) (n := n) (ρ := ρ) (w := w) (d := d) (ty := ty) (pos := pos) (aft := aft) (t := t) (t' := t') hx hy
  rwa [wrap_i64 h.1 h.2] at this

theorem R_lss (hx : evO ρ x = some (.int k p)) (hy : evO ρ y = some (.int k q)) : RunV P n ⟨d, .binOp .lss t x y t', ty, pos, aft, none⟩ ρ w (.bool (decide (p < q))) := fun a ha => by
  simp [execOp, ha.eval hx, ha.eval hy, eqGuard, binOp, Op.intCmp]
theorem R_leq (hx : evO ρ x = some (.int k p)) (hy : evO ρ y = some (.int k q)) : RunV P n ⟨d, .binOp .leq t x y t', ty, pos, aft, none⟩ ρ w (.bool (decide (p ≤ q))) := fun a ha => by
  simp [execOp, ha.eval hx, ha.eval hy, eqGuard, binOp, Op.intCmp]
theorem R_gtr (hx : evO ρ x = some (.int k p)) (hy : evO ρ y = some (.int k q)) : RunV P n ⟨d, .binOp .gtr t x y t', ty, pos, aft, none⟩ ρ w (.bool (decide (q < p))) := fun a ha => by
  simp [execOp, ha.eval hx, ha.eval hy, eqGuard, binOp, Op.intCmp]
theorem R_geq (hx : evO ρ x = some (.int k p)) (hy : evO ρ y = some (.int k q)) : RunV P n ⟨d, .binOp .geq t x y t', ty, pos, aft, none⟩ ρ w (.bool (decide (q ≤ p))) := fun a ha => by
  simp [execOp, ha.eval hx, ha.eval hy, eqGuard, binOp, Op.intCmp]
theorem R_eql (hx : evO ρ x = some (.int k p)) (hy : evO ρ y = some (.int k q)) : RunV P n ⟨d, .binOp .eql t x y t', ty, pos, aft, none⟩ ρ w (.bool (decide (p = q))) := fun a ha => by
  simp [execOp, ha.eval hx, ha.eval hy, eqGuard, binOp, Op.intCmp]
  rfl
theorem R_neq (hx : evO ρ x = some (.int k p)) (hy : evO ρ y = some (.int k q)) : RunV P n ⟨d, .binOp .neq t x y t', ty, pos, aft, none⟩ ρ w (.bool (decide (p ≠ q))) := fun a ha => by
  simp [execOp, ha.eval hx, ha.eval hy, eqGuard, binOp, Op.intCmp, bne]
  by_cases h : p = q <;> simp [h]

theorem R_quoI (hx : evO ρ x = some (.int .i64 p)) (hy : evO ρ y = some (.int .i64 q)) (h0 : 0 ≤ p) (h1 : 0 < q) (h2 : p ≤ 9223372036854775807) : RunV P n ⟨d, .binOp .quo t x y t', ty, pos, aft, none⟩ ρ w (.int .i64 (p / q)) := fun a ha => by
  have hq : q ≠ 0 := by omega
  have hd : p.tdiv q = p / q := Int.tdiv_eq_ediv_of_nonneg h0
  have hb : p / q ≤ p := Int.ediv_le_self _ h0
  have hb0 : 0 ≤ p / q := Int.ediv_nonneg h0 (by omega)
  simp [execOp, ha.eval hx, ha.eval hy, eqGuard, binOp, Op.intDiv, hq, hd]
  exact wrap_i64 (by omega) (by omega)
theorem R_remI (hx : evO ρ x = some (.int .i64 p)) (hy : evO ρ y = some (.int .i64 q)) (h0 : 0 ≤ p) (h1 : 0 < q) (h2 : q ≤ 9223372036854775807) : RunV P n ⟨d, .binOp .rem t x y t', ty, pos, aft, none⟩ ρ w (.int .i64 (p % q)) := fun a ha => by
  have hq : q ≠ 0 := by omega
  have hd : p.tmod q = p % q := Int.tmod_eq_emod_of_nonneg h0
  have hb : p % q < q := Int.emod_lt_of_pos _ h1
  have hb0 : 0 ≤ p % q := Int.emod_nonneg _ hq
  simp [execOp, ha.eval hx, ha.eval hy, eqGuard, binOp, Op.intDiv, hq, hd]
  try exact wrap_i64 (by omega) (by omega)

theorem R_not {b : Bool} (hx : evO ρ x = some (.bool b)) : RunV P n ⟨d, .unOp .not t x, ty, pos, aft, none⟩ ρ w (.bool (!b)) := fun a ha => by
  simp [execOp, ha.eval hx, Op.unary]

theorem R_convI {k' : IntKind} {s u : TypeId} {ds : TypeDesc} (hs : P.underlying s = some ds) (hu : P.underlying u = some (.int k')) (hx : evO ρ x = some (.int k p)) : RunV P n ⟨d, .convert s u x, ty, pos, aft, none⟩ ρ w (.int k' (k'.wrap p)) := fun a ha => by
  simp [execOp, ha.eval hx, convert, run_underlying hs, run_underlying hu, Conv.intToInt, Sem.run_bind]

/-! ### Strings: lists of bytes -/
theorem R_strEql {s u : BL} (hx : evO ρ x = some (.string (bstr s))) (hy : evO ρ y = some (.string (bstr u))) : RunV P n ⟨d, .binOp .eql t x y t', ty, pos, aft, none⟩ ρ w (.bool (decide (s = u))) := fun a ha => by
  simp [execOp, ha.eval hx, ha.eval hy, eqGuard, binOp, Op.stringOp, toList_bstr]
  by_cases h : s = u <;> simp [h]
theorem R_strNeq {s u : BL} (hx : evO ρ x = some (.string (bstr s))) (hy : evO ρ y = some (.string (bstr u))) : RunV P n ⟨d, .binOp .neq t x y t', ty, pos, aft, none⟩ ρ w (.bool (decide (s ≠ u))) := fun a ha => by
  simp [execOp, ha.eval hx, ha.eval hy, eqGuard, binOp, Op.stringOp, toList_bstr]
  by_cases h : s = u <;> simp [h]
theorem R_strLss {s u : BL} (hx : evO ρ x = some (.string (bstr s))) (hy : evO ρ y = some (.string (bstr u))) : RunV P n ⟨d, .binOp .lss t x y t', ty, pos, aft, none⟩ ρ w (.bool (bl s u)) := fun a ha => by
  simp [execOp, ha.eval hx, ha.eval hy, eqGuard, binOp, Op.stringOp, toList_bstr, bl]
theorem R_strGeq {s u : BL} (hx : evO ρ x = some (.string (bstr s))) (hy : evO ρ y = some (.string (bstr u))) : RunV P n ⟨d, .binOp .geq t x y t', ty, pos, aft, none⟩ ρ w (.bool (!bl s u)) := fun a ha => by
  simp [execOp, ha.eval hx, ha.eval hy, eqGuard, binOp, Op.stringOp, toList_bstr, bl]

/-! ### Addresses, lengths -/
theorem R_lenS {sa : Option Addr} {m c : Nat} {e : TypeId} (hu : P.underlying t = some (.slice e)) (hx : evO ρ x = some (.slice sa m c)) : RunV P n ⟨d, .call ⟨.builtin .len, #[x], #[t]⟩, ty, pos, aft, none⟩ ρ w (.int .i64 m) := fun a ha => by
  simp [execOp, resolve, invoke, builtin, Builtin.len_, ha.eval hx, run_underlying hu, Sem.run_bind, goInt]
theorem R_lenStr {s : ByteArray} (hu : P.underlying t = some .string) (hx : evO ρ x = some (.string s)) : RunV P n ⟨d, .call ⟨.builtin .len, #[x], #[t]⟩, ty, pos, aft, none⟩ ρ w (.int .i64 s.size) := fun a ha => by
  simp [execOp, resolve, invoke, builtin, Builtin.len_, ha.eval hx, run_underlying hu, Sem.run_bind, goInt]

theorem R_min {t1 t2 : TypeId} (hx : evO ρ x = some (.int k p)) (hy : evO ρ y = some (.int k q)) : RunV P n ⟨d, .call ⟨.builtin .min, #[x, y], #[t1, t2]⟩, ty, pos, aft, none⟩ ρ w (.int k (min p q)) := fun a ha => by
  simp [execOp, resolve, invoke, builtin, Builtin.min_, Builtin.min2, ha.eval hx, ha.eval hy]
  by_cases h : q < p
  · rw [if_pos h]; omega
  · rw [if_neg h]; omega
theorem R_max {t1 t2 : TypeId} (hx : evO ρ x = some (.int k p)) (hy : evO ρ y = some (.int k q)) : RunV P n ⟨d, .call ⟨.builtin .max, #[x, y], #[t1, t2]⟩, ty, pos, aft, none⟩ ρ w (.int k (max p q)) := fun a ha => by
  simp [execOp, resolve, invoke, builtin, Builtin.max_, Builtin.max2, ha.eval hx, ha.eval hy]
  by_cases h : p < q
  · rw [if_pos h]; omega
  · rw [if_neg h]; omega

/-- The offset, in cells, of a field that is not of size 0. -/
def fieldOff (P : Program) (s : TypeId) (f : Nat) : Option Nat :=
  match P.underlying s with
  | some (.struct fs) => match fs[f]? with
    | some fd => match P.info? fd.type with
      | some i => if i.size = 0 then none else some fd.offset
      | none => none
    | none => none
  | _ => none

theorem R_fieldAddr {s f off : Nat} {ad : Addr} (ho : fieldOff P s f = some off) (hx : evO ρ x = some (.pointer (some ad))) : RunV P n ⟨d, .fieldAddr s x f, ty, pos, aft, none⟩ ρ w (.pointer (some (ad.add off))) := fun a ha => by
  unfold fieldOff at ho
  split at ho
  · rename_i fs hu
    split at ho
    · rename_i fd hf
      split at ho
      · rename_i i hi
        split at ho
        · cases ho
        · rename_i hs
          obtain rfl := Option.some.inj ho
          simp [execOp, ha.eval hx, Instr.fieldAt, run_underlying hu, Sem.run_bind, hf, Instr.sureAddr, fieldPlace, sizeOf, typeInfo, hi, hs]
      · cases ho
    · cases ho
  · cases ho

/-- An element of a slice: its type's size in cells. -/
def elemSize (P : Program) (t : TypeId) : Option Nat :=
  match P.underlying t with
  | some (.slice e) => (P.info? e).map (·.size)
  | _ => none

theorem R_indexAddr {ad : Addr} {m c sz : Nat} {i : Int} (hs : elemSize P t = some sz) (hx : evO ρ x = some (.slice (some ad) m c)) (hy : evO ρ y = some (.int k i)) (hi : 0 ≤ i ∧ i < m) :
    RunV P n ⟨d, .indexAddr t x y, ty, pos, aft, none⟩ ρ w (.pointer (some (ad.add (i.toNat * sz)))) := fun a ha => by
  unfold elemSize at hs
  split at hs
  · rename_i e hu
    obtain ⟨inf, hinf, hsz⟩ := Option.map_eq_some_iff.1 hs
    subst hsz
    simp [execOp, ha.eval hx, ha.eval hy, Instr.indexAt, asIntOf, run_underlying hu, Sem.run_bind, hi, sizeOf, typeInfo, hinf]
  · cases hs

def arrSize (P : Program) (t : TypeId) : Option (Nat × Nat) :=
  match P.underlying t with
  | some (.array m e) => (P.info? e).map fun i => (m, i.size)
  | _ => none

theorem R_indexAddrA {ad : Addr} {m sz : Nat} {i : Int} (hs : arrSize P t = some (m, sz)) (hx : evO ρ x = some (.pointer (some ad))) (hy : evO ρ y = some (.int k i)) (hi : 0 ≤ i ∧ i < m) :
    RunV P n ⟨d, .indexAddr t x y, ty, pos, aft, none⟩ ρ w (.pointer (some (ad.add (i.toNat * sz)))) := fun a ha => by
  unfold arrSize at hs
  split at hs
  · rename_i m' e hu
    obtain ⟨inf, hinf, hsz⟩ := Option.map_eq_some_iff.1 hs
    simp only [Prod.mk.injEq] at hsz
    obtain ⟨rfl, rfl⟩ := hsz
    simp [execOp, ha.eval hx, ha.eval hy, Instr.indexAt, asIntOf, run_underlying hu, Sem.run_bind, hi, sizeOf, typeInfo, hinf, Instr.sureAddr]
  · cases hs

theorem R_indexStr {s : ByteArray} {i : Int} {b : UInt8} (hu : P.underlying t = some .string) (hx : evO ρ x = some (.string s)) (hy : evO ρ y = some (.int k i)) (h0 : 0 ≤ i) (hb : s[i.toNat]? = some b) :
    RunV P n ⟨d, .index t x y, ty, pos, aft, none⟩ ρ w (.int .u8 b.toNat) := fun a ha => by
  simp [execOp, ha.eval hx, ha.eval hy, Instr.index, asIntOf, run_underlying hu, Sem.run_bind, h0, hb]

/-- Where a slice's address goes when it is cut at l. -/
def cutAt (ao : Option Addr) (c l sz : Nat) : Option Addr := if c = l then ao else ao.map (·.add (l * sz))

end
end Go.Proofs.YtpcojkbljgpecaaGreat
namespace Go.Proofs.YtpcojkbljgpecaaGreat
open Go

/-- A statement on some blocks of the heap. -/
structure Asn where
  foot : Nat → Prop
  P : World → Prop
  st : ∀ w w', (∀ k, foot k → w'.heap[k]? = w.heap[k]?) → P w → P w'

def footL (l : List Asn) (k : Nat) : Prop := ∃ a, a ∈ l ∧ a.foot k

/-- A block of its own, known whole. -/
def blk (b : Nat) (c : Array Value) (t : TypeId) : Asn :=
  ⟨fun k => k = b, fun w => w.heap[b]? = some (.cells c t (0, 0)), fun w w' h hp => by rw [h b rfl]; exact hp⟩

/-- The state of a walk: W: the world in which the call began; F: which of its blocks may be written; D: which of its blocks are only read; es: what is owned; ds: what is only read. -/
structure St (W : World) (F D : Nat → Prop) (es ds : List Asn) (w : World) : Prop where
  os : w.os = W.os
  tape : w.tape = W.tape
  output : w.output = W.output
  size : W.heap.size ≤ w.heap.size
  frame : ∀ k, k < W.heap.size → ¬ F k → w.heap[k]? = W.heap[k]?
  eh : ∀ a, a ∈ es → a.P w
  dh : ∀ a, a ∈ ds → a.P w
  ef : ∀ a, a ∈ es → ∀ k, a.foot k → k < w.heap.size ∧ (k < W.heap.size → F k)
  df : ∀ a, a ∈ ds → ∀ k, a.foot k → k < w.heap.size ∧ (k < W.heap.size → D k ∨ F k)
  ee : es.Pairwise (fun a b => ∀ k, a.foot k → ¬ b.foot k)
  ed : ∀ a, a ∈ es → ∀ d, d ∈ ds → ∀ k, a.foot k → ¬ d.foot k

section
variable {W : World} {F D : Nat → Prop} {es ds : List Asn} {w w' : World}

theorem pairwise_set {α : Type} {R : α → α → Prop} {l : List α} {i : Nat} {a a' : α} (h : l.Pairwise R) (hi : l[i]? = some a)
    (h1 : ∀ x, x ∈ l → R x a → R x a') (h2 : ∀ x, x ∈ l → R a x → R a' x) : (l.set i a').Pairwise R := by
  induction l generalizing i with
  | nil => cases hi
  | cons x l ih =>
    rw [List.pairwise_cons] at h
    cases i with
    | zero =>
      simp only [List.getElem?_cons_zero, Option.some.injEq] at hi
      subst hi
      rw [List.set_cons_zero, List.pairwise_cons]
      exact ⟨fun y hy => h2 y (List.mem_cons_of_mem _ hy) (h.1 y hy), h.2⟩
    | succ i =>
      simp only [List.getElem?_cons_succ] at hi
      rw [List.set_cons_succ, List.pairwise_cons]
      refine ⟨fun y hy => ?_, ih h.2 hi (fun y hy => h1 y (List.mem_cons_of_mem _ hy)) (fun y hy => h2 y (List.mem_cons_of_mem _ hy))⟩
      rcases List.mem_or_eq_of_mem_set hy with hy | rfl
      · exact h.1 y hy
      · exact h1 x List.mem_cons_self (h.1 a (List.mem_of_getElem? hi))

/-- One of the owned pieces turns, and new blocks may come. -/
theorem St.change (hs : St W F D es ds w) {i : Nat} {a : Asn} (hi : es[i]? = some a) (a' : Asn) (ho : w'.os = w.os) (ht : w'.tape = w.tape) (hout : w'.output = w.output) (hsz : w.heap.size ≤ w'.heap.size)
    (hsame : ∀ k, k < w.heap.size → ¬ a.foot k → w'.heap[k]? = w.heap[k]?) (hP : a'.P w') (hf : ∀ k, a'.foot k → (a.foot k ∨ w.heap.size ≤ k) ∧ k < w'.heap.size) : St W F D (es.set i a') ds w' := by
  have ha : a ∈ es := List.mem_of_getElem? hi
  have hother : ∀ b, b ∈ es → (∀ k, a.foot k → ¬ b.foot k) → b.P w' := fun b hb hab =>
    b.st w w' (fun k hk => hsame k (hs.ef b hb k hk).1 (fun hak => hab k hak hk)) (hs.eh b hb)
  -- each member of the new list is the new piece, or an old one apart from the old piece
  have hmem : ∀ b, b ∈ es.set i a' → b = a' ∨ (b ∈ es ∧ ∀ k, a.foot k → ¬ b.foot k) := by
    intro b hb
    obtain ⟨j, hj, hjb⟩ := List.getElem_of_mem hb
    rw [List.length_set] at hj
    by_cases hij : i = j
    · left; subst hij; rw [← hjb, List.getElem_set_self]
    · right
      rw [List.getElem_set_ne hij] at hjb
      refine ⟨hjb ▸ List.getElem_mem hj, fun k hak hbk => ?_⟩
      have hil := (List.getElem?_eq_some_iff.1 hi)
      obtain ⟨hil, hia⟩ := hil
      have hp := List.pairwise_iff_getElem.1 hs.ee
      rcases Nat.lt_or_gt_of_ne hij with h | h
      · exact hp i j hil hj h k (hia ▸ hak) (hjb ▸ hbk)
      · exact hp j i hj hil h k (hjb ▸ hbk) (hia ▸ hak)
  refine ⟨ho.trans hs.os, ht.trans hs.tape, hout.trans hs.output, Nat.le_trans hs.size hsz, ?_, ?_, ?_, ?_, ?_, ?_, ?_⟩
  · intro k hk hF
    rw [hsame k (Nat.lt_of_lt_of_le hk hs.size) (fun hak => hF ((hs.ef a ha k hak).2 hk)), hs.frame k hk hF]
  · intro b hb
    rcases hmem b hb with rfl | ⟨hb, hab⟩
    · exact hP
    · exact hother b hb hab
  · intro d hd
    exact d.st w w' (fun k hk => hsame k (hs.df d hd k hk).1 (fun hak => hs.ed a ha d hd k hak hk)) (hs.dh d hd)
  · intro b hb k hk
    rcases hmem b hb with rfl | ⟨hb, _⟩
    · refine ⟨(hf k hk).2, fun hkW => ?_⟩
      rcases (hf k hk).1 with h | h
      · exact (hs.ef a ha k h).2 hkW
      · exact absurd (Nat.lt_of_lt_of_le hkW (Nat.le_trans hs.size h)) (Nat.lt_irrefl _)
    · exact ⟨Nat.lt_of_lt_of_le (hs.ef b hb k hk).1 hsz, (hs.ef b hb k hk).2⟩
  · intro d hd k hk
    exact ⟨Nat.lt_of_lt_of_le (hs.df d hd k hk).1 hsz, (hs.df d hd k hk).2⟩
  · refine pairwise_set hs.ee hi (fun x hx hxa k hxk ha'k => ?_) (fun x hx hax k ha'k hxk => ?_)
    · rcases (hf k ha'k).1 with h | h
      · exact hxa k hxk h
      · exact absurd (hs.ef x hx k hxk).1 (Nat.not_lt.2 h)
    · rcases (hf k ha'k).1 with h | h
      · exact hax k h hxk
      · exact absurd (hs.ef x hx k hxk).1 (Nat.not_lt.2 h)
  · intro b hb d hd k hbk hdk
    rcases hmem b hb with rfl | ⟨hb, _⟩
    · rcases (hf k hbk).1 with h | h
      · exact hs.ed a ha d hd k h hdk
      · exact absurd (hs.df d hd k hdk).1 (Nat.not_lt.2 h)
    · exact hs.ed b hb d hd k hbk hdk

/-- New blocks alone. -/
theorem St.grow (hs : St W F D es ds w) (ho : w'.os = w.os) (ht : w'.tape = w.tape) (hout : w'.output = w.output) (hsz : w.heap.size ≤ w'.heap.size)
    (hsame : ∀ k, k < w.heap.size → w'.heap[k]? = w.heap[k]?) : St W F D es ds w' :=
  ⟨ho.trans hs.os, ht.trans hs.tape, hout.trans hs.output, Nat.le_trans hs.size hsz,
    fun k hk hF => by rw [hsame k (Nat.lt_of_lt_of_le hk hs.size), hs.frame k hk hF],
    fun b hb => b.st w w' (fun k hk => hsame k (hs.ef b hb k hk).1) (hs.eh b hb),
    fun d hd => d.st w w' (fun k hk => hsame k (hs.df d hd k hk).1) (hs.dh d hd),
    fun b hb k hk => ⟨Nat.lt_of_lt_of_le (hs.ef b hb k hk).1 hsz, (hs.ef b hb k hk).2⟩,
    fun d hd k hk => ⟨Nat.lt_of_lt_of_le (hs.df d hd k hk).1 hsz, (hs.df d hd k hk).2⟩, hs.ee, hs.ed⟩

/-- A piece that is new. -/
theorem St.add (hs : St W F D es ds w) (a' : Asn) (hP : a'.P w) (hf : ∀ k, a'.foot k → k < w.heap.size ∧ (k < W.heap.size → F k) ∧ (∀ a, a ∈ es → ¬ a.foot k) ∧ (∀ d, d ∈ ds → ¬ d.foot k)) : St W F D (es ++ [a']) ds w := by
  refine ⟨hs.os, hs.tape, hs.output, hs.size, hs.frame, ?_, hs.dh, ?_, hs.df, ?_, ?_⟩
  · intro b hb
    rcases List.mem_append.1 hb with hb | hb
    · exact hs.eh b hb
    · obtain rfl := List.mem_singleton.1 hb; exact hP
  · intro b hb k hk
    rcases List.mem_append.1 hb with hb | hb
    · exact hs.ef b hb k hk
    · obtain rfl := List.mem_singleton.1 hb; exact ⟨(hf k hk).1, (hf k hk).2.1⟩
  · rw [List.pairwise_append]
    refine ⟨hs.ee, List.pairwise_singleton _ _, fun x hx y hy k hxk hyk => ?_⟩
    obtain rfl := List.mem_singleton.1 hy
    exact (hf k hyk).2.2.1 x hx hxk
  · intro b hb d hd k hbk hdk
    rcases List.mem_append.1 hb with hb | hb
    · exact hs.ed b hb d hd k hbk hdk
    · obtain rfl := List.mem_singleton.1 hb; exact (hf k hbk).2.2.2 d hd hdk

theorem heap_alloc (w : World) (o : Obj) : (w.alloc o).heap = w.heap.push o := rfl

/-- A new block. -/
theorem St.push (hs : St W F D es ds w) (c : Array Value) (t : TypeId) : St W F D (es ++ [blk w.heap.size c t]) ds (w.alloc (.cells c t)) := by
  have h1 : St W F D es ds (w.alloc (.cells c t)) := hs.grow rfl rfl rfl (by rw [heap_alloc]; simp) (fun k hk => by show (w.heap.push _)[k]? = _; rw [Array.getElem?_push, if_neg (Nat.ne_of_lt hk)])
  refine h1.add _ (heap_alloc_new w _) (fun k hk => ?_)
  obtain rfl : k = w.heap.size := hk
  exact ⟨by rw [heap_alloc]; simp, fun h => absurd (Nat.lt_of_lt_of_le h hs.size) (Nat.lt_irrefl _), fun a ha hk => absurd (hs.ef a ha _ hk).1 (Nat.lt_irrefl _), fun d hd hk => absurd (hs.df d hd _ hk).1 (Nat.lt_irrefl _)⟩

theorem St.drew (hs : St W F D es ds w) : St W F D es ds { w with drawn := w.drawn + 1 } := hs.grow rfl rfl rfl (Nat.le_refl _) (fun _ _ => rfl)

/-- One more that is only read. -/
theorem St.data (hs : St W F D es ds w) (d' : Asn) (hP : d'.P w) (hf : ∀ k, d'.foot k → k < w.heap.size ∧ (k < W.heap.size → D k ∨ F k) ∧ (∀ a, a ∈ es → ¬ a.foot k)) : St W F D es (ds ++ [d']) w := by
  refine ⟨hs.os, hs.tape, hs.output, hs.size, hs.frame, hs.eh, ?_, hs.ef, ?_, hs.ee, ?_⟩
  · intro b hb
    rcases List.mem_append.1 hb with hb | hb
    · exact hs.dh b hb
    · obtain rfl := List.mem_singleton.1 hb; exact hP
  · intro b hb k hk
    rcases List.mem_append.1 hb with hb | hb
    · exact hs.df b hb k hk
    · obtain rfl := List.mem_singleton.1 hb; exact ⟨(hf k hk).1, (hf k hk).2.1⟩
  · intro b hb d hd k hbk hdk
    rcases List.mem_append.1 hd with hd | hd
    · exact hs.ed b hb d hd k hbk hdk
    · obtain rfl := List.mem_singleton.1 hd; exact (hf k hdk).2.2 b hb hbk

/-- What follows of something that is only read. -/
theorem St.derive (hs : St W F D es ds w) {d : Asn} (hd : d ∈ ds) (d' : Asn) (hP : d.P w → d'.P w) (hf : ∀ k, d'.foot k → d.foot k) : St W F D es (ds ++ [d']) w :=
  hs.data d' (hP (hs.dh d hd)) (fun k hk => ⟨(hs.df d hd k (hf k hk)).1, (hs.df d hd k (hf k hk)).2, fun a ha hak => hs.ed a ha d hd k hak (hf k hk)⟩)

/-- An owned piece that is only read from now on. -/
theorem St.freeze (hs : St W F D es ds w) {i : Nat} {a : Asn} (hi : es[i]? = some a) (d' : Asn) (hP : a.P w → d'.P w) (hf : ∀ k, d'.foot k → a.foot k) : St W F D (es.eraseIdx i) (ds ++ [d']) w := by
  have ha : a ∈ es := List.mem_of_getElem? hi
  have hsub : (es.eraseIdx i).Sublist es := List.eraseIdx_sublist es i
  have hap : ∀ b, b ∈ es.eraseIdx i → ∀ k, a.foot k → ¬ b.foot k := by
    intro b hb k hak hbk
    rw [List.mem_eraseIdx_iff_getElem] at hb
    obtain ⟨j, hj, hji, rfl⟩ := hb
    obtain ⟨hil, rfl⟩ := List.getElem?_eq_some_iff.1 hi
    have hp := List.pairwise_iff_getElem.1 hs.ee
    rcases Nat.lt_or_gt_of_ne hji with h | h
    · exact hp j i hj hil h k hbk hak
    · exact hp i j hil hj h k hak hbk
  have h1 : St W F D (es.eraseIdx i) ds w := ⟨hs.os, hs.tape, hs.output, hs.size, hs.frame, fun b hb => hs.eh b (hsub.subset hb), hs.dh, fun b hb => hs.ef b (hsub.subset hb), hs.df, hs.ee.sublist hsub, fun b hb => hs.ed b (hsub.subset hb)⟩
  exact h1.data d' (hP (hs.eh a ha)) (fun k hk => ⟨(hs.ef a ha k (hf k hk)).1, fun h => .inr ((hs.ef a ha k (hf k hk)).2 h), fun b hb hbk => hap b hb k (hf k hk) hbk⟩)

/-- Those of a list that a mask picks. -/
def sel {α : Type} : List Bool → List α → List α
  | true :: m, a :: l => a :: sel m l
  | false :: m, _ :: l => sel m l
  | _, _ => []

/-- What a mask picks is replaced, in order; what is over comes behind. -/
def merge {α : Type} : List Bool → List α → List α → List α
  | true :: m, _ :: l, b :: new => b :: merge m l new
  | true :: m, _ :: l, [] => merge m l []
  | false :: m, a :: l, new => a :: merge m l new
  | _, l, new => l ++ new

/-- Those of a list at some places. -/
def pickD {α : Type} (js : List Nat) (l : List α) : List α := js.filterMap (l[·]?)

theorem mem_pickD {α : Type} {js : List Nat} {l : List α} {x : α} (h : x ∈ pickD js l) : x ∈ l := by
  unfold pickD at h
  obtain ⟨j, _, hj⟩ := List.mem_filterMap.1 h
  exact List.mem_of_getElem? hj

theorem sel_sub {α : Type} : ∀ (m : List Bool) (l : List α), (sel m l).Sublist l
  | [], [] => .slnil
  | [], _ :: _ => by simp [sel]
  | true :: _, [] => .slnil
  | false :: _, [] => .slnil
  | true :: m, a :: l => by rw [sel]; exact (sel_sub m l).cons_cons a
  | false :: m, a :: l => by rw [sel]; exact (sel_sub m l).cons a

theorem mem_sel {α : Type} {m : List Bool} {l : List α} {x : α} (h : x ∈ sel m l) : x ∈ l := (sel_sub m l).subset h

/-- Fewer pieces. -/
theorem St.fin (hs : St W F D es ds w) (m : List Bool) (js : List Nat) : St W F D (sel m es) (pickD js ds) w :=
  ⟨hs.os, hs.tape, hs.output, hs.size, hs.frame, fun a ha => hs.eh a (mem_sel ha), fun a ha => hs.dh a (mem_pickD ha), fun a ha => hs.ef a (mem_sel ha), fun a ha => hs.df a (mem_pickD ha),
    hs.ee.sublist (sel_sub m es), fun a ha d hd => hs.ed a (mem_sel ha) d (mem_pickD hd)⟩

/-- The state in which a callee begins. -/
theorem St.enter (hs : St W F D es ds w) (m : List Bool) (js : List Nat) : St w (footL (sel m es)) (fun k => ¬ footL es k ∧ (k < W.heap.size → D k ∨ F k)) (sel m es) (pickD js ds) w :=
  ⟨rfl, rfl, rfl, Nat.le_refl _, fun _ _ _ => rfl, fun a ha => hs.eh a (mem_sel ha), fun a ha => hs.dh a (mem_pickD ha), fun a ha k hk => ⟨(hs.ef a (mem_sel ha) k hk).1, fun _ => ⟨a, ha, hk⟩⟩,
    fun d hd k hk => ⟨(hs.df d (mem_pickD hd) k hk).1, fun _ => .inl ⟨fun ⟨a, ha, hak⟩ => hs.ed a ha d (mem_pickD hd) k hak hk, (hs.df d (mem_pickD hd) k hk).2⟩⟩,
    hs.ee.sublist (sel_sub m es), fun a ha d hd => hs.ed a (mem_sel ha) d (mem_pickD hd)⟩

/-- A piece of the caller's that the callee was not handed is apart from those that it was. -/
theorem mem_merge {R : Asn → Asn → Prop} (hsym : ∀ x y, R x y → R y x) {m : List Bool} {es es1 : List Asn} {x : Asn} (hpw : es.Pairwise R) : x ∈ merge m es es1 → x ∈ es1 ∨ (x ∈ es ∧ ∀ y, y ∈ sel m es → R x y) := by
  induction m generalizing es es1 with
  | nil =>
    intro h
    cases es with
    | nil => left; simpa [merge] using h
    | cons a l =>
      simp only [merge, List.mem_append] at h
      rcases h with h | h
      · right; exact ⟨h, fun y hy => by simp [sel] at hy⟩
      · left; exact h
  | cons b m ih =>
    intro h
    cases es with
    | nil => left; cases b <;> simpa [merge] using h
    | cons a l =>
      rw [List.pairwise_cons] at hpw
      cases b with
      | true =>
        have key : ∀ es2 : List Asn, x ∈ merge m l es2 → x ∈ es2 ∨ (x ∈ a :: l ∧ ∀ y, y ∈ sel (true :: m) (a :: l) → R x y) := fun es2 h => by
          rcases ih hpw.2 h with h | ⟨hx, hp⟩
          · exact .inl h
          · refine .inr ⟨List.mem_cons_of_mem _ hx, fun y hy => ?_⟩
            rw [sel] at hy
            rcases List.mem_cons.1 hy with rfl | hy
            · exact hsym _ _ (hpw.1 x hx)
            · exact hp y hy
        cases es1 with
        | nil => simp only [merge] at h; exact key [] h
        | cons c es1 =>
          simp only [merge, List.mem_cons] at h
          rcases h with rfl | h
          · exact .inl List.mem_cons_self
          · exact (key es1 h).imp (List.mem_cons_of_mem _) id
      | false =>
        simp only [merge, List.mem_cons] at h
        rcases h with rfl | h
        · right
          refine ⟨List.mem_cons_self, fun y hy => ?_⟩
          rw [sel] at hy
          exact hpw.1 y (mem_sel hy)
        · rcases ih hpw.2 h with h | ⟨hx, hp⟩
          · exact .inl h
          · exact .inr ⟨List.mem_cons_of_mem _ hx, fun y hy => by rw [sel] at hy; exact hp y hy⟩

theorem pairwise_merge {R : Asn → Asn → Prop} (hsym : ∀ x y, R x y → R y x) {m : List Bool} {es es1 : List Asn} (h : es.Pairwise R) (h1 : es1.Pairwise R)
    (hx : ∀ x, x ∈ es → (∀ y, y ∈ sel m es → R x y) → ∀ y, y ∈ es1 → R x y) : (merge m es es1).Pairwise R := by
  induction m generalizing es es1 with
  | nil =>
    cases es with
    | nil => simpa [merge] using h1
    | cons a l =>
      simp only [merge]
      rw [List.pairwise_append]
      exact ⟨h, h1, fun x hxm y hy => hx x hxm (fun y hy => by simp [sel] at hy) y hy⟩
  | cons b m ih =>
    cases es with
    | nil => cases b <;> simpa [merge] using h1
    | cons a l =>
      rw [List.pairwise_cons] at h
      cases b with
      | true =>
        have up : ∀ x, x ∈ l → (∀ y, y ∈ sel m l → R x y) → ∀ z, z ∈ sel (true :: m) (a :: l) → R x z := fun x hxl hy z hz => by
          rw [sel] at hz
          rcases List.mem_cons.1 hz with rfl | hz
          · exact hsym _ _ (h.1 x hxl)
          · exact hy z hz
        cases es1 with
        | nil => simp only [merge]; exact ih h.2 h1 (fun x hxl hy y hye => by cases hye)
        | cons c es1 =>
          rw [List.pairwise_cons] at h1
          simp only [merge]
          rw [List.pairwise_cons]
          refine ⟨fun x hxm => ?_, ih h.2 h1.2 (fun x hxl hy y hye => hx x (List.mem_cons_of_mem _ hxl) (up x hxl hy) y (List.mem_cons_of_mem _ hye))⟩
          rcases mem_merge hsym h.2 hxm with hxe | ⟨hxl, hy⟩
          · exact h1.1 x hxe
          · exact hsym _ _ (hx x (List.mem_cons_of_mem _ hxl) (up x hxl hy) c List.mem_cons_self)
      | false =>
        simp only [merge]
        rw [List.pairwise_cons]
        refine ⟨fun x hxm => ?_, ih h.2 h1 (fun x hxl hy y hye => hx x (List.mem_cons_of_mem _ hxl) (fun z hz => by rw [sel] at hz; exact hy z hz) y hye)⟩
        rcases mem_merge hsym h.2 hxm with hxe | ⟨hxl, hy⟩
        · exact hx a List.mem_cons_self (fun y hy => by rw [sel] at hy; exact h.1 y (mem_sel hy)) x hxe
        · exact h.1 x hxl

theorem apart_symm (x y : Asn) (h : ∀ k, x.foot k → ¬ y.foot k) : ∀ k, y.foot k → ¬ x.foot k := fun k hy hx => h k hx hy

/-- The state behind a call. -/
theorem St.leave (hs : St W F D es ds w) (m : List Bool) {es1 ds1 : List Asn}
    (hc : St w (footL (sel m es)) (fun k => ¬ footL es k ∧ (k < W.heap.size → D k ∨ F k)) es1 ds1 w') : St W F D (merge m es es1) (ds ++ ds1) w' := by
  have hkeep : ∀ k, k < w.heap.size → ¬ footL (sel m es) k → w'.heap[k]? = w.heap[k]? := fun k hk hf => hc.frame k hk hf
  -- where a piece that the callee hands back may lie
  have hnew : ∀ a, a ∈ es1 → ∀ k, a.foot k → k < w'.heap.size ∧ (footL (sel m es) k ∨ w.heap.size ≤ k) := fun a ha k hk =>
    ⟨(hc.ef a ha k hk).1, (Nat.lt_or_ge k w.heap.size).imp (fun h => (hc.ef a ha k hk).2 h) id⟩
  have hold : ∀ x, x ∈ es → (∀ y, y ∈ sel m es → ∀ k, x.foot k → ¬ y.foot k) → ∀ k, x.foot k → ¬ footL (sel m es) k := fun x _ hy k hk ⟨y, hym, hyk⟩ => hy y hym k hk hyk
  refine ⟨hc.os.trans hs.os, hc.tape.trans hs.tape, hc.output.trans hs.output, Nat.le_trans hs.size hc.size, ?_, ?_, ?_, ?_, ?_, ?_, ?_⟩
  · intro k hk hF
    rw [hkeep k (Nat.lt_of_lt_of_le hk hs.size) (fun ⟨a, ha, hak⟩ => hF ((hs.ef a (mem_sel ha) k hak).2 hk)), hs.frame k hk hF]
  · intro a ha
    rcases mem_merge apart_symm hs.ee ha with ha | ⟨ha, hy⟩
    · exact hc.eh a ha
    · exact a.st w w' (fun k hk => hkeep k (hs.ef a ha k hk).1 (hold a ha hy k hk)) (hs.eh a ha)
  · intro d hd
    rcases List.mem_append.1 hd with hd | hd
    · exact d.st w w' (fun k hk => hkeep k (hs.df d hd k hk).1 (fun ⟨a, ha, hak⟩ => hs.ed a (mem_sel ha) d hd k hak hk)) (hs.dh d hd)
    · exact hc.dh d hd
  · intro a ha k hk
    rcases mem_merge apart_symm hs.ee ha with ha | ⟨ha, hy⟩
    · refine ⟨(hnew a ha k hk).1, fun hkW => ?_⟩
      rcases (hnew a ha k hk).2 with ⟨b, hb, hbk⟩ | h
      · exact (hs.ef b (mem_sel hb) k hbk).2 hkW
      · exact absurd (Nat.lt_of_lt_of_le hkW (Nat.le_trans hs.size h)) (Nat.lt_irrefl _)
    · exact ⟨Nat.lt_of_lt_of_le (hs.ef a ha k hk).1 hc.size, (hs.ef a ha k hk).2⟩
  · intro d hd k hk
    rcases List.mem_append.1 hd with hd | hd
    · exact ⟨Nat.lt_of_lt_of_le (hs.df d hd k hk).1 hc.size, (hs.df d hd k hk).2⟩
    · refine ⟨(hc.df d hd k hk).1, fun hkW => ?_⟩
      rcases (hc.df d hd k hk).2 (Nat.lt_of_lt_of_le hkW hs.size) with h | ⟨b, hb, hbk⟩
      · exact h.2 hkW
      · exact .inr ((hs.ef b (mem_sel hb) k hbk).2 hkW)
  · refine pairwise_merge apart_symm hs.ee hc.ee (fun x hx hy y hy1 k hxk hyk => ?_)
    rcases (hnew y hy1 k hyk).2 with h | h
    · exact hold x hx hy k hxk h
    · exact absurd (hs.ef x hx k hxk).1 (Nat.not_lt.2 h)
  · intro a ha d hd k hak hdk
    rcases mem_merge apart_symm hs.ee ha with ha | ⟨ha, hy⟩
    · rcases List.mem_append.1 hd with hd | hd
      · rcases (hnew a ha k hak).2 with ⟨b, hb, hbk⟩ | h
        · exact hs.ed b (mem_sel hb) d hd k hbk hdk
        · exact absurd (hs.df d hd k hdk).1 (Nat.not_lt.2 h)
      · exact hc.ed a ha d hd k hak hdk
    · rcases List.mem_append.1 hd with hd | hd
      · exact hs.ed a ha d hd k hak hdk
      · rcases Nat.lt_or_ge k w.heap.size with h | h
        · rcases (hc.df d hd k hdk).2 h with h | h
          · exact h.1 ⟨a, ha, hak⟩
          · exact hold a ha hy k hak h
        · exact absurd (hs.ef a ha k hak).1 (Nat.not_lt.2 h)
end

/-! ### Calls -/
def Ret (R : Value → World → Prop) : Ending → World → Prop
  | .returned v, w => R v w
  | _, _ => False

/-- A contract: from pieces es0, ds0 on, the call ends with a value and pieces of which Φ holds. -/
def Spec (P : Program) (f : FuncId) (args : Array Value) (w : World) (es0 ds0 : List Asn) (Φ : Value → List Asn → List Asn → Prop) : Prop :=
  ∀ D, St w (footL es0) D es0 ds0 w → Calls P f args w (Ret fun v w' => ∃ es1 ds1, Φ v es1 ds1 ∧ St w (footL es0) D es1 ds1 w')

theorem Spec.intro {P : Program} {f : FuncId} {args : Array Value} {w : World} {es0 ds0 : List Asn} {Φ : Value → List Asn → List Asn → Prop}
    (h : ∀ F D, St w F D es0 ds0 w → Calls P f args w (Ret fun v w' => ∃ es1 ds1, Φ v es1 ds1 ∧ St w F D es1 ds1 w')) : Spec P f args w es0 ds0 Φ := fun D hs => h _ D hs

def ResV (P : Program) (ρ : Env) (w : World) : ResultVar → Value → Prop
  | .tmp t, v => ρ t = some v
  | .cell a t, v => ∃ ad, ρ a = some (.pointer (some ad)) ∧ (loadVar t ad).run P w = .ok v w

def ResL (P : Program) (ρ : Env) (w : World) : List ResultVar → List Value → Prop
  | [], [] => True
  | r :: rs, v :: vs => ResV P ρ w r v ∧ ResL P ρ w rs vs
  | _, _ => False

/-- The value of several results. -/
def tupleOf : List Value → Value
  | [v] => v
  | vs => .tuple vs.toArray

def RetPost (P : Program) (rs : List ResultVar) (R : Value → World → Prop) : Post
  | .normal, ρ, w => ∃ vs, ResL P ρ w rs vs ∧ R (tupleOf vs) w
  | .ret, ρ, w => ∃ vs, ResL P ρ w rs vs ∧ R (tupleOf vs) w
  | _, _, _ => False

def argE : Nat → List Value → Env
  | _, [] => fun _ => none
  | i, v :: l => upd (argE (i + 1) l) i v

def resOne (a : Act) : ResultVar → Sem Value
  | .tmp t => pure (a.tmps.getD t undef)
  | .cell p t => do loadVar t (← asAddr (a.tmps.getD p undef))

theorem run_results_list {P : Program} {n : Nat} {a : Act} {ρ : Env} {w : World} (ha : Rep n a ρ) : ∀ (rs : List ResultVar) (vs : List Value), ResL P ρ w rs vs →
    Sem.run P (rs.mapM (resOne a)) w = Result.ok vs w
  | [], [], _ => rfl
  | r :: rs, v :: vs, h => by
    have ih := run_results_list ha rs vs h.2
    have h1 : (resOne a r).run P w = .ok v w := by
      cases r with
      | tmp t =>
        have hv := ha.val t v h.1
        simp only [resOne, hv]; rfl
      | cell p t =>
        obtain ⟨ad, hp, hl⟩ := h.1
        have hv := ha.val p _ hp
        simp only [resOne, hv, asAddr, Sem.run_bind, Sem.run_pure, Result.andThen_ok, hl]
    rw [List.mapM_cons]
    simp only [Sem.run_bind, Sem.run_pure, Result.andThen_ok, h1, ih]
  | [], _ :: _, h => h.elim
  | _ :: _, [], h => h.elim

theorem run_results {P : Program} {n : Nat} {a : Act} {ρ : Env} {w : World} {fn : Func} (ha : Rep n a ρ) {vs : List Value} (h : ResL P ρ w fn.results.toList vs) : (results fn a.tmps).run P w = .ok (tupleOf vs) w := by
  have hl := run_results_list ha _ _ h
  have e : results fn a.tmps = (do let vs ← fn.results.mapM (resOne a); pure (if h : vs.size = 1 then vs[0] else .tuple vs)) := by
    unfold results
    congr 1
  rw [e, Sem.run_bind, Array.mapM_eq_mapM_toList, Sem.run_map, hl]
  simp only [Result.andThen_ok, Sem.run_pure]
  congr 1
  match vs with
  | [] => rfl
  | [v] => rfl
  | v :: u :: vs => simp [tupleOf]

theorem argE_get : ∀ (l : List Value) (i t : Nat) (v : Value), argE i l t = some v → i ≤ t ∧ l[t - i]? = some v
  | [], _, _, _, h => by cases h
  | u :: l, i, t, v, h => by
    by_cases ht : t = i
    · subst ht
      rw [argE, upd_same] at h
      exact ⟨Nat.le_refl _, by simpa using h⟩
    · rw [argE, upd_ne _ _ ht] at h
      obtain ⟨h1, h2⟩ := argE_get l (i + 1) t v h
      refine ⟨by omega, ?_⟩
      have : t - i = (t - (i + 1)) + 1 := by omega
      rw [this, List.getElem?_cons_succ]
      exact h2

theorem Calls_of_EC {P : Program} {f : FuncId} {fn : Func} {c : Code} {n : Nat} {args : List Value} {w : World} {R : Value → World → Prop} (hf : P.funcs[f]? = some fn) (hb : fn.body = some c) (hn : fn.ntmps = n) (hl : Nat.ble args.length n = true)
    (h : EC P n c (RetPost P fn.results.toList R) (argE 0 args) w) : Calls P f args.toArray w (Ret R) := by
  have hl' : args.length ≤ n := by simpa using hl
  subst hn
  refine calls_of_wp hf hb ?_
  have hrep : Rep fn.ntmps { tmps := args.toArray ++ Array.replicate (fn.ntmps - args.toArray.size) undef, defers := [] } (argE 0 args) := by
    refine ⟨rfl, by simp; omega, fun t v hv => ?_⟩
    obtain ⟨_, h2⟩ := argE_get args 0 t v hv
    have hlt : t < args.length := by
      have := (List.getElem?_eq_some_iff.1 h2).1; simpa using this
    have h3 : args[t]? = some v := by simpa using h2
    simp [Array.getD_eq_getD_getElem?, Array.getElem?_append, hlt]
    simpa [hlt] using h3
  refine wp_mono (h _ hrep) fun e a w' hq => ?_
  cases e with
  | normal =>
    obtain ⟨ρ, hr, vs, hv, hR⟩ := hq
    exact ⟨hr.defers, _, run_results hr hv, hR⟩
  | ret =>
    obtain ⟨ρ, hr, vs, hv, hR⟩ := hq
    exact ⟨hr.defers, _, run_results hr hv, hR⟩
  | exit i => obtain ⟨ρ, hr, hh⟩ := hq; exact hh.elim
  | goto l => exact hq.elim
  | panic c => exact hq.elim
  | outgrown => exact hq.elim

def evArgs (ρ : Env) : List Operand → Option (List Value)
  | [] => some []
  | x :: l => match evO ρ x with
    | some v => match evArgs ρ l with
      | some vs => some (v :: vs)
      | none => none
    | none => none

theorem evArgs_map {n : Nat} {a : Act} {ρ : Env} (ha : Rep n a ρ) : ∀ {l : List Operand} {vs : List Value}, evArgs ρ l = some vs → l.map a.eval = vs
  | [], vs, h => by simpa [evArgs] using h
  | x :: l, vs, h => by
    unfold evArgs at h
    cases hx : evO ρ x with
    | none => rw [hx] at h; cases h
    | some v =>
      rw [hx] at h
      simp only at h
      cases hr : evArgs ρ l with
      | none => rw [hr] at h; cases h
      | some us =>
        rw [hr] at h
        simp only [Option.some.injEq] at h
        subst h
        rw [List.map_cons, ha.eval hx, evArgs_map ha hr]

/-- A call of a function (or of a function value with what it captured), by its contract. -/
theorem O_call {P : Program} {n : Nat} {ρ : Env} {K : Env → World → Prop} {W w : World} {F D : Nat → Prop} {es ds : List Asn} {d : Option Nat} {ty : TypeId} {pos : String} {aft : Array Edge}
    {x : Operand} {args : List Operand} {tys : Array TypeId} {g : FuncId} {fi ca : Array Value} {vs : List Value} {Φ : Value → List Asn → List Asn → Prop}
    (hs : St W F D es ds w) (m : List Bool) (js : List Nat) (hd : dstOk n d = true) (hx : evO ρ x = some (.func (.func g) fi ca)) (ha : evArgs ρ args = some vs)
    (hcall : ∀ A w, (callFunc g A).run P w = .ok (.enter g A) w) (hc : Spec P g (fi ++ vs.toArray ++ ca) w (sel m es) (pickD js ds) Φ)
    (hK : ∀ v es1 ds1 w', Φ v es1 ds1 → St W F D (merge m es es1) (ds ++ ds1) w' → K (updo ρ d v) w') :
    EOp P n ⟨d, .call ⟨.value x, args.toArray, tys⟩, ty, pos, aft, none⟩ K ρ w := fun a hr => by
  have hargs : args.toArray.map a.eval = vs.toArray := by
    rw [List.map_toArray, evArgs_map hr ha]
  unfold Oper.wp
  have hrun : (execOp a.eval ⟨d, .call ⟨.value x, args.toArray, tys⟩, ty, pos, aft, none⟩).run P w = .ok (.enter g (fi ++ vs.toArray ++ ca)) w := by
    simp only [execOp, resolve, hargs, hr.eval hx, Deferred.ofValue, invoke, Sem.run_bind, Sem.run_pure, Result.andThen_ok, hcall]
  rw [hrun]
  refine Calls.mono (hc _ (hs.enter m js)) fun e w' he => ?_
  cases e with
  | returned v =>
    obtain ⟨es1, ds1, hΦ, hst⟩ := he
    exact ⟨_, hr.puto hd v, hK v es1 ds1 w' hΦ (hs.leave m hst)⟩
  | panicked c => exact he.elim
  | outgrown => exact he.elim
end Go.Proofs.YtpcojkbljgpecaaGreat
namespace Go.Proofs.YtpcojkbljgpecaaGreat
open Go

theorem cell_blk {w : World} {b o : Nat} {c : Array Value} {t : TypeId} {fr : Nat × Nat} (h : w.heap[b]? = some (.cells c t fr)) : w.cell? ⟨b, o, none⟩ = c[o]? := by
  simp [World.cell?, h]

theorem cell_same {w w' : World} {b o : Nat} (h : w'.heap[b]? = w.heap[b]?) : w'.cell? ⟨b, o, none⟩ = w.cell? ⟨b, o, none⟩ := by
  simp [World.cell?, h]

/-- A nil slice has no room; an address with room is that of a variable. -/
def SOk (ao : Option Addr) (c : Nat) : Prop := (ao = none → c = 0) ∧ ∀ ad, ao = some ad → 0 < c → ad.spot = none

/-- A slice that is only read: its address, length, capacity, and the cells of its elements (sz cells each). -/
def dSl (ao : Option Addr) (m c sz : Nat) (cs : List Value) : Asn :=
  ⟨fun k => cs ≠ [] ∧ ∃ ad, ao = some ad ∧ k = ad.block,
   fun w => (m ≤ c ∧ SOk ao c) ∧ cs.length = m * sz ∧ (cs ≠ [] → ∃ b o, ao = some ⟨b, o, none⟩ ∧ ∀ i u, cs[i]? = some u → w.cell? ⟨b, o + i, none⟩ = some u),
   fun w w' h hp => ⟨hp.1, hp.2.1, fun hne => by
    obtain ⟨b, o, hao, hc⟩ := hp.2.2 hne
    exact ⟨b, o, hao, fun i u hu => by rw [cell_same (h b ⟨hne, _, hao, rfl⟩)]; exact hc i u hu⟩⟩⟩

/-- A slice that the call owns: nil, or the head of a row. -/
def oSl (v : Value) (e : TypeId) (sz m : Nat) (cs : List Value) : Asn :=
  ⟨fun k => v.ownBlock = some k, fun w => w.ownsRow 0 e sz v m cs,
   fun w w' h hp => by
    refine ⟨hp.1, ?_⟩
    rcases hp.2 with hn | ⟨g, cap, cur, rfl, hb, hg, rest⟩
    · exact .inl hn
    · exact .inr ⟨g, cap, cur, rfl, hb, by rw [h g rfl]; exact hg, rest⟩⟩

theorem St.at {W w : World} {F D : Nat → Prop} {es ds : List Asn} (hs : St W F D es ds w) {i : Nat} {a : Asn} (hi : es[i]? = some a) : a.P w := hs.eh a (List.mem_of_getElem? hi)
theorem St.rd {W w : World} {F D : Nat → Prop} {es ds : List Asn} (hs : St W F D es ds w) {i : Nat} {d : Asn} (hi : ds[i]? = some d) : d.P w := hs.dh d (List.mem_of_getElem? hi)

section
variable {P : Program} {n : Nat} {ρ : Env} {K : Env → World → Prop} {W w : World} {F D : Nat → Prop} {es ds : List Asn} {d : Nat} {do_ : Option Nat} {ty : TypeId} {pos : String} {aft : Array Edge} {x y : Operand} {t : TypeId} {v : Value}

/-! ### Addresses in full -/
theorem R_field {s f off b o : Nat} (ho : fieldOff P s f = some off) (hx : evO ρ x = some (.pointer (some ⟨b, o, none⟩))) : RunV P n ⟨do_, .fieldAddr s x f, ty, pos, aft, none⟩ ρ w (.pointer (some ⟨b, o + off, none⟩)) := by
  have h := R_fieldAddr (P := P) (n := n) (ρ := ρ) (w := w) (d := do_) (ty := ty) (pos := pos) (aft := aft) ho hx
  have e : (⟨b, o, none⟩ : Addr).add off = ⟨b, o + off, none⟩ := by unfold Addr.add; split <;> simp_all
  rwa [e] at h

theorem R_idx {b o m c sz : Nat} {ao : Option Addr} {k : IntKind} {i : Int} (hs : elemSize P t = some sz) (hx : evO ρ x = some (.slice ao m c)) (hao : ao = some ⟨b, o, none⟩) (hy : evO ρ y = some (.int k i)) (h0 : 0 ≤ i) (h1 : i < m) :
    RunV P n ⟨do_, .indexAddr t x y, ty, pos, aft, none⟩ ρ w (.pointer (some ⟨b, o + i.toNat * sz, none⟩)) := by
  subst hao
  have h := R_indexAddr (P := P) (n := n) (ρ := ρ) (w := w) (d := do_) (ty := ty) (pos := pos) (aft := aft) hs hx hy ⟨h0, h1⟩
  have e : (⟨b, o, none⟩ : Addr).add (i.toNat * sz) = ⟨b, o + i.toNat * sz, none⟩ := by unfold Addr.add; split <;> simp_all
  rwa [e] at h

theorem R_idxA {b o m sz : Nat} {k : IntKind} {i : Int} (hs : arrSize P t = some (m, sz)) (hx : evO ρ x = some (.pointer (some ⟨b, o, none⟩))) (hy : evO ρ y = some (.int k i)) (h0 : 0 ≤ i) (h1 : i < m) :
    RunV P n ⟨do_, .indexAddr t x y, ty, pos, aft, none⟩ ρ w (.pointer (some ⟨b, o + i.toNat * sz, none⟩)) := by
  have h := R_indexAddrA (P := P) (n := n) (ρ := ρ) (w := w) (d := do_) (ty := ty) (pos := pos) (aft := aft) hs hx hy ⟨h0, h1⟩
  have e : (⟨b, o, none⟩ : Addr).add (i.toNat * sz) = ⟨b, o + i.toNat * sz, none⟩ := by unfold Addr.add; split <;> simp_all
  rwa [e] at h

/-! ### Loads -/
theorem R_load {ad : Addr} (hag : ∀ w, (isAgg t).run P w = .ok false w) (hx : evO ρ x = some (.pointer (some ad))) (hc : w.cell? ad = some v) : RunV P n ⟨do_, .load t x, ty, pos, aft, none⟩ ρ w v := fun a ha => by
  simp [execOp, ha.eval hx, Instr.loadAt, Instr.sureAddr, loadVar, Sem.run_bind, hag, load, Sem.run, hc]

/-- A scalar out of an owned block. -/
theorem R_loadB {b o : Nat} {c : Array Value} {tt : TypeId} (hs : St W F D es ds w) {i : Nat} (hi : es[i]? = some (blk b c tt)) (hag : ∀ w, (isAgg t).run P w = .ok false w) (hx : evO ρ x = some (.pointer (some ⟨b, o, none⟩))) (hc : c[o]? = some v) :
    RunV P n ⟨do_, .load t x, ty, pos, aft, none⟩ ρ w v := R_load hag hx (by rw [cell_blk (hs.at hi)]; exact hc)

theorem run_loadRange {b o : Nat} {cs : List Value} {sz : Nat} (hsz : ∀ w, (sizeOf t).run P w = .ok sz w) (hag : ∀ w, (isAgg t).run P w = .ok true w) (hl : cs.length = sz) (hc : ∀ i u, cs[i]? = some u → w.cell? ⟨b, o + i, none⟩ = some u) :
    (loadVar t ⟨b, o, none⟩).run P w = .ok (.agg cs.toArray) w := by
  have h := run_loadCells_list (P := P) w ⟨b, o, none⟩ cs (fun j u hu => by
    have e : (⟨b, o, none⟩ : Addr).add j = ⟨b, o + j, none⟩ := by unfold Addr.add; split <;> simp_all
    rw [e]; exact hc j u hu)
  subst hl
  simp [loadVar, Sem.run_bind, hag, hsz, h]

theorem R_loadR {b o : Nat} {cs : List Value} {sz : Nat} (hsz : ∀ w, (sizeOf t).run P w = .ok sz w) (hag : ∀ w, (isAgg t).run P w = .ok true w) (hx : evO ρ x = some (.pointer (some ⟨b, o, none⟩))) (hl : cs.length = sz)
    (hc : ∀ i u, cs[i]? = some u → w.cell? ⟨b, o + i, none⟩ = some u) : RunV P n ⟨do_, .load t x, ty, pos, aft, none⟩ ρ w (.agg cs.toArray) := fun a ha => by
  simp [execOp, ha.eval hx, Instr.loadAt, Instr.sureAddr, run_loadRange hsz hag hl hc]

/-- A whole struct or array out of an owned block. -/
theorem R_loadW {b : Nat} {c : Array Value} {tt : TypeId} {sz : Nat} (hs : St W F D es ds w) {i : Nat} (hi : es[i]? = some (blk b c tt)) (hsz : ∀ w, (sizeOf t).run P w = .ok sz w) (hag : ∀ w, (isAgg t).run P w = .ok true w) (hx : evO ρ x = some (.pointer (some ⟨b, 0, none⟩)))
    (hl : c.size = sz) : RunV P n ⟨do_, .load t x, ty, pos, aft, none⟩ ρ w (.agg c) := by
  have h := R_loadR (P := P) (n := n) (ρ := ρ) (w := w) (do_ := do_) (ty := ty) (pos := pos) (aft := aft) (cs := c.toList) hsz hag hx (by simpa using hl) (fun i u hu => by rw [cell_blk (hs.at hi)]; simpa using hu)
  simpa using h

/-- A part of it. -/
theorem R_loadP {b o : Nat} {c : Array Value} {tt : TypeId} {sz : Nat} {cs : List Value} (hs : St W F D es ds w) {i : Nat} (hi : es[i]? = some (blk b c tt)) (hsz : ∀ w, (sizeOf t).run P w = .ok sz w) (hag : ∀ w, (isAgg t).run P w = .ok true w) (hx : evO ρ x = some (.pointer (some ⟨b, o, none⟩)))
    (hl : cs.length = sz) (hc : ∀ i u, cs[i]? = some u → c[o + i]? = some u) : RunV P n ⟨do_, .load t x, ty, pos, aft, none⟩ ρ w (.agg cs.toArray) :=
  R_loadR hsz hag hx hl (fun i u hu => by rw [cell_blk (hs.at hi)]; exact hc i u hu)

/-! ### New blocks -/
theorem O_box (hs : St W F D es ds w) (hd : Nat.blt d n = true) (hx : evO ρ x = some v)
    (hK : ∀ b w', W.heap.size ≤ b → St W F D (es ++ [blk b v.cells t]) ds w' → K (upd ρ d (.pointer (some ⟨b, 0, none⟩))) w') : EOp P n ⟨some d, .box t x, ty, pos, aft, none⟩ K ρ w := fun a ha => by
  unfold Oper.wp
  have hrun : (execOp a.eval ⟨some d, .box t x, ty, pos, aft, none⟩).run P w = .ok (.value (.pointer (some ⟨w.heap.size, 0, none⟩))) (w.alloc (.cells v.cells t)) := by
    simp [execOp, ha.eval hx, Instr.box, newVar, newRow, newObj, Sem.run]
  rw [hrun]
  exact ⟨_, ha.put hd _, hK _ _ hs.size (hs.push _ _)⟩

theorem O_alloc {z : Value} (hs : St W F D es ds w) (hd : Nat.blt d n = true) (hz : ∀ w, (zeroValue t).run P w = .ok z w)
    (hK : ∀ b w', W.heap.size ≤ b → St W F D (es ++ [blk b z.cells t]) ds w' → K (upd ρ d (.pointer (some ⟨b, 0, none⟩))) w') : EOp P n ⟨some d, .alloc t, ty, pos, aft, none⟩ K ρ w := fun a ha => by
  unfold Oper.wp
  have hrun : (execOp a.eval ⟨some d, .alloc t, ty, pos, aft, none⟩).run P w = .ok (.value (.pointer (some ⟨w.heap.size, 0, none⟩))) (w.alloc (.cells z.cells t)) := by
    simp [execOp, Instr.alloc, newVar, newRow, newObj, Sem.run_bind, hz, Sem.run]
  rw [hrun]
  exact ⟨_, ha.put hd _, hK _ _ hs.size (hs.push _ _)⟩

/-! ### Stores into an owned block -/
theorem heap_setRow_same {w : World} {b : Nat} {c c' : Array Value} {t : TypeId} (h : w.heap[b]? = some (.cells c t (0, 0))) : (w.setRow b c').heap[b]? = some (.cells c' t (0, 0)) := by
  exact setRow_heap w b c c' t (0, 0) h

theorem St.setBlk (hs : St W F D es ds w) {i b : Nat} {c : Array Value} {tt : TypeId} (hi : es[i]? = some (blk b c tt)) (c' : Array Value) (w' : World) (hw : w'.os = w.os ∧ w'.tape = w.tape ∧ w'.output = w.output) (hsz : w'.heap.size = w.heap.size)
    (hb : w'.heap[b]? = some (.cells c' tt (0, 0))) (ho : ∀ k, k ≠ b → w'.heap[k]? = w.heap[k]?) : St W F D (es.set i (blk b c' tt)) ds w' :=
  hs.change hi _ hw.1 hw.2.1 hw.2.2 (by omega) (fun k _ hk => ho k hk) hb (fun k hk => ⟨.inl hk, by
    obtain rfl : k = b := hk
    exact (Array.getElem?_eq_some_iff.1 hb).1⟩)

theorem setCell_facts (w : World) (b o : Nat) (u : Value) (c : Array Value) (t : TypeId) (h : w.heap[b]? = some (.cells c t (0, 0))) :
    (w.setCell ⟨b, o, none⟩ u).heap[b]? = some (.cells (c.setIfInBounds o u) t (0, 0)) ∧ (∀ k, k ≠ b → (w.setCell ⟨b, o, none⟩ u).heap[k]? = w.heap[k]?) ∧ (w.setCell ⟨b, o, none⟩ u).heap.size = w.heap.size := by
  refine ⟨?_, fun k hk => ?_, by simp [World.setCell]⟩
  · simp only [World.setCell, Array.getElem?_modify, h]; simp
  · simp only [World.setCell, Array.getElem?_modify]
    rw [if_neg (by omega)]

/-- A scalar. -/
theorem O_store {b o : Nat} {c : Array Value} {tt : TypeId} (hs : St W F D es ds w) {i : Nat} (hi : es[i]? = some (blk b c tt)) (hsz : ∀ w, (sizeOf t).run P w = .ok 1 w) (hx : evO ρ x = some (.pointer (some ⟨b, o, none⟩))) (hy : evO ρ y = some v) (h1 : v.oneCell' = true) (ho : Nat.blt o c.size = true)
    (hK : ∀ w', St W F D (es.set i (blk b (c.setIfInBounds o v) tt)) ds w' → K ρ w') : EOp P n ⟨none, .store t x y, ty, pos, aft, none⟩ K ρ w := fun a ha => by
  have hb : w.heap[b]? = some (.cells c tt (0, 0)) := hs.at hi
  have ho' : o < c.size := by simpa using ho
  have hcell : w.cell? ⟨b, o, none⟩ = some c[o] := by rw [cell_blk hb]; simp [ho']
  have hfz : w.frozen? ⟨b, o, none⟩ = false := by simp [World.frozen?, hb]
  have hcs : v.cells = #[v] := by cases v <;> first | rfl | (simp [Value.oneCell'] at h1)
  obtain ⟨f1, f2, f3⟩ := setCell_facts w b o v c tt hb
  unfold Oper.wp
  have hrun : (execOp a.eval ⟨none, .store t x y, ty, pos, aft, none⟩).run P w = .ok .skip (w.setCell ⟨b, o, none⟩ v) := by
    have e : (⟨b, o, none⟩ : Addr).add 0 = ⟨b, o, none⟩ := by simp [Addr.add]
    have hst := run_store P w ⟨b, o, none⟩ v .plain h1
    rw [hcell] at hst
    simp only [hfz, Bool.false_eq_true, if_false] at hst
    simp [execOp, ha.eval hx, ha.eval hy, Instr.storeAt, Instr.sureAddr, storeVar, Sem.run_bind, hsz, hcs, storeCells, e, hst]
  rw [hrun]
  exact ⟨ρ, by simpa [Act.put] using ha, hK _ (hs.setBlk hi _ _ ⟨rfl, rfl, rfl⟩ f3 f1 f2)⟩

/-- A whole block. -/
theorem O_storeW {b : Nat} {c cs : Array Value} {tt : TypeId} {sz : Nat} (hs : St W F D es ds w) {i : Nat} (hi : es[i]? = some (blk b c tt)) (hinf : (P.info? t).map (·.size) = some sz) (hx : evO ρ x = some (.pointer (some ⟨b, 0, none⟩))) (hy : evO ρ y = some (.agg cs))
    (hl : c.size = sz) (hl' : cs.size = sz) (h1 : cs.all (·.oneCell') = true) (hK : ∀ w', St W F D (es.set i (blk b cs tt)) ds w' → K ρ w') : EOp P n ⟨none, .store t x y, ty, pos, aft, none⟩ K ρ w := fun a ha => by
  have hb : w.heap[b]? = some (.cells c tt (0, 0)) := hs.at hi
  refine wp_store_row (o := ⟨none, .store t x y, ty, pos, aft, none⟩) t x y rfl b cs (ha.eval hx) (ha.eval hy) tt c hb (by rw [hinf, hl']) (by rw [hl, hl']) h1 ?_
  refine ⟨ρ, by simpa [Act.put] using ha, hK _ (hs.setBlk hi _ _ ⟨rfl, rfl, rfl⟩ (by simp [World.setRow]) (heap_setRow_same hb) (fun k hk => ?_))⟩
  simp only [World.setRow, Array.getElem?_modify]
  rw [if_neg (by omega)]
end
end Go.Proofs.YtpcojkbljgpecaaGreat
namespace Go.Proofs.YtpcojkbljgpecaaGreat
open Go
section
variable {P : Program} {n : Nat} {ρ : Env} {K : Env → World → Prop} {Q : Post} {w : World} {y c : Code} {id j : Nat} {l : List Oper}

theorem Then_n (h : K ρ w) : Then K Q .normal ρ w := h
theorem Then_e (h : Q (.exit j) ρ w) : Then K Q (.exit j) ρ w := h
theorem Then_r (h : Q .ret ρ w) : Then K Q .ret ρ w := h
theorem InBlock_n (h : Q .normal ρ w) : InBlock id Q .normal ρ w := h
theorem InBlock_r (h : Q .ret ρ w) : InBlock id Q .ret ρ w := h
theorem InBlock_hit (hj : Nat.beq j id = true) (h : Q .normal ρ w) : InBlock id Q (.exit j) ρ w := by
  simp only [InBlock, hj, cond_true]; exact h
theorem InBlock_miss (hj : Nat.beq j id = false) (h : Q (.exit j) ρ w) : InBlock id Q (.exit j) ρ w := by
  simp only [InBlock, hj, cond_false]; exact h

theorem EC_rseq (h : EL P n l.toArray l (EC P n y Q) ρ w) : EC P n (.seq (.region id l.toArray false) y) Q ρ w := EC_seq (EC_region (Q := Then (EC P n y Q) Q) h)

theorem EC_dseq (act rd : List Nat) (R : World → Prop) (p : Plan) (hm : P.follows .mixedOrders = true)
    (hok : (Region.noSelect l.toArray && planOk l.toArray act p l.toArray.size (Array.replicate l.toArray.size false) false) = true)
    (h : EPlan P n l.toArray act rd R (EC P n y Q) p false ρ { w with drawn := w.drawn + 1 }) : EC P n (.seq (.region id l.toArray true) y) Q ρ w :=
  EC_seq (EC_draw (Q := Then (EC P n y Q) Q) act rd R p hm hok h)

theorem EL_split {ops : Array Oper} {rest : List Oper} {b : Bool} (d : Nat) (hb : ρ d = some (.bool b)) (h1 : b = true → EL P n ops rest K ρ w) (h2 : b = false → EL P n ops rest K ρ w) : EL P n ops rest K ρ w := by
  cases b
  · exact h2 rfl
  · exact h1 rfl
theorem EP_split {ops : Array Oper} {act rd : List Nat} {R : World → Prop} {p : Plan} {f b : Bool} (d : Nat) (hb : ρ d = some (.bool b)) (h1 : b = true → EPlan P n ops act rd R K p f ρ w) (h2 : b = false → EPlan P n ops act rd R K p f ρ w) : EPlan P n ops act rd R K p f ρ w := by
  cases b
  · exact h2 rfl
  · exact h1 rfl

theorem bnt {b : Bool} (h : (!b) = true) : b = false := by cases b <;> simp_all
theorem bnf {b : Bool} (h : (!b) = false) : b = true := by cases b <;> simp_all

/-- What is read in a region: some of the pieces. -/
def RdS (es ds : List Asn) (is js : List Nat) (w : World) : Prop :=
  (∀ i, is.contains i = true → ∀ a, es[i]? = some a → a.P w) ∧ (∀ j, js.contains j = true → ∀ d, ds[j]? = some d → d.P w)

theorem RdS.e {es ds : List Asn} {is js : List Nat} {w : World} (h : RdS es ds is js w) (i : Nat) {a : Asn} (hi : is.contains i = true) (ha : es[i]? = some a) : a.P w := h.1 i hi a ha
theorem RdS.d {es ds : List Asn} {is js : List Nat} {w : World} (h : RdS es ds is js w) (j : Nat) {a : Asn} (hj : js.contains j = true) (ha : ds[j]? = some a) : a.P w := h.2 j hj a ha

theorem RdS.of {W : World} {F D : Nat → Prop} {es ds es' ds' : List Asn} {is js : List Nat} {w : World} (hs : St W F D es' ds' w) (h1 : is.map (es'[·]?) = is.map (es[·]?)) (h2 : js.map (ds'[·]?) = js.map (ds[·]?)) : RdS es ds is js w := by
  refine ⟨fun i hi a ha => ?_, fun j hj d hd => ?_⟩
  · have hm : i ∈ is := by simpa using hi
    have : es'[i]? = es[i]? := List.map_inj_left.1 h1 i hm
    exact hs.at (this.trans ha)
  · have hm : j ∈ js := by simpa using hj
    have : ds'[j]? = ds[j]? := List.map_inj_left.1 h2 j hm
    exact hs.rd (this.trans hd)

theorem rq_no {ops : Array Oper} {act rd : List Nat} {i : Nat} {G : Prop} (h : rq ops act rd i = false) : rq ops act rd i = true → G := fun h' => by rw [h] at h'; cases h'

section
variable {W : World} {F D : Nat → Prop} {es ds : List Asn}

theorem EC_dseqS (hs : St W F D es ds w) (act rd is js : List Nat) (p : Plan) (hm : P.follows .mixedOrders = true)
    (hok : (Region.noSelect l.toArray && planOk l.toArray act p l.toArray.size (Array.replicate l.toArray.size false) false) = true)
    (h : ∀ w, St W F D es ds w → RdS es ds is js w → EPlan P n l.toArray act rd (RdS es ds is js) (EC P n y Q) p false ρ w) : EC P n (.seq (.region id l.toArray true) y) Q ρ w :=
  EC_dseq act rd _ p hm hok (h _ hs.drew (RdS.of hs.drew rfl rfl))

theorem EC_drawS (hs : St W F D es ds w) (act rd is js : List Nat) (p : Plan) (hm : P.follows .mixedOrders = true)
    (hok : (Region.noSelect l.toArray && planOk l.toArray act p l.toArray.size (Array.replicate l.toArray.size false) false) = true)
    (h : ∀ w, St W F D es ds w → RdS es ds is js w → EPlan P n l.toArray act rd (RdS es ds is js) (Q .normal) p false ρ w) : EC P n (.region id l.toArray true) Q ρ w :=
  EC_draw act rd _ p hm hok (h _ hs.drew (RdS.of hs.drew rfl rfl))
end

/-! ### Loads out of a piece at hand -/
section
variable {d : Option Nat} {ty : TypeId} {pos : String} {aft : Array Edge} {x : Operand} {t : TypeId} {v : Value}

theorem R_lb {b o : Nat} {c : Array Value} {tt : TypeId} (hb : (blk b c tt).P w) (hag : ∀ w, (isAgg t).run P w = .ok false w) (hx : evO ρ x = some (.pointer (some ⟨b, o, none⟩))) (hc : c[o]? = some v) :
    RunV P n ⟨d, .load t x, ty, pos, aft, none⟩ ρ w v := R_load hag hx (by rw [cell_blk hb]; exact hc)

theorem R_lw {b : Nat} {c : Array Value} {tt : TypeId} {sz : Nat} (hb : (blk b c tt).P w) (hag : ∀ w, (isAgg t).run P w = .ok true w) (hsz : ∀ w, (sizeOf t).run P w = .ok sz w) (hx : evO ρ x = some (.pointer (some ⟨b, 0, none⟩)))
    (hl : c.size = sz) : RunV P n ⟨d, .load t x, ty, pos, aft, none⟩ ρ w (.agg c) := by
  have h := R_loadR (P := P) (n := n) (ρ := ρ) (w := w) (do_ := d) (ty := ty) (pos := pos) (aft := aft) (cs := c.toList) hsz hag hx (by simpa using hl) (fun i u hu => by rw [cell_blk hb]; simpa using hu)
  simpa using h

theorem R_lp {b o : Nat} {c : Array Value} {tt : TypeId} {sz : Nat} {cs : List Value} (hb : (blk b c tt).P w) (hag : ∀ w, (isAgg t).run P w = .ok true w) (hsz : ∀ w, (sizeOf t).run P w = .ok sz w) (hx : evO ρ x = some (.pointer (some ⟨b, o, none⟩)))
    (hl : cs.length = sz) (hc : ∀ i u, cs[i]? = some u → c[o + i]? = some u) : RunV P n ⟨d, .load t x, ty, pos, aft, none⟩ ρ w (.agg cs.toArray) :=
  R_loadR hsz hag hx hl (fun i u hu => by rw [cell_blk hb]; exact hc i u hu)

/-- Out of a slice that is only read: a scalar. -/
theorem R_ld {b o a m c sz i : Nat} {cs : List Value} (hd : (dSl (some ⟨b, o, none⟩) m c sz cs).P w) (hag : ∀ w, (isAgg t).run P w = .ok false w) (hx : evO ρ x = some (.pointer (some ⟨b, a, none⟩))) (ha : a = o + i) (hc : cs[i]? = some v) :
    RunV P n ⟨d, .load t x, ty, pos, aft, none⟩ ρ w v := by
  obtain ⟨b', o', hao, hrow⟩ := hd.2.2 (by intro h; rw [h] at hc; simp at hc)
  simp only [Option.some.injEq, Addr.mk.injEq, and_true] at hao
  obtain ⟨rfl, rfl⟩ := hao
  subst ha
  exact R_load hag hx (hrow i v hc)

/-- A struct or an array. -/
theorem R_ldR {b o a m c sz i s : Nat} {cs vs : List Value} (hd : (dSl (some ⟨b, o, none⟩) m c sz cs).P w) (hag : ∀ w, (isAgg t).run P w = .ok true w) (hsz : ∀ w, (sizeOf t).run P w = .ok s w) (hx : evO ρ x = some (.pointer (some ⟨b, a, none⟩))) (ha : a = o + i)
    (hl : vs.length = s) (hne : cs ≠ []) (hc : ∀ j u, vs[j]? = some u → cs[i + j]? = some u) : RunV P n ⟨d, .load t x, ty, pos, aft, none⟩ ρ w (.agg vs.toArray) := by
  obtain ⟨b', o', hao, hrow⟩ := hd.2.2 hne
  simp only [Option.some.injEq, Addr.mk.injEq, and_true] at hao
  obtain ⟨rfl, rfl⟩ := hao
  subst ha
  exact R_loadR hsz hag hx hl (fun j u hu => by rw [Nat.add_assoc]; exact hrow (i + j) u (hc j u hu))

theorem dSl.some {ao : Option Addr} {m c sz : Nat} {cs : List Value} (h : (dSl ao m c sz cs).P w) (hne : cs ≠ []) : ∃ b o, ao = some ⟨b, o, none⟩ := by
  obtain ⟨b, o, hao, _⟩ := h.2.2 hne
  exact ⟨b, o, hao⟩
end

theorem flat_get {α : Type} (sz : Nat) (f : α → List Value) (hf : ∀ x, (f x).length = sz) : ∀ (l : List α) (i j : Nat) (x : α), l[i]? = some x → j < sz → (l.flatMap f)[i * sz + j]? = (f x)[j]?
  | y :: l, 0, j, x, h, hj => by
    simp only [List.getElem?_cons_zero, Option.some.injEq] at h
    subst h
    rw [List.flatMap_cons, Nat.zero_mul, Nat.zero_add, List.getElem?_append_left (by rw [hf]; exact hj)]
  | y :: l, i + 1, j, x, h, hj => by
    simp only [List.getElem?_cons_succ] at h
    rw [List.flatMap_cons, List.getElem?_append_right (by rw [hf, Nat.succ_mul]; omega), hf]
    have : (i + 1) * sz + j - sz = i * sz + j := by rw [Nat.succ_mul]; omega
    rw [this]
    exact flat_get sz f hf l i j x h hj
  | [], i, j, x, h, _ => by simp at h

theorem flat_len {α : Type} (sz : Nat) (f : α → List Value) (hf : ∀ x, (f x).length = sz) (l : List α) : (l.flatMap f).length = l.length * sz := by
  induction l with
  | nil => simp
  | cons y l ih => rw [List.flatMap_cons, List.length_append, ih, hf, List.length_cons, Nat.succ_mul]; omega
end
/-! What a test tells. -/
instance {p : Prop} [Decidable p] : HAdd (PLift (decide p = true)) Unit (PLift p) := ⟨fun h _ => ⟨of_decide_eq_true h.down⟩⟩
instance {p : Prop} [Decidable p] : HAdd (PLift (decide p = false)) Unit (PLift (¬ p)) := ⟨fun h _ => ⟨of_decide_eq_false h.down⟩⟩
instance {p : Prop} [Decidable p] : HAdd (PLift ((!decide p) = true)) Unit (PLift (¬ p)) := ⟨fun h _ => ⟨of_decide_eq_false (bnt h.down)⟩⟩
instance {p : Prop} [Decidable p] : HAdd (PLift ((!decide p) = false)) Unit (PLift p) := ⟨fun h _ => ⟨of_decide_eq_true (bnf h.down)⟩⟩
instance (priority := low) {b : Bool} : HAdd (PLift ((!b) = true)) Unit (PLift (b = false)) := ⟨fun h _ => ⟨bnt h.down⟩⟩
instance (priority := low) {b : Bool} : HAdd (PLift ((!b) = false)) Unit (PLift (b = true)) := ⟨fun h _ => ⟨bnf h.down⟩⟩
instance (priority := 10) {b v : Bool} : HAdd (PLift (b = v)) Unit (PLift (b = v)) := ⟨fun h _ => h⟩
theorem cvt {b v : Bool} {p : Prop} [HAdd (PLift (b = v)) Unit (PLift p)] (h : b = v) : p := (HAdd.hAdd (PLift.up h) ()).down
end Go.Proofs.YtpcojkbljgpecaaGreat
namespace Go.Proofs.YtpcojkbljgpecaaGreat
open Go

/-- What is asked of a slice type: its element's type, size in cells, size in bytes. -/
def einfoB (P : Program) (t e sz by_ : Nat) : Bool :=
  match P.underlying t, P.info? e with
  | some (.slice e'), some i => Nat.beq e' e && Nat.beq i.size sz && Nat.beq i.bytes by_ && Nat.blt 0 sz && (match i.zero with
    | some z => Nat.beq z.cells.size sz
    | none => false)
  | _, _ => false

theorem einfo_parts {P : Program} {t e sz by_ : Nat} (h : einfoB P t e sz by_ = true) : P.underlying t = some (.slice e) ∧ 0 < sz ∧ ∃ i z, P.info? e = some i ∧ i.zero = some z ∧ i.size = sz ∧ i.bytes = by_ ∧ z.cells.size = sz := by
  unfold einfoB at h
  split at h
  · rename_i e' i hu hi
    simp only [Bool.and_eq_true, Nat.blt_eq, Nat.beq_eq] at h
    obtain ⟨⟨⟨⟨h1, h2⟩, h3⟩, h4⟩, h5⟩ := h
    split at h5
    · rename_i z hz
      simp only [Nat.beq_eq] at h5
      subst h1
      exact ⟨hu, h4, i, z, hi, hz, h2, h3, h5⟩
    · cases h5
  · cases h

/-! ### Parts laid one behind the other -/
theorem foldl_set_seg : ∀ (v : List Value) (k off : Nat) (cells : Array Value), off + k + v.length ≤ cells.size →
    ((v.zipIdx k).foldl (fun (cs : Array Value) (x : Value × Nat) => cs.setIfInBounds (off + x.2) x.1) cells).toList = cells.toList.take (off + k) ++ v ++ cells.toList.drop (off + k + v.length)
  | [], k, off, cells, _ => by simp
  | u :: v, k, off, cells, h => by
    rw [List.zipIdx_cons, List.foldl_cons]
    have hlen : off + (k + 1) + v.length ≤ (cells.setIfInBounds (off + k) u).size := by simp at h ⊢; omega
    rw [foldl_set_seg v (k + 1) off _ hlen]
    have hk : off + k < cells.toList.length := by simp at h ⊢; omega
    simp only [Array.toList_setIfInBounds, List.length_cons]
    have e1 : (cells.toList.set (off + k) u).take (off + (k + 1)) = cells.toList.take (off + k) ++ [u] := by
      rw [← Nat.add_assoc, List.take_succ_eq_append_getElem (by simpa using hk)]
      rw [List.take_set_of_le (Nat.le_refl _)]
      simp
    have e2 : (cells.toList.set (off + k) u).drop (off + (k + 1) + v.length) = cells.toList.drop (off + k + (v.length + 1)) := by
      rw [List.drop_set_of_lt (by omega)]
      congr 1; omega
    rw [e1, e2]
    simp

/-- Consecutive places: (offset, size). -/
def places : Nat → List Nat → List (Nat × Nat)
  | _, [] => []
  | off, s :: l => (off, s) :: places (off + s) l

theorem fill_consec (pl : Nat → Option (Nat × Nat)) : ∀ (vs : List Value) (k off : Nat) (cells : Array Value),
    (∀ j v, vs[j]? = some v → pl (k + j) = some (off + ((vs.take j).map (·.cells.size)).sum, v.cells.size)) → cells.size = off + (vs.map (·.cells.size)).sum →
    Instr.fill pl cells (vs.zipIdx k |>.map fun x => (x.2, x.1)) = some (cells.toList.take off ++ vs.flatMap (·.cells.toList)).toArray
  | [], k, off, cells, _, hs => by
    simp only [List.map_nil, List.sum_nil, Nat.add_zero] at hs
    subst hs; simp [Instr.fill, List.take_of_length_le]
  | v :: vs, k, off, cells, hp, hs => by
    have h0 := hp 0 v rfl
    simp only [Nat.add_zero, List.take_zero, List.map_nil, List.sum_nil] at h0
    simp only [List.map_cons, List.sum_cons] at hs
    rw [List.zipIdx_cons, List.map_cons, Instr.fill, h0]
    have hc : ¬ (v.cells.size ≠ v.cells.size || off + v.cells.size > cells.size) = true := by simp; omega
    simp only [hc, Bool.false_eq_true, if_false]
    have hseg := foldl_set_seg v.cells.toList 0 off cells (by simp; omega)
    have hz : v.cells.zipIdx.foldl (fun (cs : Array Value) (x : Value × Nat) => cs.setIfInBounds (off + x.2) x.1) cells = (cells.toList.take off ++ v.cells.toList ++ cells.toList.drop (off + v.cells.size)).toArray := by
      rw [← Array.foldl_toList, Array.toList_zipIdx]
      apply Array.toList_inj.1
      simpa using hseg
    have hz' : v.cells.zipIdx.foldl (fun cs (x : Value × Nat) => match x with | (c, j) => cs.setIfInBounds (off + j) c) cells = (cells.toList.take off ++ v.cells.toList ++ cells.toList.drop (off + v.cells.size)).toArray := hz
    rw [hz']
    rw [fill_consec pl vs (k + 1) (off + v.cells.size) _ (fun j u hu => by
      have := hp (j + 1) u (by simpa using hu)
      rw [show k + (j + 1) = k + 1 + j by omega] at this
      rw [this]
      simp [Nat.add_assoc]) (by simp; omega)]
    congr 2
    simp only [List.flatMap_cons]
    rw [List.take_append_of_le_length (by simp; omega), List.take_of_length_le (by simp; omega), List.append_assoc]

section
variable {P : Program} {n : Nat} {ρ : Env} {K : Env → World → Prop} {W w : World} {F D : Nat → Prop} {es ds : List Asn} {d : Nat} {do_ : Option Nat} {ty : TypeId} {pos : String} {aft : Array Edge} {x y : Operand} {t : TypeId} {v : Value}

def partsOf (ps : List Operand) : Array (Nat × Operand) := (ps.zipIdx.map fun x => (x.2, x.1)).toArray

theorem evParts {a : Act} (ha : Rep n a ρ) {parts : Array (Nat × Operand)} {ps : List Operand} {vs : List Value} (hp : parts.toList = ps.zipIdx.map fun x => (x.2, x.1)) (hv : evArgs ρ ps = some vs) :
    (parts.map fun (x : Nat × Operand) => (x.1, a.eval x.2)).toList = vs.zipIdx.map fun x => (x.2, x.1) := by
  rw [Array.toList_map, hp, List.map_map]
  have h := evArgs_map ha hv
  rw [← h, List.zipIdx_map, List.map_map]
  rfl

/-- A slice literal, all of whose elements are given. -/
theorem O_buildSlice {m e sz by_ : Nat} {parts : Array (Nat × Operand)} (ps : List Operand) {vs : List Value} (hs : St W F D es ds w) (hd : Nat.blt d n = true) (he : einfoB P t e sz by_ = true) (hp : parts.toList = ps.zipIdx.map fun x => (x.2, x.1)) (hv : evArgs ρ ps = some vs)
    (hm : vs.length = m) (hc : ∀ u, u ∈ vs → u.cells.size = sz) (hbig : m * sz ≤ 65536)
    (hK : ∀ b w', W.heap.size ≤ b → St W F D (es ++ [oSl (.slice (some ⟨b, 0, none⟩) m m) e sz m (vs.flatMap (·.cells.toList))]) ds w' → K (upd ρ d (.slice (some ⟨b, 0, none⟩) m m)) w') : EOp P n ⟨some d, .buildSlice t m parts, ty, pos, aft, none⟩ K ρ w := fun a ha => by
  obtain ⟨hu, hsz0, i, z, hi, hz, hisz, _, hzc⟩ := einfo_parts he
  have hsum : (vs.map (·.cells.size)).sum = m * sz := by
    subst hm
    clear hv hbig hK hp
    induction vs with
    | nil => simp
    | cons u vs ih =>
      rw [List.map_cons, List.sum_cons, ih (fun q hq => hc q (List.mem_cons_of_mem _ hq)), hc u List.mem_cons_self, List.length_cons, Nat.succ_mul]; omega
  have hrun : (execOp a.eval ⟨some d, .buildSlice t m parts, ty, pos, aft, none⟩).run P w = .ok (.value (.slice (some ⟨w.heap.size, 0, none⟩) m m)) (w.alloc (.cells (vs.flatMap (·.cells.toList)).toArray e)) := by
    have hfill : ∀ zs : Array Value, zs.size = m * sz → Instr.fill (fun i => some (i * sz, sz)) zs (parts.map fun (x : Nat × Operand) => (x.1, a.eval x.2)).toList = some (vs.flatMap (·.cells.toList)).toArray := fun zs hzs => by
      rw [evParts ha hp hv]
      have := fill_consec (fun i => some (i * sz, sz)) vs 0 0 zs (fun j u hj => by
        have hu := hc u (List.mem_of_getElem? hj)
        have hjl : j < vs.length := (List.getElem?_eq_some_iff.1 hj).1
        rw [hu]
        congr 1
        simp only [Nat.zero_add, Prod.mk.injEq, and_true]
        have : ∀ (l : List Value), (∀ u, u ∈ l → u.cells.size = sz) → (l.map (·.cells.size)).sum = l.length * sz := by
          intro l hl
          induction l with
          | nil => simp
          | cons q l ih => rw [List.map_cons, List.sum_cons, ih (fun q hq => hl q (List.mem_cons_of_mem _ hq)), hl q List.mem_cons_self, List.length_cons, Nat.succ_mul]; omega
        rw [this _ (fun q hq => hc q (List.mem_of_mem_take hq)), List.length_take, Nat.min_eq_left (Nat.le_of_lt hjl)]) (by rw [hzs, hsum]; simp)
      simpa using this
    have hnot : ¬ (m * sz > 2 ^ 24) := by omega
    have hpart : ∀ (zc : Array Value), (Instr.buildSlice t m (parts.map fun (x : Nat × Operand) => (x.1, a.eval x.2))).run P w = .ok (.slice (some ⟨w.heap.size, 0, none⟩) m m) (w.alloc (.cells (vs.flatMap (·.cells.toList)).toArray e)) := fun _ => by
      unfold Instr.buildSlice
      by_cases h0 : m * sz = 0
      · have hz0 := hfill ((Array.range (m * sz)).map fun i => (#[] : Array Value)[i % (#[] : Array Value).size]!) (by simp)
        simp only [Sem.run_bind, run_underlying hu, Result.andThen_ok, sizeOf, typeInfo, run_program, hi, Sem.run_pure, hisz, hnot, if_false]
        simp only [h0] at hz0 ⊢
        simp only [if_true, pure_bind, hz0]
        rfl
      · have hz1 := hfill ((Array.range (m * sz)).map fun i => z.cells[i % z.cells.size]!) (by simp)
        simp only [Sem.run_bind, run_underlying hu, Result.andThen_ok, sizeOf, typeInfo, run_program, hi, Sem.run_pure, hisz, hnot, if_false, h0, zeroValue, hz]
        simp only [hz1]
        rfl
    simp only [execOp, Sem.run_bind, hpart #[], Result.andThen_ok, Sem.run_pure]
  unfold Oper.wp
  rw [hrun]
  have hpush := hs.push (vs.flatMap (·.cells.toList)).toArray e
  have hlen : (vs.flatMap (·.cells.toList)).length = m * sz := by
    rw [List.length_flatMap]; simpa using hsum
  have hown : (oSl (.slice (some ⟨w.heap.size, 0, none⟩) m m) e sz m (vs.flatMap (·.cells.toList))).P (w.alloc (.cells (vs.flatMap (·.cells.toList)).toArray e)) :=
    ⟨hlen, .inr ⟨w.heap.size, m, _, rfl, Nat.zero_le _, heap_alloc_new w _, Nat.le_refl _, by
      unfold maxLen
      have : m ≤ m * sz := Nat.le_mul_of_pos_right m hsz0
      omega, by simpa using hlen, by rw [← hlen]; exact List.take_length⟩⟩
  refine ⟨_, ha.put hd _, hK _ _ hs.size ?_⟩
  have h1 := hpush.change (i := es.length) (a := blk w.heap.size (vs.flatMap (·.cells.toList)).toArray e) (by simp) _ rfl rfl rfl (Nat.le_refl _) (fun _ _ _ => rfl) hown (fun k hk => ⟨.inl (by
    have : k = w.heap.size := by simpa [oSl, Value.ownBlock, eq_comm] using hk
    exact this), by
      have : k = w.heap.size := by simpa [oSl, Value.ownBlock, eq_comm] using hk
      subst this
      rw [heap_alloc]; simp⟩)
  simpa using h1

/-! ### append, onto an owned slice -/
theorem St.appendOwn (hs : St W F D es ds w) {i : Nat} {v v' : Value} {e sz m m' : Nat} {xs ys : List Value} {w' : World} (hi : es[i]? = some (oSl v e sz m xs)) (hown : w'.ownsRow 0 e sz v' m' ys) (hg : w.grownBy w' v.ownBlock)
    (hv : ∀ k, v'.ownBlock = some k → v.ownBlock = some k ∨ w.heap.size ≤ k) : St W F D (es.set i (oSl v' e sz m' ys)) ds w' :=
  hs.change hi _ hg.os hg.tape hg.output hg.size (fun k hk hf => hg.block k hk (fun h => hf h.symm)) hown (fun k hk => ⟨hv k hk, (hown.lt k hk).2⟩)

/-- Appending tells a slice at the old block, or at a new one. -/
theorem run_append_at {t ty_ e sz by_ : Nat} (he : einfoB P t e sz by_ = true) {v : Value} {m : Nat} {xs : List Value} (hown : w.ownsRow 0 e sz v m xs) {a : Addr} {mm c : Nat} {news : List Value} (hl : news.length = mm * sz)
    (hnews : ∀ j u, news[j]? = some u → w.cell? (a.add j) = some u) (h1 : ∀ u ∈ news, u.oneCell' = true) (hbytes : (m + mm) * by_ ≤ 140737488355328) (hmax : m + mm ≤ 4294967296) :
    ∃ v' w', (Builtin.append_ #[t, t] ty_ #[v, .slice (some a) mm c]).run P w = .ok v' w' ∧ w'.ownsRow 0 e sz v' (m + mm) (xs ++ news) ∧ w.grownBy w' v.ownBlock ∧ (∀ k, v'.ownBlock = some k → v.ownBlock = some k ∨ w.heap.size ≤ k) := by
  obtain ⟨hu, hsz0, i, z, hi, hz, hisz, hby, hzc⟩ := einfo_parts he
  have hmx : m + mm ≤ maxLen := by unfold maxLen; omega
  -- at a base that is the heap's size or the old block's number, the law tells where the new one lies
  rcases hown.2 with ⟨hv, hm⟩ | ⟨g, cap, cur, hv, hb, hg, hrest⟩
  · subst hv
    have hown' : w.ownsRow w.heap.size e sz (.slice none 0 0) m xs := ⟨hown.1, .inl ⟨rfl, hm⟩⟩
    obtain ⟨v', w', hr, h2, h3, _⟩ := run_append_own w w.heap.size t ty_ e i z sz by_ hu hi hz hisz hby hzc hsz0 _ m xs hown' a mm c news hl hnews h1 hmx hbytes (Nat.le_refl _)
    exact ⟨v', w', hr, ⟨h2.1, h2.2.imp id (fun ⟨g, cap, cur, a1, _, a3⟩ => ⟨g, cap, cur, a1, Nat.zero_le _, a3⟩)⟩, h3, fun k hk => .inr (h2.lt k hk).1⟩
  · subst hv
    obtain ⟨v', w', hr, h2, h3, _⟩ := run_append_own w 0 t ty_ e i z sz by_ hu hi hz hisz hby hzc hsz0 _ m xs hown a mm c news hl hnews h1 hmx hbytes (Nat.zero_le _)
    refine ⟨v', w', hr, h2, h3, fun k hk => ?_⟩
    obtain ⟨hnc, hcm, hcs, htake⟩ := hrest
    by_cases hroom : m + mm ≤ cap
    · have hr2 := run_append_room (P := P) w t ty_ e i hu hi g m cap cur hg a mm c news (by rw [hisz]; exact hl) hnews h1 hroom (by rw [hisz, hl, hcs, ← Nat.add_mul]; exact Nat.mul_le_mul_right _ hroom)
      rw [hr] at hr2
      obtain ⟨rfl, rfl⟩ := Result.ok.inj hr2
      exact .inl hk
    · have holds : ∀ j u, xs[j]? = some u → w.cell? ((⟨g, 0, none⟩ : Addr).add j) = some u := hown.cells (g := g) rfl
      have hr2 := run_append_grow (P := P) w t ty_ e i z hu hi hz ⟨g, 0, none⟩ m cap xs (by rw [hisz]; exact hown.1) holds a mm c news (by rw [hisz]; exact hl) hnews (by omega) (by unfold maxLen at hmx; omega) (growslice_fits (by omega) (by rw [hby]; exact hbytes))
      rw [hr] at hr2
      obtain ⟨rfl, rfl⟩ := Result.ok.inj hr2
      refine .inr ?_
      have : k = w.heap.size := by simpa [Value.ownBlock, eq_comm] using hk
      omega

/-- What lies in an owned slice. -/
theorem own_cells {v : Value} {e sz m : Nat} {xs : List Value} (h : (oSl v e sz m xs).P w) {ao : Option Addr} {mm c : Nat} (hv : v = .slice ao mm c) : mm = m ∧ m ≤ c ∧ xs.length = m * sz ∧ (∀ ad, ao = some ad → ∃ g, ad = ⟨g, 0, none⟩ ∧ ∀ i u, xs[i]? = some u → w.cell? ⟨g, 0 + i, none⟩ = some u) ∧ (ao = none → m = 0 ∧ c = 0) := by
  subst hv
  refine ⟨?_, ?_, h.1, ?_, ?_⟩
  · rcases h.2 with ⟨hv, hm⟩ | ⟨g, cap, cur, hv, _⟩
    · injection hv with h1 h2 h3; omega
    · injection hv
  · rcases h.2 with ⟨hv, hm⟩ | ⟨g, cap, cur, hv, _, _, hnc, _⟩
    · omega
    · injection hv with h1 h2 h3; omega
  · intro ad had
    subst had
    rcases h.2 with ⟨hv, hm⟩ | ⟨g, cap, cur, hv, _, hg, hnc, hcm, hcs, htake⟩
    · injection hv with h1; cases h1
    · injection hv with h1 h2 h3
      obtain rfl := Option.some.inj h1
      refine ⟨g, rfl, fun i u hu => ?_⟩
      rw [Nat.zero_add, cell_blk hg]
      rw [← htake, List.getElem?_take] at hu
      split at hu
      · simpa using hu
      · cases hu
  · intro hao
    subst hao
    rcases h.2 with ⟨hv, hm⟩ | ⟨g, cap, cur, hv, _⟩
    · injection hv with h1 h2 h3; exact ⟨hm, h3⟩
    · injection hv with h1; cases h1

/-- The source of an append, as it lies in memory: a slice and its cells. -/
def Src (w : World) (v : Value) (mm sz : Nat) (news : List Value) : Prop :=
  news.length = mm * sz ∧ ((v = .slice none 0 0 ∧ mm = 0) ∨ ∃ a c, v = .slice (some a) mm c ∧ ∀ j u, news[j]? = some u → w.cell? (a.add j) = some u)

theorem Src.own {v : Value} {e sz m : Nat} {xs : List Value} (h : (oSl v e sz m xs).P w) : Src w v m sz xs := by
  refine ⟨h.1, ?_⟩
  rcases h.2 with ⟨hv, hm⟩ | ⟨g, cap, cur, rfl, hrest⟩
  · exact .inl ⟨hv, hm⟩
  · obtain ⟨_, _, _, hc, _⟩ := own_cells h rfl
    obtain ⟨g', hg', hcc⟩ := hc _ rfl
    simp only [Addr.mk.injEq, and_true] at hg'
    subst hg'
    exact .inr ⟨⟨g, 0, none⟩, cap, rfl, fun j u hu => by
      have e : (⟨g, 0, none⟩ : Addr).add j = ⟨g, 0 + j, none⟩ := by unfold Addr.add; split <;> simp_all
      rw [e]; exact hcc j u hu⟩

/-- A slice that is only read, of an address or nil with capacity 0. -/
theorem Src.data {ao : Option Addr} {m c sz : Nat} {xs : List Value} (h : (dSl ao m c sz xs).P w) : Src w (.slice ao m c) m sz xs := by
  refine ⟨h.2.1, ?_⟩
  cases ao with
  | none =>
    have hc := h.1.2.1 rfl
    have hm : m = 0 := by have := h.1.1; omega
    subst hc; subst hm
    exact .inl ⟨rfl, rfl⟩
  | some ad =>
    refine .inr ⟨ad, c, rfl, ?_⟩
    by_cases hne : xs = []
    · subst hne; simp
    · obtain ⟨b', o', hao, hr⟩ := h.2.2 hne
      simp only [Option.some.injEq] at hao
      subst hao
      intro j u hu
      have e : (⟨b', o', none⟩ : Addr).add j = ⟨b', o' + j, none⟩ := by unfold Addr.add; split <;> simp_all
      rw [e]; exact hr j u hu

theorem O_append {e sz by_ m mm i : Nat} {xs news : List Value} {v u : Value} (hs : St W F D es ds w) (hi : es[i]? = some (oSl v e sz m xs)) (hd : Nat.blt d n = true) (he : einfoB P t e sz by_ = true) (hx : evO ρ x = some v) (hy : evO ρ y = some u)
    (hsrc : Src w u mm sz news) (h1 : ∀ u ∈ news, u.oneCell' = true) (hbytes : (m + mm) * by_ ≤ 140737488355328) (hmax : m + mm ≤ 4294967296)
    (hK : ∀ v' w', St W F D (es.set i (oSl v' e sz (m + mm) (xs ++ news))) ds w' → K (upd ρ d v') w') : EOp P n ⟨some d, .call ⟨.builtin .append, #[x, y], #[t, t]⟩, ty, pos, aft, none⟩ K ρ w := fun a ha => by
  have hown : w.ownsRow 0 e sz v m xs := hs.at hi
  unfold Oper.wp
  have key : ∃ v' w', (Builtin.append_ #[t, t] ty #[v, u]).run P w = .ok v' w' ∧ w'.ownsRow 0 e sz v' (m + mm) (xs ++ news) ∧ w.grownBy w' v.ownBlock ∧ (∀ k, v'.ownBlock = some k → v.ownBlock = some k ∨ w.heap.size ≤ k) := by
    obtain ⟨hlen, ⟨rfl, rfl⟩ | ⟨b, c, rfl, hc⟩⟩ := hsrc
    · have hn : news = [] := List.eq_nil_of_length_eq_zero (by simpa using hlen)
      subst hn
      obtain ⟨hu, hsz0, inf, z, hinf, hz, hisz, hby, hzc⟩ := einfo_parts he
      have hr := run_append_owned_none (P := P) w 0 t ty e inf sz hu hinf v m xs hown
      exact ⟨v, w, hr, by simpa using hown, ⟨rfl, rfl, rfl, Nat.le_refl _, fun _ _ _ => rfl⟩, fun k hk => .inl hk⟩
    · exact run_append_at he hown hlen hc h1 hbytes hmax
  obtain ⟨v', w', hr, h2, h3, h4⟩ := key
  have hrun : (execOp a.eval ⟨some d, .call ⟨.builtin .append, #[x, y], #[t, t]⟩, ty, pos, aft, none⟩).run P w = .ok (.value v') w' := by
    simp only [execOp, resolve, invoke, builtin, Sem.run_bind, Sem.run_pure, Result.andThen_ok, List.map_toArray, List.map_cons, List.map_nil, ha.eval hx, ha.eval hy, hr]
  rw [hrun]
  exact ⟨_, ha.put hd _, hK _ _ (hs.appendOwn hi h2 h3 h4)⟩

/-- A text appended to owned bytes. -/
theorem O_appendStr {e u i m : Nat} {xs : List Value} {v : Value} {l : BL} (hs : St W F D es ds w) (hi : es[i]? = some (oSl v e 1 m xs)) (hd : Nat.blt d n = true) (he : einfoB P t e 1 1 = true) (hu : P.underlying u = some .string) (hz : ∀ w, (zeroValue e).run P w = .ok (.int .u8 0) w) (hx : evO ρ x = some v) (hy : evO ρ y = some (.string (bstr l)))
    (hmax : m + l.length ≤ 4294967296)
    (hK : ∀ v' w', St W F D (es.set i (oSl v' e 1 (m + l.length) (xs ++ l.map fun b => .int .u8 b.toNat))) ds w' → K (upd ρ d v') w') : EOp P n ⟨some d, .call ⟨.builtin .append, #[x, y], #[t, u]⟩, ty, pos, aft, none⟩ K ρ w := fun a ha => by
  have hown : w.ownsRow 0 e 1 v m xs := hs.at hi
  obtain ⟨hut, hsz0, inf, z, hinf, hzz, hisz, hby, hzc⟩ := einfo_parts he
  have hz0 : inf.zero = some (.int .u8 0) := by
    have := hz w
    simp only [zeroValue, Sem.run_bind, typeInfo, run_program, Result.andThen_ok, hinf, Sem.run_pure, hzz] at this
    rw [hzz]; congr 1; injection this
  have hsize : (bstr l).size = l.length := by simp [bstr, ByteArray.size]
  have hcells : Lib.strCells (bstr l) = l.map fun b => .int .u8 b.toNat := by simp [Lib.strCells, bstr]
  unfold Oper.wp
  -- the block: by the two cases of the owned slice
  have key : ∃ v' w', (Builtin.append_ #[t, u] ty #[v, .string (bstr l)]).run P w = .ok v' w' ∧ w'.ownsRow 0 e 1 v' (m + l.length) (xs ++ l.map fun b => .int .u8 b.toNat) ∧ w.grownBy w' v.ownBlock ∧ (∀ k, v'.ownBlock = some k → v.ownBlock = some k ∨ w.heap.size ≤ k) := by
    rw [← hcells, ← hsize]
    have hmx : m + (bstr l).size ≤ maxLen := by rw [hsize]; unfold maxLen; omega
    have hmx2 : m + (bstr l).size ≤ 140737488355328 := by rw [hsize]; omega
    rcases hown.2 with ⟨hv, hm⟩ | ⟨g, cap, cur, hv, hb, hg, hrest⟩
    · subst hv
      have hown' : w.ownsRow w.heap.size e 1 (.slice none 0 0) m xs := ⟨hown.1, .inl ⟨rfl, hm⟩⟩
      obtain ⟨v', w', hr, h2, h3, _⟩ := Lib.run_append_own_string (P := P) w w.heap.size t u ty e inf hut hu hinf hz0 hisz hby _ m xs hown' (bstr l) hmx hmx2 (Nat.le_refl _)
      exact ⟨v', w', hr, ⟨h2.1, h2.2.imp id (fun ⟨g, cap, cur, a1, _, a3⟩ => ⟨g, cap, cur, a1, Nat.zero_le _, a3⟩)⟩, h3, fun k hk => .inr (h2.lt k hk).1⟩
    · subst hv
      obtain ⟨v', w', hr, h2, h3, _⟩ := Lib.run_append_own_string (P := P) w 0 t u ty e inf hut hu hinf hz0 hisz hby _ m xs hown (bstr l) hmx hmx2 (Nat.zero_le _)
      refine ⟨v', w', hr, h2, h3, fun k hk => ?_⟩
      obtain ⟨hnc, hcm, hcs, htake⟩ := hrest
      by_cases hroom : m + (bstr l).size ≤ cap
      · have hr2 := Lib.run_append_room_string (P := P) w t u ty e inf hut hu hinf hisz g m cap cur hg (bstr l) hroom (by rw [hcs]; omega)
        rw [hr] at hr2
        obtain ⟨rfl, rfl⟩ := Result.ok.inj hr2
        exact .inl hk
      · have holds : ∀ j u, xs[j]? = some u → w.cell? ((⟨g, 0, none⟩ : Addr).add j) = some u := hown.cells (g := g) rfl
        have hr2 := Lib.run_append_grow_string (P := P) w t u ty e inf _ hut hu hinf hz0 ⟨g, 0, none⟩ m cap xs (by rw [hisz]; exact hown.1) holds (bstr l) (by omega) (by unfold maxLen at hmx; omega) (growslice_fits (by omega) (by rw [hby]; omega))
        rw [hr] at hr2
        obtain ⟨rfl, rfl⟩ := Result.ok.inj hr2
        refine .inr ?_
        have : k = w.heap.size := by simpa [Value.ownBlock, eq_comm] using hk
        omega
  obtain ⟨v', w', hr, h2, h3, h4⟩ := key
  have hrun : (execOp a.eval ⟨some d, .call ⟨.builtin .append, #[x, y], #[t, u]⟩, ty, pos, aft, none⟩).run P w = .ok (.value v') w' := by
    simp only [execOp, resolve, invoke, builtin, Sem.run_bind, Sem.run_pure, Result.andThen_ok, List.map_toArray, List.map_cons, List.map_nil, ha.eval hx, ha.eval hy, hr]
  rw [hrun]
  exact ⟨_, ha.put hd _, hK _ _ (hs.appendOwn hi h2 h3 h4)⟩

/-! ### Slices cut -/
theorem sl_bound {k : IntKind} {i : Int} {y : Nat} {code : BoundsCode} (h0 : 0 ≤ i) (h1 : i ≤ y) : (Instr.sliceBound (.int k i) y code).run P w = .ok i.toNat w := by
  rw [run_sliceBound]; all_goals first | rfl | omega

def cutO (ao : Option Addr) (c l sz : Nat) : Option Addr := if c = l then ao else ao.map (·.add (l * sz))

theorem R_sliceHi {ao : Option Addr} {m c sz : Nat} {k : IntKind} {h : Int} (hs : elemSize P t = some sz) (hx : evO ρ x = some (.slice ao m c)) (hy : evO ρ y = some (.int k h)) (h0 : 0 ≤ h) (h1 : h ≤ c) :
    RunV P n ⟨do_, .slice t x none (some y) none, ty, pos, aft, none⟩ ρ w (.slice ao h.toNat c) := fun a ha => by
  unfold elemSize at hs
  split at hs
  · rename_i e hu
    obtain ⟨inf, hinf, hsz⟩ := Option.map_eq_some_iff.1 hs
    simp only [execOp, ha.eval hx, ha.eval hy, Option.map_some, Option.map_none, Instr.sliceAt, Sem.run_bind, run_underlying hu, Result.andThen_ok, Instr.slice, Instr.sliceBounds, sl_bound h0 h1, Sem.run_pure, sizeOf, typeInfo, run_program, hinf, if_true]
    by_cases hc : c = 0
    · simp [hc]
    · simp only [hc, if_false, Nat.zero_mul, Nat.sub_zero]
      cases ao with
      | none => rfl
      | some ad => simp [Addr.add]
  · cases hs

theorem R_sliceLo {ao : Option Addr} {m c sz : Nat} {k : IntKind} {l : Int} (hs : elemSize P t = some sz) (hx : evO ρ x = some (.slice ao m c)) (hy : evO ρ y = some (.int k l)) (h0 : 0 ≤ l) (h1 : l ≤ m) :
    RunV P n ⟨do_, .slice t x (some y) none none, ty, pos, aft, none⟩ ρ w (.slice (cutO ao c l.toNat sz) (m - l.toNat) (c - l.toNat)) := fun a ha => by
  unfold elemSize at hs
  split at hs
  · rename_i e hu
    obtain ⟨inf, hinf, hsz⟩ := Option.map_eq_some_iff.1 hs
    subst hsz
    simp only [execOp, ha.eval hx, ha.eval hy, Option.map_some, Option.map_none, Instr.sliceAt, Sem.run_bind, run_underlying hu, Result.andThen_ok, Instr.slice, Instr.sliceBounds, sl_bound h0 h1, Sem.run_pure, sizeOf, typeInfo, run_program, hinf, Option.isSome_none, Bool.false_eq_true, if_false]
    rfl
  · cases hs

theorem R_sliceLH {z : Operand} {ao : Option Addr} {m c sz : Nat} {k k' : IntKind} {l h : Int} (hs : elemSize P t = some sz) (hx : evO ρ x = some (.slice ao m c)) (hy : evO ρ y = some (.int k l)) (hz : evO ρ z = some (.int k' h)) (h0 : 0 ≤ l) (h1 : l ≤ h) (h2 : h ≤ c) :
    RunV P n ⟨do_, .slice t x (some y) (some z) none, ty, pos, aft, none⟩ ρ w (.slice (cutO ao c l.toNat sz) (h.toNat - l.toNat) (c - l.toNat)) := fun a ha => by
  unfold elemSize at hs
  split at hs
  · rename_i e hu
    obtain ⟨inf, hinf, hsz⟩ := Option.map_eq_some_iff.1 hs
    subst hsz
    have e2 : (h.toNat : Int) = h := Int.toNat_of_nonneg (by omega)
    simp only [execOp, ha.eval hx, ha.eval hy, ha.eval hz, Option.map_some, Option.map_none, Instr.sliceAt, Sem.run_bind, run_underlying hu, Result.andThen_ok, Instr.slice, Instr.sliceBounds, sl_bound (show 0 ≤ h by omega) h2, sl_bound (y := h.toNat) h0 (by omega), Sem.run_pure, sizeOf, typeInfo, run_program, hinf, Option.isSome_none, Bool.false_eq_true, if_false]
    rfl
  · cases hs

/-- A cut of a slice that is only read. -/
theorem dSl.cut {ao : Option Addr} {m c sz l h : Nat} {cs : List Value} (hd : (dSl ao m c sz cs).P w) (h1 : l ≤ h) (h2 : h ≤ m) : (dSl (cutO ao c l sz) (h - l) (c - l) sz ((cs.drop (l * sz)).take ((h - l) * sz))).P w := by
  obtain ⟨⟨hmc, hok⟩, hlen, hr⟩ := hd
  have hb : h * sz ≤ cs.length := by rw [hlen]; exact Nat.mul_le_mul_right _ h2
  have hls : l * sz ≤ h * sz := Nat.mul_le_mul_right _ h1
  have hok' : SOk (cutO ao c l sz) (c - l) := by
    unfold cutO
    split
    · exact ⟨fun h => by rw [hok.1 h]; omega, fun ad h h2 => hok.2 ad h (by omega)⟩
    · refine ⟨fun h => ?_, fun ad h h2 => ?_⟩
      · have : ao = none := by cases ao <;> simp_all
        rw [hok.1 this]; omega
      · cases ao with
        | none => cases h
        | some a =>
          simp only [Option.map_some, Option.some.injEq] at h
          rw [← h]
          unfold Addr.add
          split
          · exact hok.2 a rfl (by omega)
          · rfl
  refine ⟨⟨by omega, hok'⟩, by rw [List.length_take, List.length_drop, Nat.sub_mul]; omega, fun hne => ?_⟩
  have hne' : cs ≠ [] := by intro h; subst h; simp at hne
  obtain ⟨b, o, hao, hrow⟩ := hr hne'
  have hcl : ¬ c = l := by
    intro e
    have : h - l = 0 := by omega
    rw [this, Nat.zero_mul, List.take_zero] at hne
    exact hne rfl
  refine ⟨b, o + l * sz, ?_, fun i u hu => ?_⟩
  · unfold cutO
    rw [if_neg hcl, hao]
    simp [Addr.add]
  · rw [List.getElem?_take] at hu
    split at hu
    · rw [List.getElem?_drop] at hu
      rw [Nat.add_assoc]
      exact hrow _ u hu
    · cases hu

theorem dSl.cut_foot {ao : Option Addr} {m c sz l h : Nat} {cs : List Value} : ∀ k, (dSl (cutO ao c l sz) (h - l) (c - l) sz ((cs.drop (l * sz)).take ((h - l) * sz))).foot k → (dSl ao m c sz cs).foot k := by
  intro k ⟨hne, ad, hao, hk⟩
  have hne' : cs ≠ [] := by intro h; subst h; simp at hne
  refine ⟨hne', ?_⟩
  unfold cutO at hao
  split at hao
  · exact ⟨ad, hao, hk⟩
  · cases ao with
    | none => cases hao
    | some ad' =>
      simp only [Option.map_some, Option.some.injEq] at hao
      refine ⟨ad', rfl, ?_⟩
      rw [hk, ← hao]
      unfold Addr.add
      split <;> rfl

/-! ### Bytes and texts -/
def u8s (l : BL) : List Value := l.map fun b => .int .u8 b.toNat
theorem u8s_len (l : BL) : (u8s l).length = l.length := by simp [u8s]
theorem u8s_one (l : BL) : ∀ u ∈ u8s l, u.oneCell' = true := by
  intro u hu
  obtain ⟨b, _, rfl⟩ := List.mem_map.1 hu
  rfl
/-- Bytes that are only read. -/
abbrev dB (ao : Option Addr) (c : Nat) (l : BL) : Asn := dSl ao l.length c 1 (u8s l)

theorem R_convStr {s u e : TypeId} {ao : Option Addr} {c : Nat} {l : BL} (hs : P.underlying s = some (.slice e)) (he : P.underlying e = some (.int .u8)) (hu : P.underlying u = some .string) (hx : evO ρ x = some (.slice ao l.length c)) (hd : (dB ao c l).P w) :
    RunV P n ⟨do_, .convert s u x, ty, pos, aft, none⟩ ρ w (.string (bstr l)) := fun a ha => by
  have hrun : (convert s u (.slice ao l.length c)).run P w = .ok (.string (bstr l)) w := by
    by_cases hne : l = []
    · subst hne
      rw [run_convert_bytes_string w s u e _ _ c hs he hu]
      cases ao with
      | none => simp [Conv.bytesToString]; rfl
      | some ad =>
        have := run_bytesToString (P := P) w ad 0 c [] (by simp [loadCells, loadCellsFrom])
        have e : bstr [] = ByteArray.empty := rfl
        rw [e]; simpa using this
    · obtain ⟨b, o, hao, hrow⟩ := hd.2.2 (by simpa [u8s] using hne)
      subst hao
      have := run_convert_bytes_arg (P := P) w s e hs he b o l.length c (l.map fun b => ((b.toNat : Nat) : Int)) (by simp) (fun i hi => by
        rw [hrow i (.int .u8 (l[i]).toNat) (by simp [u8s, hi])]
        simp [hi]) u hu
      rw [this]
      congr 2
      simp [strOfNums, bstr, List.map_map, Function.comp_def]
  simp only [execOp, ha.eval hx, Sem.run_bind, hrun, Result.andThen_ok, Sem.run_pure]
end
end Go.Proofs.YtpcojkbljgpecaaGreat
namespace Go.Proofs.YtpcojkbljgpecaaGreat
open Go

theorem wrapU {k : IntKind} {a : Nat} (hk : k.signed = false) (h : a < 2 ^ k.bits) : k.wrap (a : Int) = a := by
  unfold IntKind.wrap
  have h1 : ((a : Int) % (2 ^ k.bits : Int)) = a := by
    apply Int.emod_eq_of_lt (by omega)
    exact_mod_cast h
  simp [hk, h1]

theorem wrapU_mod {k : IntKind} {a : Nat} (hk : k.signed = false) : k.wrap (a : Int) = ((a % 2 ^ k.bits : Nat) : Int) := by
  unfold IntKind.wrap
  simp [hk]

section
variable {P : Program} {n : Nat} {ρ : Env} {K : Env → World → Prop} {W w : World} {F D : Nat → Prop} {es ds : List Asn} {d : Nat} {do_ : Option Nat} {ty : TypeId} {pos : String} {aft : Array Edge} {x y : Operand} {t t' : TypeId} {k k' : IntKind} {a b : Nat} {q : Int}

theorem R_shrU (sn : Nat) (hx : evO ρ x = some (.int k (a : Int))) (hy : evO ρ y = some (.int k' q)) (hq : q = (sn : Int)) (ha : a < 2 ^ k.bits) : RunV P n ⟨do_, .binOp .shr t x y t', ty, pos, aft, none⟩ ρ w (.int k ((a / 2 ^ sn : Nat) : Int)) := fun ac hr => by
  subst hq
  have hn : ¬ ((sn : Int) < 0) := by omega
  simp only [execOp, hr.eval hx, hr.eval hy, eqGuard, binOp, Op.shift, hn, if_false, Int.toNat_natCast]
  have e : (a : Int).fdiv (2 ^ (min sn k.bits)) = ((a / 2 ^ sn : Nat) : Int) := by
    have e1 : ((2 : Int) ^ (min sn k.bits)) = ((2 ^ (min sn k.bits) : Nat) : Int) := by push_cast; rfl
    rw [e1, Int.fdiv_eq_ediv_of_nonneg _ (Int.natCast_nonneg _)]
    rw [← Int.natCast_ediv]
    congr 1
    rcases Nat.le_total sn k.bits with h | h
    · rw [Nat.min_eq_left h]
    · rw [Nat.min_eq_right h, Nat.div_eq_of_lt ha, Nat.div_eq_of_lt (Nat.lt_of_lt_of_le ha (Nat.pow_le_pow_right (by omega) h))]
  rw [e]
  rfl

theorem R_shlU (sn : Nat) (hk : k.signed = false) (hx : evO ρ x = some (.int k (a : Int))) (hy : evO ρ y = some (.int k' q)) (hq : q = (sn : Int)) : RunV P n ⟨do_, .binOp .shl t x y t', ty, pos, aft, none⟩ ρ w (.int k ((a * 2 ^ sn % 2 ^ k.bits : Nat) : Int)) := fun ac hr => by
  subst hq
  have hn : ¬ ((sn : Int) < 0) := by omega
  simp only [execOp, hr.eval hx, hr.eval hy, eqGuard, binOp, Op.shift, hn, if_false, Int.toNat_natCast]
  have e : k.wrap ((a : Int) * 2 ^ (min sn k.bits)) = ((a * 2 ^ sn % 2 ^ k.bits : Nat) : Int) := by
    have e1 : ((a : Int) * 2 ^ (min sn k.bits)) = ((a * 2 ^ (min sn k.bits) : Nat) : Int) := by push_cast; rfl
    rw [e1, wrapU_mod hk]
    congr 1
    rcases Nat.le_total sn k.bits with h | h
    · rw [Nat.min_eq_left h]
    · rw [Nat.min_eq_right h, Nat.mul_mod_left]
      have : 2 ^ sn = 2 ^ (sn - k.bits) * 2 ^ k.bits := by rw [← Nat.pow_add]; congr 1; omega
      rw [this, ← Nat.mul_assoc, Nat.mul_mod_left]
  rw [e]
  rfl

theorem bits_back {k : IntKind} (hk : k.signed = false) (r : BitVec k.bits) : k.wrap (r.toNat : Int) = r.toNat := wrapU hk r.isLt

theorem R_orU (hk : k.signed = false) (hx : evO ρ x = some (.int k (a : Int))) (hy : evO ρ y = some (.int k (b : Int))) (ha : a < 2 ^ k.bits) (hb : b < 2 ^ k.bits) : RunV P n ⟨do_, .binOp .or t x y t', ty, pos, aft, none⟩ ρ w (.int k ((a ||| b : Nat) : Int)) := fun ac hr => by
  have e : BitVec.ofInt k.bits (a : Int) ||| BitVec.ofInt k.bits (b : Int) = BitVec.ofNat k.bits (a ||| b) := by
    rw [BitVec.ofInt_natCast, BitVec.ofInt_natCast, BitVec.ofNat_or]
  have hl : a ||| b < 2 ^ k.bits := Nat.or_lt_two_pow ha hb
  simp only [execOp, hr.eval hx, hr.eval hy, eqGuard, binOp, Op.intBits, ne_eq, not_true, if_false, e, BitVec.toNat_ofNat, Nat.mod_eq_of_lt hl, wrapU hk hl]
  rfl
theorem R_andU (hk : k.signed = false) (hx : evO ρ x = some (.int k (a : Int))) (hy : evO ρ y = some (.int k (b : Int))) (hb : b < 2 ^ k.bits) : RunV P n ⟨do_, .binOp .and t x y t', ty, pos, aft, none⟩ ρ w (.int k ((a &&& b : Nat) : Int)) := fun ac hr => by
  have e : BitVec.ofInt k.bits (a : Int) &&& BitVec.ofInt k.bits (b : Int) = BitVec.ofNat k.bits (a &&& b) := by
    rw [BitVec.ofInt_natCast, BitVec.ofInt_natCast, BitVec.ofNat_and]
  have hl : a &&& b < 2 ^ k.bits := Nat.and_lt_two_pow _ hb
  simp only [execOp, hr.eval hx, hr.eval hy, eqGuard, binOp, Op.intBits, ne_eq, not_true, if_false, e, BitVec.toNat_ofNat, Nat.mod_eq_of_lt hl, wrapU hk hl]
  rfl
theorem R_xorU (hk : k.signed = false) (hx : evO ρ x = some (.int k (a : Int))) (hy : evO ρ y = some (.int k (b : Int))) (ha : a < 2 ^ k.bits) (hb : b < 2 ^ k.bits) : RunV P n ⟨do_, .binOp .xor t x y t', ty, pos, aft, none⟩ ρ w (.int k ((a ^^^ b : Nat) : Int)) := fun ac hr => by
  have e : BitVec.ofInt k.bits (a : Int) ^^^ BitVec.ofInt k.bits (b : Int) = BitVec.ofNat k.bits (a ^^^ b) := by
    rw [BitVec.ofInt_natCast, BitVec.ofInt_natCast, BitVec.ofNat_xor]
  have hl : a ^^^ b < 2 ^ k.bits := Nat.xor_lt_two_pow ha hb
  simp only [execOp, hr.eval hx, hr.eval hy, eqGuard, binOp, Op.intBits, ne_eq, not_true, if_false, e, BitVec.toNat_ofNat, Nat.mod_eq_of_lt hl, wrapU hk hl]
  rfl

/-- c &^ 128 of a byte. -/
theorem R_andNot128 (hx : evO ρ x = some (.int .u8 (a : Int))) (hy : evO ρ y = some (.int .u8 128)) (ha : a < 256) : RunV P n ⟨do_, .binOp .andNot t x y t', ty, pos, aft, none⟩ ρ w (.int .u8 ((a % 128 : Nat) : Int)) := fun ac hr => by
  have e : ∀ a : Fin 256, IntKind.u8.wrap (((BitVec.ofInt 8 ((a.val : Nat) : Int) &&& ~~~(BitVec.ofInt 8 128)).toNat : Nat) : Int) = ((a.val % 128 : Nat) : Int) := by decide +kernel
  have := e ⟨a, ha⟩
  simp only [execOp, hr.eval hx, hr.eval hy, eqGuard, binOp, Op.intBits, ne_eq, not_true, if_false]
  show Sem.run P (pure (Next.value (Value.int .u8 _))) w = _
  exact congrArg (fun z => Result.ok (Next.value (Value.int .u8 z)) w) this

/-- Conversions of naturals. -/
theorem R_convU {s u : TypeId} {dsc : TypeDesc} (hk : k'.signed = false) (hs : P.underlying s = some dsc) (hu : P.underlying u = some (.int k')) (hx : evO ρ x = some (.int k (a : Int))) : RunV P n ⟨do_, .convert s u x, ty, pos, aft, none⟩ ρ w (.int k' ((a % 2 ^ k'.bits : Nat) : Int)) := by
  have := R_convI (P := P) (n := n) (ρ := ρ) (w := w) (d := do_) (ty := ty) (pos := pos) (aft := aft) hs hu hx
  rwa [wrapU_mod hk] at this
theorem R_convN {s u : TypeId} {dsc : TypeDesc} (hk : k'.signed = false) (hs : P.underlying s = some dsc) (hu : P.underlying u = some (.int k')) (hx : evO ρ x = some (.int k (a : Int))) (ha : a < 2 ^ k'.bits) : RunV P n ⟨do_, .convert s u x, ty, pos, aft, none⟩ ρ w (.int k' (a : Int)) := by
  have := R_convI (P := P) (n := n) (ρ := ρ) (w := w) (d := do_) (ty := ty) (pos := pos) (aft := aft) hs hu hx
  rwa [wrapU hk ha] at this
theorem R_convS {s u : TypeId} {dsc : TypeDesc} (hs : P.underlying s = some dsc) (hu : P.underlying u = some (.int .i64)) (hx : evO ρ x = some (.int k q)) (h0 : -9223372036854775808 ≤ q) (h1 : q ≤ 9223372036854775807) : RunV P n ⟨do_, .convert s u x, ty, pos, aft, none⟩ ρ w (.int .i64 q) := by
  have := R_convI (P := P) (n := n) (ρ := ρ) (w := w) (d := do_) (ty := ty) (pos := pos) (aft := aft) hs hu hx
  rwa [wrap_i64 h0 h1] at this

/-- A text as new bytes, that are only read. -/
theorem O_convBytes {s u e : TypeId} {ud : TypeDesc} {l : BL} (hs : St W F D es ds w) (hd : Nat.blt d n = true) (h1 : P.underlying s = some ud) (h2 : P.underlying u = some (.slice e)) (h3 : P.underlying e = some (.int .u8)) (hx : evO ρ x = some (.string (bstr l)))
    (hK : ∀ b c w', W.heap.size ≤ b → St W F D es (ds ++ [dB (some ⟨b, 0, none⟩) c l]) w' → K (upd ρ d (.slice (some ⟨b, 0, none⟩) l.length c)) w') : EOp P n ⟨some d, .convert s u x, ty, pos, aft, none⟩ K ρ w := fun a ha => by
  unfold Oper.wp
  have hsz : (bstr l).size = l.length := by simp [bstr, ByteArray.size]
  have hrun : (execOp a.eval ⟨some d, .convert s u x, ty, pos, aft, none⟩).run P w = .ok (.value (.slice (some ⟨w.heap.size, 0, none⟩) l.length (grownCap w (bstr l).size 0 e))) (Lib.bytesWorld w e (bstr l)) := by
    simp only [execOp, ha.eval hx, Sem.run_bind, Lib.run_convert_string_bytes w s u e (bstr l) h1 h2 h3, Result.andThen_ok, Sem.run_pure, hsz]
  rw [hrun]
  have hsize : (Lib.bytesWorld w e (bstr l)).heap.size = w.heap.size + 1 := by
    simp [Lib.bytesWorld, World.freeze, World.alloc, World.drew, -World.alloc_eq, -World.drew_eq]
  have hst : St W F D es ds (Lib.bytesWorld w e (bstr l)) := hs.grow (by simp [Lib.bytesWorld, World.freeze, World.alloc, World.drew, -World.alloc_eq, -World.drew_eq]) (by simp [Lib.bytesWorld, World.freeze, World.alloc, World.drew, -World.alloc_eq, -World.drew_eq]) (by simp [Lib.bytesWorld, World.freeze, World.alloc, World.drew, -World.alloc_eq, -World.drew_eq]) (by omega) (fun k hk => Lib.bytesWorld_at_old w e (bstr l) k hk)
  refine ⟨_, ha.put hd _, hK _ _ _ hs.size (hst.data _ ?_ ?_)⟩
  · refine ⟨⟨by rw [← hsz]; exact grownCap_ge w _ 0 e, by simp, by intro ad had _; cases had; rfl⟩, by simp [u8s], fun _ => ⟨_, _, rfl, fun i u hu => ?_⟩⟩
    have hnew : ∃ fr, (Lib.bytesWorld w e (bstr l)).heap[w.heap.size]? = some (.cells (Lib.bytesCells w e (bstr l)) e fr) := by
      simp only [Lib.bytesWorld, World.freeze, Nat.one_ne_zero, if_false, Array.getElem?_modify, if_true]
      rw [show (w.drew.alloc (.cells (Lib.bytesCells w e (bstr l)) e)).heap[w.heap.size]? = some (.cells (Lib.bytesCells w e (bstr l)) e) from heap_alloc_new w.drew _]
      exact ⟨_, rfl⟩
    obtain ⟨fr, hfr⟩ := hnew
    rw [cell_blk hfr, Nat.zero_add]
    simp only [u8s, List.getElem?_map, Option.map_eq_some_iff] at hu
    obtain ⟨c, hc, rfl⟩ := hu
    have hil : i < l.length := (List.getElem?_eq_some_iff.1 hc).1
    simp only [Lib.bytesCells, Array.getElem?_append, bstr]
    simp [hil, (List.getElem?_eq_some_iff.1 hc).2]
  · intro k hk
    obtain ⟨_, ad, had, rfl⟩ := hk
    obtain rfl := Option.some.inj had
    refine ⟨by rw [hsize]; exact Nat.lt_succ_self _, fun h => absurd (Nat.lt_of_lt_of_le h hs.size) (Nat.lt_irrefl _), fun a ha hak => absurd (hs.ef a ha _ hak).1 (Nat.lt_irrefl _)⟩

/-- An owned slice from now on is only read. -/
theorem St.freezeSl (hs : St W F D es ds w) {i : Nat} {v : Value} {e sz m : Nat} {xs : List Value} (hi : es[i]? = some (oSl v e sz m xs)) : ∃ ao c, v = .slice ao m c ∧ St W F D (es.eraseIdx i) (ds ++ [dSl ao m c sz xs]) w := by
  have h := hs.at hi
  have hv : ∃ ao c, v = .slice ao m c := by
    rcases h.2 with ⟨rfl, hm⟩ | ⟨g, cap, cur, rfl, _⟩
    · subst hm; exact ⟨none, 0, rfl⟩
    · exact ⟨_, cap, rfl⟩
  obtain ⟨ao, c, rfl⟩ := hv
  obtain ⟨_, hmc, hlen, hc, hnil⟩ := own_cells h rfl
  have hok : SOk ao c := ⟨fun h => (hnil h).2, fun ad had _ => by obtain ⟨g, rfl, _⟩ := hc ad had; rfl⟩
  refine ⟨ao, c, rfl, hs.freeze hi _ (fun _ => ⟨⟨hmc, hok⟩, hlen, fun hne => ?_⟩) (fun k hk => ?_)⟩
  · cases ao with
    | none =>
      have := (hnil rfl).1
      subst this
      rw [Nat.zero_mul] at hlen
      exact absurd (List.eq_nil_of_length_eq_zero hlen) hne
    | some ad =>
      obtain ⟨g, rfl, hcc⟩ := hc ad rfl
      exact ⟨g, 0, rfl, hcc⟩
  · obtain ⟨_, ad, rfl, rfl⟩ := hk
    rfl
end

theorem one_flat1 {v : Value} (h : v.oneCell' = true) : ∀ u ∈ [v].flatMap (fun x => x.cells.toList), u.oneCell' = true := by
  intro u hu
  cases v <;> simp_all [Value.cells, Value.oneCell']
theorem flat1 {v : Value} (h : v.oneCell' = true) : [v].flatMap (fun x => x.cells.toList) = [v] := by
  cases v <;> simp_all [Value.cells, Value.oneCell']
theorem size1 {v : Value} (h : v.oneCell' = true) : ∀ u, u ∈ [v] → u.cells.size = 1 := by
  intro u hu
  rw [List.mem_singleton.1 hu]
  cases v <;> simp_all [Value.cells, Value.oneCell']
theorem sizeN {v : Value} {sz : Nat} (h : v.cells.size = sz) : ∀ u, u ∈ [v] → u.cells.size = sz := by
  intro u hu
  rw [List.mem_singleton.1 hu]; exact h

/-- A piece told in other words. -/
theorem St.as {W w : World} {F D : Nat → Prop} {es ds : List Asn} (hs : St W F D es ds w) {es' ds' : List Asn} (h1 : es = es') (h2 : ds = ds') : St W F D es' ds' w := h1 ▸ h2 ▸ hs

theorem St.asSl {W w : World} {F D : Nat → Prop} {es ds : List Asn} (hs : St W F D es ds w) {i : Nat} {v : Value} {e sz m : Nat} {xs : List Value} (hi : es[i]? = some (oSl v e sz m xs)) (m' : Nat) (xs' : List Value) (h1 : m = m') (h2 : xs = xs') : St W F D (es.set i (oSl v e sz m' xs')) ds w := by
  subst h1; subst h2
  have : es.set i (oSl v e sz m xs) = es := by
    apply List.ext_getElem?
    intro j
    rw [List.getElem?_set]
    split
    · rename_i h; subst h; rw [hi]; split
      · rfl
      · rename_i h; exact absurd (List.getElem?_eq_some_iff.1 hi).1 h
    · rfl
  rw [this]; exact hs

theorem u8s_append (a b : BL) : u8s (a ++ b) = u8s a ++ u8s b := by simp [u8s]
theorem u8s_snoc (l : BL) {z : Int} (b : UInt8) (h : z = ((b.toNat : Nat) : Int)) : u8s l ++ [Value.int .u8 z].flatMap (fun x => x.cells.toList) = u8s (l ++ [b]) := by
  rw [flat1 rfl, h]; simp [u8s]
theorem u8_ofNat (n : Nat) : ((UInt8.ofNat n).toNat : Int) = ((n % 256 : Nat) : Int) := by simp
theorem R_lenStrB {P : Program} {n : Nat} {ρ : Env} {w : World} {do_ : Option Nat} {ty : TypeId} {pos : String} {aft : Array Edge} {x : Operand} {t : TypeId} {l : BL} (hu : P.underlying t = some .string) (hx : evO ρ x = some (.string (bstr l))) : RunV P n ⟨do_, .call ⟨.builtin .len, #[x], #[t]⟩, ty, pos, aft, none⟩ ρ w (.int .i64 (l.length : Int)) := by
  have := R_lenStr (P := P) (n := n) (ρ := ρ) (w := w) (d := do_) (ty := ty) (pos := pos) (aft := aft) hu hx
  have e : (bstr l).size = l.length := by simp [bstr, ByteArray.size]
  rwa [e] at this

theorem u8s_get {l : BL} {i : Nat} {c : UInt8} (h : l[i]? = some c) : (u8s l)[i]? = some (.int .u8 ((c.toNat : Nat) : Int)) := by simp [u8s, h]
theorem u8s_nil {l : BL} {i : Nat} (h : i < l.length) : u8s l ≠ [] := by
  intro e
  have := congrArg List.length e
  simp [u8s] at this
  subst this
  simp at h
theorem dSl.hi {w : World} {ao : Option Addr} {m c sz h : Nat} {cs : List Value} (hd : (dSl ao m c sz cs).P w) (h2 : h ≤ m) : (dSl ao h c sz (cs.take (h * sz))).P w := by
  obtain ⟨⟨hmc, hok⟩, hlen, hr⟩ := hd
  have hb : h * sz ≤ cs.length := by rw [hlen]; exact Nat.mul_le_mul_right _ h2
  refine ⟨⟨by omega, hok⟩, by rw [List.length_take]; omega, fun hne => ?_⟩
  obtain ⟨b, o, hao, hrow⟩ := hr (by intro h; subst h; simp at hne)
  refine ⟨b, o, hao, fun i u hu => ?_⟩
  rw [List.getElem?_take] at hu
  split at hu
  · exact hrow i u hu
  · cases hu
theorem dSl.hi_foot {ao : Option Addr} {m c sz h : Nat} {cs : List Value} : ∀ k, (dSl ao h c sz (cs.take (h * sz))).foot k → (dSl ao m c sz cs).foot k := by
  intro k ⟨hne, ad, hao, hk⟩
  exact ⟨by intro h; subst h; simp at hne, ad, hao, hk⟩

def u64s (l : List Nat) : List Value := l.map fun (n : Nat) => .int .u64 ((n : Nat) : Int)
theorem u64s_get {l : List Nat} {i : Nat} {c : Nat} (h : l[i]? = some c) : (u64s l)[i]? = some (.int .u64 (c : Int)) := by simp [u64s, h]

end Go.Proofs.YtpcojkbljgpecaaGreat
namespace Go.Proofs.YtpcojkbljgpecaaGreat
open Go

def V32 (x : UInt32) : Value := .int .u32 ((x.toNat : Nat) : Int)
def V8 (x : UInt8) : Value := .int .u8 ((x.toNat : Nat) : Int)
def u32s (l : List UInt32) : List Value := l.map V32
theorem u8s_eq (l : BL) : u8s l = l.map V8 := rfl
def shl32 (x : UInt32) (n : Nat) : UInt32 := UInt32.ofNat (x.toNat * 2 ^ n % 2 ^ 32)
def shr32 (x : UInt32) (n : Nat) : UInt32 := UInt32.ofNat (x.toNat / 2 ^ n)

theorem u32_lt (x : UInt32) : x.toNat < 2 ^ IntKind.u32.bits := x.toNat_lt
theorem ofNat32 {n : Nat} (h : n < 2 ^ 32) : (UInt32.ofNat n).toNat = n := by
  rw [UInt32.toNat_ofNat', Nat.mod_eq_of_lt h]

section
variable {P : Program} {n : Nat} {ρ : Env} {K : Env → World → Prop} {W w : World} {F D : Nat → Prop} {es ds : List Asn} {d : Nat} {do_ : Option Nat} {ty : TypeId} {pos : String} {aft : Array Edge} {x y : Operand} {t t' : TypeId} {v : Value} {a b : UInt32} {k k' : IntKind} {q : Int}

theorem R_add32 (hx : evO ρ x = some (V32 a)) (hy : evO ρ y = some (V32 b)) : RunV P n ⟨do_, .binOp .add t x y t', ty, pos, aft, none⟩ ρ w (V32 (a + b)) := by
  have h := R_add (P := P) (n := n) (ρ := ρ) (w := w) (d := do_) (ty := ty) (pos := pos) (aft := aft) (t := t) (t' := t') hx hy
  have e : IntKind.u32.wrap (((a.toNat : Nat) : Int) + ((b.toNat : Nat) : Int)) = (((a + b).toNat : Nat) : Int) := by
    rw [← Int.natCast_add, wrapU_mod rfl, UInt32.toNat_add]; rfl
  rwa [e] at h
theorem R_xor32 (hx : evO ρ x = some (V32 a)) (hy : evO ρ y = some (V32 b)) : RunV P n ⟨do_, .binOp .xor t x y t', ty, pos, aft, none⟩ ρ w (V32 (a ^^^ b)) := by
  have h := R_xorU (P := P) (n := n) (w := w) (do_ := do_) (ty := ty) (pos := pos) (aft := aft) (t := t) (t' := t') rfl hx hy (u32_lt a) (u32_lt b)
  rwa [← UInt32.toNat_xor] at h
theorem R_and32 (hx : evO ρ x = some (V32 a)) (hy : evO ρ y = some (V32 b)) : RunV P n ⟨do_, .binOp .and t x y t', ty, pos, aft, none⟩ ρ w (V32 (a &&& b)) := by
  have h := R_andU (P := P) (n := n) (w := w) (do_ := do_) (ty := ty) (pos := pos) (aft := aft) (t := t) (t' := t') rfl hx hy (u32_lt b)
  rwa [← UInt32.toNat_and] at h
theorem R_or32 (hx : evO ρ x = some (V32 a)) (hy : evO ρ y = some (V32 b)) : RunV P n ⟨do_, .binOp .or t x y t', ty, pos, aft, none⟩ ρ w (V32 (a ||| b)) := by
  have h := R_orU (P := P) (n := n) (w := w) (do_ := do_) (ty := ty) (pos := pos) (aft := aft) (t := t) (t' := t') rfl hx hy (u32_lt a) (u32_lt b)
  rwa [← UInt32.toNat_or] at h
theorem R_not32 (hx : evO ρ x = some (V32 a)) : RunV P n ⟨do_, .unOp .xor t x, ty, pos, aft, none⟩ ρ w (V32 (~~~ a)) := fun ac hr => by
  have e : IntKind.u32.wrap (((BitVec.ofInt 32 4294967295 ^^^ BitVec.ofInt 32 (((a.toNat : Nat) : Int))).toNat : Nat) : Int) = (((~~~ a).toNat : Nat) : Int) := by
    have h1 : BitVec.ofInt 32 (((a.toNat : Nat) : Int)) = a.toBitVec := by
      rw [BitVec.ofInt_natCast]; exact BitVec.eq_of_toNat_eq (by simp)
    have h2 : (BitVec.ofInt 32 4294967295 : BitVec 32) = BitVec.allOnes 32 := by decide
    have h3 : (BitVec.allOnes 32 ^^^ a.toBitVec).toNat = (~~~ a).toNat := by
      rw [BitVec.allOnes_xor]; rfl
    rw [h1, h2, h3]
    exact wrapU rfl (u32_lt _)
  simp only [execOp, hr.eval hx, V32, Op.unary, Op.intBits]
  show Sem.run P (pure (Next.value (Value.int .u32 _))) w = _
  exact congrArg (fun z => Result.ok (Next.value (Value.int .u32 z)) w) e
theorem R_shl32 (sn : Nat) (hx : evO ρ x = some (V32 a)) (hy : evO ρ y = some (.int k' q)) (hq : q = (sn : Int)) : RunV P n ⟨do_, .binOp .shl t x y t', ty, pos, aft, none⟩ ρ w (V32 (shl32 a sn)) := by
  have h := R_shlU (P := P) (n := n) (w := w) (do_ := do_) (ty := ty) (pos := pos) (aft := aft) (t := t) (t' := t') sn rfl hx hy hq
  have e : a.toNat * 2 ^ sn % 2 ^ IntKind.u32.bits = (shl32 a sn).toNat := (ofNat32 (Nat.mod_lt _ (by decide))).symm
  rwa [e] at h
theorem R_shr32 (sn : Nat) (hx : evO ρ x = some (V32 a)) (hy : evO ρ y = some (.int k' q)) (hq : q = (sn : Int)) : RunV P n ⟨do_, .binOp .shr t x y t', ty, pos, aft, none⟩ ρ w (V32 (shr32 a sn)) := by
  have h := R_shrU (P := P) (n := n) (w := w) (do_ := do_) (ty := ty) (pos := pos) (aft := aft) (t := t) (t' := t') sn hx hy hq (u32_lt a)
  have e : a.toNat / 2 ^ sn = (shr32 a sn).toNat := (ofNat32 (Nat.lt_of_le_of_lt (Nat.div_le_self _ _) a.toNat_lt)).symm
  rwa [e] at h
theorem R_conv8to32 {s u : TypeId} {dsc : TypeDesc} {c : UInt8} (hs : P.underlying s = some dsc) (hu : P.underlying u = some (.int .u32)) (hx : evO ρ x = some (V8 c)) : RunV P n ⟨do_, .convert s u x, ty, pos, aft, none⟩ ρ w (V32 c.toUInt32) := by
  have h := R_convN (P := P) (n := n) (w := w) (do_ := do_) (ty := ty) (pos := pos) (aft := aft) (k := .u8) (k' := .u32) rfl hs hu hx (by have := c.toNat_lt; simp [IntKind.bits]; omega)
  exact h
theorem R_conv32to8 {s u : TypeId} {dsc : TypeDesc} (hs : P.underlying s = some dsc) (hu : P.underlying u = some (.int .u8)) (hx : evO ρ x = some (V32 a)) : RunV P n ⟨do_, .convert s u x, ty, pos, aft, none⟩ ρ w (V8 (UInt8.ofNat a.toNat)) := by
  have h := R_convU (P := P) (n := n) (w := w) (do_ := do_) (ty := ty) (pos := pos) (aft := aft) (k := .u32) (k' := .u8) rfl hs hu hx
  have e : a.toNat % 2 ^ IntKind.u8.bits = (UInt8.ofNat a.toNat).toNat := by simp [IntKind.bits]
  rwa [e] at h
theorem R_convU8 {s u : TypeId} {dsc : TypeDesc} {p : Nat} (hs : P.underlying s = some dsc) (hu : P.underlying u = some (.int .u8)) (hx : evO ρ x = some (.int k (p : Int))) : RunV P n ⟨do_, .convert s u x, ty, pos, aft, none⟩ ρ w (V8 (UInt8.ofNat p)) := by
  have h := R_convU (P := P) (n := n) (w := w) (do_ := do_) (ty := ty) (pos := pos) (aft := aft) (k' := .u8) rfl hs hu hx
  have e : p % 2 ^ IntKind.u8.bits = (UInt8.ofNat p).toNat := by simp [IntKind.bits]
  rwa [e] at h
theorem R_negI {p : Int} (hx : evO ρ x = some (.int .i64 p)) (h : -9223372036854775807 ≤ p ∧ p ≤ 9223372036854775807) : RunV P n ⟨do_, .unOp .neg t x, ty, pos, aft, none⟩ ρ w (.int .i64 (-p)) := fun ac hr => by
  have e : IntKind.i64.wrap (0 - p) = -p := by rw [wrap_i64 (by omega) (by omega)]; omega
  rw [Int.zero_sub] at e
  simp [execOp, hr.eval hx, Op.unary, Op.intArith, e]
theorem R_addU {p q : Nat} (hk : k.signed = false) (hx : evO ρ x = some (.int k (p : Int))) (hy : evO ρ y = some (.int k (q : Int))) : RunV P n ⟨do_, .binOp .add t x y t', ty, pos, aft, none⟩ ρ w (.int k (((p + q) % 2 ^ k.bits : Nat) : Int)) := by
  have h := R_add (P := P) (n := n) (ρ := ρ) (w := w) (d := do_) (ty := ty) (pos := pos) (aft := aft) (t := t) (t' := t') hx hy
  rwa [← Int.natCast_add, wrapU_mod hk] at h
theorem R_mulU {p q : Nat} (hk : k.signed = false) (hx : evO ρ x = some (.int k (p : Int))) (hy : evO ρ y = some (.int k (q : Int))) : RunV P n ⟨do_, .binOp .mul t x y t', ty, pos, aft, none⟩ ρ w (.int k (((p * q) % 2 ^ k.bits : Nat) : Int)) := by
  have h := R_mul (P := P) (n := n) (ρ := ρ) (w := w) (d := do_) (ty := ty) (pos := pos) (aft := aft) (t := t) (t' := t') hx hy
  rwa [← Int.natCast_mul, wrapU_mod hk] at h
theorem R_subU {p q : Nat} (hk : k.signed = false) (hx : evO ρ x = some (.int k (p : Int))) (hy : evO ρ y = some (.int k (q : Int))) (h1 : q ≤ p) (h2 : p < 2 ^ k.bits) : RunV P n ⟨do_, .binOp .sub t x y t', ty, pos, aft, none⟩ ρ w (.int k ((p - q : Nat) : Int)) := by
  have h := R_sub (P := P) (n := n) (ρ := ρ) (w := w) (d := do_) (ty := ty) (pos := pos) (aft := aft) (t := t) (t' := t') hx hy
  rw [← Int.ofNat_sub h1, wrapU hk (by omega)] at h
  exact h

/-! ### Values that are arrays and structs -/
theorem R_makeFunc {g : FuncId} {fi ca : List Operand} {fv cv : List Value} (h1 : evArgs ρ fi = some fv) (h2 : evArgs ρ ca = some cv) : RunV P n ⟨do_, .makeFunc (.func g) fi.toArray ca.toArray, ty, pos, aft, none⟩ ρ w (.func (.func g) fv.toArray cv.toArray) := fun ac hr => by
  simp only [execOp, List.map_toArray, evArgs_map hr h1, evArgs_map hr h2]; rfl

theorem R_buildA {m e sz : Nat} {z : Array Value} {parts : Array (Nat × Operand)} (ps : List Operand) {vs : List Value} {cs : Array Value} (hu : P.underlying t = some (.array m e)) (hz : ∀ w, (zeroValue t).run P w = .ok (.agg z) w) (hsz : ∀ w, (sizeOf e).run P w = .ok sz w)
    (hp : parts.toList = ps.zipIdx.map fun x => (x.2, x.1)) (hv : evArgs ρ ps = some vs) (hc : ∀ u, u ∈ vs → u.cells.size = sz) (hl : z.size = vs.length * sz) (hcs : vs.flatMap (·.cells.toList) = cs.toList) :
    RunV P n ⟨do_, .build t parts, ty, pos, aft, none⟩ ρ w (.agg cs) := fun ac hr => by
  have hsum : ∀ (l : List Value), (∀ u, u ∈ l → u.cells.size = sz) → (l.map (·.cells.size)).sum = l.length * sz := by
    intro l hl
    induction l with
    | nil => simp
    | cons q l ih => rw [List.map_cons, List.sum_cons, ih (fun q hq => hl q (List.mem_cons_of_mem _ hq)), hl q List.mem_cons_self, List.length_cons, Nat.succ_mul]; omega
  have hfill := fill_consec (fun i => some (i * sz, sz)) vs 0 0 z (fun j u hj => by
    have hu := hc u (List.mem_of_getElem? hj)
    have hjl : j < vs.length := (List.getElem?_eq_some_iff.1 hj).1
    rw [hu]
    congr 1
    simp only [Nat.zero_add, Prod.mk.injEq, and_true]
    rw [hsum _ (fun q hq => hc q (List.mem_of_mem_take hq)), List.length_take, Nat.min_eq_left (Nat.le_of_lt hjl)]) (by rw [hl, hsum _ hc]; simp)
  have hf : Instr.fill (fun i => some (i * sz, sz)) z (parts.map fun (x : Nat × Operand) => (x.1, ac.eval x.2)).toList = some cs := by
    rw [evParts hr hp hv, hfill, List.take_zero, List.nil_append, hcs]
  simp only [execOp, Instr.build, Sem.run_bind, hz, Result.andThen_ok, run_underlying hu, hsz, Value.cells]
  rw [hf]
  rfl

/-- An array of nothing but zeros. -/
theorem R_build0A {m e sz : Nat} {z : Array Value} (hu : P.underlying t = some (.array m e)) (hz : ∀ w, (zeroValue t).run P w = .ok (.agg z) w) (hsz : ∀ w, (sizeOf e).run P w = .ok sz w) : RunV P n ⟨do_, .build t #[], ty, pos, aft, none⟩ ρ w (.agg z) := fun ac hr => by
  simp only [execOp, Instr.build, Sem.run_bind, hz, Result.andThen_ok, run_underlying hu, hsz, Value.cells, Array.map_empty, Instr.fill, Sem.run_pure]

/-- The offsets and the sizes of a struct's fields. -/
def structPl (P : Program) (t : TypeId) : Option (List (Nat × Nat)) :=
  match P.underlying t with
  | some (.struct fs) => fs.toList.mapM fun f => (P.info? f.type).map fun i => (f.offset, i.size)
  | _ => none

theorem run_places {fs : List Field} {pl : List (Nat × Nat)} (h : fs.mapM (fun f => (P.info? f.type).map fun i => (f.offset, i.size)) = some pl) : Sem.run P (fs.mapM fun f => (do pure (f.offset, ← sizeOf f.type) : Sem (Nat × Nat))) w = .ok pl w := by
  induction fs generalizing pl with
  | nil => simp at h; subst h; rfl
  | cons f fs ih =>
    simp only [List.mapM_cons, Option.bind_eq_bind, Option.bind_eq_some_iff] at h
    obtain ⟨p, hp, pls, hpl, he⟩ := h
    obtain ⟨inf, hinf, rfl⟩ := Option.map_eq_some_iff.1 hp
    simp only [Option.pure_def, Option.some.injEq] at he
    subst he
    have hs : Sem.run P (sizeOf f.type) w = .ok inf.size w := by simp only [sizeOf, typeInfo, Sem.run_bind, run_program, Result.andThen_ok, hinf, Sem.run_pure]
    simp only [List.mapM_cons, Sem.run_bind, hs, Result.andThen_ok, Sem.run_pure, ih hpl]

/-- A struct, by parts: of the parts that are written, the places; the others stay zero. -/
theorem R_buildS {pl : List (Nat × Nat)} {z : Value} {parts : Array (Nat × Operand)} (ps : List (Nat × Operand)) {vs : List Value} {cs : Array Value} (hpl : structPl P t = some pl) (hz : ∀ w, (zeroValue t).run P w = .ok z w)
    (hp : parts.toList = ps) (hv : evArgs ρ (ps.map (·.2)) = some vs) (hf : Instr.fill (fun i => pl[i]?) z.cells ((ps.map (·.1)).zip vs) = some cs) :
    RunV P n ⟨do_, .build t parts, ty, pos, aft, none⟩ ρ w (.agg cs) := fun ac hr => by
  have hparts : (parts.map fun (x : Nat × Operand) => (x.1, ac.eval x.2)).toList = (ps.map (·.1)).zip vs := by
    rw [Array.toList_map, hp, ← evArgs_map hr hv, List.map_map]
    clear hp hv hf
    induction ps with
    | nil => rfl
    | cons q l ih => simp only [List.map_cons, List.zip_cons_cons, ih]; rfl
  unfold structPl at hpl
  split at hpl
  · rename_i fs hu
    have hpl' : Sem.run P (fs.mapM fun f => (do pure (f.offset, ← sizeOf f.type) : Sem (Nat × Nat))) w = .ok pl.toArray w := by
      rw [Array.mapM_eq_mapM_toList, Sem.run_map, run_places hpl]; rfl
    simp only [execOp, Instr.build, Sem.run_bind, hz, Result.andThen_ok, run_underlying hu, hpl']
    have : (fun (i : Nat) => pl.toArray[i]?) = (fun (i : Nat) => pl[i]?) := by funext i; simp
    rw [hparts, this, hf]
    rfl
  · cases hpl

def fieldT (P : Program) (s f : Nat) : Option (Nat × Nat) :=
  match P.underlying s with
  | some (.struct fs) => (fs[f]?).map fun fd => (fd.offset, fd.type)
  | _ => none

theorem R_fieldV {s f off ft : Nat} {cs : Array Value} (hf : fieldT P s f = some (off, ft)) (hag : ∀ w, (isAgg ft).run P w = .ok false w) (hx : evO ρ x = some (.agg cs)) (hc : cs[off]? = some v) : RunV P n ⟨do_, .field s x f, ty, pos, aft, none⟩ ρ w v := fun ac hr => by
  unfold fieldT at hf
  split at hf
  · rename_i fs hu
    obtain ⟨fd, hfd, he⟩ := Option.map_eq_some_iff.1 hf
    simp only [Prod.mk.injEq] at he
    obtain ⟨rfl, rfl⟩ := he
    simp [execOp, hr.eval hx, Instr.field, run_underlying hu, Sem.run_bind, hfd, part, hag, hc, asAgg]
  · cases hf

theorem R_fieldA {s f off ft sz : Nat} {cs : Array Value} (hf : fieldT P s f = some (off, ft)) (hag : ∀ w, (isAgg ft).run P w = .ok true w) (hsz : ∀ w, (sizeOf ft).run P w = .ok sz w) (hx : evO ρ x = some (.agg cs)) : RunV P n ⟨do_, .field s x f, ty, pos, aft, none⟩ ρ w (.agg (cs.extract off (off + sz))) := fun ac hr => by
  unfold fieldT at hf
  split at hf
  · rename_i fs hu
    obtain ⟨fd, hfd, he⟩ := Option.map_eq_some_iff.1 hf
    simp only [Prod.mk.injEq] at he
    obtain ⟨rfl, rfl⟩ := he
    simp [execOp, hr.eval hx, Instr.field, run_underlying hu, Sem.run_bind, hfd, part, hag, hsz, asAgg]
  · cases hf

theorem R_indexV {m e : Nat} {cs : Array Value} {i : Int} (hu : P.underlying t = some (.array m e)) (hsz : ∀ w, (sizeOf e).run P w = .ok 1 w) (hag : ∀ w, (isAgg e).run P w = .ok false w) (hx : evO ρ x = some (.agg cs)) (hy : evO ρ y = some (.int k i)) (h0 : 0 ≤ i) (h1 : i < m) (hc : cs[i.toNat]? = some v) : RunV P n ⟨do_, .index t x y, ty, pos, aft, none⟩ ρ w v := fun ac hr => by
  simp [execOp, hr.eval hx, hr.eval hy, Instr.index, asIntOf, run_underlying hu, Sem.run_bind, h0, h1, part, hag, hsz, hc]

theorem R_indexVA {m e sz : Nat} {cs : Array Value} {i : Int} (hu : P.underlying t = some (.array m e)) (hsz : ∀ w, (sizeOf e).run P w = .ok sz w) (hag : ∀ w, (isAgg e).run P w = .ok true w) (hx : evO ρ x = some (.agg cs)) (hy : evO ρ y = some (.int k i)) (h0 : 0 ≤ i) (h1 : i < m) : RunV P n ⟨do_, .index t x y, ty, pos, aft, none⟩ ρ w (.agg (cs.extract (i.toNat * sz) (i.toNat * sz + sz))) := fun ac hr => by
  simp [execOp, hr.eval hx, hr.eval hy, Instr.index, asIntOf, run_underlying hu, Sem.run_bind, h0, h1, part, hag, hsz]

/-- The pointer to an array whose elements are the first ones of a slice. -/
theorem R_arrPtr {m e : Nat} {arr : TypeId} {ao : Option Addr} {l c : Nat} (hu : P.underlying arr = some (.array m e)) (hx : evO ρ x = some (.slice ao l c)) (hl : m ≤ l) : RunV P n ⟨do_, .sliceToArrayPointer arr x, ty, pos, aft, none⟩ ρ w (.pointer ao) := fun ac hr => by
  have : ¬ l < m := by omega
  simp [execOp, hr.eval hx, Instr.arrayAt, run_underlying hu, Sem.run_bind, this]

/-- The slice of a whole array in memory. -/
theorem R_sliceArr {m e b o : Nat} (hu : P.underlying t = some (.array m e)) (hsz : ∀ w, (sizeOf e).run P w = .ok 1 w) (hx : evO ρ x = some (.pointer (some ⟨b, o, none⟩))) : RunV P n ⟨do_, .slice t x none none none, ty, pos, aft, none⟩ ρ w (.slice (some ⟨b, o, none⟩) m m) := fun ac hr => by
  have e : ∀ z, (⟨b, o, none⟩ : Addr).add (0 * z) = ⟨b, o, none⟩ := fun z => by unfold Addr.add; split <;> simp_all
  simp [execOp, hr.eval hx, Instr.sliceAt, Instr.sliceBounds, Instr.sureAddr, run_underlying hu, Sem.run_bind, hsz]
  intro _
  simpa using e 1

/-- copy into an owned block. -/
theorem O_copy {e i b o dl dc mm : Nat} {tt t2 : TypeId} {c : Array Value} {u : Value} {news : List Value} (hs : St W F D es ds w) (hi : es[i]? = some (blk b c tt)) (hd : Nat.blt d n = true) (hu : P.underlying t = some (.slice e)) (hsz : (P.info? e).map (·.size) = some 1)
    (hx : evO ρ x = some (.slice (some ⟨b, o, none⟩) dl dc)) (hy : evO ρ y = some u) (hsrc : Src w u mm 1 news) (hfit : o + dl ≤ c.size) (h1 : ∀ u ∈ news, u.oneCell' = true)
    (hK : ∀ w', St W F D (es.set i (blk b (c.toList.take o ++ news.take dl ++ c.toList.drop (o + min mm dl)).toArray tt)) ds w' → K (upd ρ d (.int .i64 ((min mm dl : Nat) : Int))) w') : EOp P n ⟨some d, .call ⟨.builtin .copy, #[x, y], #[t, t2]⟩, ty, pos, aft, none⟩ K ρ w := fun a ha => by
  have hb : w.heap[b]? = some (.cells c tt (0, 0)) := hs.at hi
  unfold Oper.wp
  obtain ⟨hlen, hcase⟩ := hsrc
  rw [Nat.mul_one] at hlen
  have hlt : (news.take dl).length = Nat.min mm dl := by
    rw [List.length_take, hlen]; exact Nat.min_comm _ _
  have key : ∃ w', (Builtin.copy_ #[t, t2] ty #[.slice (some ⟨b, o, none⟩) dl dc, u]).run P w = .ok (goInt ((min mm dl : Nat) : Int)) w' ∧ w' = w.setRow b (c.toList.take o ++ news.take dl ++ c.toList.drop (o + min mm dl)).toArray := by
    rcases hcase with ⟨rfl, rfl⟩ | ⟨a2, cc, rfl, hc⟩
    · have hr := run_copy_none (P := P) w t t2 ty e (some ⟨b, o, none⟩) none dl dc 0 0 hu hsz (Nat.zero_min _)
      refine ⟨w, by rw [Nat.zero_min]; exact hr, ?_⟩
      have hn : news = [] := List.eq_nil_of_length_eq_zero hlen
      subst hn
      rw [Nat.zero_min, Nat.add_zero, List.take_nil, List.append_nil, List.take_append_drop]
      exact (setRow_self w b c tt (0, 0) hb).symm
    · have hr := run_copy_row (P := P) w t t2 ty e b o dl dc a2 mm cc c tt (news.take dl) hu hsz hb hlt (fun j v hj => by
        refine hc j v ?_
        rw [List.getElem?_take] at hj
        split at hj
        · exact hj
        · cases hj) (by rw [hlt]; have : Nat.min mm dl ≤ dl := Nat.min_le_right _ _; omega) (fun v hv => h1 v (List.mem_of_mem_take hv))
      rw [hlt] at hr
      exact ⟨_, hr, rfl⟩
  obtain ⟨w', hr, hw'⟩ := key
  subst hw'
  have hrun : (execOp a.eval ⟨some d, .call ⟨.builtin .copy, #[x, y], #[t, t2]⟩, ty, pos, aft, none⟩).run P w = .ok (.value (goInt ((min mm dl : Nat) : Int))) (w.setRow b (c.toList.take o ++ news.take dl ++ c.toList.drop (o + min mm dl)).toArray) := by
    simp only [execOp, resolve, invoke, builtin, Sem.run_bind, Sem.run_pure, Result.andThen_ok, List.map_toArray, List.map_cons, List.map_nil, ha.eval hx, ha.eval hy, hr]
  rw [hrun]
  refine ⟨_, ha.put hd _, hK _ (hs.setBlk hi _ _ ⟨rfl, rfl, rfl⟩ (by simp [World.setRow]) (heap_setRow_same hb) (fun k hk => ?_))⟩
  simp only [World.setRow, Array.getElem?_modify]
  rw [if_neg (by omega)]
end

/-! ### Lists of words and bytes in memory -/
theorem u32s_get {l : List UInt32} {i : Nat} {c : UInt32} (h : l[i]? = some c) : (u32s l).toArray[i]? = some (V32 c) := by simp [u32s, h]
theorem u32s_getD {l : List UInt32} {i o : Nat} (ho : o = i) (h : i < l.length) : (u32s l).toArray[o]? = some (V32 (l.getD i 0)) := by subst ho; simp [u32s, h]
theorem u8s_getD {l : BL} {i o : Nat} (ho : o = i) (h : i < l.length) : (u8s l).toArray[o]? = some (V8 (l.getD i 0)) := by subst ho; simp [u8s_eq, h]
theorem u32s_set (l : List UInt32) (i o : Nat) (ho : o = i) (c : UInt32) : (u32s l).toArray.setIfInBounds o (V32 c) = (u32s (l.set i c)).toArray := by
  subst ho; simp [u32s, List.map_set]
theorem u8s_set (l : BL) (i o : Nat) (ho : o = i) (c : UInt8) : (u8s l).toArray.setIfInBounds o (V8 c) = (u8s (l.set i c)).toArray := by
  subst ho; simp [u8s_eq, List.map_set]
theorem u32s_one (l : List UInt32) : ((u32s l).toArray.all (·.oneCell')) = true := by simp [u32s, V32, Value.oneCell']
theorem u8s_oneA (l : BL) : ((u8s l).toArray.all (·.oneCell')) = true := by simp [u8s, Value.oneCell']

/-- The owned pieces in another order. -/
theorem St.perm {W w : World} {F D : Nat → Prop} {es es' ds : List Asn} (hs : St W F D es ds w) (h : es.Perm es') : St W F D es' ds w :=
  ⟨hs.os, hs.tape, hs.output, hs.size, hs.frame, fun a ha => hs.eh a (h.mem_iff.2 ha), hs.dh, fun a ha => hs.ef a (h.mem_iff.2 ha), hs.df,
    (h.pairwise_iff (fun hab k hb ha => hab k ha hb)).1 hs.ee, fun a ha => hs.ed a (h.mem_iff.2 ha)⟩
theorem St.swap01 {W w : World} {F D : Nat → Prop} {a b : Asn} {es ds : List Asn} (hs : St W F D (a :: b :: es) ds w) : St W F D (b :: a :: es) ds w := hs.perm (List.Perm.swap _ _ _)

/-- A cut of bytes that are only read. -/
theorem St.dBcut {W w : World} {F D : Nat → Prop} {es ds : List Asn} {ao : Option Addr} {c : Nat} {l : BL} (hs : St W F D es ds w) {j : Nat} (hj : ds[j]? = some (dB ao c l)) (lo hi : Nat) (h1 : lo ≤ hi) (h2 : hi ≤ l.length) :
    St W F D es (ds ++ [dB (cutO ao c lo 1) (c - lo) ((l.drop lo).take (hi - lo))]) w := by
  have e1 : ((l.drop lo).take (hi - lo)).length = hi - lo := by rw [List.length_take, List.length_drop]; omega
  have e2 : ((u8s l).drop (lo * 1)).take ((hi - lo) * 1) = u8s ((l.drop lo).take (hi - lo)) := by simp [u8s, List.map_drop, List.map_take]
  refine hs.derive (d := dB ao c l) (List.mem_of_getElem? hj) _ (fun h => ?_) (fun k hk => dSl.cut_foot (l := lo) (h := hi) k (by rw [e2]; exact hk))
  have h3 := dSl.cut (l := lo) (h := hi) h h1 h2
  rw [e2] at h3
  show (dSl _ _ _ _ _).P w
  rw [e1]; exact h3
theorem St.dBdrop {W w : World} {F D : Nat → Prop} {es ds : List Asn} {ao : Option Addr} {c : Nat} {l : BL} (hs : St W F D es ds w) {j : Nat} (hj : ds[j]? = some (dB ao c l)) (lo : Nat) (h2 : lo ≤ l.length) :
    St W F D es (ds ++ [dB (cutO ao c lo 1) (c - lo) (l.drop lo)]) w := by
  have h := hs.dBcut hj lo l.length h2 (Nat.le_refl _)
  rwa [List.take_of_length_le (by rw [List.length_drop]; omega)] at h
theorem St.dBtake {W w : World} {F D : Nat → Prop} {es ds : List Asn} {ao : Option Addr} {c : Nat} {l : BL} (hs : St W F D es ds w) {j : Nat} (hj : ds[j]? = some (dB ao c l)) (hi : Nat) :
    St W F D es (ds ++ [dB ao c (l.take hi)]) w := by
  have e2 : (u8s l).take (min hi l.length * 1) = u8s (l.take hi) := by
    rw [Nat.mul_one, u8s, u8s, ← List.map_take]
    congr 1
    rcases Nat.le_total hi l.length with h | h
    · rw [Nat.min_eq_left h]
    · rw [Nat.min_eq_right h, List.take_length, List.take_of_length_le h]
  refine hs.derive (d := dB ao c l) (List.mem_of_getElem? hj) _ (fun h => ?_) (fun k hk => dSl.hi_foot (h := min hi l.length) k (by rw [e2]; exact hk))
  have h3 := dSl.hi (h := min hi l.length) h (Nat.min_le_right _ _)
  rw [e2] at h3
  show (dSl _ _ _ _ _).P w
  rw [List.length_take]; exact h3

theorem sI {k : IntKind} {p q : Int} (h : p = q) : some (Value.int k p) = some (Value.int k q) := by rw [h]
theorem sB {p q : Bool} (h : p = q) : some (Value.bool p) = some (Value.bool q) := by rw [h]

/-- A result that lies in a block. -/
theorem res_cell {P : Program} {ρ : Env} {W w : World} {F D : Nat → Prop} {es ds : List Asn} {i a b sz : Nat} {c : Array Value} {t tt : TypeId} (hs : St W F D es ds w) (hi : es[i]? = some (blk b c tt)) (hsz : ∀ w, (sizeOf t).run P w = .ok sz w) (hag : ∀ w, (isAgg t).run P w = .ok true w)
    (hx : ρ a = some (.pointer (some ⟨b, 0, none⟩))) (hl : c.size = sz) : ResV P ρ w (.cell a t) (.agg c) := by
  refine ⟨_, hx, ?_⟩
  have h := run_loadRange (P := P) (w := w) (t := t) (b := b) (o := 0) (cs := c.toList) hsz hag (by simpa using hl) (fun i u hu => by rw [cell_blk (hs.at hi)]; simpa using hu)
  simpa using h

end Go.Proofs.YtpcojkbljgpecaaGreat
namespace Go.Proofs.YtpcojkbljgpecaaGreat
open Go

/-- A pointer to a block, as the program holds it. -/
structure Ptr where
  pos : Int
  birth : Int
  len : Int
  crc : UInt32
  sha : BL
  hsha : sha.length = 32
deriving DecidableEq
def Ptr.l (p : Ptr) : List Value := .int .i64 p.pos :: .int .i64 p.birth :: .int .i64 p.len :: V32 p.crc :: u8s p.sha
def Ptr.cells (p : Ptr) : Array Value := p.l.toArray
def Ptr.val (p : Ptr) : Value := .agg p.cells
def Ptr.none : Ptr := ⟨0, 0, 0, 0, List.replicate 32 0, rfl⟩
theorem Ptr.len_l (p : Ptr) : p.l.length = 36 := by simp [Ptr.l, u8s, p.hsha]
theorem Ptr.size (p : Ptr) : p.cells.size = 36 := by simp [Ptr.cells, Ptr.len_l]
theorem Ptr.oneA (p : Ptr) : (p.cells.all (·.oneCell')) = true := by
  simp [Ptr.cells, Ptr.l, u8s, V32, Value.oneCell']
theorem Ptr.one_l (p : Ptr) : ∀ u ∈ p.l, u.oneCell' = true := by
  intro u hu
  simp only [Ptr.l, u8s, List.mem_cons, List.mem_map] at hu
  rcases hu with rfl | rfl | rfl | rfl | ⟨c, _, rfl⟩ <;> rfl
theorem Ptr.sha_get (p : Ptr) (i : Nat) (h : i < 32) : p.cells[4 + i]? = some (V8 (p.sha.getD i 0)) := by
  have := p.hsha
  simp only [Ptr.cells, Ptr.l, List.getElem?_toArray]
  rw [show 4 + i = i + 4 by omega]
  simp [u8s_eq, this, h]
theorem Ptr.sha_drop (p : Ptr) : p.cells.extract 4 (4 + 32) = (u8s p.sha).toArray := by
  have h := p.hsha
  apply Array.toList_inj.1
  simp only [Ptr.cells, Ptr.l, Array.toList_extract, List.extract, List.drop_succ_cons, List.drop_zero]
  rw [List.take_of_length_le (by simp [u8s, h])]
theorem V8_inj {a b : UInt8} : V8 a = V8 b ↔ a = b := by
  constructor
  · intro h
    simp only [V8, Value.int.injEq, Int.natCast_inj, true_and] at h
    exact UInt8.toNat_inj.1 h
  · rintro rfl; rfl
theorem V32_inj {a b : UInt32} : V32 a = V32 b ↔ a = b := by
  constructor
  · intro h
    simp only [V32, Value.int.injEq, Int.natCast_inj, true_and] at h
    exact UInt32.toNat_inj.1 h
  · rintro rfl; rfl
theorem u8s_inj {a b : BL} (h : u8s a = u8s b) : a = b := by
  rw [u8s_eq, u8s_eq] at h
  exact (List.map_inj_right (fun x y hxy => V8_inj.1 hxy)).1 h
theorem Ptr.ext_iff' {p q : Ptr} : p = q ↔ p.pos = q.pos ∧ p.birth = q.birth ∧ p.len = q.len ∧ p.crc = q.crc ∧ p.sha = q.sha := by
  constructor
  · rintro rfl; simp
  · obtain ⟨a, b, c, d, e, h⟩ := p
    obtain ⟨a', b', c', d', e', h'⟩ := q
    rintro ⟨rfl, rfl, rfl, rfl, rfl⟩
    rfl
theorem Ptr.l_inj {p q : Ptr} (h : p.l = q.l) : p = q := by
  simp only [Ptr.l, List.cons.injEq, Value.int.injEq, true_and] at h
  obtain ⟨h1, h2, h3, h4, h5⟩ := h
  exact Ptr.ext_iff'.2 ⟨h1, h2, h3, V32_inj.1 h4, u8s_inj h5⟩

/-- What is asked of the type of pointers. -/
structure PtrT (P : Program) (t ti tu ta te : TypeId) : Prop where
  u : P.underlying t = some (.struct (P.fieldsOf t))
  held : P.stoodInHeld t = false
  guard : P.eqGuardType P.depth t = false
  fs : (P.fieldsOf t).toList.map (fun f => (f.name == "_", f.type, f.offset)) = [(false, ti, 0), (false, ti, 1), (false, ti, 2), (false, tu, 3), (false, ta, 4)]
  ui : P.underlying ti = some (.int .i64)
  uu : P.underlying tu = some (.int .u32)
  ua : P.underlying ta = some (.array 32 te)
  ue : P.underlying te = some (.int .u8)
  ia : (P.info? ta).map (·.size) = some 32
  ie : (P.info? te).map (·.size) = some 1

section
variable {P : Program} {n : Nat} {ρ : Env} {K : Env → World → Prop} {w : World} {do_ : Option Nat} {ty : TypeId} {pos : String} {aft : Array Edge} {x y : Operand} {t t' ti tu ta te : TypeId}

theorem run_eqItems8 (d : Nat) (hue : P.underlying te = some (.int .u8)) (c : Nat) (hc : c = 1) {a b : BL} {m : Nat} (ha : a.length = m) (hb : b.length = m) : ∀ (is : List Nat), (∀ i, i ∈ is → i < m) →
    (Op.eqItems (d + 1) te c (u8s a).toArray (u8s b).toArray is).run P w = .ok (decide (∀ i, i ∈ is → a.getD i 0 = b.getD i 0)) w
  | [], _ => by simp [Op.eqItems]
  | i :: is, h => by
    subst hc
    have hi := h i List.mem_cons_self
    have h1 := run_part_plain (P := P) w (e := te) (by simp [Program.plainKey, hue]) (u8s_getD (l := a) (i := i) (o := i * 1) (by simp) (by omega))
    have h2 := run_part_plain (P := P) w (e := te) (by simp [Program.plainKey, hue]) (u8s_getD (l := b) (i := i) (o := i * 1) (by simp) (by omega))
    have h3 := run_equalIn_int (P := P) w d te .u8 .u8 ((a.getD i 0).toNat : Int) ((b.getD i 0).toNat : Int) hue
    have ih := run_eqItems8 d hue 1 rfl ha hb is (fun j hj => h j (List.mem_cons_of_mem _ hj))
    simp only [Op.eqItems, Sem.run_bind, h1, h2, Result.andThen_ok, V8, h3]
    by_cases he : a.getD i 0 = b.getD i 0
    · have : (((a.getD i 0).toNat : Int) == ((b.getD i 0).toNat : Int)) = true := by rw [he]; simp
      simp only [this, Bool.not_true, Bool.false_eq_true, if_false, ih]
      congr 1
      rw [decide_eq_decide]
      exact ⟨fun hh j hj => (List.mem_cons.1 hj).elim (fun e => e ▸ he) (hh j), fun hh j hj => hh j (List.mem_cons_of_mem _ hj)⟩
    · have : (((a.getD i 0).toNat : Int) == ((b.getD i 0).toNat : Int)) = false := by
        rw [beq_eq_false_iff_ne]; intro e; exact he (UInt8.toNat_inj.1 (by exact_mod_cast e))
      simp only [this, Bool.not_false, if_true, Sem.run_pure]
      congr 1
      symm
      rw [decide_eq_false_iff_not]
      intro hall; exact he (hall i List.mem_cons_self)

theorem getD_ext {a b : BL} {m : Nat} (ha : a.length = m) (hb : b.length = m) : (∀ i, i ∈ List.range m → a.getD i 0 = b.getD i 0) ↔ a = b := by
  constructor
  · intro h
    apply List.ext_getElem (by omega)
    intro i h1 h2
    have := h i (by rw [List.mem_range]; omega)
    simpa [List.getD_eq_getElem?_getD, h1, h2] using this
  · rintro rfl _ _; rfl

theorem run_eqPtr (hT : PtrT P t ti tu ta te) (p q : Ptr) : (Op.equalIn 10000 t p.val q.val).run P w = .ok (decide (p = q)) w := by
  rw [Ptr.val, Ptr.val, run_equalIn_struct w 9999 t _ _ hT.u hT.held]
  have hfs := hT.fs
  generalize (P.fieldsOf t).toList = fs at hfs
  rcases fs with _ | ⟨f0, _ | ⟨f1, _ | ⟨f2, _ | ⟨f3, _ | ⟨f4, _ | ⟨f5, fs⟩⟩⟩⟩⟩⟩
  case cons.cons.cons.cons.cons.nil =>
    simp only [List.map_cons, List.map_nil, List.cons.injEq, Prod.mk.injEq, and_true] at hfs
    obtain ⟨⟨n0, t0, o0⟩, ⟨n1, t1, o1⟩, ⟨n2, t2, o2⟩, ⟨n3, t3, o3⟩, ⟨n4, t4, o4⟩⟩ := hfs
    have pi : P.plainKey ti = true := by simp [Program.plainKey, hT.ui]
    have pu : P.plainKey tu = true := by simp [Program.plainKey, hT.uu]
    have part0 : ∀ p : Ptr, (part ti p.cells 0).run P w = .ok (.int .i64 p.pos) w := fun p => run_part_plain w pi rfl
    have part1 : ∀ p : Ptr, (part ti p.cells 1).run P w = .ok (.int .i64 p.birth) w := fun p => run_part_plain w pi rfl
    have part2 : ∀ p : Ptr, (part ti p.cells 2).run P w = .ok (.int .i64 p.len) w := fun p => run_part_plain w pi rfl
    have part3 : ∀ p : Ptr, (part tu p.cells 3).run P w = .ok (V32 p.crc) w := fun p => run_part_plain w pu rfl
    have part4 : ∀ p : Ptr, (part ta p.cells 4).run P w = .ok (.agg (u8s p.sha).toArray) w := fun p => by
      obtain ⟨inf, hinf, hsz⟩ := Option.map_eq_some_iff.1 hT.ia
      rw [← Ptr.sha_drop]
      simp [part, isAgg, run_underlying hT.ua, Sem.run_bind, sizeOf, typeInfo, hinf, hsz]
    have e0 : ∀ a b : Int, (Op.equalIn 9999 ti (.int .i64 a) (.int .i64 b)).run P w = .ok (a == b) w := fun a b => run_equalIn_int (P := P) w 9998 ti .i64 .i64 a b hT.ui
    have e3 : ∀ a b : Int, (Op.equalIn 9999 tu (.int .u32 a) (.int .u32 b)).run P w = .ok (a == b) w := fun a b => run_equalIn_int (P := P) w 9998 tu .u32 .u32 a b hT.uu
    have e4 : ∀ p q : Ptr, (Op.equalIn 9999 ta (.agg (u8s p.sha).toArray) (.agg (u8s q.sha).toArray)).run P w = .ok (decide (p.sha = q.sha)) w := fun p q => by
      obtain ⟨inf, hinf, hsz⟩ := Option.map_eq_some_iff.1 hT.ie
      rw [show (9999 : Nat) = 9998 + 1 from rfl, run_equalIn_array w 9998 _ _ hT.ua hinf]
      have hc : P.cellsOf te = 1 := by simp [Program.cellsOf, hinf, hsz]
      rw [run_eqItems8 9997 hT.ue _ hc p.hsha q.hsha (List.range 32) (fun i hi => List.mem_range.1 hi)]
      congr 1
      exact decide_eq_decide.2 (getD_ext p.hsha q.hsha)
    have n0' : ¬ f0.name = "_" := by simpa using n0
    have n1' : ¬ f1.name = "_" := by simpa using n1
    have n2' : ¬ f2.name = "_" := by simpa using n2
    have n3' : ¬ f3.name = "_" := by simpa using n3
    have n4' : ¬ f4.name = "_" := by simpa using n4
    simp only [Op.eqFields, n0', n1', n2', n3', n4', ne_eq, not_false_eq_true, if_true, Sem.run_bind, t0, t1, t2, t3, t4, o0, o1, o2, o3, o4, part0, part1, part2, part3, part4, Result.andThen_ok]
    simp only [V32, e0, Result.andThen_ok]
    by_cases h0 : p.pos = q.pos
    · by_cases h1 : p.birth = q.birth
      · by_cases h2 : p.len = q.len
        · by_cases h3 : p.crc = q.crc
          · by_cases h4 : p.sha = q.sha
            · simp [Ptr.ext_iff', part0, part1, part2, part3, part4, V32, e0, e3, e4, h0, h1, h2, h3, h4]
            · simp [Ptr.ext_iff', part0, part1, part2, part3, part4, V32, e0, e3, e4, h0, h1, h2, h3, h4]
          · have : ((p.crc.toNat : Int) == (q.crc.toNat : Int)) = false := by
              rw [beq_eq_false_iff_ne]; intro e; exact h3 (UInt32.toNat_inj.1 (by exact_mod_cast e))
            simp [Ptr.ext_iff', part0, part1, part2, part3, part4, V32, e0, e3, e4, h0, h1, h2, h3, this]
        · simp [Ptr.ext_iff', part0, part1, part2, part3, part4, V32, e0, e3, e4, h0, h1, h2]
      · simp [Ptr.ext_iff', part0, part1, part2, part3, part4, V32, e0, e3, e4, h0, h1]
    · simp [Ptr.ext_iff', part0, part1, part2, part3, part4, V32, e0, e3, e4, h0]
  all_goals simp at hfs

theorem R_eqlPtr (hT : PtrT P t ti tu ta te) {p q : Ptr} (hx : evO ρ x = some p.val) (hy : evO ρ y = some q.val) : RunV P n ⟨do_, .binOp .eql t x y t', ty, pos, aft, none⟩ ρ w (.bool (decide (p = q))) := fun ac hr => by
  have hg := run_eqGuard_agg (P := P) w .eql t x y p.cells q.cells hT.guard
  have hb := run_eql_struct (P := P) w t p.cells q.cells
  have he := run_eqPtr (w := w) hT p q
  simp only [Ptr.val] at he
  rw [he] at hb
  simp only [execOp, hr.eval hx, hr.eval hy, Ptr.val, Sem.run_bind, hg, hb, Result.andThen_ok, Sem.run_pure]
theorem R_neqPtr (hT : PtrT P t ti tu ta te) {p q : Ptr} (hx : evO ρ x = some p.val) (hy : evO ρ y = some q.val) : RunV P n ⟨do_, .binOp .neq t x y t', ty, pos, aft, none⟩ ρ w (.bool (decide (p ≠ q))) := fun ac hr => by
  have hg := run_eqGuard_agg (P := P) w .neq t x y p.cells q.cells hT.guard
  have hb := run_neq_struct (P := P) w t p.cells q.cells
  have he := run_eqPtr (w := w) hT p q
  simp only [Ptr.val] at he
  rw [he] at hb
  simp only [execOp, hr.eval hx, hr.eval hy, Ptr.val, Sem.run_bind, hg, hb, Result.andThen_ok, Sem.run_pure]
  simp
end
/-- An owned slice of known address from now on is only read. -/
theorem St.freezeAt {W w : World} {F D : Nat → Prop} {es ds : List Asn} (hs : St W F D es ds w) {i : Nat} {ao : Option Addr} {e sz m mm c : Nat} {xs : List Value} (hi : es[i]? = some (oSl (.slice ao mm c) e sz m xs)) : St W F D (es.eraseIdx i) (ds ++ [dSl ao mm c sz xs]) w := by
  obtain ⟨ao', c', hv, h⟩ := hs.freezeSl hi
  injection hv with h1 h2 h3
  subst h1; subst h2; subst h3
  exact h

theorem R_convIU {P : Program} {n : Nat} {ρ : Env} {w : World} {do_ : Option Nat} {ty : TypeId} {pos : String} {aft : Array Edge} {x : Operand} {s u : TypeId} {dsc : TypeDesc} {q : Int} (hs : P.underlying s = some dsc) (hu : P.underlying u = some (.int .u64)) (hx : evO ρ x = some (.int .i64 q)) (h0 : 0 ≤ q) (h1 : q ≤ 9223372036854775807) :
    RunV P n ⟨do_, .convert s u x, ty, pos, aft, none⟩ ρ w (.int .u64 ((q.toNat : Nat) : Int)) := by
  have h := R_convI (P := P) (n := n) (ρ := ρ) (w := w) (d := do_) (ty := ty) (pos := pos) (aft := aft) hs hu hx
  have e : q = ((q.toNat : Nat) : Int) := (Int.toNat_of_nonneg h0).symm
  have hw : IntKind.u64.wrap q = ((q.toNat : Nat) : Int) := by
    conv => lhs; rw [e]
    exact wrapU rfl (by simp [IntKind.bits]; omega)
  rwa [hw] at h

end Go.Proofs.YtpcojkbljgpecaaGreat
namespace Go.Proofs.YtpcojkbljgpecaaGreat
open Go
section
variable {P : Program} {n : Nat} {ρ : Env} {K : Env → World → Prop} {W w : World} {F D : Nat → Prop} {es ds : List Asn} {d : Nat} {do_ : Option Nat} {ty : TypeId} {pos : String} {aft : Array Edge} {x y : Operand} {t t' : TypeId} {v : Value}

theorem flat_seg {α : Type} (sz : Nat) (f : α → List Value) (hf : ∀ x, (f x).length = sz) {l : List α} {i j : Nat} {e : α} {u : Value} (hi : l[i]? = some e) (hu : (f e)[j]? = some u) : (l.flatMap f)[i * sz + j]? = some u := by
  have hj : j < sz := by have := (List.getElem?_eq_some_iff.1 hu).1; rwa [hf] at this
  rw [flat_get sz f hf l i j e hi hj, hu]

/-- An element of a slice that is only read. -/
theorem R_ldE {α : Type} {f : α → List Value} {l : List α} {b o a m c sz i : Nat} {e : α} (hd : (dSl (some ⟨b, o, none⟩) m c sz (l.flatMap f)).P w) (hf : ∀ x, (f x).length = sz) (hag : ∀ w, (isAgg t).run P w = .ok true w) (hsz : ∀ w, (sizeOf t).run P w = .ok sz w)
    (hx : evO ρ x = some (.pointer (some ⟨b, a, none⟩))) (ha : a = o + i * sz) (hi : l[i]? = some e) (hp : 0 < sz) : RunV P n ⟨do_, .load t x, ty, pos, aft, none⟩ ρ w (.agg (f e).toArray) :=
  R_ldR hd hag hsz hx ha (hf e) (by
    intro hn
    have := congrArg List.length hn
    rw [flat_len sz f hf, List.length_nil] at this
    have hil := (List.getElem?_eq_some_iff.1 hi).1
    rcases Nat.mul_eq_zero.1 this with h | h <;> omega) (fun j u hu => flat_seg sz f hf hi hu)

/-- A scalar of an element. -/
theorem R_ldF {α : Type} {f : α → List Value} {l : List α} {b o a m c sz i j : Nat} {e : α} (hd : (dSl (some ⟨b, o, none⟩) m c sz (l.flatMap f)).P w) (hf : ∀ x, (f x).length = sz) (hag : ∀ w, (isAgg t).run P w = .ok false w)
    (hx : evO ρ x = some (.pointer (some ⟨b, a, none⟩))) (ha : a = o + i * sz + j) (hi : l[i]? = some e) (hv : (f e)[j]? = some v) : RunV P n ⟨do_, .load t x, ty, pos, aft, none⟩ ρ w v :=
  R_ld (i := i * sz + j) hd hag hx (by omega) (flat_seg sz f hf hi hv)

theorem dSlsomeF {α : Type} {f : α → List Value} {l : List α} {ao : Option Addr} {m c sz i : Nat} (hd : (dSl ao m c sz (l.flatMap f)).P w) (hf : ∀ x, (f x).length = sz) (hp : 0 < sz) (hi : i < l.length) : ∃ b o, ao = some ⟨b, o, none⟩ := by
  refine dSl.some hd (fun hn => ?_)
  have := congrArg List.length hn
  rw [flat_len sz f hf, List.length_nil] at this
  rcases Nat.mul_eq_zero.1 this with h | h <;> omega

/-- A cut of a slice of structs that is only read. -/
theorem St.dEcut {α : Type} {f : α → List Value} {l : List α} {ao : Option Addr} {c sz : Nat} (hs : St W F D es ds w) {j : Nat} (hj : ds[j]? = some (dSl ao l.length c sz (l.flatMap f))) (hf : ∀ x, (f x).length = sz) (lo hi : Nat) (h1 : lo ≤ hi) (h2 : hi ≤ l.length) :
    St W F D es (ds ++ [dSl (cutO ao c lo sz) ((l.drop lo).take (hi - lo)).length (c - lo) sz (((l.drop lo).take (hi - lo)).flatMap f)]) w := by
  have e1 : ((l.drop lo).take (hi - lo)).length = hi - lo := by rw [List.length_take, List.length_drop]; omega
  have e2 : ((l.flatMap f).drop (lo * sz)).take ((hi - lo) * sz) = ((l.drop lo).take (hi - lo)).flatMap f := by
    have hdrop : ∀ (l : List α) (k : Nat), (l.flatMap f).drop (k * sz) = (l.drop k).flatMap f := by
      intro l k
      induction k generalizing l with
      | zero => simp
      | succ k ih =>
        cases l with
        | nil => simp
        | cons y l =>
          rw [List.flatMap_cons, List.drop_succ_cons, ← ih l, Nat.succ_mul, Nat.add_comm]
          rw [← List.drop_drop]
          congr 1
          rw [List.drop_append_of_le_length (by rw [hf]; omega), List.drop_of_length_le (by rw [hf]; omega), List.nil_append]
    have htake : ∀ (l : List α) (k : Nat), (l.flatMap f).take (k * sz) = (l.take k).flatMap f := by
      intro l k
      induction k generalizing l with
      | zero => simp
      | succ k ih =>
        cases l with
        | nil => simp
        | cons y l =>
          rw [List.flatMap_cons, List.take_succ_cons, List.flatMap_cons, ← ih l, Nat.succ_mul]
          rw [List.take_append, hf, List.take_of_length_le (by rw [hf]; omega)]
          congr 2; omega
    rw [hdrop, htake]
  refine hs.derive (List.mem_of_getElem? hj) _ (fun h => ?_) (fun k hk => dSl.cut_foot (l := lo) (h := hi) k (by rw [e2]; exact hk))
  have h3 := dSl.cut (l := lo) (h := hi) h h1 h2
  rw [e2] at h3
  rw [e1]; exact h3
theorem St.dEtake {α : Type} {f : α → List Value} {l : List α} {ao : Option Addr} {c sz : Nat} (hs : St W F D es ds w) {j : Nat} (hj : ds[j]? = some (dSl ao l.length c sz (l.flatMap f))) (hf : ∀ x, (f x).length = sz) (hi : Nat) (h2 : hi ≤ l.length) :
    St W F D es (ds ++ [dSl ao (l.take hi).length c sz ((l.take hi).flatMap f)]) w := by
  have h := hs.dEcut hj hf 0 hi (Nat.zero_le _) h2
  have e : cutO ao c 0 sz = ao := by
    unfold cutO
    split
    · rfl
    · cases ao with
      | none => rfl
      | some a => simp [Addr.add]
  rw [e, List.drop_zero, Nat.sub_zero, Nat.sub_zero] at h
  exact h
theorem St.dEdrop {α : Type} {f : α → List Value} {l : List α} {ao : Option Addr} {c sz : Nat} (hs : St W F D es ds w) {j : Nat} (hj : ds[j]? = some (dSl ao l.length c sz (l.flatMap f))) (hf : ∀ x, (f x).length = sz) (lo : Nat) (h2 : lo ≤ l.length) :
    St W F D es (ds ++ [dSl (cutO ao c lo sz) (l.drop lo).length (c - lo) sz ((l.drop lo).flatMap f)]) w := by
  have h := hs.dEcut hj hf lo l.length h2 (Nat.le_refl _)
  rwa [List.take_of_length_le (by rw [List.length_drop]; omega)] at h

theorem R_eqlSlNil {ao : Option Addr} {m c : Nat} {e : TypeId} (hu : P.underlying t = some (.slice e)) (hx : evO ρ x = some (.slice ao m c)) (hy : evO ρ y = some (.slice none 0 0)) : RunV P n ⟨do_, .binOp .eql t x y t', ty, pos, aft, none⟩ ρ w (.bool ao.isNone) := fun ac hr => by
  have h := run_equal_slice_nil (P := P) w t e ao m c hu
  simp [execOp, hr.eval hx, hr.eval hy, eqGuard, binOp, h]
theorem R_neqSlNil {ao : Option Addr} {m c : Nat} {e : TypeId} (hu : P.underlying t = some (.slice e)) (hx : evO ρ x = some (.slice ao m c)) (hy : evO ρ y = some (.slice none 0 0)) : RunV P n ⟨do_, .binOp .neq t x y t', ty, pos, aft, none⟩ ρ w (.bool (!ao.isNone)) := fun ac hr => by
  have h := run_equal_slice_nil (P := P) w t e ao m c hu
  simp [execOp, hr.eval hx, hr.eval hy, eqGuard, binOp, h]
theorem run_eqPN (q : Nat) {p : Option Addr} {e : TypeId} (hu : P.underlying t = some (.pointer e)) : (Op.equalIn (q + 1) t (.pointer p) (.pointer none)).run P w = .ok p.isNone w := by
  cases p <;> simp [Op.equalIn, run_underlying hu]
theorem run_eqPN' {p : Option Addr} {e : TypeId} (hu : P.underlying t = some (.pointer e)) : (Op.equal t (.pointer p) (.pointer none)).run P w = .ok p.isNone w := run_eqPN 9999 hu
theorem R_eqlPtrNil {p : Option Addr} {e : TypeId} (hu : P.underlying t = some (.pointer e)) (hx : evO ρ x = some (.pointer p)) (hy : evO ρ y = some (.pointer none)) : RunV P n ⟨do_, .binOp .eql t x y t', ty, pos, aft, none⟩ ρ w (.bool p.isNone) := fun ac hr => by
  simp [execOp, hr.eval hx, hr.eval hy, eqGuard, binOp, run_eqPN' hu]
theorem R_neqPtrNil {p : Option Addr} {e : TypeId} (hu : P.underlying t = some (.pointer e)) (hx : evO ρ x = some (.pointer p)) (hy : evO ρ y = some (.pointer none)) : RunV P n ⟨do_, .binOp .neq t x y t', ty, pos, aft, none⟩ ρ w (.bool (!p.isNone)) := fun ac hr => by
  simp [execOp, hr.eval hx, hr.eval hy, eqGuard, binOp, run_eqPN' hu]
end
/-- The nil slice is owned by whoever wants it. -/
theorem St.nilSl {W w : World} {F D : Nat → Prop} {es ds : List Asn} (hs : St W F D es ds w) (e sz : Nat) : St W F D (es ++ [oSl (.slice none 0 0) e sz 0 []]) ds w :=
  hs.add _ ⟨by simp, .inl ⟨rfl, rfl⟩⟩ (fun k hk => by simp [oSl, Value.ownBlock] at hk)

end Go.Proofs.YtpcojkbljgpecaaGreat
namespace Go.Proofs.YtpcojkbljgpecaaGreat
open Go

def entOf (l : List MapEntry) : List (Value × Value) := l.map fun e => (e.key, e.val)
def mapI (l : List (Int × Value)) : List (Value × Value) := l.map fun p => (.int .i64 p.1, p.2)
/-- The place and the value of a key, counted from a number on. -/
def fnd : List (Int × Value) → Int → Nat → Option (Nat × Value)
  | [], _, _ => none
  | p :: l, k, i => if k = p.1 then some (i, p.2) else fnd l k (i + 1)
def mget : List (Int × Value) → Int → Option Value
  | [], _ => none
  | p :: l, k => if k = p.1 then some p.2 else mget l k
def mput : List (Int × Value) → Int → Value → List (Int × Value)
  | [], k, v => [(k, v)]
  | p :: l, k, v => if k = p.1 then (k, v) :: l else p :: mput l k v
theorem fnd_mget : ∀ (l : List (Int × Value)) (k : Int) (i : Nat), (fnd l k i).map (·.2) = mget l k
  | [], _, _ => rfl
  | p :: l, k, i => by
    unfold fnd mget
    split
    · rfl
    · exact fnd_mget l k (i + 1)
theorem fnd_ge : ∀ (l : List (Int × Value)) (k : Int) (i j : Nat) (v : Value), fnd l k i = some (j, v) → i ≤ j
  | p :: l, k, i, j, v, h => by
    unfold fnd at h
    split at h
    · simp only [Option.some.injEq, Prod.mk.injEq] at h; omega
    · have := fnd_ge l k (i + 1) j v h; omega
theorem mget_mput_same : ∀ (l : List (Int × Value)) (k : Int) (v : Value), mget (mput l k v) k = some v
  | [], k, v => by simp [mput, mget]
  | p :: l, k, v => by
    unfold mput
    split
    · simp [mget]
    · rename_i h; simp [mget, h, mget_mput_same l k v]
theorem mget_mput_ne : ∀ (l : List (Int × Value)) (k j : Int) (v : Value), j ≠ k → mget (mput l k v) j = mget l j
  | [], k, j, v, h => by simp [mput, mget, h]
  | p :: l, k, j, v, h => by
    unfold mput
    split
    · rename_i hk
      subst hk
      simp [mget, h]
    · simp only [mget]
      split
      · rfl
      · exact mget_mput_ne l k j v h

theorem findNow_int : ∀ (es : List MapEntry) (l : List (Int × Value)) (k : Int) (i : Nat), entOf es = mapI l → Instr.findNow (.int .i64) (.int .i64 k) es i = some (fnd l k i)
  | [], [], _, _, _ => rfl
  | e :: es, p :: l, k, i, h => by
    simp only [entOf, mapI, List.map_cons, List.cons.injEq, Prod.mk.injEq] at h
    obtain ⟨⟨h1, h2⟩, h3⟩ := h
    unfold Instr.findNow fnd
    rw [h1, h2]
    simp only [Instr.sameNow, if_true]
    by_cases hk : k = p.1
    · simp [hk]
    · have : (k == p.1) = false := by simpa using hk
      rw [this, if_neg hk]
      exact findNow_int es l k (i + 1) h3
  | [], _ :: _, _, _, h => by simp [entOf, mapI] at h
  | _ :: _, [], _, _, h => by simp [entOf, mapI] at h

theorem modify_int : ∀ (es : List MapEntry) (l : List (Int × Value)) (k : Int) (v v0 : Value) (i j : Nat), entOf es = mapI l → fnd l k i = some (j, v0) → j - i < es.length ∧ ((es[j - i]?).map (·.key)) = some (.int .i64 k) ∧ entOf (es.modify (j - i) fun e => { e with key := .int .i64 k, val := v }) = mapI (mput l k v)
  | e :: es, p :: l, k, v, v0, i, j, h, hf => by
    simp only [entOf, mapI, List.map_cons, List.cons.injEq, Prod.mk.injEq] at h
    obtain ⟨⟨h1, h2⟩, h3⟩ := h
    unfold fnd at hf
    unfold mput
    split at hf
    · rename_i hk
      simp only [Option.some.injEq, Prod.mk.injEq] at hf
      obtain ⟨rfl, _⟩ := hf
      rw [if_pos hk, Nat.sub_self]
      refine ⟨by simp, by simp [h1, hk], ?_⟩
      simp only [List.modify_zero_cons, entOf, mapI, List.map_cons, List.cons.injEq, Prod.mk.injEq, true_and, h3, and_self]
    · rename_i hk
      rw [if_neg hk]
      have hge := fnd_ge l k (i + 1) j v0 hf
      have ih := modify_int es l k v v0 (i + 1) j h3 hf
      obtain ⟨d, hd⟩ : ∃ d, j - i = d + 1 := ⟨j - (i + 1), by omega⟩
      have hd' : j - (i + 1) = d := by omega
      rw [hd'] at ih
      rw [hd]
      refine ⟨by simp; omega, by simpa using ih.2.1, ?_⟩
      have h4 := ih.2.2
      simp only [entOf, mapI] at h4
      simp only [List.modify_succ_cons, entOf, mapI, List.map_cons, h1, h2, h4]
  | [], [], _, _, _, _, _, _, h => by simp [fnd] at h
  | [], _ :: _, _, _, _, _, _, h, _ => by simp [entOf, mapI] at h
  | _ :: _, [], _, _, _, _, _, h, _ => by simp [entOf, mapI] at h
theorem mput_none : ∀ (l : List (Int × Value)) (k : Int) (v : Value) (i : Nat), fnd l k i = none → mput l k v = l ++ [(k, v)]
  | [], _, _, _, _ => rfl
  | p :: l, k, v, i, h => by
    unfold fnd at h
    split at h
    · cases h
    · rename_i hk
      unfold mput
      rw [if_neg hk, mput_none l k v (i + 1) h]
      rfl

/-- A map in memory. -/
def mpA (b : Nat) (l : List (Int × Value)) : Asn :=
  ⟨fun k => k = b, fun w => ∃ es clock, w.heap[b]? = some (.map es clock) ∧ entOf es.toList = mapI l ∧ (es.toList.map (·.born)).Nodup ∧ ∀ e ∈ es.toList, e.born < clock,
   fun w w' h hp => by obtain ⟨es, clock, h1, h2⟩ := hp; exact ⟨es, clock, by rw [h b rfl]; exact h1, h2⟩⟩

section
variable {P : Program} {n : Nat} {ρ : Env} {K : Env → World → Prop} {W w : World} {F D : Nat → Prop} {es ds : List Asn} {d : Nat} {do_ : Option Nat} {ty : TypeId} {pos : String} {aft : Array Edge} {x y z : Operand} {t t' : TypeId} {v : Value}

theorem St.pushObj (hs : St W F D es ds w) (o : Obj) (a : Asn) (hf : ∀ k, a.foot k → k = w.heap.size) (hP : a.P (w.alloc o)) : St W F D (es ++ [a]) ds (w.alloc o) := by
  have h1 : St W F D es ds (w.alloc o) := hs.grow rfl rfl rfl (by rw [heap_alloc]; simp) (fun k hk => by show (w.heap.push _)[k]? = _; rw [Array.getElem?_push, if_neg (Nat.ne_of_lt hk)])
  refine h1.add _ hP (fun k hk => ?_)
  obtain rfl := hf k hk
  exact ⟨by rw [heap_alloc]; simp, fun h => absurd (Nat.lt_of_lt_of_le h hs.size) (Nat.lt_irrefl _), fun a ha hk => absurd (hs.ef a ha _ hk).1 (Nat.lt_irrefl _), fun d hd hk => absurd (hs.df d hd _ hk).1 (Nat.lt_irrefl _)⟩

theorem O_makeMap (hs : St W F D es ds w) (hd : Nat.blt d n = true)
    (hK : ∀ b w', W.heap.size ≤ b → St W F D (es ++ [mpA b []]) ds w' → K (upd ρ d (.map (some b))) w') : EOp P n ⟨some d, .makeMap t none, ty, pos, aft, none⟩ K ρ w := fun a ha => by
  unfold Oper.wp
  have hrun : (execOp a.eval ⟨some d, .makeMap t none, ty, pos, aft, none⟩).run P w = .ok (.value (.map (some w.heap.size))) (w.alloc (.map #[] 0)) := by
    simp [execOp, Instr.makeMap, newObj, Sem.run]
  rw [hrun]
  exact ⟨_, ha.put hd _, hK _ _ hs.size (hs.pushObj _ (mpA w.heap.size []) (fun k hk => hk) ⟨#[], 0, heap_alloc_new w _, rfl, by simp, by simp⟩)⟩

theorem R_lenMap {b : Nat} {l : List (Int × Value)} {kt et : TypeId} (hb : (mpA b l).P w) (hu : P.underlying t = some (.map kt et)) (hx : evO ρ x = some (.map (some b))) : RunV P n ⟨do_, .call ⟨.builtin .len, #[x], #[t]⟩, ty, pos, aft, none⟩ ρ w (.int .i64 (l.length : Int)) := fun a ha => by
  obtain ⟨es, clock, h1, h2, _⟩ := hb
  have hl : es.size = l.length := by
    have := congrArg List.length h2
    simpa [entOf, mapI] using this
  simp [execOp, resolve, invoke, builtin, Builtin.len_, ha.eval hx, run_underlying hu, Sem.run_bind, goInt, MapKept.run_getObj_map h1, hl]

theorem run_checkI {kt : TypeId} {e : Bool} {k : Int} (hk : P.underlying kt = some (.int .i64)) : (Instr.checkKey e 10000 kt (.int .i64 k)).run P w = .ok () w := by
  rw [show (10000 : Nat) = 9999 + 1 from rfl]
  unfold Instr.checkKey
  simp only [Sem.run_bind, run_underlying hk, Result.andThen_ok]
  rfl

theorem run_findI {kt : TypeId} {k : Int} {es : List MapEntry} {l : List (Int × Value)} (hk : P.underlying kt = some (.int .i64)) (he : entOf es = mapI l) : (Instr.findKey kt (.int .i64 k) es).run P w = .ok (fnd l k 0) w := by
  unfold Instr.findKey
  simp only [Sem.run_bind, run_underlying hk, Result.andThen_ok, findNow_int es l k 0 he]
  rfl

/-- A look-up that tells also whether the key is there. -/
theorem R_lookupOk {b : Nat} {l : List (Int × Value)} {kt et : TypeId} {k : Int} {zv : Value} (hb : (mpA b l).P w) (hu : P.underlying t = some (.map kt et)) (hk : P.underlying kt = some (.int .i64)) (hz : ∀ w, (zeroValue et).run P w = .ok zv w)
    (hx : evO ρ x = some (.map (some b))) (hy : evO ρ y = some (.int .i64 k)) : RunV P n ⟨do_, .lookup t x y true, ty, pos, aft, none⟩ ρ w (.tuple #[(mget l k).getD zv, .bool (mget l k).isSome]) := fun a ha => by
  obtain ⟨es, clock, h1, h2, _⟩ := hb
  simp only [execOp, ha.eval hx, ha.eval hy, Instr.lookup, Sem.run_bind, run_underlying hu, Result.andThen_ok, MapKept.run_getObj_map h1, Sem.run_pure, run_checkI hk, run_findI hk h2]
  rw [← fnd_mget l k 0]
  cases fnd l k 0 <;> simp [Sem.run_bind, hz]

theorem R_lookup {b : Nat} {l : List (Int × Value)} {kt et : TypeId} {k : Int} {zv : Value} (hb : (mpA b l).P w) (hu : P.underlying t = some (.map kt et)) (hk : P.underlying kt = some (.int .i64)) (hz : ∀ w, (zeroValue et).run P w = .ok zv w)
    (hx : evO ρ x = some (.map (some b))) (hy : evO ρ y = some (.int .i64 k)) : RunV P n ⟨do_, .lookup t x y false, ty, pos, aft, none⟩ ρ w ((mget l k).getD zv) := fun a ha => by
  obtain ⟨es, clock, h1, h2, _⟩ := hb
  simp only [execOp, ha.eval hx, ha.eval hy, Instr.lookup, Sem.run_bind, run_underlying hu, Result.andThen_ok, MapKept.run_getObj_map h1, Sem.run_pure, run_checkI hk, run_findI hk h2]
  rw [← fnd_mget l k 0]
  cases fnd l k 0 <;> simp [Sem.run_bind, hz]

theorem heap_set_same {h : Array Obj} {b : Nat} {o o' : Obj} (hb : h[b]? = some o) : (h.setIfInBounds b o')[b]? = some o' := by
  have := (Array.getElem?_eq_some_iff.1 hb).1
  simp [this]

theorem O_mapUpdate {b i : Nat} {l : List (Int × Value)} {kt et : TypeId} {k : Int} (hs : St W F D es ds w) (hi : es[i]? = some (mpA b l)) (hu : P.underlying t = some (.map kt et)) (hk : P.underlying kt = some (.int .i64))
    (hx : evO ρ x = some (.map (some b))) (hy : evO ρ y = some (.int .i64 k)) (hz : evO ρ z = some v)
    (hK : ∀ w', St W F D (es.set i (mpA b (mput l k v))) ds w' → K ρ w') : EOp P n ⟨none, .mapUpdate t x y z, ty, pos, aft, none⟩ K ρ w := fun a ha => by
  obtain ⟨ms, clock, h1, h2, h3, h4⟩ : (mpA b l).P w := hs.at hi
  unfold Oper.wp
  have key : ∃ ms' clock', (Instr.mapUpdate t (.map (some b)) (.int .i64 k) v).run P w = .ok () { w with heap := w.heap.setIfInBounds b (.map ms' clock') } ∧ entOf ms'.toList = mapI (mput l k v) ∧ (ms'.toList.map (·.born)).Nodup ∧ ∀ e ∈ ms'.toList, e.born < clock' := by
    cases hf : fnd l k 0 with
    | none =>
      refine ⟨ms.push { key := .int .i64 k, val := v, born := clock }, clock + 1, ?_, ?_, ?_, ?_⟩
      · simp only [Instr.mapUpdate, Sem.run_bind, run_underlying hu, Result.andThen_ok, MapKept.run_getObj_map h1, run_checkI hk, run_findI hk h2, hf, MapKept.run_setObj_map _ h1]
      · rw [mput_none l k v 0 hf]
        simp only [entOf, mapI] at h2
        simp [entOf, mapI, h2]
      · rw [Array.toList_push, List.map_append, List.nodup_append]
        refine ⟨h3, by simp, ?_⟩
        intro x hx y hy
        obtain ⟨e, he, rfl⟩ := List.mem_map.1 hx
        simp only [List.map_cons, List.map_nil, List.mem_singleton] at hy
        have := h4 e he
        omega
      · intro e he
        rw [Array.toList_push, List.mem_append] at he
        rcases he with he | he
        · have := h4 e he; omega
        · obtain rfl := List.mem_singleton.1 he; exact Nat.lt_succ_self _
    | some jv =>
      obtain ⟨j, v0⟩ := jv
      obtain ⟨hj, hkey, hmod⟩ := modify_int ms.toList l k v v0 0 j h2 hf
      simp only [Nat.sub_zero] at hj hkey hmod
      refine ⟨ms.modify j fun e => { e with key := .int .i64 k, val := v }, clock, ?_, ?_, ?_, ?_⟩
      · have hkk : ((ms[j]?).map (·.key)).getD (Value.int .i64 k) = .int .i64 k := by
          rw [Array.getElem?_toList] at hkey
          rw [hkey]; rfl
        have hst : (Instr.keyThatStays (.int .i64 k) (.int .i64 k)).run P w = .ok (.int .i64 k) w := by
          unfold Instr.keyThatStays
          rw [if_pos (by simp [Instr.sameBits])]
          rfl
        simp only [Instr.mapUpdate, Sem.run_bind, run_underlying hu, Result.andThen_ok, MapKept.run_getObj_map h1, run_checkI hk, run_findI hk h2, hf, hkk, hst, MapKept.run_setObj_map _ h1]
      · rw [Array.toList_modify]; exact hmod
      · have : ((ms.modify j fun e => { e with key := Value.int .i64 k, val := v }).toList.map (·.born)) = ms.toList.map (·.born) := by
          rw [Array.toList_modify]
          apply List.ext_getElem?
          intro q
          simp only [List.getElem?_map, List.getElem?_modify]
          cases ms.toList[q]? with
          | none => rfl
          | some e => by_cases hjq : j = q <;> simp [hjq]
        rw [this]; exact h3
      · intro e he
        rw [Array.toList_modify] at he
        obtain ⟨q, hq, rfl⟩ := List.getElem_of_mem he
        have hq2 : q < ms.toList.length := by simpa using hq
        have h5 := h4 (ms.toList[q]) (List.getElem_mem hq2)
        rw [List.getElem_modify]
        split <;> exact h5
  obtain ⟨ms', clock', hrun, e1, e2, e3⟩ := key
  have hr : (execOp a.eval ⟨none, .mapUpdate t x y z, ty, pos, aft, none⟩).run P w = .ok .skip { w with heap := w.heap.setIfInBounds b (.map ms' clock') } := by
    simp only [execOp, ha.eval hx, ha.eval hy, ha.eval hz, Sem.run_bind, hrun, Result.andThen_ok, Sem.run_pure]
  rw [hr]
  refine ⟨ρ, by simpa [Act.put] using ha, hK _ (hs.change hi (mpA b (mput l k v)) rfl rfl rfl (by simp) (fun q _ hq => ?_) ⟨ms', clock', heap_set_same h1, e1, e2, e3⟩ (fun q hq => ⟨.inl hq, ?_⟩))⟩
  · have hne : b ≠ q := fun e => hq e.symm
    show (w.heap.setIfInBounds b _)[q]? = _
    rw [Array.getElem?_setIfInBounds_ne hne]
  · obtain rfl : q = b := hq
    have := (Array.getElem?_eq_some_iff.1 h1).1
    simpa using this
/-! ### Ranging over a map -/
/-- A map and an iterator over it: what it holds, what is still to come (in whatever order), and the entry that came last. -/
def rngA (r b : Nat) (l rest : List (Int × Value)) (cur : Option (Int × Value)) : Asn :=
  ⟨fun k => k = r ∨ k = b, fun w => ∃ (ms : Array MapEntry) (clock since : Nat) (seen : Array Nat) (c0 : Nat), w.heap[b]? = some (.map ms clock) ∧ entOf ms.toList = mapI l ∧ (ms.toList.map (·.born)).Nodup ∧ (∀ e ∈ ms.toList, e.born < clock) ∧ w.heap[r]? = some (.mapIter (some b) since seen c0) ∧
      (∀ e ∈ ms.toList, e.born < since) ∧ since ≤ c0 ∧ since ≤ clock ∧ (entOf (leftOf ms seen).toList).Perm (mapI rest) ∧ (∀ p, cur = some p → c0 = clock ∧ ∃ e ∈ ms.toList, ∃ s0 : Array Nat, seen = s0.push e.born ∧ e.key = .int .i64 p.1 ∧ e.val = p.2),
   fun w w' h hp => by
    obtain ⟨ms, clock, since, seen, c0, h1, h2, h3, h4, h5, h6⟩ := hp
    exact ⟨ms, clock, since, seen, c0, by rw [h b (.inr rfl)]; exact h1, h2, h3, h4, by rw [h r (.inl rfl)]; exact h5, h6⟩⟩

theorem leftOf_nil (ms : Array MapEntry) : leftOf ms #[] = ms := by
  unfold leftOf
  exact Array.filter_eq_self.2 (fun x _ => by simp)

theorem filter_born_perm : ∀ (L : List MapEntry) (e : MapEntry), (L.map (·.born)).Nodup → e ∈ L → L.Perm (e :: L.filter fun x => x.born != e.born)
  | x :: L, e, hn, he => by
    rw [List.map_cons, List.nodup_cons] at hn
    rcases List.mem_cons.1 he with rfl | he
    · rw [List.filter_cons_of_neg (by simp)]
      have : L.filter (fun x => x.born != e.born) = L := List.filter_eq_self.2 (fun y hy => by
        simp only [bne_iff_ne, ne_eq]
        intro hh
        exact hn.1 (hh ▸ List.mem_map.2 ⟨y, hy, rfl⟩))
      rw [this]
    · have hx : x.born ≠ e.born := fun hh => hn.1 (hh ▸ List.mem_map.2 ⟨e, he, rfl⟩)
      rw [List.filter_cons_of_pos (by simpa using hx)]
      exact ((filter_born_perm L e hn.2 he).cons x).trans (List.Perm.swap _ _ _)

theorem leftOf_push (ms : Array MapEntry) (seen : Array Nat) (e : MapEntry) (hn : (ms.toList.map (·.born)).Nodup) (he : e ∈ (leftOf ms seen).toList) : (leftOf ms seen).toList.Perm (e :: (leftOf ms (seen.push e.born)).toList) := by
  have hsub : ((leftOf ms seen).toList.map (·.born)).Nodup := by
    unfold leftOf
    rw [Array.toList_filter]
    exact (List.filter_sublist.map _).nodup hn
  have h := filter_born_perm _ e hsub he
  have e1 : (leftOf ms (seen.push e.born)).toList = (leftOf ms seen).toList.filter fun x => x.born != e.born := by
    unfold leftOf
    rw [Array.toList_filter, Array.toList_filter, List.filter_filter]
    congr 1
    funext x
    by_cases hx : x.born = e.born
    · simp [hx]
    · have : (x.born != e.born) = true := by simpa using hx
      simp [this, hx]
  rw [e1]; exact h

theorem O_range {b i : Nat} {l : List (Int × Value)} {kt et : TypeId} (hs : St W F D es ds w) (hi : es[i]? = some (mpA b l)) (hd : Nat.blt d n = true) (hu : P.underlying t = some (.map kt et)) (hx : evO ρ x = some (.map (some b)))
    (hK : ∀ r w', W.heap.size ≤ r → St W F D (es.set i (rngA r b l l none)) ds w' → K (upd ρ d (.pointer (some ⟨r, 0, none⟩))) w') : EOp P n ⟨some d, .range t x, ty, pos, aft, none⟩ K ρ w := fun a ha => by
  obtain ⟨ms, clock, h1, h2, h3, h4⟩ : (mpA b l).P w := hs.at hi
  have hblt := (Array.getElem?_eq_some_iff.1 h1).1
  unfold Oper.wp
  have hrun : (execOp a.eval ⟨some d, .range t x, ty, pos, aft, none⟩).run P w = .ok (.value (.pointer (some ⟨w.heap.size, 0, none⟩))) (w.alloc (.mapIter (some b) clock #[] clock)) := by
    simp only [execOp, ha.eval hx, Sem.run_bind, run_range_map w t kt et b ms clock hu h1, Result.andThen_ok, Sem.run_pure]
  rw [hrun]
  refine ⟨_, ha.put hd _, hK _ _ hs.size (hs.change hi (rngA w.heap.size b l l none) rfl rfl rfl (by rw [heap_alloc]; simp) (fun k hk _ => by show (w.heap.push _)[k]? = _; rw [Array.getElem?_push, if_neg (Nat.ne_of_lt hk)]) ?_ (fun k hk => ?_))⟩
  · refine ⟨ms, clock, clock, #[], clock, ?_, h2, h3, h4, heap_alloc_new w _, h4, Nat.le_refl _, Nat.le_refl _, ?_, fun p hp => by cases hp⟩
    · rw [heap_alloc_old w _ hblt]; exact h1
    · rw [leftOf_nil, h2]
  · rcases hk with rfl | rfl
    · exact ⟨.inr (Nat.le_refl _), by rw [heap_alloc]; simp⟩
    · exact ⟨.inl rfl, by rw [heap_alloc]; simp; omega⟩

theorem O_next {b i r : Nat} {l rest : List (Int × Value)} {cur : Option (Int × Value)} (hs : St W F D es ds w) (hi : es[i]? = some (rngA r b l rest cur)) (hd : Nat.blt d n = true) (hx : evO ρ x = some (.pointer (some ⟨r, 0, none⟩)))
    (hK1 : rest = [] → ∀ w', St W F D es ds w' → K (upd ρ d (.tuple #[.bool false])) w')
    (hK2 : ∀ p rest' w', rest.Perm (p :: rest') → St W F D (es.set i (rngA r b l rest' (some p))) ds w' → K (upd ρ d (.tuple #[.bool true, .int .i64 p.1, p.2])) w') : EOp P n ⟨some d, .next x false, ty, pos, aft, none⟩ K ρ w := fun a ha => by
  obtain ⟨ms, clock, since, seen, c0, h1, h2, h3, h4, h5, h6, h7, hcc, h8, h9⟩ : (rngA r b l rest cur).P w := hs.at hi
  unfold Oper.wp
  rcases run_next_at (P := P) w ty r b since c0 seen ms clock h5 h1 h6 h7 with ⟨hz, hrun⟩ | ⟨e, he, w1, hw1, hrun⟩
  · have hr : (execOp a.eval ⟨some d, .next x false, ty, pos, aft, none⟩).run P w = .ok (.value (.tuple #[.bool false])) w := by
      simp only [execOp, ha.eval hx, Sem.run_bind, hrun, Result.andThen_ok, Sem.run_pure]
    rw [hr]
    have hrest : rest = [] := by
      have := h8.length_eq
      simp only [entOf, mapI, List.length_map, Array.length_toList, hz] at this
      exact List.eq_nil_of_length_eq_zero this.symm
    exact ⟨_, ha.put hd _, hK1 hrest _ hs⟩
  · have hem : e ∈ ms.toList := by
      unfold leftOf at he
      rw [Array.toList_filter] at he
      exact (List.mem_filter.1 he).1
    have hpr : (e.key, e.val) ∈ mapI rest := h8.mem_iff.1 (List.mem_map.2 ⟨e, he, rfl⟩)
    obtain ⟨p, hp, hpe⟩ := List.mem_map.1 hpr
    simp only [Prod.mk.injEq] at hpe
    obtain ⟨hk, hv⟩ := hpe
    obtain ⟨s1, s2, rfl⟩ := List.append_of_mem hp
    have hperm : (s1 ++ p :: s2).Perm (p :: (s1 ++ s2)) := List.perm_middle
    have hr : (execOp a.eval ⟨some d, .next x false, ty, pos, aft, none⟩).run P w = .ok (.value (.tuple #[.bool true, .int .i64 p.1, p.2])) (ChangeMaps.setBlock w1 r (.mapIter (some b) since (seen.push e.born) clock)) := by
      simp only [execOp, ha.eval hx, Sem.run_bind, hrun, Result.andThen_ok, Sem.run_pure, hk, hv]
    rw [hr]
    have hsw : St W F D es ds w1 := by
      rcases hw1 with rfl | rfl
      · exact hs
      · exact hs.grow rfl rfl rfl (Nat.le_refl _) (fun _ _ => rfl)
    have hw5 : w1.heap[r]? = some (.mapIter (some b) since seen c0) := by rcases hw1 with rfl | rfl <;> exact h5
    have hw1' : w1.heap[b]? = some (.map ms clock) := by rcases hw1 with rfl | rfl <;> exact h1
    have hrb : r ≠ b := by intro e; subst e; rw [hw5] at hw1'; cases hw1'
    refine ⟨_, ha.put hd _, hK2 p (s1 ++ s2) _ hperm (hsw.change hi (rngA r b l (s1 ++ s2) (some p)) rfl rfl rfl (by simp [ChangeMaps.setBlock]) (fun k _ hk => ?_) ?_ (fun k hk => ⟨.inl hk, ?_⟩))⟩
    · have hkr : r ≠ k := fun e => hk (.inl e.symm)
      show (w1.heap.setIfInBounds r _)[k]? = _
      rw [Array.getElem?_setIfInBounds_ne hkr]
    · refine ⟨ms, clock, since, seen.push e.born, clock, ?_, h2, h3, h4, heap_set_same hw5, h6, hcc, hcc, ?_, fun q hq => ?_⟩
      · show (w1.heap.setIfInBounds r _)[b]? = _
        rw [Array.getElem?_setIfInBounds_ne hrb]; exact hw1'
      · have hl := leftOf_push ms seen e h3 he
        have h10 : (entOf (leftOf ms seen).toList).Perm ((e.key, e.val) :: entOf (leftOf ms (seen.push e.born)).toList) := hl.map _
        have h11 : (mapI (s1 ++ p :: s2)).Perm ((Value.int .i64 p.1, p.2) :: mapI (s1 ++ s2)) := hperm.map _
        rw [← hk, ← hv] at h10
        exact ((h10.symm.trans h8).trans h11).cons_inv
      · obtain rfl := Option.some.inj hq
        exact ⟨rfl, e, hem, seen, rfl, hk.symm, hv.symm⟩
    · show k < (w1.heap.setIfInBounds r _).size
      rw [Array.size_setIfInBounds]
      rcases hk with rfl | rfl
      · exact (Array.getElem?_eq_some_iff.1 hw5).1
      · exact (Array.getElem?_eq_some_iff.1 hw1').1

theorem R_entry {b r : Nat} {l rest : List (Int × Value)} {p : Int × Value} (hb : (rngA r b l rest (some p)).P w) (hx : evO ρ x = some (.pointer (some ⟨r, 0, none⟩))) : RunV P n ⟨do_, .entry x, ty, pos, aft, none⟩ ρ w (.tuple #[.int .i64 p.1, p.2]) := fun a ha => by
  obtain ⟨ms, clock, since, seen, c0, h1, h2, h3, h4, h5, h6, h7, hcc, h8, h9⟩ := hb
  obtain ⟨rfl, e, he, s0, rfl, hk, hv⟩ := h9 p rfl
  have := run_entry_at (P := P) w r b since s0 ms c0 e h5 h1 he h3
  simp only [execOp, ha.eval hx, Sem.run_bind, this, Result.andThen_ok, Sem.run_pure, hk, hv]

/-- The iterator is let go. -/
theorem St.unrange {b i r : Nat} {l rest : List (Int × Value)} {cur : Option (Int × Value)} (hs : St W F D es ds w) (hi : es[i]? = some (rngA r b l rest cur)) : St W F D (es.set i (mpA b l)) ds w := by
  obtain ⟨ms, clock, since, seen, c0, h1, h2, h3, h4, h5, h6, h7, hcc, h8, h9⟩ : (rngA r b l rest cur).P w := hs.at hi
  refine hs.change hi (mpA b l) rfl rfl rfl (Nat.le_refl _) (fun _ _ _ => rfl) ⟨ms, clock, h1, h2, h3, h4⟩ (fun k hk => ⟨.inl (.inr hk), ?_⟩)
  obtain rfl : k = b := hk
  exact (Array.getElem?_eq_some_iff.1 h1).1
end
end Go.Proofs.YtpcojkbljgpecaaGreat
namespace Go.Proofs.YtpcojkbljgpecaaGreat
open Go
theorem oSl.val {v : Value} {e sz m : Nat} {cs : List Value} {w : World} (h : (oSl v e sz m cs).P w) : ∃ ao c, v = .slice ao m c := by
  rcases h.2 with ⟨rfl, hm⟩ | ⟨g, cap, cur, rfl, _⟩
  · subst hm; exact ⟨none, 0, rfl⟩
  · exact ⟨_, cap, rfl⟩
theorem oSl.toD {ao : Option Addr} {e sz m c : Nat} {cs : List Value} {w : World} (h : (oSl (.slice ao m c) e sz m cs).P w) : (dSl ao m c sz cs).P w := by
  obtain ⟨_, hmc, hlen, hc, hnil⟩ := own_cells h rfl
  refine ⟨⟨hmc, fun h => (hnil h).2, fun ad had _ => by obtain ⟨g, rfl, _⟩ := hc ad had; rfl⟩, hlen, fun hne => ?_⟩
  cases ao with
  | none =>
    have := (hnil rfl).1
    subst this
    rw [Nat.zero_mul] at hlen
    exact absurd (List.eq_nil_of_length_eq_zero hlen) hne
  | some ad =>
    obtain ⟨g, rfl, hcc⟩ := hc ad rfl
    exact ⟨g, 0, rfl, hcc⟩
section
variable {W w : World} {F D : Nat → Prop} {es ds : List Asn}
/-- The nil slice can be read. -/
theorem St.nilD (hs : St W F D es ds w) (sz : Nat) : St W F D es (ds ++ [dSl none 0 0 sz []]) w :=
  hs.data _ ⟨⟨Nat.le_refl _, fun _ => rfl, by intro ad h; cases h⟩, by simp, fun h => absurd rfl h⟩ (fun k hk => absurd rfl hk.1)
end
end Go.Proofs.YtpcojkbljgpecaaGreat
namespace Go.Proofs.YtpcojkbljgpecaaGreat
open Go
theorem mix_ok : Tryz.prog.follows .mixedOrders = true := by kernel_rfl
theorem as_200 : arrSize Tryz.prog 200 = some (512, 1) := by kernel_rfl
theorem as_30 : arrSize Tryz.prog 30 = some (32, 1) := by kernel_rfl
theorem as_403 : arrSize Tryz.prog 403 = some (8, 1) := by kernel_rfl
theorem as_408 : arrSize Tryz.prog 408 = some (64, 1) := by kernel_rfl
theorem as_413 : arrSize Tryz.prog 413 = some (16, 1) := by kernel_rfl
theorem as_418 : arrSize Tryz.prog 418 = some (64, 1) := by kernel_rfl
theorem as_94 : arrSize Tryz.prog 94 = some (2, 1) := by kernel_rfl
theorem ei_103 : einfoB Tryz.prog 103 101 81 208 = true := by kernel_rfl
theorem ei_130 : einfoB Tryz.prog 130 133 81 208 = true := by kernel_rfl
theorem ei_148 : einfoB Tryz.prog 148 156 4 72 = true := by kernel_rfl
theorem ei_151 : einfoB Tryz.prog 151 3 1 8 = true := by kernel_rfl
theorem ei_185 : einfoB Tryz.prog 185 286 38 96 = true := by kernel_rfl
theorem ei_202 : einfoB Tryz.prog 202 200 512 512 = true := by kernel_rfl
theorem ei_218 : einfoB Tryz.prog 218 224 41 152 = true := by kernel_rfl
theorem ei_26 : einfoB Tryz.prog 26 32 36 64 = true := by kernel_rfl
theorem ei_279 : einfoB Tryz.prog 279 278 41 136 = true := by kernel_rfl
theorem ei_36 : einfoB Tryz.prog 36 5 1 1 = true := by kernel_rfl
theorem ei_360 : einfoB Tryz.prog 360 320 1 8 = true := by kernel_rfl
theorem ei_37 : einfoB Tryz.prog 37 36 1 24 = true := by kernel_rfl
theorem ei_384 : einfoB Tryz.prog 384 328 1 8 = true := by kernel_rfl
theorem ei_45 : einfoB Tryz.prog 45 55 2 32 = true := by kernel_rfl
theorem ei_47 : einfoB Tryz.prog 47 48 1 8 = true := by kernel_rfl
theorem ei_49 : einfoB Tryz.prog 49 9 1 16 = true := by kernel_rfl
theorem ei_52 : einfoB Tryz.prog 52 58 3 56 = true := by kernel_rfl
theorem ei_74 : einfoB Tryz.prog 74 211 2 16 = true := by kernel_rfl
theorem ei_95 : einfoB Tryz.prog 95 4 1 1 = true := by kernel_rfl
theorem ei_96 : einfoB Tryz.prog 96 88 2 48 = true := by kernel_rfl
theorem es_103 : elemSize Tryz.prog 103 = some 81 := by kernel_rfl
theorem es_129 : elemSize Tryz.prog 129 = some 2 := by kernel_rfl
theorem es_130 : elemSize Tryz.prog 130 = some 81 := by kernel_rfl
theorem es_146 : elemSize Tryz.prog 146 = some 7 := by kernel_rfl
theorem es_148 : elemSize Tryz.prog 148 = some 4 := by kernel_rfl
theorem es_151 : elemSize Tryz.prog 151 = some 1 := by kernel_rfl
theorem es_185 : elemSize Tryz.prog 185 = some 38 := by kernel_rfl
theorem es_202 : elemSize Tryz.prog 202 = some 512 := by kernel_rfl
theorem es_218 : elemSize Tryz.prog 218 = some 41 := by kernel_rfl
theorem es_26 : elemSize Tryz.prog 26 = some 36 := by kernel_rfl
theorem es_279 : elemSize Tryz.prog 279 = some 41 := by kernel_rfl
theorem es_36 : elemSize Tryz.prog 36 = some 1 := by kernel_rfl
theorem es_360 : elemSize Tryz.prog 360 = some 1 := by kernel_rfl
theorem es_37 : elemSize Tryz.prog 37 = some 1 := by kernel_rfl
theorem es_384 : elemSize Tryz.prog 384 = some 1 := by kernel_rfl
theorem es_45 : elemSize Tryz.prog 45 = some 2 := by kernel_rfl
theorem es_47 : elemSize Tryz.prog 47 = some 1 := by kernel_rfl
theorem es_49 : elemSize Tryz.prog 49 = some 1 := by kernel_rfl
theorem es_52 : elemSize Tryz.prog 52 = some 3 := by kernel_rfl
theorem es_74 : elemSize Tryz.prog 74 = some 2 := by kernel_rfl
theorem es_80 : elemSize Tryz.prog 80 = some 2 := by kernel_rfl
theorem es_95 : elemSize Tryz.prog 95 = some 1 := by kernel_rfl
theorem es_96 : elemSize Tryz.prog 96 = some 2 := by kernel_rfl
theorem fo_101_0 : fieldOff Tryz.prog 101 0 = some 0 := by kernel_rfl
theorem fo_101_1 : fieldOff Tryz.prog 101 1 = some 1 := by kernel_rfl
theorem fo_101_10 : fieldOff Tryz.prog 101 10 = some 80 := by kernel_rfl
theorem fo_101_2 : fieldOff Tryz.prog 101 2 = some 2 := by kernel_rfl
theorem fo_101_3 : fieldOff Tryz.prog 101 3 = some 3 := by kernel_rfl
theorem fo_101_4 : fieldOff Tryz.prog 101 4 = some 4 := by kernel_rfl
theorem fo_101_5 : fieldOff Tryz.prog 101 5 = some 40 := by kernel_rfl
theorem fo_101_6 : fieldOff Tryz.prog 101 6 = some 76 := by kernel_rfl
theorem fo_101_7 : fieldOff Tryz.prog 101 7 = some 77 := by kernel_rfl
theorem fo_101_8 : fieldOff Tryz.prog 101 8 = some 78 := by kernel_rfl
theorem fo_101_9 : fieldOff Tryz.prog 101 9 = some 79 := by kernel_rfl
theorem fo_132_0 : fieldOff Tryz.prog 132 0 = some 0 := by kernel_rfl
theorem fo_132_1 : fieldOff Tryz.prog 132 1 = some 1 := by kernel_rfl
theorem fo_133_0 : fieldOff Tryz.prog 133 0 = some 0 := by kernel_rfl
theorem fo_133_1 : fieldOff Tryz.prog 133 1 = some 1 := by kernel_rfl
theorem fo_133_10 : fieldOff Tryz.prog 133 10 = some 80 := by kernel_rfl
theorem fo_133_2 : fieldOff Tryz.prog 133 2 = some 2 := by kernel_rfl
theorem fo_133_3 : fieldOff Tryz.prog 133 3 = some 3 := by kernel_rfl
theorem fo_133_4 : fieldOff Tryz.prog 133 4 = some 4 := by kernel_rfl
theorem fo_133_5 : fieldOff Tryz.prog 133 5 = some 40 := by kernel_rfl
theorem fo_133_6 : fieldOff Tryz.prog 133 6 = some 76 := by kernel_rfl
theorem fo_133_7 : fieldOff Tryz.prog 133 7 = some 77 := by kernel_rfl
theorem fo_133_8 : fieldOff Tryz.prog 133 8 = some 78 := by kernel_rfl
theorem fo_133_9 : fieldOff Tryz.prog 133 9 = some 79 := by kernel_rfl
theorem fo_150_0 : fieldOff Tryz.prog 150 0 = some 0 := by kernel_rfl
theorem fo_150_1 : fieldOff Tryz.prog 150 1 = some 1 := by kernel_rfl
theorem fo_153_0 : fieldOff Tryz.prog 153 0 = some 0 := by kernel_rfl
theorem fo_153_1 : fieldOff Tryz.prog 153 1 = some 1 := by kernel_rfl
theorem fo_153_2 : fieldOff Tryz.prog 153 2 = some 2 := by kernel_rfl
theorem fo_153_3 : fieldOff Tryz.prog 153 3 = some 3 := by kernel_rfl
theorem fo_153_4 : fieldOff Tryz.prog 153 4 = some 4 := by kernel_rfl
theorem fo_153_5 : fieldOff Tryz.prog 153 5 = some 5 := by kernel_rfl
theorem fo_153_6 : fieldOff Tryz.prog 153 6 = some 6 := by kernel_rfl
theorem fo_156_0 : fieldOff Tryz.prog 156 0 = some 0 := by kernel_rfl
theorem fo_156_1 : fieldOff Tryz.prog 156 1 = some 1 := by kernel_rfl
theorem fo_156_2 : fieldOff Tryz.prog 156 2 = some 2 := by kernel_rfl
theorem fo_156_3 : fieldOff Tryz.prog 156 3 = some 3 := by kernel_rfl
theorem fo_166_0 : fieldOff Tryz.prog 166 0 = some 0 := by kernel_rfl
theorem fo_166_1 : fieldOff Tryz.prog 166 1 = some 1 := by kernel_rfl
theorem fo_166_2 : fieldOff Tryz.prog 166 2 = some 2 := by kernel_rfl
theorem fo_168_0 : fieldOff Tryz.prog 168 0 = some 0 := by kernel_rfl
theorem fo_168_1 : fieldOff Tryz.prog 168 1 = some 1 := by kernel_rfl
theorem fo_168_2 : fieldOff Tryz.prog 168 2 = some 37 := by kernel_rfl
theorem fo_170_0 : fieldOff Tryz.prog 170 0 = some 0 := by kernel_rfl
theorem fo_170_1 : fieldOff Tryz.prog 170 1 = some 3 := by kernel_rfl
theorem fo_170_2 : fieldOff Tryz.prog 170 2 = some 4 := by kernel_rfl
theorem fo_170_3 : fieldOff Tryz.prog 170 3 = some 42 := by kernel_rfl
theorem fo_170_4 : fieldOff Tryz.prog 170 4 = some 78 := by kernel_rfl
theorem fo_170_5 : fieldOff Tryz.prog 170 5 = some 79 := by kernel_rfl
theorem fo_184_0 : fieldOff Tryz.prog 184 0 = some 0 := by kernel_rfl
theorem fo_193_0 : fieldOff Tryz.prog 193 0 = some 0 := by kernel_rfl
theorem fo_193_1 : fieldOff Tryz.prog 193 1 = some 1 := by kernel_rfl
theorem fo_193_2 : fieldOff Tryz.prog 193 2 = some 2 := by kernel_rfl
theorem fo_205_0 : fieldOff Tryz.prog 205 0 = some 0 := by kernel_rfl
theorem fo_205_1 : fieldOff Tryz.prog 205 1 = some 1 := by kernel_rfl
theorem fo_205_2 : fieldOff Tryz.prog 205 2 = some 2 := by kernel_rfl
theorem fo_205_3 : fieldOff Tryz.prog 205 3 = some 3 := by kernel_rfl
theorem fo_205_4 : fieldOff Tryz.prog 205 4 = some 4 := by kernel_rfl
theorem fo_211_0 : fieldOff Tryz.prog 211 0 = some 0 := by kernel_rfl
theorem fo_211_1 : fieldOff Tryz.prog 211 1 = some 1 := by kernel_rfl
theorem fo_217_0 : fieldOff Tryz.prog 217 0 = some 0 := by kernel_rfl
theorem fo_217_1 : fieldOff Tryz.prog 217 1 = some 2 := by kernel_rfl
theorem fo_217_2 : fieldOff Tryz.prog 217 2 = some 3 := by kernel_rfl
theorem fo_217_3 : fieldOff Tryz.prog 217 3 = some 4 := by kernel_rfl
theorem fo_217_4 : fieldOff Tryz.prog 217 4 = some 5 := by kernel_rfl
theorem fo_217_5 : fieldOff Tryz.prog 217 5 = some 6 := by kernel_rfl
theorem fo_220_0 : fieldOff Tryz.prog 220 0 = some 0 := by kernel_rfl
theorem fo_220_1 : fieldOff Tryz.prog 220 1 = some 1 := by kernel_rfl
theorem fo_220_2 : fieldOff Tryz.prog 220 2 = some 37 := by kernel_rfl
theorem fo_224_0 : fieldOff Tryz.prog 224 0 = some 0 := by kernel_rfl
theorem fo_224_1 : fieldOff Tryz.prog 224 1 = some 4 := by kernel_rfl
theorem fo_224_2 : fieldOff Tryz.prog 224 2 = some 40 := by kernel_rfl
theorem fo_233_0 : fieldOff Tryz.prog 233 0 = some 0 := by kernel_rfl
theorem fo_233_1 : fieldOff Tryz.prog 233 1 = some 1 := by kernel_rfl
theorem fo_233_2 : fieldOff Tryz.prog 233 2 = some 3 := by kernel_rfl
theorem fo_259_0 : fieldOff Tryz.prog 259 0 = some 0 := by kernel_rfl
theorem fo_259_1 : fieldOff Tryz.prog 259 1 = some 1 := by kernel_rfl
theorem fo_259_2 : fieldOff Tryz.prog 259 2 = some 39 := by kernel_rfl
theorem fo_259_3 : fieldOff Tryz.prog 259 3 = some 75 := by kernel_rfl
theorem fo_259_4 : fieldOff Tryz.prog 259 4 = some 76 := by kernel_rfl
theorem fo_259_5 : fieldOff Tryz.prog 259 5 = some 77 := by kernel_rfl
theorem fo_267_0 : fieldOff Tryz.prog 267 0 = some 0 := by kernel_rfl
theorem fo_267_1 : fieldOff Tryz.prog 267 1 = some 1 := by kernel_rfl
theorem fo_278_0 : fieldOff Tryz.prog 278 0 = some 0 := by kernel_rfl
theorem fo_278_1 : fieldOff Tryz.prog 278 1 = some 36 := by kernel_rfl
theorem fo_278_2 : fieldOff Tryz.prog 278 2 = some 37 := by kernel_rfl
theorem fo_278_3 : fieldOff Tryz.prog 278 3 = some 38 := by kernel_rfl
theorem fo_278_4 : fieldOff Tryz.prog 278 4 = some 39 := by kernel_rfl
theorem fo_278_5 : fieldOff Tryz.prog 278 5 = some 40 := by kernel_rfl
theorem fo_286_0 : fieldOff Tryz.prog 286 0 = some 0 := by kernel_rfl
theorem fo_286_1 : fieldOff Tryz.prog 286 1 = some 1 := by kernel_rfl
theorem fo_286_2 : fieldOff Tryz.prog 286 2 = some 37 := by kernel_rfl
theorem fo_28_0 : fieldOff Tryz.prog 28 0 = some 0 := by kernel_rfl
theorem fo_28_1 : fieldOff Tryz.prog 28 1 = some 1 := by kernel_rfl
theorem fo_28_2 : fieldOff Tryz.prog 28 2 = some 2 := by kernel_rfl
theorem fo_28_3 : fieldOff Tryz.prog 28 3 = some 3 := by kernel_rfl
theorem fo_28_4 : fieldOff Tryz.prog 28 4 = some 4 := by kernel_rfl
theorem fo_318_0 : fieldOff Tryz.prog 318 0 = some 0 := by kernel_rfl
theorem fo_318_1 : fieldOff Tryz.prog 318 1 = some 1 := by kernel_rfl
theorem fo_32_0 : fieldOff Tryz.prog 32 0 = some 0 := by kernel_rfl
theorem fo_32_1 : fieldOff Tryz.prog 32 1 = some 1 := by kernel_rfl
theorem fo_32_2 : fieldOff Tryz.prog 32 2 = some 2 := by kernel_rfl
theorem fo_32_3 : fieldOff Tryz.prog 32 3 = some 3 := by kernel_rfl
theorem fo_32_4 : fieldOff Tryz.prog 32 4 = some 4 := by kernel_rfl
theorem fo_338_0 : fieldOff Tryz.prog 338 0 = some 0 := by kernel_rfl
theorem fo_338_1 : fieldOff Tryz.prog 338 1 = some 1 := by kernel_rfl
theorem fo_338_2 : fieldOff Tryz.prog 338 2 = some 2 := by kernel_rfl
theorem fo_353_0 : fieldOff Tryz.prog 353 0 = some 0 := by kernel_rfl
theorem fo_353_1 : fieldOff Tryz.prog 353 1 = some 1 := by kernel_rfl
theorem fo_39_0 : fieldOff Tryz.prog 39 0 = some 0 := by kernel_rfl
theorem fo_39_1 : fieldOff Tryz.prog 39 1 = some 1 := by kernel_rfl
theorem fo_39_2 : fieldOff Tryz.prog 39 2 = some 2 := by kernel_rfl
theorem fo_39_3 : fieldOff Tryz.prog 39 3 = some 3 := by kernel_rfl
theorem fo_405_0 : fieldOff Tryz.prog 405 0 = some 0 := by kernel_rfl
theorem fo_405_1 : fieldOff Tryz.prog 405 1 = some 8 := by kernel_rfl
theorem fo_41_0 : fieldOff Tryz.prog 41 0 = some 0 := by kernel_rfl
theorem fo_41_1 : fieldOff Tryz.prog 41 1 = some 1 := by kernel_rfl
theorem fo_41_2 : fieldOff Tryz.prog 41 2 = some 2 := by kernel_rfl
theorem fo_51_0 : fieldOff Tryz.prog 51 0 = some 0 := by kernel_rfl
theorem fo_51_1 : fieldOff Tryz.prog 51 1 = some 1 := by kernel_rfl
theorem fo_55_0 : fieldOff Tryz.prog 55 0 = some 0 := by kernel_rfl
theorem fo_58_0 : fieldOff Tryz.prog 58 0 = some 0 := by kernel_rfl
theorem fo_58_1 : fieldOff Tryz.prog 58 1 = some 1 := by kernel_rfl
theorem fo_58_2 : fieldOff Tryz.prog 58 2 = some 2 := by kernel_rfl
theorem fo_84_0 : fieldOff Tryz.prog 84 0 = some 0 := by kernel_rfl
theorem fo_84_1 : fieldOff Tryz.prog 84 1 = some 1 := by kernel_rfl
theorem fo_88_0 : fieldOff Tryz.prog 88 0 = some 0 := by kernel_rfl
theorem fo_88_1 : fieldOff Tryz.prog 88 1 = some 1 := by kernel_rfl
theorem pl_101 : structPl Tryz.prog 101 = some [(0, 1), (1, 1), (2, 1), (3, 1), (4, 36), (40, 36), (76, 1), (77, 1), (78, 1), (79, 1), (80, 1)] := by kernel_rfl
theorem pl_150 : structPl Tryz.prog 150 = some [(0, 1), (1, 1)] := by kernel_rfl
theorem pl_156 : structPl Tryz.prog 156 = some [(0, 1), (1, 1), (2, 1), (3, 1)] := by kernel_rfl
theorem pl_166 : structPl Tryz.prog 166 = some [(0, 1), (1, 1), (2, 1)] := by kernel_rfl
theorem pl_168 : structPl Tryz.prog 168 = some [(0, 1), (1, 36), (37, 1)] := by kernel_rfl
theorem pl_170 : structPl Tryz.prog 170 = some [(0, 3), (3, 1), (4, 38), (42, 36), (78, 1), (79, 1)] := by kernel_rfl
theorem pl_184 : structPl Tryz.prog 184 = some [(0, 1)] := by kernel_rfl
theorem pl_193 : structPl Tryz.prog 193 = some [(0, 1), (1, 1), (2, 1)] := by kernel_rfl
theorem pl_205 : structPl Tryz.prog 205 = some [(0, 1), (1, 1), (2, 1), (3, 1), (4, 1)] := by kernel_rfl
theorem pl_211 : structPl Tryz.prog 211 = some [(0, 1), (1, 1)] := by kernel_rfl
theorem pl_217 : structPl Tryz.prog 217 = some [(0, 2), (2, 1), (3, 1), (4, 1), (5, 1), (6, 1)] := by kernel_rfl
theorem pl_220 : structPl Tryz.prog 220 = some [(0, 1), (1, 36), (37, 1)] := by kernel_rfl
theorem pl_224 : structPl Tryz.prog 224 = some [(0, 4), (4, 36), (40, 1)] := by kernel_rfl
theorem pl_233 : structPl Tryz.prog 233 = some [(0, 1), (1, 2), (3, 1)] := by kernel_rfl
theorem pl_259 : structPl Tryz.prog 259 = some [(0, 1), (1, 38), (39, 36), (75, 1), (76, 1), (77, 1)] := by kernel_rfl
theorem pl_267 : structPl Tryz.prog 267 = some [(0, 1), (1, 1)] := by kernel_rfl
theorem pl_278 : structPl Tryz.prog 278 = some [(0, 36), (36, 1), (37, 1), (38, 1), (39, 1), (40, 1)] := by kernel_rfl
theorem pl_28 : structPl Tryz.prog 28 = some [(0, 1), (1, 1), (2, 1), (3, 1), (4, 1)] := by kernel_rfl
theorem pl_286 : structPl Tryz.prog 286 = some [(0, 1), (1, 36), (37, 1)] := by kernel_rfl
theorem pl_307 : structPl Tryz.prog 307 = some [(0, 1), (1, 1)] := by kernel_rfl
theorem pl_318 : structPl Tryz.prog 318 = some [(0, 1), (1, 1)] := by kernel_rfl
theorem pl_32 : structPl Tryz.prog 32 = some [(0, 1), (1, 1), (2, 1), (3, 1), (4, 32)] := by kernel_rfl
theorem pl_338 : structPl Tryz.prog 338 = some [(0, 1), (1, 1), (2, 1)] := by kernel_rfl
theorem pl_353 : structPl Tryz.prog 353 = some [(0, 1), (1, 1)] := by kernel_rfl
theorem pl_39 : structPl Tryz.prog 39 = some [(0, 1), (1, 1), (2, 1), (3, 1)] := by kernel_rfl
theorem pl_405 : structPl Tryz.prog 405 = some [(0, 8), (8, 1)] := by kernel_rfl
theorem pl_41 : structPl Tryz.prog 41 = some [(0, 1), (1, 1), (2, 1)] := by kernel_rfl
theorem pl_51 : structPl Tryz.prog 51 = some [(0, 1), (1, 1)] := by kernel_rfl
theorem pl_55 : structPl Tryz.prog 55 = some [(0, 1), (1, 1)] := by kernel_rfl
theorem pl_58 : structPl Tryz.prog 58 = some [(0, 1), (1, 1), (2, 1)] := by kernel_rfl
theorem pl_88 : structPl Tryz.prog 88 = some [(0, 1), (1, 1)] := by kernel_rfl
theorem sz_101 : (Tryz.prog.info? 101).map (·.size) = some 81 := by kernel_rfl
theorem sz_150 : (Tryz.prog.info? 150).map (·.size) = some 2 := by kernel_rfl
theorem sz_153 : (Tryz.prog.info? 153).map (·.size) = some 7 := by kernel_rfl
theorem sz_156 : (Tryz.prog.info? 156).map (·.size) = some 4 := by kernel_rfl
theorem sz_166 : (Tryz.prog.info? 166).map (·.size) = some 3 := by kernel_rfl
theorem sz_168 : (Tryz.prog.info? 168).map (·.size) = some 38 := by kernel_rfl
theorem sz_170 : (Tryz.prog.info? 170).map (·.size) = some 80 := by kernel_rfl
theorem sz_184 : (Tryz.prog.info? 184).map (·.size) = some 1 := by kernel_rfl
theorem sz_193 : (Tryz.prog.info? 193).map (·.size) = some 3 := by kernel_rfl
theorem sz_200 : (Tryz.prog.info? 200).map (·.size) = some 512 := by kernel_rfl
theorem sz_211 : (Tryz.prog.info? 211).map (·.size) = some 2 := by kernel_rfl
theorem sz_267 : (Tryz.prog.info? 267).map (·.size) = some 2 := by kernel_rfl
theorem sz_278 : (Tryz.prog.info? 278).map (·.size) = some 41 := by kernel_rfl
theorem sz_286 : (Tryz.prog.info? 286).map (·.size) = some 38 := by kernel_rfl
theorem sz_30 : (Tryz.prog.info? 30).map (·.size) = some 32 := by kernel_rfl
theorem sz_307 : (Tryz.prog.info? 307).map (·.size) = some 2 := by kernel_rfl
theorem sz_32 : (Tryz.prog.info? 32).map (·.size) = some 36 := by kernel_rfl
theorem sz_39 : (Tryz.prog.info? 39).map (·.size) = some 4 := by kernel_rfl
theorem sz_405 : (Tryz.prog.info? 405).map (·.size) = some 9 := by kernel_rfl
theorem sz_408 : (Tryz.prog.info? 408).map (·.size) = some 64 := by kernel_rfl
theorem sz_41 : (Tryz.prog.info? 41).map (·.size) = some 3 := by kernel_rfl
theorem sz_413 : (Tryz.prog.info? 413).map (·.size) = some 16 := by kernel_rfl
theorem sz_418 : (Tryz.prog.info? 418).map (·.size) = some 64 := by kernel_rfl
theorem sz_5 : (Tryz.prog.info? 5).map (·.size) = some 1 := by kernel_rfl
theorem sz_58 : (Tryz.prog.info? 58).map (·.size) = some 3 := by kernel_rfl
theorem sz_88 : (Tryz.prog.info? 88).map (·.size) = some 2 := by kernel_rfl
theorem ptrT : PtrT Tryz.prog 32 3 29 30 5 := ⟨by kernel_rfl, by kernel_rfl, by kernel_rfl, by kernel_rfl, by kernel_rfl, by kernel_rfl, by kernel_rfl, by kernel_rfl, by kernel_rfl, by kernel_rfl⟩
end Go.Proofs.YtpcojkbljgpecaaGreat
namespace Go.Proofs.YtpcojkbljgpecaaGreat

abbrev Bytes := List UInt8

def bitLen (n : Nat) : Nat := if n = 0 then 0 else Nat.log2 n + 1

theorem bitLen_le (n m : Nat) : bitLen n ≤ m ↔ n < 2 ^ m := by
  unfold bitLen
  by_cases h : n = 0
  · subst h; simp; exact Nat.pow_pos (by omega)
  · rw [if_neg h]
    rw [Nat.succ_le_iff, Nat.log2_lt h]

theorem bitLen_shift (n k : Nat) (h : 2 ^ k ≤ n) : bitLen n = k + bitLen (n / 2 ^ k) := by
  have hp : 0 < 2 ^ k := Nat.pow_pos (by omega)
  apply Nat.le_antisymm
  · rw [bitLen_le]
    have h1 : n / 2 ^ k < 2 ^ bitLen (n / 2 ^ k) := (bitLen_le _ _).1 (Nat.le_refl _)
    rw [Nat.pow_add, Nat.mul_comm]
    exact (Nat.div_lt_iff_lt_mul hp).1 h1
  · have h2 : k + 1 ≤ bitLen n := by
      rcases Nat.lt_or_ge k (bitLen n) with h' | h'
      · exact h'
      · exact absurd ((bitLen_le n k).1 h') (by omega)
    have h3 : bitLen (n / 2 ^ k) ≤ bitLen n - k := by
      rw [bitLen_le, Nat.div_lt_iff_lt_mul hp, ← Nat.pow_add, Nat.sub_add_cancel (by omega)]
      exact (bitLen_le _ _).1 (Nat.le_refl _)
    omega

/-- How many groups of seven bits a number needs. -/
def groups (n : Nat) : Nat := max 1 ((bitLen n + 6) / 7)

def shortLoop : Nat → Nat → Bytes
  | 0, n => [UInt8.ofNat n]
  | k + 1, n => UInt8.ofNat (n % 256 ||| 128) :: shortLoop k (n / 128)

def short (n : Nat) : Bytes := shortLoop (groups n - 1) n

/-- A number in size bytes, the lowest first. -/
def fixed1 (size n : Nat) : Bytes := (List.range size).map fun i => UInt8.ofNat (n / 2 ^ (8 * i))

def textB (s : Bytes) : Bytes := short s.length ++ s

/-- A number out of its bytes, the lowest first. -/
def leNat : Bytes → Nat
  | [] => 0
  | c :: l => c.toNat + 256 * leNat l

theorem shortLoop_len : ∀ k n, (shortLoop k n).length = k + 1
  | 0, _ => rfl
  | k + 1, n => by rw [shortLoop, List.length_cons, shortLoop_len]

theorem groups_pos (n : Nat) : 1 ≤ groups n := by unfold groups; omega
theorem short_len (n : Nat) : (short n).length = groups n := by
  rw [short, shortLoop_len]; have := groups_pos n; omega
theorem groups_le (n : Nat) (h : n < 2 ^ 64) : groups n ≤ 10 := by
  have := (bitLen_le n 64).2 h
  unfold groups; omega

theorem leNat_lt : ∀ l : Bytes, leNat l < 2 ^ (8 * l.length)
  | [] => by simp [leNat]
  | c :: l => by
    have h1 := leNat_lt l
    have h2 : c.toNat < 256 := c.toNat_lt
    rw [leNat, List.length_cons, show 8 * (l.length + 1) = 8 * l.length + 8 by omega, Nat.pow_add]
    omega

theorem leNat_snoc : ∀ (l : Bytes) (c : UInt8), leNat (l ++ [c]) = leNat l + c.toNat * 2 ^ (8 * l.length)
  | [], c => by simp [leNat]
  | d :: l, c => by
    rw [List.cons_append, leNat, leNat, leNat_snoc l c, List.length_cons, show 8 * (l.length + 1) = 8 + 8 * l.length by omega, Nat.pow_add]
    have : (2 : Nat) ^ 8 = 256 := rfl
    rw [this, Nat.mul_add, ← Nat.mul_assoc, Nat.mul_comm 256 c.toNat, Nat.mul_assoc]; omega

theorem or_disj (a c k : Nat) (h : a < 2 ^ k) : a ||| c * 2 ^ k = a + c * 2 ^ k := by
  have := Nat.two_pow_add_eq_or_of_lt h c
  rw [Nat.mul_comm c, Nat.or_comm, ← this, Nat.add_comm]

/-- Reads a number in groups: it, how many bytes it has, and an error's number. -/
def rsLoop (long : Bool) : Bytes → Nat → Nat → Nat × Nat × Nat
  | [], _, _ => if long then (0, 0, 11) else (0, 0, 10)
  | c :: l, i, n =>
    if bitLen (c.toNat % 128) + 7 * i > 64 then (0, 0, 11)
    else if c.toNat < 128 then
      (if groups (n + c.toNat % 128 * 2 ^ (7 * i)) = i + 1 then (n + c.toNat % 128 * 2 ^ (7 * i), i + 1, 0) else (0, 0, 11))
    else rsLoop long l (i + 1) (n + c.toNat % 128 * 2 ^ (7 * i))

def readShort (b : Bytes) : Nat × Nat × Nat := rsLoop (decide (10 ≤ b.length)) (b.take 10) 0 0

theorem part_lt {p i : Nat} (h : bitLen p + 7 * i ≤ 64) : p * 2 ^ (7 * i) < 2 ^ 64 := by
  have h1 : p < 2 ^ (64 - 7 * i) := (bitLen_le p _).1 (by omega)
  have h2 : 2 ^ 64 = 2 ^ (64 - 7 * i) * 2 ^ (7 * i) := by rw [← Nat.pow_add]; congr 1; omega
  rw [h2]
  exact Nat.mul_lt_mul_of_pos_right h1 (Nat.pow_pos (by omega))

theorem part_sum_lt {p i n : Nat} (hn : n < 2 ^ (7 * i)) (h : bitLen p + 7 * i ≤ 64) : n + p * 2 ^ (7 * i) < 2 ^ 64 := by
  have h1 : p < 2 ^ (64 - 7 * i) := (bitLen_le p _).1 (by omega)
  have h2 : 2 ^ 64 = 2 ^ (64 - 7 * i) * 2 ^ (7 * i) := by rw [← Nat.pow_add]; congr 1; omega
  rw [h2]
  have h3 : (p + 1) * 2 ^ (7 * i) ≤ 2 ^ (64 - 7 * i) * 2 ^ (7 * i) := Nat.mul_le_mul_right _ h1
  rw [Nat.succ_mul] at h3
  omega

theorem part_sum_lt7 {c i n : Nat} (hn : n < 2 ^ (7 * i)) : n + c % 128 * 2 ^ (7 * i) < 2 ^ (7 * (i + 1)) := by
  have h2 : 2 ^ (7 * (i + 1)) = 128 * 2 ^ (7 * i) := by rw [show 7 * (i + 1) = 7 + 7 * i by omega, Nat.pow_add]
  have h3 : (c % 128 + 1) * 2 ^ (7 * i) ≤ 128 * 2 ^ (7 * i) := Nat.mul_le_mul_right _ (by omega)
  rw [Nat.succ_mul] at h3
  omega

theorem rsLoop_used (long : Bool) : ∀ (l : Bytes) (i n : Nat), (rsLoop long l i n).2.2 = 0 → i < (rsLoop long l i n).2.1 ∧ (rsLoop long l i n).2.1 ≤ i + l.length
  | [], i, n, h => by cases long <;> simp [rsLoop] at h
  | c :: l, i, n, h => by
    unfold rsLoop at h ⊢
    split at h
    · cases h
    · rename_i h1
      rw [if_neg h1]
      split at h
      · rename_i h2
        rw [if_pos h2]
        split at h
        · rename_i h3; rw [if_pos h3]; simp
        · cases h
      · rename_i h2
        rw [if_neg h2]
        have := rsLoop_used long l (i + 1) _ h
        rw [List.length_cons]; omega
theorem readShort_used {b : Bytes} (h : (readShort b).2.2 = 0) : 0 < (readShort b).2.1 ∧ (readShort b).2.1 ≤ b.length := by
  have := rsLoop_used _ _ _ _ h
  have hl : (b.take 10).length ≤ b.length := by simp; omega
  unfold readShort; omega
theorem rsLoop_lt (long : Bool) : ∀ (l : Bytes) (i n : Nat), n < 2 ^ (7 * i) → (rsLoop long l i n).1 < 2 ^ 64
  | [], i, n, h => by cases long <;> simp [rsLoop]
  | c :: l, i, n, h => by
    unfold rsLoop
    split
    · simp
    · rename_i h1
      split
      · split
        · exact part_sum_lt h (by omega)
        · simp
      · exact rsLoop_lt long l (i + 1) _ (part_sum_lt7 h)
theorem readShort_lt (b : Bytes) : (readShort b).1 < 2 ^ 64 := rsLoop_lt _ _ _ _ (by simp)

theorem fixed1_len (size n : Nat) : (fixed1 size n).length = size := by simp [fixed1]
theorem fixed1_take (size n j : Nat) (h : j < size) : (fixed1 size n).take (j + 1) = (fixed1 size n).take j ++ [UInt8.ofNat (n / 2 ^ (8 * j))] := by
  rw [List.take_succ_eq_append_getElem (by rw [fixed1_len]; exact h)]
  simp [fixed1]

/-- A text with its length, up to a bound: it, how many bytes, an error's number. -/
def readText (b : Bytes) (most : Nat) : Bytes × Nat × Nat :=
  let r := readShort b
  if r.2.2 ≠ 0 then ([], 0, r.2.2)
  else if r.1 > most then ([], 0, 3)
  else if r.1 > b.length - r.2.1 then ([], 0, 10)
  else ((b.drop r.2.1).take r.1, r.2.1 + r.1, 0)
end Go.Proofs.YtpcojkbljgpecaaGreat
