/- The engine, part 18: arguments that are read as data, opened. -/
import Derived.Test.YtpcojkbljgpecaaE17
import Derived.Deep.Slices
import Derived.ProofKit
import Derived.OpenShut
namespace Go.Proofs.Ytpcojkbljgpecaa
open Go Go.ChangeShapes Go.WideShapes Go.ChangeAt Go.RowKit Go.Deep

/-- y lies in some cells: f tells its cells, g what they lead to. -/
def Lies {α : Type} (w : World) (f : α → List Value) (g : α → Asn) (cs : List Value) (y : α) : Prop := cs = f y ∧ (g y).P w ∧ ∀ k, (g y).foot k → k < w.heap.size
/-- Whatever can be read at a type is some y, of which R holds. -/
def Opens {α : Type} (P : Program) (t : TypeId) (f : α → List Value) (g : α → Asn) (R : α → Prop) : Prop :=
  ∀ (H : Type) (enc : TypeId × Value → H) (w : World) (fuel : Nat) (cs : List Value) (x : DataW H × List MemPlace), DataW.trod enc P w 0 (fun _ => true) true fuel t cs = some x → ∃ y, Lies w f g cs y ∧ R y

/-- Nothing. -/
def emp : Asn := ⟨fun _ => False, fun _ => True, fun _ _ _ _ => trivial⟩

theorem Opens.int {P : Program} {t : TypeId} (ht : P.underlying t = some (.int .i64)) : Opens P t (fun n : Int => [.int .i64 n]) (fun _ => emp) (fun n => -9223372036854775808 ≤ n ∧ n ≤ 9223372036854775807) := by
  intro H enc w fuel cs x h
  obtain ⟨n, rfl, _, hw⟩ := DataW.trod_int ht h
  refine ⟨n, ⟨rfl, trivial, fun _ h => h.elim⟩, ?_⟩
  have h1 : IntKind.i64.min = -9223372036854775808 := by rfl
  have h2 : IntKind.i64.max = 9223372036854775807 := by rfl
  simp only [Lit.wf, Bool.and_eq_true, decide_eq_true_eq] at hw
  omega
theorem Opens.bool {P : Program} {t : TypeId} (ht : P.underlying t = some .bool) : Opens P t (fun b : Bool => [.bool b]) (fun _ => emp) (fun _ => True) := by
  intro H enc w fuel cs x h
  obtain ⟨b, rfl, _⟩ := DataW.trod_bool ht h
  exact ⟨b, ⟨rfl, trivial, fun _ h => h.elim⟩, trivial⟩
theorem Opens.u8 {P : Program} {t : TypeId} (ht : P.underlying t = some (.int .u8)) : Opens P t (fun b : UInt8 => [V8 b]) (fun _ => emp) (fun _ => True) := by
  intro H enc w fuel cs x h
  obtain ⟨n, rfl, _, hw⟩ := DataW.trod_int ht h
  have h1 : IntKind.u8.min = 0 := by rfl
  have h2 : IntKind.u8.max = 255 := by rfl
  simp only [Lit.wf, Bool.and_eq_true, decide_eq_true_eq] at hw
  refine ⟨UInt8.ofNat n.toNat, ⟨?_, trivial, fun _ h => h.elim⟩, trivial⟩
  have : ((UInt8.ofNat n.toNat).toNat : Int) = n := by
    rw [UInt8.toNat_ofNat_of_lt' (by simp [UInt8.size]; omega)]; omega
  simp only [V8, this]
theorem Opens.u32 {P : Program} {t : TypeId} (ht : P.underlying t = some (.int .u32)) : Opens P t (fun b : UInt32 => [V32 b]) (fun _ => emp) (fun _ => True) := by
  intro H enc w fuel cs x h
  obtain ⟨n, rfl, _, hw⟩ := DataW.trod_int ht h
  have h1 : IntKind.u32.min = 0 := by rfl
  have h2 : IntKind.u32.max = 4294967295 := by rfl
  simp only [Lit.wf, Bool.and_eq_true, decide_eq_true_eq] at hw
  refine ⟨UInt32.ofNat n.toNat, ⟨?_, trivial, fun _ h => h.elim⟩, trivial⟩
  have : ((UInt32.ofNat n.toNat).toNat : Int) = n := by
    rw [UInt32.toNat_ofNat_of_lt' (by simp [UInt32.size]; omega)]; omega
  simp only [V32, this]
theorem Opens.string {P : Program} {t : TypeId} (ht : P.underlying t = some .string) : Opens P t (fun s : BL => [.string (bstr s)]) (fun _ => emp) (fun s => s.length ≤ maxLen) := by
  intro H enc w fuel cs x h
  obtain ⟨s, rfl, _, hw⟩ := DataW.trod_string ht h
  refine ⟨s.data.toList, ⟨by simp [bstr], trivial, fun _ h => h.elim⟩, ?_⟩
  have : s.data.toList.length = s.size := by rw [Array.length_toList]; rfl
  show s.data.toList.length ≤ maxLen
  rw [this]; exact hw

/-- A slice, as it lies. -/
structure DSl (α : Type) where
  ao : Option Addr
  c : Nat
  l : List α
def DSl.val {α : Type} (s : DSl α) : Value := .slice s.ao s.l.length s.c

theorem list_of_lt {α : Type} {n : Nat} {p : Nat → α → Prop} (h : ∀ i, i < n → ∃ x, p i x) : ∃ l : List α, l.length = n ∧ ∀ i x, l[i]? = some x → p i x := by
  induction n with
  | zero => exact ⟨[], rfl, fun i x h => by simp at h⟩
  | succ n ih =>
    obtain ⟨l, hl, hp⟩ := ih (fun i hi => h i (by omega))
    obtain ⟨x, hx⟩ := h n (by omega)
    refine ⟨l ++ [x], by simp [hl], fun i y hy => ?_⟩
    rcases Nat.lt_or_ge i n with hi | hi
    · rw [List.getElem?_append_left (by omega)] at hy
      exact hp i y hy
    · rw [List.getElem?_append_right (by omega)] at hy
      have : i - l.length = 0 := by
        have := (List.getElem?_eq_some_iff.1 hy).1
        simp at this; omega
      rw [this] at hy
      simp only [List.getElem?_cons_zero, Option.some.injEq] at hy
      subst hy
      have : i = n := by omega
      subst this
      exact hx

theorem add_off {b o : Nat} (n : Nat) : (⟨b, o, none⟩ : Addr).add n = ⟨b, o + n, none⟩ := by unfold Addr.add; split <;> simp_all
theorem add_add' (a : Addr) (i j : Nat) : (a.add i).add j = a.add (i + j) := by
  unfold Addr.add
  by_cases hi : i = 0
  · subst hi; simp
  · by_cases hj : j = 0
    · subst hj; simp [hi]
    · simp [hi, hj, Nat.add_assoc]

/-- A row of things that lie side by side. -/
theorem row_of {α : Type} {w : World} {f : α → List Value} {g : α → Asn} {sz len c : Nat} {a : Addr} {l : List α} (hsz : 0 < sz) (hf : ∀ x, (f x).length = sz) (hlen : l.length = len) (hc : len ≤ c) (hcm : 0 < c → ∃ v, w.cell? a = some v)
    (hp : ∀ i y, l[i]? = some y → (∀ j, j < sz → w.cell? (a.add (i * sz + j)) = (f y)[j]?) ∧ (g y).P w ∧ ∀ k, (g y).foot k → k < w.heap.size) :
    (dDp f g sz (some a) c l).P w ∧ ∀ k, (dDp f g sz (some a) c l).foot k → k < w.heap.size := by
  have hspot : 0 < c → a.spot = none := fun h => by
    obtain ⟨v, hv⟩ := hcm h
    unfold World.cell? at hv
    split at hv
    · split at hv
      · cases hv
      · rename_i h2; simpa using h2
    · cases hv
  refine ⟨⟨⟨⟨by omega, fun h => (nomatch h), fun ad had h => by cases had; exact hspot h⟩, by rw [flat_len sz f hf], fun hne => ?_⟩, fun y hy => ?_⟩, fun k hk => ?_⟩
  · have hl0 : 0 < l.length := by
      cases l with
      | nil => exact absurd rfl hne
      | cons y l => simp
    obtain ⟨b, o, sp⟩ := a
    have : sp = none := hspot (by omega)
    subst this
    refine ⟨b, o, rfl, fun i u hu => ?_⟩
    have hi : i < (l.flatMap f).length := (List.getElem?_eq_some_iff.1 hu).1
    rw [flat_len sz f hf] at hi
    have hq : i / sz < l.length := Nat.div_lt_of_lt_mul (by rw [Nat.mul_comm]; exact hi)
    have hr : i % sz < sz := Nat.mod_lt _ hsz
    have he : i = i / sz * sz + i % sz := by rw [Nat.mul_comm]; exact (Nat.div_add_mod i sz).symm
    have h1 := flat_get sz f hf l (i / sz) (i % sz) _ (List.getElem?_eq_getElem hq) hr
    rw [← he, hu] at h1
    have h2 := (hp (i / sz) _ (List.getElem?_eq_getElem hq)).1 (i % sz) hr
    rw [← he, add_off, ← h1] at h2
    exact h2
  · obtain ⟨i, hi, rfl⟩ := List.getElem_of_mem hy
    exact (hp i _ (List.getElem?_eq_getElem hi)).2.1
  · rcases hk with ⟨hne, ad, had, rfl⟩ | ⟨y, hy, hyk⟩
    · cases had
      have hl0 : 0 < l.length := by
        cases l with
        | nil => exact absurd rfl hne
        | cons y l => simp
      obtain ⟨v, hv⟩ := hcm (by omega)
      exact World.block_lt_of_cell? _ _ hv
    · obtain ⟨i, hi, rfl⟩ := List.getElem_of_mem hy
      exact (hp i _ (List.getElem?_eq_getElem hi)).2.2 k hyk

theorem Opens.slice {α : Type} {P : Program} {t e : TypeId} {f : α → List Value} {g : α → Asn} {R : α → Prop} {sz : Nat} (he : Opens P e f g R) (ht : P.underlying t = some (.slice e)) (hc : P.cellsOf e = sz) (hsz : 0 < sz) (hf : ∀ x, (f x).length = sz) :
    Opens P t (fun s : DSl α => [s.val]) (fun s => dDp f g sz s.ao s.c s.l) (fun s => (∀ y, y ∈ s.l → R y) ∧ s.l.length ≤ s.c ∧ s.c ≤ maxLen) := by
  intro H enc w fuel cs x h
  rcases open_slice ht h with ⟨rfl, _⟩ | ⟨a, len, cap, m, n, D, Pl, rfl, _, hl, hm, hmm, rfl, hx⟩
  · refine ⟨⟨none, 0, []⟩, ⟨rfl, ⟨⟨⟨Nat.le_refl _, fun _ => rfl, fun _ h => (nomatch h)⟩, by simp, fun h => absurd rfl h⟩, fun _ h => nomatch h⟩, fun k hk => ?_⟩, fun _ h => (nomatch h), Nat.le_refl _, Nat.zero_le _⟩
    rcases hk with ⟨h, _⟩ | ⟨_, h, _⟩
    · exact absurd rfl h
    · cases h
  · simp only [if_true] at hmm
    subst hmm
    rw [hc] at hx
    obtain ⟨l, hll, hp⟩ := list_of_lt (n := len) (p := fun i y => ((∀ j, j < sz → w.cell? (a.add (i * sz + j)) = (f y)[j]?) ∧ (g y).P w ∧ ∀ k, (g y).foot k → k < w.heap.size) ∧ R y) (fun i hi => by
      obtain ⟨cs', h1, h2⟩ := hx i (by omega)
      obtain ⟨y, ⟨rfl, hg, hft⟩, hR⟩ := he H enc w n cs' _ h2
      obtain ⟨_, _, hcell⟩ := World.cells?_some h1
      exact ⟨y, ⟨fun j hj => by rw [← add_add']; exact hcell j hj, hg, hft⟩, hR⟩)
    have hrow := row_of (w := w) (f := f) (g := g) (a := a) (c := m) hsz hf hll hl (fun h0 => by
      obtain ⟨cs', h1, h2⟩ := hx 0 h0
      obtain ⟨_, hlen, hcell⟩ := World.cells?_some h1
      have := hcell 0 hsz
      rw [add_add', Nat.zero_mul] at this
      have e : a.add (0 + 0) = a := rfl
      rw [e, List.getElem?_eq_getElem (by omega)] at this
      exact ⟨_, this⟩) (fun i y hy => (hp i y hy).1)
    exact ⟨⟨some a, m, l⟩, ⟨by show _ = [Value.slice _ _ _]; rw [hll], hrow.1, hrow.2⟩, fun y hy => by
      obtain ⟨i, hi, rfl⟩ := List.getElem_of_mem hy
      exact (hp i _ (List.getElem?_eq_getElem hi)).2, by rw [hll]; exact hl, hm⟩

theorem u8_flat (l : BL) : l.flatMap (fun b : UInt8 => [V8 b]) = u8s l := by
  induction l with
  | nil => rfl
  | cons b l ih => rw [List.flatMap_cons, ih]; rfl
theorem Opens.bytes {P : Program} {t e : TypeId} (ht : P.underlying t = some (.slice e)) (he : P.underlying e = some (.int .u8)) (hc : P.cellsOf e = 1) : Opens P t SB.l SB.D (fun s => s.b.length ≤ s.c ∧ s.c ≤ maxLen) := by
  intro H enc w fuel cs x h
  obtain ⟨⟨ao, c, l⟩, ⟨rfl, hP, hk⟩, _, hR⟩ := Opens.slice (Opens.u8 he) ht hc (by decide) (fun _ => rfl) H enc w fuel cs x h
  have e1 : (dSl ao l.length c 1 (l.flatMap fun b : UInt8 => [V8 b])) = dB ao c l := by rw [u8_flat]
  refine ⟨⟨ao, c, l⟩, ⟨rfl, ?_, fun k hkk => hk k (.inl ?_)⟩, hR⟩
  · have := hP.1
    rw [e1] at this
    exact this
  · show (dSl ao l.length c 1 (l.flatMap fun b : UInt8 => [V8 b])).foot k
    rw [e1]; exact hkk
/-- A field of a struct. -/
theorem open_field {H : Type} {enc : TypeId × Value → H} {P : Program} {w : World} {t : TypeId} {fuel : Nat} {cs : List Value} {x : DataW H × List MemPlace} {fs : Array Field} (ht : P.underlying t = some (.struct fs)) (h : DataW.trod enc P w 0 (fun _ => true) true fuel t cs = some x) :
    cs.length = P.cellsOf t ∧ ∃ n, ∀ (i : Nat) (f : Field), fs[i]? = some f → ∃ x', DataW.trod enc P w 0 (fun _ => true) true n f.type ((cs.drop f.offset).take (P.cellsOf f.type)) = some x' := by
  obtain ⟨xs, n, _, _, hl, hxl, hx⟩ := DataW.trod_struct ht h
  refine ⟨hl, n, fun i f hf => ?_⟩
  have hi : i < fs.size := (Array.getElem?_eq_some_iff.1 hf).1
  exact ⟨xs[i]'(by omega), by rw [hx i f hf, List.getElem?_eq_getElem]⟩
theorem open_array {H : Type} {enc : TypeId × Value → H} {P : Program} {w : World} {t e : TypeId} {m : Nat} {fuel : Nat} {cs : List Value} {x : DataW H × List MemPlace} (ht : P.underlying t = some (.array m e)) (h : DataW.trod enc P w 0 (fun _ => true) true fuel t cs = some x) :
    cs.length = P.cellsOf t ∧ ∃ n, ∀ i, i < m → ∃ x', DataW.trod enc P w 0 (fun _ => true) true n e ((cs.drop (i * P.cellsOf e)).take (P.cellsOf e)) = some x' := by
  obtain ⟨xs, n, _, _, hl, hxl, hx⟩ := DataW.trod_array ht h
  exact ⟨hl, n, fun i hi => ⟨xs[i]'(by omega), by rw [hx i hi, List.getElem?_eq_getElem]⟩⟩
theorem Opens.bytesN {P : Program} {t e : TypeId} {m : Nat} (ht : P.underlying t = some (.array m e)) (he : P.underlying e = some (.int .u8)) (hc : P.cellsOf e = 1) (hct : P.cellsOf t = m) : Opens P t u8s (fun _ => emp) (fun l => l.length = m) := by
  intro H enc w fuel cs x h
  obtain ⟨hl, n, hx⟩ := open_array ht h
  rw [hc] at hx
  obtain ⟨l, hll, hp⟩ := list_of_lt (n := m) (p := fun i y => (cs.drop i).take 1 = [V8 y]) (fun i hi => by
    obtain ⟨x', hx'⟩ := hx i hi
    rw [Nat.mul_one] at hx'
    obtain ⟨y, ⟨hy, _⟩, _⟩ := Opens.u8 he H enc w n _ _ hx'
    exact ⟨y, hy⟩)
  refine ⟨l, ⟨?_, trivial, fun _ h => h.elim⟩, hll⟩
  refine List.ext_getElem? fun i => ?_
  rcases Nat.lt_or_ge i m with hi | hi
  · have := congrArg (·[0]?) (hp i l[i] (List.getElem?_eq_getElem (by omega)))
    simp at this
    rw [this]
    simp [u8s, V8, List.getElem?_eq_getElem (show i < l.length by omega)]
  · rw [List.getElem?_eq_none (by omega), List.getElem?_eq_none (by rw [u8s_len]; omega)]

/-- What may be read of the arguments, as a piece. -/
theorem St.start {W : World} {F : Nat → Prop} (ds : List Asn) (hP : ∀ d, d ∈ ds → d.P W) (hf : ∀ d, d ∈ ds → ∀ k, d.foot k → k < W.heap.size) : St W F (fun _ => True) [] ds W :=
  ⟨rfl, rfl, rfl, Nat.le_refl _, fun _ _ _ => rfl, fun _ h => (nomatch h), hP, fun _ h => (nomatch h), fun d hd k hk => ⟨hf d hd k hk, fun _ => .inl trivial⟩, .nil, fun _ h => nomatch h⟩
#print axioms Opens.slice
#print axioms Opens.bytes
#print axioms Opens.bytesN
end Go.Proofs.Ytpcojkbljgpecaa
