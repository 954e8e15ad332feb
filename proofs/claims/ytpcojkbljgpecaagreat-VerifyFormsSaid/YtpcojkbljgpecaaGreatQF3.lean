/- Part 3 of the proof: engine, models, walks and plain laws, in build order. -/
import Derived.Test.YtpcojkbljgpecaaGreatQF2
import Derived.Deep.Slices
import Derived.ProofKit
import Derived.OpenShut
set_option linter.unusedVariables false
set_option linter.unusedSimpArgs false
namespace Go.Proofs.YtpcojkbljgpecaaGreat
open Go Go.ChangeShapes Go.WideShapes Go.ChangeAt Go.RowKit Go.Deep

/-- y lies in some cells: f tells its cells, g what they lead to. -/
def Lies {α : Type} (w : World) (f : α → List Value) (g : α → Asn) (cs : List Value) (y : α) : Prop := cs = f y ∧ (g y).P w ∧ ∀ k, (g y).foot k → k < w.heap.size
/-- Whatever can be read at a type is some y, of which R holds. -/
def Opens {α : Type} (P : Program) (t : TypeId) (f : α → List Value) (g : α → Asn) (R : α → Prop) : Prop :=
  ∀ (H : Type) (enc : TypeId × Value → H) (w : World) (fuel : Nat) (cs : List Value) (x : DataW H × List MemPlace), DataW.trod enc P w 0 (fun _ => true) true fuel t cs = some x → ∃ y, Lies w f g cs y ∧ R y

/-- Nothing. -/
def emp : Asn := ⟨fun _ => False, fun _ => True, fun _ _ _ _ => trivial⟩

theorem Opens.int {P : Program} {t : TypeId} (ht : P.underlying t = some (.int .i64)) : Opens P t (fun n : Int => [.int .i64 n]) (fun _ => emp) (fun n => -9223372036854775808 ≤ n ∧ n ≤ 9223372036854775807) := by
  intro H enc w fuel cs x h
  obtain ⟨n, rfl, _, hw⟩ := DataW.trod_int ht h
  refine ⟨n, ⟨rfl, trivial, fun _ h => h.elim⟩, ?_⟩
  have h1 : IntKind.i64.min = -9223372036854775808 := by rfl
  have h2 : IntKind.i64.max = 9223372036854775807 := by rfl
  simp only [Lit.wf, Bool.and_eq_true, decide_eq_true_eq] at hw
  omega
theorem Opens.bool {P : Program} {t : TypeId} (ht : P.underlying t = some .bool) : Opens P t (fun b : Bool => [.bool b]) (fun _ => emp) (fun _ => True) := by
  intro H enc w fuel cs x h
  obtain ⟨b, rfl, _⟩ := DataW.trod_bool ht h
  exact ⟨b, ⟨rfl, trivial, fun _ h => h.elim⟩, trivial⟩
theorem Opens.u8 {P : Program} {t : TypeId} (ht : P.underlying t = some (.int .u8)) : Opens P t (fun b : UInt8 => [V8 b]) (fun _ => emp) (fun _ => True) := by
  intro H enc w fuel cs x h
  obtain ⟨n, rfl, _, hw⟩ := DataW.trod_int ht h
  have h1 : IntKind.u8.min = 0 := by rfl
  have h2 : IntKind.u8.max = 255 := by rfl
  simp only [Lit.wf, Bool.and_eq_true, decide_eq_true_eq] at hw
  refine ⟨UInt8.ofNat n.toNat, ⟨?_, trivial, fun _ h => h.elim⟩, trivial⟩
  have : ((UInt8.ofNat n.toNat).toNat : Int) = n := by
    rw [UInt8.toNat_ofNat_of_lt' (by simp [UInt8.size]; omega)]; omega
  simp only [V8, this]
theorem Opens.u32 {P : Program} {t : TypeId} (ht : P.underlying t = some (.int .u32)) : Opens P t (fun b : UInt32 => [V32 b]) (fun _ => emp) (fun _ => True) := by
  intro H enc w fuel cs x h
  obtain ⟨n, rfl, _, hw⟩ := DataW.trod_int ht h
  have h1 : IntKind.u32.min = 0 := by rfl
  have h2 : IntKind.u32.max = 4294967295 := by rfl
  simp only [Lit.wf, Bool.and_eq_true, decide_eq_true_eq] at hw
  refine ⟨UInt32.ofNat n.toNat, ⟨?_, trivial, fun _ h => h.elim⟩, trivial⟩
  have : ((UInt32.ofNat n.toNat).toNat : Int) = n := by
    rw [UInt32.toNat_ofNat_of_lt' (by simp [UInt32.size]; omega)]; omega
  simp only [V32, this]
theorem Opens.string {P : Program} {t : TypeId} (ht : P.underlying t = some .string) : Opens P t (fun s : BL => [.string (bstr s)]) (fun _ => emp) (fun s => s.length ≤ maxLen) := by
  intro H enc w fuel cs x h
  obtain ⟨s, rfl, _, hw⟩ := DataW.trod_string ht h
  refine ⟨s.data.toList, ⟨by simp [bstr], trivial, fun _ h => h.elim⟩, ?_⟩
  have : s.data.toList.length = s.size := by rw [Array.length_toList]; rfl
  show s.data.toList.length ≤ maxLen
  rw [this]; exact hw

/-- A slice, as it lies. -/
structure DSl (α : Type) where
  ao : Option Addr
  c : Nat
  l : List α
def DSl.val {α : Type} (s : DSl α) : Value := .slice s.ao s.l.length s.c

theorem list_of_lt {α : Type} {n : Nat} {p : Nat → α → Prop} (h : ∀ i, i < n → ∃ x, p i x) : ∃ l : List α, l.length = n ∧ ∀ i x, l[i]? = some x → p i x := by
  induction n with
  | zero => exact ⟨[], rfl, fun i x h => by simp at h⟩
  | succ n ih =>
    obtain ⟨l, hl, hp⟩ := ih (fun i hi => h i (by omega))
    obtain ⟨x, hx⟩ := h n (by omega)
    refine ⟨l ++ [x], by simp [hl], fun i y hy => ?_⟩
    rcases Nat.lt_or_ge i n with hi | hi
    · rw [List.getElem?_append_left (by omega)] at hy
      exact hp i y hy
    · rw [List.getElem?_append_right (by omega)] at hy
      have : i - l.length = 0 := by
        have := (List.getElem?_eq_some_iff.1 hy).1
        simp at this; omega
      rw [this] at hy
      simp only [List.getElem?_cons_zero, Option.some.injEq] at hy
      subst hy
      have : i = n := by omega
      subst this
      exact hx

theorem add_off {b o : Nat} (n : Nat) : (⟨b, o, none⟩ : Addr).add n = ⟨b, o + n, none⟩ := by unfold Addr.add; split <;> simp_all
theorem add_add' (a : Addr) (i j : Nat) : (a.add i).add j = a.add (i + j) := by
  unfold Addr.add
  by_cases hi : i = 0
  · subst hi; simp
  · by_cases hj : j = 0
    · subst hj; simp [hi]
    · simp [hi, hj, Nat.add_assoc]

/-- A row of things that lie side by side. -/
theorem row_of {α : Type} {w : World} {f : α → List Value} {g : α → Asn} {sz len c : Nat} {a : Addr} {l : List α} (hsz : 0 < sz) (hf : ∀ x, (f x).length = sz) (hlen : l.length = len) (hc : len ≤ c) (hcm : 0 < c → ∃ v, w.cell? a = some v)
    (hp : ∀ i y, l[i]? = some y → (∀ j, j < sz → w.cell? (a.add (i * sz + j)) = (f y)[j]?) ∧ (g y).P w ∧ ∀ k, (g y).foot k → k < w.heap.size) :
    (dDp f g sz (some a) c l).P w ∧ ∀ k, (dDp f g sz (some a) c l).foot k → k < w.heap.size := by
  have hspot : 0 < c → a.spot = none := fun h => by
    obtain ⟨v, hv⟩ := hcm h
    unfold World.cell? at hv
    split at hv
    · split at hv
      · cases hv
      · rename_i h2; simpa using h2
    · cases hv
  refine ⟨⟨⟨⟨by omega, fun h => (nomatch h), fun ad had h => by cases had; exact hspot h⟩, by rw [flat_len sz f hf], fun hne => ?_⟩, fun y hy => ?_⟩, fun k hk => ?_⟩
  · have hl0 : 0 < l.length := by
      cases l with
      | nil => exact absurd rfl hne
      | cons y l => simp
    obtain ⟨b, o, sp⟩ := a
    have : sp = none := hspot (by omega)
    subst this
    refine ⟨b, o, rfl, fun i u hu => ?_⟩
    have hi : i < (l.flatMap f).length := (List.getElem?_eq_some_iff.1 hu).1
    rw [flat_len sz f hf] at hi
    have hq : i / sz < l.length := Nat.div_lt_of_lt_mul (by rw [Nat.mul_comm]; exact hi)
    have hr : i % sz < sz := Nat.mod_lt _ hsz
    have he : i = i / sz * sz + i % sz := by rw [Nat.mul_comm]; exact (Nat.div_add_mod i sz).symm
    have h1 := flat_get sz f hf l (i / sz) (i % sz) _ (List.getElem?_eq_getElem hq) hr
    rw [← he, hu] at h1
    have h2 := (hp (i / sz) _ (List.getElem?_eq_getElem hq)).1 (i % sz) hr
    rw [← he, add_off, ← h1] at h2
    exact h2
  · obtain ⟨i, hi, rfl⟩ := List.getElem_of_mem hy
    exact (hp i _ (List.getElem?_eq_getElem hi)).2.1
  · rcases hk with ⟨hne, ad, had, rfl⟩ | ⟨y, hy, hyk⟩
    · cases had
      have hl0 : 0 < l.length := by
        cases l with
        | nil => exact absurd rfl hne
        | cons y l => simp
      obtain ⟨v, hv⟩ := hcm (by omega)
      exact World.block_lt_of_cell? _ _ hv
    · obtain ⟨i, hi, rfl⟩ := List.getElem_of_mem hy
      exact (hp i _ (List.getElem?_eq_getElem hi)).2.2 k hyk

theorem Opens.slice {α : Type} {P : Program} {t e : TypeId} {f : α → List Value} {g : α → Asn} {R : α → Prop} {sz : Nat} (he : Opens P e f g R) (ht : P.underlying t = some (.slice e)) (hc : P.cellsOf e = sz) (hsz : 0 < sz) (hf : ∀ x, (f x).length = sz) :
    Opens P t (fun s : DSl α => [s.val]) (fun s => dDp f g sz s.ao s.c s.l) (fun s => (∀ y, y ∈ s.l → R y) ∧ s.l.length ≤ s.c ∧ s.c ≤ maxLen) := by
  intro H enc w fuel cs x h
  rcases open_slice ht h with ⟨rfl, _⟩ | ⟨a, len, cap, m, n, D, Pl, rfl, _, hl, hm, hmm, rfl, hx⟩
  · refine ⟨⟨none, 0, []⟩, ⟨rfl, ⟨⟨⟨Nat.le_refl _, fun _ => rfl, fun _ h => (nomatch h)⟩, by simp, fun h => absurd rfl h⟩, fun _ h => nomatch h⟩, fun k hk => ?_⟩, fun _ h => (nomatch h), Nat.le_refl _, Nat.zero_le _⟩
    rcases hk with ⟨h, _⟩ | ⟨_, h, _⟩
    · exact absurd rfl h
    · cases h
  · simp only [if_true] at hmm
    subst hmm
    rw [hc] at hx
    obtain ⟨l, hll, hp⟩ := list_of_lt (n := len) (p := fun i y => ((∀ j, j < sz → w.cell? (a.add (i * sz + j)) = (f y)[j]?) ∧ (g y).P w ∧ ∀ k, (g y).foot k → k < w.heap.size) ∧ R y) (fun i hi => by
      obtain ⟨cs', h1, h2⟩ := hx i (by omega)
      obtain ⟨y, ⟨rfl, hg, hft⟩, hR⟩ := he H enc w n cs' _ h2
      obtain ⟨_, _, hcell⟩ := World.cells?_some h1
      exact ⟨y, ⟨fun j hj => by rw [← add_add']; exact hcell j hj, hg, hft⟩, hR⟩)
    have hrow := row_of (w := w) (f := f) (g := g) (a := a) (c := m) hsz hf hll hl (fun h0 => by
      obtain ⟨cs', h1, h2⟩ := hx 0 h0
      obtain ⟨_, hlen, hcell⟩ := World.cells?_some h1
      have := hcell 0 hsz
      rw [add_add', Nat.zero_mul] at this
      have e : a.add (0 + 0) = a := rfl
      rw [e, List.getElem?_eq_getElem (by omega)] at this
      exact ⟨_, this⟩) (fun i y hy => (hp i y hy).1)
    exact ⟨⟨some a, m, l⟩, ⟨by show _ = [Value.slice _ _ _]; rw [hll], hrow.1, hrow.2⟩, fun y hy => by
      obtain ⟨i, hi, rfl⟩ := List.getElem_of_mem hy
      exact (hp i _ (List.getElem?_eq_getElem hi)).2, by rw [hll]; exact hl, hm⟩

theorem u8_flat (l : BL) : l.flatMap (fun b : UInt8 => [V8 b]) = u8s l := by
  induction l with
  | nil => rfl
  | cons b l ih => rw [List.flatMap_cons, ih]; rfl
theorem Opens.bytes {P : Program} {t e : TypeId} (ht : P.underlying t = some (.slice e)) (he : P.underlying e = some (.int .u8)) (hc : P.cellsOf e = 1) : Opens P t SB.l SB.D (fun s => s.b.length ≤ s.c ∧ s.c ≤ maxLen) := by
  intro H enc w fuel cs x h
  obtain ⟨⟨ao, c, l⟩, ⟨rfl, hP, hk⟩, _, hR⟩ := Opens.slice (Opens.u8 he) ht hc (by decide) (fun _ => rfl) H enc w fuel cs x h
  have e1 : (dSl ao l.length c 1 (l.flatMap fun b : UInt8 => [V8 b])) = dB ao c l := by rw [u8_flat]
  refine ⟨⟨ao, c, l⟩, ⟨rfl, ?_, fun k hkk => hk k (.inl ?_)⟩, hR⟩
  · have := hP.1
    rw [e1] at this
    exact this
  · show (dSl ao l.length c 1 (l.flatMap fun b : UInt8 => [V8 b])).foot k
    rw [e1]; exact hkk
/-- A field of a struct. -/
theorem open_field {H : Type} {enc : TypeId × Value → H} {P : Program} {w : World} {t : TypeId} {fuel : Nat} {cs : List Value} {x : DataW H × List MemPlace} {fs : Array Field} (ht : P.underlying t = some (.struct fs)) (h : DataW.trod enc P w 0 (fun _ => true) true fuel t cs = some x) :
    cs.length = P.cellsOf t ∧ ∃ n, ∀ (i : Nat) (f : Field), fs[i]? = some f → ∃ x', DataW.trod enc P w 0 (fun _ => true) true n f.type ((cs.drop f.offset).take (P.cellsOf f.type)) = some x' := by
  obtain ⟨xs, n, _, _, hl, hxl, hx⟩ := DataW.trod_struct ht h
  refine ⟨hl, n, fun i f hf => ?_⟩
  have hi : i < fs.size := (Array.getElem?_eq_some_iff.1 hf).1
  exact ⟨xs[i]'(by omega), by rw [hx i f hf, List.getElem?_eq_getElem]⟩
theorem open_array {H : Type} {enc : TypeId × Value → H} {P : Program} {w : World} {t e : TypeId} {m : Nat} {fuel : Nat} {cs : List Value} {x : DataW H × List MemPlace} (ht : P.underlying t = some (.array m e)) (h : DataW.trod enc P w 0 (fun _ => true) true fuel t cs = some x) :
    cs.length = P.cellsOf t ∧ ∃ n, ∀ i, i < m → ∃ x', DataW.trod enc P w 0 (fun _ => true) true n e ((cs.drop (i * P.cellsOf e)).take (P.cellsOf e)) = some x' := by
  obtain ⟨xs, n, _, _, hl, hxl, hx⟩ := DataW.trod_array ht h
  exact ⟨hl, n, fun i hi => ⟨xs[i]'(by omega), by rw [hx i hi, List.getElem?_eq_getElem]⟩⟩
theorem Opens.bytesN {P : Program} {t e : TypeId} {m : Nat} (ht : P.underlying t = some (.array m e)) (he : P.underlying e = some (.int .u8)) (hc : P.cellsOf e = 1) (hct : P.cellsOf t = m) : Opens P t u8s (fun _ => emp) (fun l => l.length = m) := by
  intro H enc w fuel cs x h
  obtain ⟨hl, n, hx⟩ := open_array ht h
  rw [hc] at hx
  obtain ⟨l, hll, hp⟩ := list_of_lt (n := m) (p := fun i y => (cs.drop i).take 1 = [V8 y]) (fun i hi => by
    obtain ⟨x', hx'⟩ := hx i hi
    rw [Nat.mul_one] at hx'
    obtain ⟨y, ⟨hy, _⟩, _⟩ := Opens.u8 he H enc w n _ _ hx'
    exact ⟨y, hy⟩)
  refine ⟨l, ⟨?_, trivial, fun _ h => h.elim⟩, hll⟩
  refine List.ext_getElem? fun i => ?_
  rcases Nat.lt_or_ge i m with hi | hi
  · have := congrArg (·[0]?) (hp i l[i] (List.getElem?_eq_getElem (by omega)))
    simp at this
    rw [this]
    simp [u8s, V8, List.getElem?_eq_getElem (show i < l.length by omega)]
  · rw [List.getElem?_eq_none (by omega), List.getElem?_eq_none (by rw [u8s_len]; omega)]

/-- What may be read of the arguments, as a piece. -/
theorem St.start {W : World} {F : Nat → Prop} (ds : List Asn) (hP : ∀ d, d ∈ ds → d.P W) (hf : ∀ d, d ∈ ds → ∀ k, d.foot k → k < W.heap.size) : St W F (fun _ => True) [] ds W :=
  ⟨rfl, rfl, rfl, Nat.le_refl _, fun _ _ _ => rfl, fun _ h => (nomatch h), hP, fun _ h => (nomatch h), fun d hd k hk => ⟨hf d hd k hk, fun _ => .inl trivial⟩, .nil, fun _ h => nomatch h⟩
end Go.Proofs.YtpcojkbljgpecaaGreat
namespace Go.Proofs.YtpcojkbljgpecaaGreat
open Go
/-- A block's key. -/
def keyP (p : Ptr) : BL := beB p.birth 8 ++ beB p.pos 4
theorem keyP_len (p : Ptr) : (keyP p).length = 12 := by simp [keyP, beB_len]
abbrev dP (ao : Option Addr) (c : Nat) (l : List Ptr) : Asn := dSl ao l.length c 36 (l.flatMap Ptr.l)
abbrev oP (v : Value) (n : Nat) (l : List Ptr) : Asn := oSl v 32 36 n (l.flatMap Ptr.l)
theorem Ptr.oneL (l : List Ptr) : ∀ u ∈ l.flatMap Ptr.l, u.oneCell' = true := by
  intro u hu
  obtain ⟨p, _, hp⟩ := List.mem_flatMap.1 hu
  exact Ptr.one_l p u hp
theorem ptr_flat (p : Ptr) : [p.val].flatMap (fun x => x.cells.toList) = p.l := by simp [Value.cells, Ptr.val, Ptr.cells]
theorem ptrs_snoc (l : List Ptr) (p : Ptr) : l.flatMap Ptr.l ++ [p.val].flatMap (fun x => x.cells.toList) = (l ++ [p]).flatMap Ptr.l := by rw [ptr_flat]; simp
theorem ptr_oneF (p : Ptr) : ∀ u ∈ [p.val].flatMap (fun x => x.cells.toList), u.oneCell' = true := by rw [ptr_flat]; exact Ptr.one_l p
theorem beB_zero (n : Int) : beB n 0 = [] := rfl
theorem beB_succ (n : Int) (k : Nat) : beB n (k + 1) = byteOf (n / 2 ^ (8 * k)) :: beB n k := rfl

theorem filter_yes {α : Type} {p : α → Bool} {l : List α} {i : Nat} (hi : i < l.length) (h : p l[i] = true) : (l.take (i + 1)).filter p = (l.take i).filter p ++ [l[i]] := by
  rw [List.take_succ_eq_append_getElem hi, List.filter_append, List.filter_cons_of_pos h, List.filter_nil]
theorem filter_no {α : Type} {p : α → Bool} {l : List α} {i : Nat} (hi : i < l.length) (h : p l[i] = false) : (l.take (i + 1)).filter p = (l.take i).filter p := by
  rw [List.take_succ_eq_append_getElem hi, List.filter_append, List.filter_cons_of_neg (by rw [h]; simp), List.filter_nil, List.append_nil]
def elder (ep : Int) (p : Ptr) : Bool := decide (p.birth ≤ ep)
def young (ep : Int) (p : Ptr) : Bool := !elder ep p
theorem filter_le {α : Type} (p : α → Bool) (l : List α) (i : Nat) : ((l.take i).filter p).length ≤ l.length := Nat.le_trans (List.length_filter_le _ _) (by rw [List.length_take]; omega)
theorem take_eq_succ {α : Type} {a b : List α} {i : Nat} (ha : i < a.length) (hb : i < b.length) (h : a.take i = b.take i) (he : a[i] = b[i]) : a.take (i + 1) = b.take (i + 1) := by
  rw [List.take_succ_eq_append_getElem ha, List.take_succ_eq_append_getElem hb, h, he]
theorem ne_of_get {α : Type} {a b : List α} {i : Nat} (ha : i < a.length) (hb : i < b.length) (he : a[i] ≠ b[i]) : a ≠ b := by
  rintro rfl; exact he rfl
theorem get_x1 {α : Type} (X A R : List α) {k : Nat} (h : k < A.length) : (X ++ (A ++ R))[X.length + k]? = some A[k] := by
  rw [List.getElem?_append_right (by omega), show X.length + k - X.length = k by omega, List.getElem?_append_left h, List.getElem?_eq_getElem h]
theorem get_x2 {α : Type} (X A B R : List α) {k : Nat} (h : k < B.length) : (X ++ (A ++ (B ++ R)))[X.length + A.length + k]? = some B[k] := by
  have := get_x1 (X ++ A) B R h
  rwa [List.length_append, List.append_assoc] at this
/-- A thing among others. -/
def insR {α : Type} (X P : List α) (x : α) (R : List α) (j : Nat) : List α := X ++ (P.take j ++ x :: (P.drop j ++ R))
theorem insR_len {α : Type} (X P R : List α) (x : α) (j : Nat) : (insR X P x R j).length = X.length + P.length + 1 + R.length := by
  simp only [insR, List.length_append, List.length_cons, List.length_take, List.length_drop]; omega
theorem insR_get {α : Type} (X P R : List α) (x : α) {j : Nat} (h : j ≤ P.length) : (insR X P x R j)[X.length + j]? = some x := by
  have hl : (X ++ P.take j).length = X.length + j := by rw [List.length_append, List.length_take]; omega
  rw [insR, ← List.append_assoc, List.getElem?_append_right (by omega), hl, Nat.sub_self]; rfl
theorem insR_split {α : Type} (X P R : List α) (x : α) {j : Nat} (h : j < P.length) : insR X P x R (j + 1) = (X ++ P.take j) ++ P[j] :: ([] ++ x :: (P.drop (j + 1) ++ R)) := by
  rw [insR, List.take_succ_eq_append_getElem h]; simp only [List.append_assoc, List.cons_append, List.nil_append]
theorem insR_split' {α : Type} (X P R : List α) (x : α) {j : Nat} (h : j < P.length) : insR X P x R j = (X ++ P.take j) ++ x :: ([] ++ P[j] :: (P.drop (j + 1) ++ R)) := by
  rw [insR, List.drop_eq_getElem_cons h]; simp only [List.append_assoc, List.cons_append, List.nil_append]
theorem insR_low {α : Type} (X P R : List α) (x : α) {j : Nat} (h : j < P.length) : (insR X P x R (j + 1))[X.length + j]? = some P[j] := by
  have hl : (X ++ P.take j).length = X.length + j := by rw [List.length_append, List.length_take]; omega
  rw [insR_split X P R x h, List.getElem?_append_right (by omega), hl, Nat.sub_self]; rfl
theorem insR_high {α : Type} (X P R : List α) (x : α) {j : Nat} (h : j < P.length) : (insR X P x R j)[X.length + (j + 1)]? = some P[j] := by
  have hl : (X ++ P.take j).length = X.length + j := by rw [List.length_append, List.length_take]; omega
  rw [insR_split' X P R x h, List.getElem?_append_right (by omega), hl, show X.length + (j + 1) - (X.length + j) = 1 by omega]; rfl
theorem insR_down {α : Type} (X P R : List α) (x : α) {j : Nat} (h : j < P.length) : ((insR X P x R (j + 1)).set (X.length + (j + 1)) P[j]).set (X.length + j) x = insR X P x R j := by
  have hl : (X ++ P.take j).length = X.length + j := by rw [List.length_append, List.length_take]; omega
  rw [List.set_comm _ _ (by omega), insR_split X P R x h, insR_split' X P R x h]
  exact swp_mid _ [] _ _ _ hl.symm (by rw [hl]; rfl)
theorem insR_up {α : Type} (X P R : List α) (x : α) {j : Nat} (h : j < P.length) : ((insR X P x R j).set (X.length + j) P[j]).set (X.length + (j + 1)) x = insR X P x R (j + 1) := by
  have hl : (X ++ P.take j).length = X.length + j := by rw [List.length_append, List.length_take]; omega
  rw [insR_split X P R x h, insR_split' X P R x h]
  exact swp_mid _ [] _ _ _ hl.symm (by rw [hl]; rfl)
/-- Rows that change places, so many of their things. -/
def swR {α : Type} (X A M B Y : List α) (i : Nat) : List α := X ++ (B.take i ++ (A.drop i ++ (M ++ (A.take i ++ (B.drop i ++ Y)))))
theorem swR_len {α : Type} (X A M B Y : List α) (i : Nat) : (swR X A M B Y i).length = X.length + A.length + M.length + B.length + Y.length := by
  simp only [swR, List.length_append, List.length_take, List.length_drop]; omega
theorem swR_l1 {α : Type} (X B : List α) {i : Nat} (hB : i < B.length) : (X ++ B.take i).length = X.length + i := by rw [List.length_append, List.length_take]; omega
theorem swR_l2 {α : Type} (A M : List α) {i : Nat} (hA : i < A.length) : (A.drop (i + 1) ++ (M ++ A.take i)).length = A.length + M.length - 1 := by rw [List.length_append, List.length_append, List.length_take, List.length_drop]; omega
section
variable {α : Type} (X A M B Y : List α) {i : Nat} (hA : i < A.length) (hB : i < B.length)
include hA hB
theorem swR_split : swR X A M B Y i = (X ++ B.take i) ++ A[i] :: ((A.drop (i + 1) ++ (M ++ A.take i)) ++ B[i] :: (B.drop (i + 1) ++ Y)) := by
  rw [swR, List.drop_eq_getElem_cons hA, List.drop_eq_getElem_cons hB]; simp only [List.append_assoc, List.cons_append, List.nil_append]
theorem swR_succ : swR X A M B Y (i + 1) = (X ++ B.take i) ++ B[i] :: ((A.drop (i + 1) ++ (M ++ A.take i)) ++ A[i] :: (B.drop (i + 1) ++ Y)) := by
  rw [swR, List.take_succ_eq_append_getElem hA, List.take_succ_eq_append_getElem hB]; simp only [List.append_assoc, List.cons_append, List.nil_append]
theorem swR_a : (swR X A M B Y i)[X.length + i]? = some A[i] := by
  have h := swR_l1 X B hB
  rw [swR_split X A M B Y hA hB, List.getElem?_append_right (by omega), h, Nat.sub_self]; rfl
theorem swR_b {p : Nat} (hp : p = X.length + A.length + M.length) : (swR X A M B Y i)[p + i]? = some B[i] := by
  have h1 := swR_l1 X B hB
  have h2 := swR_l2 A M hA
  rw [swR_split X A M B Y hA hB, List.getElem?_append_right (by omega), h1, show p + i - (X.length + i) = (A.length + M.length - 1) + 1 by omega, List.getElem?_cons_succ, List.getElem?_append_right (by omega), h2, Nat.sub_self]; rfl
theorem swR_step {p : Nat} (hp : p = X.length + A.length + M.length) : ((swR X A M B Y i).set (X.length + i) B[i]).set (p + i) A[i] = swR X A M B Y (i + 1) := by
  have h1 := swR_l1 X B hB
  have h2 := swR_l2 A M hA
  rw [swR_split X A M B Y hA hB, swR_succ X A M B Y hA hB]
  exact swp_mid _ _ _ _ _ h1.symm (by omega)
end
end Go.Proofs.YtpcojkbljgpecaaGreat
namespace Go.Proofs.YtpcojkbljgpecaaGreat
open Go
section
variable {P : Program} {n : Nat} {ρ : Env} {K : Env → World → Prop} {W w : World} {F D : Nat → Prop} {es ds : List Asn} {d : Nat} {do_ : Option Nat} {ty : TypeId} {pos : String} {aft : Array Edge} {x y : Operand} {t t2 : TypeId} {v : Value}
/-- An owned block, from now on only read as a row. -/
theorem St.freezeBlk (hs : St W F D es ds w) {i b m sz : Nat} {tt : TypeId} {cs : List Value} (hi : es[i]? = some (blk b cs.toArray tt)) (hl : cs.length = m * sz) : St W F D (es.eraseIdx i) (ds ++ [dSl (some ⟨b, 0, none⟩) m m sz cs]) w :=
  hs.freeze hi _ (fun h => ⟨⟨Nat.le_refl _, fun h => (nomatch h), fun ad had _ => by cases had; rfl⟩, hl, fun _ => ⟨b, 0, rfl, fun j u hu => by rw [cell_blk h]; simpa using hu⟩⟩) (fun k ⟨_, ad, had, hk⟩ => by
    cases had
    exact hk)
/-- What is appended or copied, out of a block. -/
theorem Src.blk {b o m c : Nat} {cs : Array Value} {tt : TypeId} {news : List Value} (h : (blk b cs tt).P w) (hl : news.length = m) (hc : ∀ j u, news[j]? = some u → cs[o + j]? = some u) : Src w (.slice (some ⟨b, o, none⟩) m c) m 1 news :=
  ⟨by rw [hl, Nat.mul_one], .inr ⟨_, c, rfl, fun j u hu => by rw [show (⟨b, o, none⟩ : Addr).add j = ⟨b, o + j, none⟩ by unfold Addr.add; split <;> simp_all, cell_blk h]; exact hc j u hu⟩⟩
theorem R_conv64to32 {s u : TypeId} {dsc : TypeDesc} {a : Nat} (hs : P.underlying s = some dsc) (hu : P.underlying u = some (.int .u32)) (hx : evO ρ x = some (.int .u64 (a : Int))) : RunV P n ⟨do_, .convert s u x, ty, pos, aft, none⟩ ρ w (V32 (UInt32.ofNat a)) := by
  have h := R_convU (P := P) (n := n) (ρ := ρ) (w := w) (do_ := do_) (ty := ty) (pos := pos) (aft := aft) (k' := .u32) rfl hs hu hx
  have e : ((UInt32.ofNat a).toNat : Int) = ((a % 2 ^ IntKind.u32.bits : Nat) : Int) := by
    rw [UInt32.toNat_ofNat']; rfl
  unfold V32
  rw [e]; exact h
/-- copy into an owned slice. -/
theorem O_copySl {e e2 i b o m c dl dc mm : Nat} {xs news : List Value} {u : Value} (hs : St W F D es ds w) (hi : es[i]? = some (oSl (.slice (some ⟨b, 0, none⟩) m c) e2 1 m xs)) (hd : dstOk n do_ = true) (hu : P.underlying t = some (.slice e)) (hsz : (P.info? e).map (·.size) = some 1)
    (hx : evO ρ x = some (.slice (some ⟨b, o, none⟩) dl dc)) (hy : evO ρ y = some u) (hsrc : Src w u mm 1 news) (hfit : o + dl ≤ xs.length) (h1 : ∀ u ∈ news, u.oneCell' = true)
    (hK : ∀ w', St W F D (es.set i (oSl (.slice (some ⟨b, 0, none⟩) m c) e2 1 m (setSeg xs o (news.take dl)))) ds w' → K (updo ρ do_ (.int .i64 ((min mm dl : Nat) : Int))) w') : EOp P n ⟨do_, .call ⟨.builtin .copy, #[x, y], #[t, t2]⟩, ty, pos, aft, none⟩ K ρ w := fun a ha => by
  have hown : w.ownsRow 0 e2 1 (.slice (some ⟨b, 0, none⟩) m c) m xs := hs.at hi
  obtain ⟨hlen, hh⟩ := hown
  rcases hh with ⟨hv0, _⟩ | ⟨g, cap, cur, hv0, hb0, hb, hmc, hcm, hcs, htk⟩
  · cases hv0
  injection hv0 with q1 q2 q3
  injection q1 with q1
  injection q1 with q1
  subst q1; subst q3
  have hcl : xs.length ≤ cur.size := by rw [hlen, hcs]; exact Nat.mul_le_mul_right _ hmc
  unfold Oper.wp
  obtain ⟨hln, hcase⟩ := hsrc
  rw [Nat.mul_one] at hln
  have hlt : (news.take dl).length = Nat.min mm dl := by
    rw [List.length_take, hln]; exact Nat.min_comm _ _
  have hmd : Nat.min mm dl ≤ dl := Nat.min_le_right _ _
  have key : ∃ w', (Builtin.copy_ #[t, t2] ty #[.slice (some ⟨b, o, none⟩) dl dc, u]).run P w = .ok (goInt ((min mm dl : Nat) : Int)) w' ∧ w' = w.setRow b (setSeg cur.toList o (news.take dl)).toArray := by
    rcases hcase with ⟨rfl, rfl⟩ | ⟨a2, cc, rfl, hc⟩
    · have hr := run_copy_none (P := P) w t t2 ty e (some ⟨b, o, none⟩) none dl dc 0 0 hu hsz (Nat.zero_min _)
      refine ⟨w, by rw [Nat.zero_min]; exact hr, ?_⟩
      have hn : news = [] := List.eq_nil_of_length_eq_zero hln
      subst hn
      rw [List.take_nil, setSeg, List.length_nil, Nat.add_zero, List.append_nil, List.take_append_drop]
      exact (setRow_self w b cur e2 (0, 0) hb).symm
    · have hr := run_copy_row (P := P) w t t2 ty e b o dl dc a2 mm cc cur e2 (news.take dl) hu hsz hb hlt (fun j v hj => by
        refine hc j v ?_
        rw [List.getElem?_take] at hj
        split at hj
        · exact hj
        · cases hj) (by rw [hlt]; omega) (fun v hv => h1 v (List.mem_of_mem_take hv))
      refine ⟨_, ?_, rfl⟩
      rw [hlt] at hr
      unfold setSeg
      rw [hlt]
      exact hr
  obtain ⟨w', hr, hw'⟩ := key
  subst hw'
  have hrun : (execOp a.eval ⟨do_, .call ⟨.builtin .copy, #[x, y], #[t, t2]⟩, ty, pos, aft, none⟩).run P w = .ok (.value (goInt ((min mm dl : Nat) : Int))) (w.setRow b (setSeg cur.toList o (news.take dl)).toArray) := by
    simp only [execOp, resolve, invoke, builtin, Sem.run_bind, Sem.run_pure, Result.andThen_ok, List.map_toArray, List.map_cons, List.map_nil, ha.eval hx, ha.eval hy, hr]
  rw [hrun]
  obtain ⟨f1, f2, f3⟩ := setRow_facts (c' := (setSeg cur.toList o (news.take dl)).toArray) hb
  have ho : o + (news.take dl).length ≤ xs.length := by rw [hlt]; omega
  have hsplit : cur.toList = xs ++ cur.toList.drop (m * 1) := by rw [← htk, List.take_append_drop]
  have hnew : setSeg cur.toList o (news.take dl) = setSeg xs o (news.take dl) ++ cur.toList.drop (m * 1) := by
    conv => lhs; rw [hsplit]
    exact setSeg_append_left ho
  have hsl := setSeg_len ho
  have hl2 := setSeg_len (xs := cur.toList) (vs := news.take dl) (o := o) (by rw [hlt, Array.length_toList]; omega)
  refine ⟨_, ha.puto hd _, hK _ (hs.change hi _ rfl rfl rfl (by omega) (fun k _ hk => f2 k (fun e => hk (by simp [oSl, Value.ownBlock, e]))) ⟨by rw [hsl, hlen], .inr ⟨b, c, (setSeg cur.toList o (news.take dl)).toArray, rfl, Nat.zero_le _, f1, hmc, hcm, ?_, ?_⟩⟩ (fun k hk => ⟨.inl hk, ?_⟩))⟩
  · rw [List.size_toArray, hl2, Array.length_toList, hcs]
  · show (setSeg cur.toList o (news.take dl)).take (m * 1) = _
    rw [hnew, List.take_append_of_le_length (by rw [hsl, hlen]; exact Nat.le_refl _), List.take_of_length_le (by rw [hsl, hlen]; exact Nat.le_refl _)]
  · have : k = b := by simpa [oSl, Value.ownBlock, eq_comm] using hk
    subst this
    rw [f3]
    exact (Array.getElem?_eq_some_iff.1 hb).1
/-- make with more room than things. -/
theorem O_makeSlice2 {e sz by_ m c : Nat} {kl kc : IntKind} {zv : Value} (hs : St W F D es ds w) (hd : Nat.blt d n = true) (he : einfoB P t e sz by_ = true) (hz : ∀ w, (zeroValue e).run P w = .ok zv w) (hx : evO ρ x = some (.int kl (m : Int))) (hy : evO ρ y = some (.int kc (c : Int))) (hmc : m ≤ c) (hb : by_ * c ≤ 281474976710656) (hm : c ≤ 4294967296)
    (hK : ∀ b w', W.heap.size ≤ b → St W F D (es ++ [oSl (.slice (some ⟨b, 0, none⟩) m c) e sz m ((madeCells zv.cells (c * sz)).toList.take (m * sz))]) ds w' → K (upd ρ d (.slice (some ⟨b, 0, none⟩) m c)) w') : EOp P n ⟨some d, .makeSlice t x y, ty, pos, aft, none⟩ K ρ w := fun a ha => by
  obtain ⟨hu, hsz0, i, z, hi, hzz, hisz, hby, hzc⟩ := einfo_parts he
  have hz0 : z = zv := by
    have := hz w
    simp only [zeroValue, Sem.run_bind, typeInfo, run_program, Result.andThen_ok, hi, Sem.run_pure, hzz] at this
    injection this
  subst hz0
  have hb' : (i.bytes : Int) * (c : Int) ≤ 281474976710656 := by
    have h : ((i.bytes * c : Nat) : Int) ≤ 281474976710656 := by rw [hby]; omega
    rwa [Int.natCast_mul] at h
  have hr := run_make (P := P) w t e i z hu hi hzz kl kc m c (by omega) (by omega) hb' (by omega)
  simp only [Int.toNat_natCast] at hr
  rw [hisz] at hr
  unfold Oper.wp
  have hrun : (execOp a.eval ⟨some d, .makeSlice t x y, ty, pos, aft, none⟩).run P w = .ok (.value (.slice (some ⟨w.heap.size, 0, none⟩) m c)) (w.alloc (.cells (madeCells z.cells (c * sz)) e)) := by
    simp only [execOp, ha.eval hx, ha.eval hy, Sem.run_bind, hr, Result.andThen_ok, Sem.run_pure]
  rw [hrun]
  refine ⟨_, ha.put hd _, hK _ _ hs.size (hs.pushObj _ _ (fun k hk => ?_) ⟨?_, .inr ⟨w.heap.size, c, madeCells z.cells (c * sz), rfl, Nat.zero_le _, heap_alloc_new w _, hmc, by unfold maxLen; omega, size_madeCells _ _, rfl⟩⟩)⟩
  · simpa [oSl, Value.ownBlock, eq_comm] using hk
  · have h2 : m * sz ≤ c * sz := Nat.mul_le_mul_right _ hmc
    rw [List.length_take, Array.length_toList, size_madeCells]; omega
end
end Go.Proofs.YtpcojkbljgpecaaGreat
namespace Go.Proofs.YtpcojkbljgpecaaGreat
open Go
/-- A pointer's bytes. -/
def ptrB (p : Ptr) : BL := [p.pos.toNat, p.len.toNat].flatMap (fixed1 4) ++ [p.birth.toNat].flatMap (fixed1 8) ++ [p.crc.toNat].flatMap (fixed1 4) ++ p.sha
theorem ptrB_len (p : Ptr) : (ptrB p).length = 52 := by simp [ptrB, fixed1_len, p.hsha]
/-- What may be laid. -/
def PtrNN (p : Ptr) : Prop := (0 ≤ p.pos ∧ p.pos ≤ 9223372036854775807) ∧ (0 ≤ p.birth ∧ p.birth ≤ 9223372036854775807) ∧ (0 ≤ p.len ∧ p.len ≤ 9223372036854775807)
theorem PtrNN.of {p : Ptr} (h : p.right = true) : PtrNN p := by
  have := Ptr.right_iff.1 h
  have := sectors_range p.len
  unfold PtrNN; omega
theorem PtrNN.none : PtrNN Ptr.none := by simp [PtrNN, Ptr.none]
/-- Bytes as a pointer, right or not. -/
def ptrP (b : BL) : Ptr := ⟨(leNat (b.take 4) : Int), IntKind.i64.wrap (leNat ((b.drop 8).take 8) : Int), (leNat ((b.drop 4).take 4) : Int), UInt32.ofNat (leNat ((b.drop 16).take 4)), (b.drop 20).take 32 ++ List.replicate (32 - ((b.drop 20).take 32).length) 0, by simp; omega⟩
def ptrRead (b : BL) : Ptr × Int := if b.length < 52 then (Ptr.none, 10) else if ptrP b ≠ Ptr.none ∧ (ptrP b).right = false then (Ptr.none, 11) else (ptrP b, 0)
/-- A sector, as it reads. -/
def sget (l : List (Int × Sec)) (k : Int) : Option Sec := match l with
  | [] => none
  | p :: l => if k = p.1 then some p.2 else sget l k
def diSec (m : DiM) (i : Int) : Sec := (sget m.waits i).getD (m.lasts.getD i.toNat Sec.zero)
theorem diMap_get (l : List (Int × Sec)) (k : Int) : mget (l.map fun p => (p.1, p.2.val)) k = (sget l k).map Sec.val := by
  induction l with
  | nil => rfl
  | cons p l ih =>
    simp only [List.map_cons, mget, sget]
    split
    · rfl
    · exact ih
/-- The bytes of so many sectors. -/
def secsB (m : DiM) (pos : Int) (k : Nat) : BL := (List.range k).flatMap fun (i : Nat) => (diSec m (pos + (i : Int))).b
theorem secsB_succ (m : DiM) (pos : Int) (k : Nat) : secsB m pos (k + 1) = secsB m pos k ++ (diSec m (pos + (k : Int))).b := by
  unfold secsB
  rw [List.range_succ, List.flatMap_append]; simp
theorem secsB_len (m : DiM) (pos : Int) (k : Nat) : (secsB m pos k).length = k * 512 := by
  induction k with
  | zero => rfl
  | succ k ih =>
    rw [secsB_succ, List.length_append, ih, (diSec m (pos + k)).h]; omega
def blkB (m : DiM) (p : Ptr) : BL := (secsB m p.pos (sectors p.len).toNat).take p.len.toNat
def blkRead (m : DiM) (p : Ptr) : BL × Int :=
  if blkCheck m.lasts.length p ≠ 0 then ([], blkCheck m.lasts.length p)
  else if p.check (blkB m p) ≠ 0 then ([], 12) else (blkB m p, 0)
theorem ptr_set0 (p : Ptr) (x : Int) : p.cells.setIfInBounds 0 (.int .i64 x) = Ptr.cells ⟨x, p.birth, p.len, p.crc, p.sha, p.hsha⟩ := by simp [Ptr.cells, Ptr.l]
theorem ptr_set1 (p : Ptr) (x : Int) : p.cells.setIfInBounds 1 (.int .i64 x) = Ptr.cells ⟨p.pos, x, p.len, p.crc, p.sha, p.hsha⟩ := by simp [Ptr.cells, Ptr.l]
theorem ptr_set2 (p : Ptr) (x : Int) : p.cells.setIfInBounds 2 (.int .i64 x) = Ptr.cells ⟨p.pos, p.birth, x, p.crc, p.sha, p.hsha⟩ := by simp [Ptr.cells, Ptr.l]
theorem ptr_set3 (p : Ptr) (x : UInt32) : p.cells.setIfInBounds 3 (V32 x) = Ptr.cells ⟨p.pos, p.birth, p.len, x, p.sha, p.hsha⟩ := by simp [Ptr.cells, Ptr.l]
theorem ptr_set4 (p : Ptr) (l : BL) (h : l.length = 32) : (setSeg p.cells.toList 4 (u8s l)).toArray = Ptr.cells ⟨p.pos, p.birth, p.len, p.crc, l, h⟩ := by
  simp only [Ptr.cells, Ptr.l, setSeg, u8s_len, h]
  congr 1
  simp only [List.take_succ_cons, List.take_zero, List.cons_append, List.nil_append, List.drop_succ_cons]
  rw [List.drop_of_length_le (by rw [u8s_len, p.hsha]; omega), List.append_nil]
def diReadB (m : DiM) (i : Int) : BL := if diCheck m i = 0 then (diSec m i).b else []
theorem zeros_u8 (n : Nat) : (madeCells #[Value.int .u8 0] (n * 1)).toList = u8s (List.replicate n 0) := by
  rw [madeCells_const (u := .int .u8 0) (fun i hi => by simp at hi; subst hi; rfl) (by simp)]
  simp [u8s]
/-- So many sectors are there, the others are zeros. -/
def fillB (m : DiM) (pos : Int) (L i : Nat) : BL := (secsB m pos i).take L ++ List.replicate (L - i * 512) 0
theorem fillB_len (m : DiM) (pos : Int) (L i : Nat) : (fillB m pos L i).length = L := by
  simp only [fillB, List.length_append, List.length_take, secsB_len, List.length_replicate]; omega
theorem fillB_step (m : DiM) (pos : Int) (L i : Nat) (h : i * 512 ≤ L) : setSeg (u8s (fillB m pos L i)) (i * 512) ((u8s (diSec m (pos + (i : Int))).b).take (L - i * 512)) = u8s (fillB m pos L (i + 1)) := by
  have h1 : (u8s (diSec m (pos + (i : Int))).b).take (L - i * 512) = u8s ((diSec m (pos + (i : Int))).b.take (L - i * 512)) := by simp [u8s, List.map_take]
  have hs := (diSec m (pos + (i : Int))).h
  have h2 : (secsB m pos i).take L = secsB m pos i := List.take_of_length_le (by rw [secsB_len]; omega)
  rw [h1, fillB, h2, u8s_append]
  rw [setSeg_append_right (o := 0) (by rw [u8s_len, secsB_len]; omega)]
  unfold fillB
  rw [secsB_succ, List.take_append, secsB_len, h2, List.append_assoc, u8s_append]
  congr 1
  rw [u8s_append, setSeg, List.take_zero, List.nil_append, Nat.zero_add]
  congr 1
  simp only [u8s, List.map_replicate, List.drop_replicate, List.length_map, List.length_take, hs]
  congr 1
  omega
theorem fillB_end (m : DiM) (p : Ptr) (h : p.right = true) : fillB m p.pos p.len.toNat (sectors p.len).toNat = blkB m p := by
  have h1 := Ptr.right_iff.1 h
  have h2 := sectors_of (len := p.len) (by unfold sectors; rw [if_neg (by omega)]; omega)
  unfold fillB blkB
  rw [show p.len.toNat - (sectors p.len).toNat * 512 = 0 by omega]
  simp
end Go.Proofs.YtpcojkbljgpecaaGreat
namespace Go.Proofs.YtpcojkbljgpecaaGreat
open Go
set_option maxRecDepth 100000 in
theorem ptrPut_spec (ao : Option Addr) (c : Nat) (b : BL) (p : Ptr) {w0 : World} (hb : b.length ≤ 100000000) (hp : PtrNN p) : Spec Tryz.prog 215 #[.slice ao b.length c, p.val] w0 [] [dB ao c b] (fun v es1 ds1 => es1 = [oSl v 5 1 (b ++ ptrB p).length (u8s (b ++ ptrB p))] ∧ ds1 = []) := by
 refine Spec.intro (fun F D hs => ?_)
 have hp1 := hp.1
 have hp2 := hp.2.1
 have hp3 := hp.2.2
 refine Calls_of_EC (args := [.slice ao b.length c, p.val]) Tryz.func215 rfl rfl rfl ?_
 refine EC_rseq ?_
 refine EL_op rfl (O_box hs rfl rfl (fun b3 w hb3 hs => ?_))
 refine EL_run rfl (R_assign rfl) ?_
 refine EL_nil ?_
 refine EC_rseq ?_
 refine EL_run rfl (R_move rfl) ?_
 refine EL_run rfl (R_field fo_32_0 rfl) ?_
 refine EL_run rfl (R_lb (hs.at (i := 0) rfl) Tryz.isAgg3 rfl rfl) ?_
 refine EL_run rfl (R_convIU Tryz.underlying3 Tryz.underlying328 rfl (by omega) (by omega)) ?_
 refine EL_run rfl (R_field fo_32_2 rfl) ?_
 refine EL_run rfl (R_lb (hs.at (i := 0) rfl) Tryz.isAgg3 rfl rfl) ?_
 refine EL_run rfl (R_convIU Tryz.underlying3 Tryz.underlying328 rfl (by omega) (by omega)) ?_
 refine EL_op rfl (O_buildSlice [.tmp 8, .tmp 11] hs rfl ei_384 rfl rfl rfl (by simp [Value.cells]) (by decide) (fun b12 w hb12 hs => ?_))
 have hs := hs.freezeAt (i := 1) rfl
 refine EL_op rfl (O_call hs [] [0, 1] rfl rfl rfl Tryz.call275 (fixed_spec ao c b 4 (some ⟨b12, 0, none⟩) 2 [p.pos.toNat, p.len.toNat] (by intro n hn; simp only [List.mem_cons, List.not_mem_nil, or_false] at hn; omega) (by omega) (by omega) (by simp)) (fun v es1 ds1 w hPhi hs => ?_))
 obtain ⟨rfl, rfl⟩ := hPhi
 obtain ⟨a1, c1, rfl, hs⟩ := hs.freezeSl (i := 1) rfl
 have l1 : (b ++ [p.pos.toNat, p.len.toNat].flatMap (fixed1 4)).length = b.length + 8 := by simp [fixed1_len]
 refine EL_run rfl (R_assign rfl) ?_
 refine EL_nil ?_
 refine EC_rseq ?_
 refine EL_run rfl (R_move rfl) ?_
 refine EL_run rfl (R_field fo_32_1 rfl) ?_
 refine EL_run rfl (R_lb (hs.at (i := 0) rfl) Tryz.isAgg3 rfl rfl) ?_
 refine EL_run rfl (R_convIU Tryz.underlying3 Tryz.underlying328 rfl (by omega) (by omega)) ?_
 refine EL_op rfl (O_buildSlice [.tmp 17] hs rfl ei_384 rfl rfl rfl (size1 rfl) (by decide) (fun b18 w hb18 hs => ?_))
 have hs := hs.freezeAt (i := 1) rfl
 refine EL_op rfl (O_call hs [] [2, 3] rfl rfl rfl Tryz.call275 (fixed_spec a1 c1 _ 8 (some ⟨b18, 0, none⟩) 1 [p.birth.toNat] (by intro n hn; simp only [List.mem_cons, List.not_mem_nil, or_false] at hn; omega) (by omega) (by omega) (by simp)) (fun v es1 ds1 w hPhi hs => ?_))
 obtain ⟨rfl, rfl⟩ := hPhi
 obtain ⟨a2, c2, rfl, hs⟩ := hs.freezeSl (i := 1) rfl
 have l2 : ((b ++ [p.pos.toNat, p.len.toNat].flatMap (fixed1 4)) ++ [p.birth.toNat].flatMap (fixed1 8)).length = b.length + 16 := by rw [List.length_append, l1]; simp [fixed1_len]
 have hcr := p.crc.toNat_lt
 refine EL_run rfl (R_assign rfl) ?_
 refine EL_nil ?_
 refine EC_dseqS hs [4, 5, 8] [2] [0] [] (.take 0 (.take 1 (.take 2 (.take 3 (.take 6 (.take 7 (.fork 4 (.fork 5 (.fork 8 (.take 9 .done) (.done)) (.done)) (.done)))))))) mix_ok (by kernel_rfl) (fun w hs _ => ?_)
 refine EP_take rfl rfl rfl (fun _ => R_move rfl) ?_
 refine EP_take rfl rfl rfl (fun _ => R_field fo_32_3 rfl) ?_
 refine EP_read rfl rfl rfl (RdS.of hs rfl rfl) (fun _ hR => R_lb (hR.e 0 rfl rfl) Tryz.isAgg29 rfl rfl) ?_
 refine EP_take rfl rfl rfl (fun _ => R_convN rfl Tryz.underlying29 Tryz.underlying328 rfl (by have := u32_lt; simp [IntKind.bits] at *; omega)) ?_
 refine EP_take rfl rfl rfl (fun _ => R_field fo_32_4 rfl) ?_
 refine EP_take rfl rfl rfl (fun _ => R_sliceArr Tryz.underlying30 Tryz.sizeOf5 rfl) ?_
 refine EP_act rfl rfl (O_buildSlice [.tmp 23] hs rfl ei_384 rfl rfl rfl (size1 rfl) (by decide) (fun b24 w hb24 hs => ⟨(fun _ => RdS.of hs rfl rfl), ?_⟩))
 have hs := hs.freezeAt (i := 1) rfl
 refine EP_act rfl rfl (O_call hs [] [4, 5] rfl rfl rfl Tryz.call275 (fixed_spec a2 c2 _ 4 (some ⟨b24, 0, none⟩) 1 [p.crc.toNat] (by intro n hn; simp only [List.mem_cons, List.not_mem_nil, or_false] at hn; omega) (by omega) (by omega) (by simp)) (fun v es1 ds1 w hPhi hs => ?_))
 obtain ⟨rfl, rfl⟩ := hPhi
 have l3 : (((b ++ [p.pos.toNat, p.len.toNat].flatMap (fixed1 4)) ++ [p.birth.toNat].flatMap (fixed1 8)) ++ [p.crc.toNat].flatMap (fixed1 4)).length = b.length + 20 := by rw [List.length_append, l2]; simp [fixed1_len]
 refine ⟨(fun _ => RdS.of hs rfl rfl), ?_⟩
 refine EP_act rfl rfl (O_append hs (i := 1) rfl rfl ei_36 rfl rfl (Src.blk (news := u8s p.sha) (hs.at (i := 0) rfl) (by rw [u8s_len, p.hsha]) (fun j u hu => by show p.cells[4 + j]? = _; simpa [Ptr.cells, Ptr.l, Nat.add_comm 4 j] using hu)) (u8s_one _) (by omega) (by omega) (fun v28 w hs => ⟨(fun _ => RdS.of hs rfl rfl), ?_⟩))
 refine EP_take rfl rfl rfl (fun _ => R_assign rfl) ?_
 refine EP_done ?_
 refine EC_ret ?_
 have hs := hs.asSl (i := 1) rfl (b ++ ptrB p).length (u8s (b ++ ptrB p)) (by have h1 := ptrB_len p; have h2 : (b ++ ptrB p).length = b.length + (ptrB p).length := List.length_append; omega) (by rw [ptrB]; simp only [u8s_append, List.append_assoc])
 exact ⟨[_], ⟨rfl, trivial⟩, _, _, ⟨rfl, rfl⟩, (hs.fin [false, true] []).as rfl rfl⟩

set_option maxRecDepth 100000 in
theorem ptrTake_spec (q : Nat) (ao : Option Addr) (c : Nat) (l : BL) (k : Nat) {w0 : World} (hk : 1 ≤ k ∧ k ≤ 8) (hl : k ≤ l.length) (hb : l.length ≤ 100000000) : Spec Tryz.prog 231 #[.int .i64 (k : Int), .pointer (some ⟨q, 0, none⟩)] w0 [blk q #[.slice ao l.length c] 36] [dB ao c l] (fun v es1 ds1 => ∃ a2 c2, v = .int .u64 (leNat (l.take k) : Int) ∧ es1 = [blk q #[.slice a2 (l.drop k).length c2] 36] ∧ ds1 = [dB a2 c2 (l.drop k)]) := by
 refine Spec.intro (fun F D hs => ?_)
 refine Calls_of_EC (args := [.int .i64 (k : Int), .pointer (some ⟨q, 0, none⟩)]) Tryz.func231 rfl rfl rfl ?_
 refine EC_rseq ?_
 refine EL_run rfl (R_assign rfl) ?_
 refine EL_nil ?_
 have hs := (hs.dBtake (j := 0) rfl k).dBdrop (j := 0) rfl k hl
 have hcap := (hs.rd (i := 0) rfl).1.1
 have l1 := List.length_take (i := k) (l := l)
 have l2 := List.length_drop (i := k) (l := l)
 refine EC_rseq ?_
 refine EL_run rfl (R_lb (hs.at (i := 0) rfl) Tryz.isAgg36 rfl rfl) ?_
 refine EL_run rfl (R_move rfl) ?_
 refine EL_run rfl (R_sliceHi es_36 rfl rfl (by omega) (by omega)) ?_
 rw [show ((k : Int)).toNat = (l.take k).length by omega]
 refine EL_run rfl (R_move rfl) ?_
 refine EL_op rfl (O_call hs [] [1] rfl rfl rfl Tryz.call232 (take_spec ao c (l.take k) k hk (by omega) (by omega)) (fun v es1 ds1 w hPhi hs => ?_))
 obtain ⟨v2, rfl, rfl, rfl⟩ := hPhi
 rw [show (l.take k).take k = l.take k by rw [List.take_take, Nat.min_self]]
 refine EL_run rfl (R_move rfl) ?_
 refine EL_run rfl (R_extract rfl rfl) ?_
 refine EL_run rfl (R_extract rfl rfl) ?_
 refine EL_run rfl (R_extract rfl rfl) ?_
 refine EL_run rfl (R_assign rfl) ?_
 refine EL_run rfl (R_assign rfl) ?_
 refine EL_run rfl (R_assign rfl) ?_
 refine EL_nil ?_
 refine EC_rseq ?_
 refine EL_run rfl (R_lb (hs.at (i := 0) rfl) Tryz.isAgg36 rfl rfl) ?_
 refine EL_run rfl (R_move rfl) ?_
 refine EL_run rfl (R_sliceLo es_36 rfl rfl (by omega) (by omega)) ?_
 rw [show l.length - ((k : Int)).toNat = (l.drop k).length by omega, show ((k : Int)).toNat = k by omega]
 refine EL_op rfl (O_store hs (i := 0) rfl Tryz.sizeOf36 rfl rfl rfl rfl (fun w hs => ?_))
 refine EL_nil ?_
 refine EC_rseq ?_
 refine EL_run rfl (R_move rfl) ?_
 refine EL_run rfl (R_assign rfl) ?_
 refine EL_nil ?_
 refine EC_ret ?_
 exact ⟨[_], ⟨rfl, trivial⟩, _, _, ⟨_, _, rfl, rfl, rfl⟩, (hs.fin [true, false] [2]).as rfl rfl⟩

set_option maxRecDepth 100000 in
theorem ptrRead_spec (ao : Option Addr) (c : Nat) (b : BL) {w0 : World} (hb : b.length ≤ 100000000) : Spec Tryz.prog 155 #[.slice ao b.length c] w0 [] [dB ao c b] (fun v es1 ds1 => v = .tuple #[(ptrRead b).1.val, .int .i64 (ptrRead b).2] ∧ es1 = [] ∧ ds1 = []) := by
 refine Spec.intro (fun F D hs => ?_)
 refine Calls_of_EC (args := [.slice ao b.length c]) Tryz.func155 rfl rfl rfl ?_
 refine EC_rseq ?_
 refine EL_op rfl (O_box hs rfl rfl (fun b1 w hb1 hs => ?_))
 refine EL_op rfl (O_alloc hs rfl Tryz.zeroValue32 (fun b2 w hb2 hs => ?_))
 have hs := hs.as (es' := [blk b1 #[.slice ao b.length c] 36, blk b2 Ptr.none.cells 32]) (ds' := [dB ao c b]) (by kernel_rfl) rfl
 refine EL_run rfl (R_assign rfl) ?_
 refine EL_nil ?_
 refine EC_seq ?_
 refine EC_rseq ?_
 refine EL_run rfl (R_lb (hs.at (i := 0) rfl) Tryz.isAgg36 rfl rfl) ?_
 refine EL_run rfl (R_lenS Tryz.underlying36 rfl) ?_
 refine EL_run rfl (R_lss rfl rfl) ?_
 refine EL_nil ?_
 refine EC_cond rfl (fun hc7 => ?_) (fun hc7 => ?_)
 ·have hc7p := cvt hc7; try dsimp only at hc7p
  refine EC_rseq ?_
  refine EL_run rfl (R_buildS (cs := Ptr.none.cells) [] pl_32 Tryz.zeroValue32 rfl rfl rfl) ?_
  refine EL_op rfl (O_storeW hs (i := 1) rfl sz_32 rfl rfl (Ptr.size _) (Ptr.size _) (Ptr.oneA _) (fun w hs => ?_))
  refine EL_run rfl (R_assign rfl) ?_
  refine EL_nil ?_
  refine EC_ret ?_
  refine Then_r ?_
  exact ⟨[_, _], ⟨res_cell hs (i := 1) rfl Tryz.sizeOf32 Tryz.isAgg32 rfl (Ptr.size _), rfl, trivial⟩, _, _, ⟨by rw [show ptrRead b = (Ptr.none, 10) by rw [ptrRead, if_pos (by omega)]]; rfl, rfl, rfl⟩, (hs.fin [] []).as rfl rfl⟩
 ·have hc7p := cvt hc7; try dsimp only at hc7p
  refine EC_skip ?_
  refine Then_n ?_
  refine EC_rseq ?_
  refine EL_run rfl (R_lb (hs.at (i := 0) rfl) Tryz.isAgg36 rfl rfl) ?_
  refine EL_run rfl (R_sliceHi es_36 rfl rfl (by omega) (by have := (hs.rd (i := 0) rfl).1.1; omega)) ?_
  have hs := hs.dBtake (j := 0) rfl 52
  obtain ⟨l, hl⟩ : ∃ l, l = b.take 52 := ⟨_, rfl⟩
  have ll : l.length = 52 := by rw [hl, List.length_take]; omega
  rw [← hl] at hs
  rw [show ((52 : Int)).toNat = l.length by omega]
  obtain ⟨a1, ha1⟩ : ∃ z, z = ao := ⟨_, rfl⟩
  obtain ⟨c1, hc1⟩ : ∃ z, z = c := ⟨_, rfl⟩
  rw [← ha1, ← hc1] at hs
  rw [← ha1, ← hc1]
  have q1 : leNat (l.take 4) < 4294967296 := by have h1 := leNat_lt (l.take 4); rw [List.length_take, ll] at h1; exact h1
  have q2 : leNat ((l.drop 4).take 4) < 4294967296 := by have h1 := leNat_lt ((l.drop 4).take 4); rw [List.length_take, List.length_drop, ll] at h1; exact h1
  have d1 := List.length_drop (i := 4) (l := l)
  have d2 := List.length_drop (i := 4) (l := l.drop 4)
  have d3 := List.length_drop (i := 8) (l := (l.drop 4).drop 4)
  have d4 := List.length_drop (i := 4) (l := ((l.drop 4).drop 4).drop 8)
  refine EL_op rfl (O_store hs (i := 0) rfl Tryz.sizeOf36 rfl rfl rfl rfl (fun w hs => ?_))
  refine EL_nil ?_
  refine EC_rseq ?_
  refine EL_run rfl (R_makeFunc rfl rfl) ?_
  refine EL_run rfl (R_assign rfl) ?_
  refine EL_nil ?_
  refine EC_rseq ?_
  refine EL_run rfl (R_move rfl) ?_
  refine EL_op rfl (O_call hs [true] [1] rfl rfl rfl Tryz.call231 (ptrTake_spec b1 a1 c1 (l) 4 (by omega) (by omega) (by omega)) (fun v es1 ds1 w hPhi hs => ?_))
  obtain ⟨a2, c2, rfl, rfl, rfl⟩ := hPhi
  refine EL_run rfl (R_convS Tryz.underlying328 Tryz.underlying3 rfl (by omega) (by omega)) ?_
  refine EL_run rfl (R_move rfl) ?_
  refine EL_op rfl (O_call hs [true] [2] rfl rfl rfl Tryz.call231 (ptrTake_spec b1 a2 c2 (l.drop 4) 4 (by omega) (by omega) (by omega)) (fun v es1 ds1 w hPhi hs => ?_))
  obtain ⟨a3, c3, rfl, rfl, rfl⟩ := hPhi
  refine EL_run rfl (R_convS Tryz.underlying328 Tryz.underlying3 rfl (by omega) (by omega)) ?_
  refine EL_run rfl (R_field fo_32_0 rfl) ?_
  refine EL_op rfl (O_store hs (i := 1) rfl Tryz.sizeOf3 rfl rfl rfl (by rw [Ptr.size]; rfl) (fun w hs => ?_))
  rw [ptr_set0] at hs
  refine EL_run rfl (R_field fo_32_2 rfl) ?_
  refine EL_op rfl (O_store hs (i := 1) rfl Tryz.sizeOf3 rfl rfl rfl (by rw [Ptr.size]; rfl) (fun w hs => ?_))
  rw [ptr_set2] at hs
  refine EL_nil ?_
  refine EC_rseq ?_
  refine EL_run rfl (R_move rfl) ?_
  refine EL_op rfl (O_call hs [true] [3] rfl rfl rfl Tryz.call231 (ptrTake_spec b1 a3 c3 ((l.drop 4).drop 4) 8 (by omega) (by omega) (by omega)) (fun v es1 ds1 w hPhi hs => ?_))
  obtain ⟨a4, c4, rfl, rfl, rfl⟩ := hPhi
  refine EL_run rfl (R_convI Tryz.underlying328 Tryz.underlying3 rfl) ?_
  refine EL_run rfl (R_field fo_32_1 rfl) ?_
  refine EL_op rfl (O_store hs (i := 1) rfl Tryz.sizeOf3 rfl rfl rfl (by rw [Ptr.size]; rfl) (fun w hs => ?_))
  rw [ptr_set1] at hs
  refine EL_nil ?_
  refine EC_rseq ?_
  refine EL_run rfl (R_move rfl) ?_
  refine EL_op rfl (O_call hs [true] [4] rfl rfl rfl Tryz.call231 (ptrTake_spec b1 a4 c4 (((l.drop 4).drop 4).drop 8) 4 (by omega) (by omega) (by omega)) (fun v es1 ds1 w hPhi hs => ?_))
  obtain ⟨a5, c5, rfl, rfl, rfl⟩ := hPhi
  refine EL_run rfl (R_conv64to32 Tryz.underlying328 Tryz.underlying29 rfl) ?_
  refine EL_run rfl (R_field fo_32_3 rfl) ?_
  refine EL_op rfl (O_store hs (i := 1) rfl Tryz.sizeOf29 rfl rfl rfl (by rw [Ptr.size]; rfl) (fun w hs => ?_))
  rw [ptr_set3] at hs
  refine EL_nil ?_
  have hsh : ((((l.drop 4).drop 4).drop 8).drop 4).length = 32 := by omega
  obtain ⟨bb, oo, hao⟩ := dSl.some (hs.rd (i := 5) rfl) (u8s_nil (i := 0) (by omega))
  subst hao
  refine EC_rseq ?_
  refine EL_run rfl (R_lb (hs.at (i := 0) rfl) Tryz.isAgg36 rfl rfl) ?_
  refine EL_run rfl (R_arrPtr Tryz.underlying30 rfl (by omega)) ?_
  refine EL_run rfl (R_ldR (i := 0) (hs.rd (i := 5) rfl) Tryz.isAgg30 Tryz.sizeOf30 rfl rfl (by rw [u8s_len, hsh]) (u8s_nil (i := 0) (by omega)) (fun j u hu => by rw [Nat.zero_add]; exact hu)) ?_
  refine EL_run rfl (R_field fo_32_4 rfl) ?_
  refine EL_op rfl (O_storeP hs (i := 1) rfl (by rw [u8s_len, hsh]; exact Tryz.sizeOf30) rfl rfl rfl (u8s_one _) (by rw [u8s_len, hsh, Ptr.size]; omega) (fun w hs => ?_))
  rw [show 0 + 4 = 4 from rfl, ptr_set4 _ _ hsh] at hs
  obtain ⟨p, hp⟩ : ∃ p, p = ptrP b := ⟨_, rfl⟩
  have hpe : (⟨(leNat (l.take 4) : Int), IntKind.i64.wrap (leNat (((l.drop 4).drop 4).take 8) : Int), (leNat ((l.drop 4).take 4) : Int), UInt32.ofNat (leNat ((((l.drop 4).drop 4).drop 8).take 4)), (((l.drop 4).drop 4).drop 8).drop 4, hsh⟩ : Ptr) = p := by
    have hdt : ∀ (i k : Nat), i + k ≤ 52 → (l.drop i).take k = (b.drop i).take k := fun i k h => by
      rw [hl, List.drop_take, List.take_take, Nat.min_eq_left (by omega)]
    have e1 : l.take 4 = b.take 4 := by rw [hl, List.take_take]; rfl
    have e2 := hdt 8 8 (by omega)
    have e3 := hdt 4 4 (by omega)
    have e4 := hdt 16 4 (by omega)
    have e5 : l.drop 20 = (b.drop 20).take 32 ++ List.replicate (32 - ((b.drop 20).take 32).length) 0 := by
      rw [hl, List.drop_take, List.length_take, List.length_drop, show 32 - min 32 (b.length - 20) = 0 by omega]
      simp
    rw [hp, Ptr.ext_iff']
    simp only [ptrP, List.drop_drop]
    exact ⟨by rw [e1], by rw [e2], by rw [e3], by rw [e4], e5⟩
  rw [hpe] at hs
  refine EL_nil ?_
  refine EC_seq ?_
  refine EC_rseq ?_
  refine EL_run rfl (R_lw (hs.at (i := 1) rfl) Tryz.isAgg32 Tryz.sizeOf32 rfl (Ptr.size _)) ?_
  refine EL_op rfl (O_call hs [] [] rfl rfl rfl Tryz.call29 (ptrNone_spec p) (fun v es1 ds1 w hPhi hs => ?_))
  obtain ⟨rfl, rfl, rfl⟩ := hPhi
  refine EL_run rfl (R_not rfl) ?_
  refine EL_run rfl (R_move rfl) ?_
  refine EL_split 35 rfl (fun hg3 => ?_) (fun hg3 => ?_)
  ·have hg3p := cvt hg3; try dsimp only at hg3p
   refine EL_want rfl rfl hg3 ?_
   refine EL_run rfl (R_lw (hs.at (i := 1) rfl) Tryz.isAgg32 Tryz.sizeOf32 rfl (Ptr.size _)) ?_
   refine EL_want rfl rfl hg3 ?_
   refine EL_op rfl (O_call hs [] [] rfl rfl rfl Tryz.call112 (right_spec p) (fun v es1 ds1 w hPhi hs => ?_))
   obtain ⟨rfl, rfl, rfl⟩ := hPhi
   refine EL_want rfl rfl hg3 ?_
   refine EL_run rfl (R_not rfl) ?_
   refine EL_run rfl (R_pickT rfl hg3 rfl) ?_
   refine EL_nil ?_
   refine EC_cond rfl (fun hc39 => ?_) (fun hc39 => ?_)
   ·have hc39p := cvt hc39; try dsimp only at hc39p
    have hgv : ptrRead b = (Ptr.none, 11) := by rw [ptrRead, if_neg (by omega), ← hp, if_pos ⟨hg3p, hc39p⟩]
    refine EC_rseq ?_
    refine EL_run rfl (R_buildS (cs := Ptr.none.cells) [] pl_32 Tryz.zeroValue32 rfl rfl rfl) ?_
    refine EL_op rfl (O_storeW hs (i := 1) rfl sz_32 rfl rfl (Ptr.size _) (Ptr.size _) (Ptr.oneA _) (fun w hs => ?_))
    refine EL_run rfl (R_assign rfl) ?_
    refine EL_nil ?_
    refine EC_ret ?_
    refine Then_r ?_
    exact ⟨[_, _], ⟨res_cell hs (i := 1) rfl Tryz.sizeOf32 Tryz.isAgg32 rfl (Ptr.size _), rfl, trivial⟩, _, _, ⟨by rw [hgv]; rfl, rfl, rfl⟩, (hs.fin [] []).as rfl rfl⟩
   ·have hc39p := cvt hc39; try dsimp only at hc39p
    refine EC_skip ?_
    refine Then_n ?_
    have hgv : ptrRead b = (p, 0) := by
      rw [ptrRead, if_neg (by omega), ← hp, if_neg]
      rintro ⟨h1, h2⟩
      first
        | exact hg3p h1
        | exact h1 hg3p
        | exact Bool.noConfusion (hc39p.symm.trans h2)
    refine EC_rseq ?_
    refine EL_run rfl (R_lw (hs.at (i := 1) rfl) Tryz.isAgg32 Tryz.sizeOf32 rfl (Ptr.size _)) ?_
    refine EL_op rfl (O_storeW hs (i := 1) rfl sz_32 rfl rfl (Ptr.size _) (Ptr.size _) (Ptr.oneA _) (fun w hs => ?_))
    refine EL_run rfl (R_assign rfl) ?_
    refine EL_nil ?_
    refine EC_ret ?_
    exact ⟨[_, _], ⟨res_cell hs (i := 1) rfl Tryz.sizeOf32 Tryz.isAgg32 rfl (Ptr.size _), rfl, trivial⟩, _, _, ⟨by rw [hgv]; rfl, rfl, rfl⟩, (hs.fin [] []).as rfl rfl⟩
  ·have hg3p := cvt hg3; try dsimp only at hg3p
   refine EL_pass rfl rfl rfl hg3 ?_
   refine EL_pass rfl rfl rfl hg3 ?_
   refine EL_pass rfl rfl rfl hg3 ?_
   refine EL_run rfl (R_pickF rfl hg3 rfl) ?_
   refine EL_nil ?_
   refine EC_cond rfl (fun hcx => ?_) (fun hcx => ?_)
   ·exact Bool.noConfusion hcx
   ·skip
    refine EC_skip ?_
    refine Then_n ?_
    have hgv : ptrRead b = (p, 0) := by
      rw [ptrRead, if_neg (by omega), ← hp, if_neg]
      rintro ⟨h1, h2⟩
      first
        | exact hg3p h1
        | exact h1 hg3p
        | exact Bool.noConfusion (hc39p.symm.trans h2)
    refine EC_rseq ?_
    refine EL_run rfl (R_lw (hs.at (i := 1) rfl) Tryz.isAgg32 Tryz.sizeOf32 rfl (Ptr.size _)) ?_
    refine EL_op rfl (O_storeW hs (i := 1) rfl sz_32 rfl rfl (Ptr.size _) (Ptr.size _) (Ptr.oneA _) (fun w hs => ?_))
    refine EL_run rfl (R_assign rfl) ?_
    refine EL_nil ?_
    refine EC_ret ?_
    exact ⟨[_, _], ⟨res_cell hs (i := 1) rfl Tryz.sizeOf32 Tryz.isAgg32 rfl (Ptr.size _), rfl, trivial⟩, _, _, ⟨by rw [hgv]; rfl, rfl, rfl⟩, (hs.fin [] []).as rfl rfl⟩

set_option maxRecDepth 100000 in
theorem diRead_spec (d : Nat) (g : DiG) (m : DiM) (i : Int) {w0 : World} (hm : m.ok) : Spec Tryz.prog 30 #[.pointer (some ⟨d, 0, none⟩), .int .i64 i] w0 (diE d g m) [] (fun v es1 ds1 => ∃ ao c, v = .tuple #[.slice ao (diReadB m i).length c, .int .i64 (diCheck m i)] ∧ es1 = (diE d g m) ∧ ds1 = [dB ao c (diReadB m i)]) := by
 refine Spec.intro (fun F D hs => ?_)
 refine Calls_of_EC (args := [.pointer (some ⟨d, 0, none⟩), .int .i64 i]) Tryz.func30 rfl rfl rfl ?_
 refine EC_rseq ?_
 refine EL_run rfl (R_assign rfl) ?_
 refine EL_run rfl (R_assign rfl) ?_
 refine EL_nil ?_
 refine EC_seq ?_
 refine EC_rseq ?_
 refine EL_run rfl (R_move rfl) ?_
 refine EL_run rfl (R_move rfl) ?_
 refine EL_op rfl (O_call hs [true] [] rfl rfl rfl Tryz.call108 (diCheck_spec d g m i) (fun v es1 ds1 w hPhi hs => ?_))
 obtain ⟨rfl, rfl, rfl⟩ := hPhi
 refine EL_run rfl (R_assign rfl) ?_
 refine EL_nil ?_
 refine EC_rseq ?_
 refine EL_run rfl (R_move rfl) ?_
 refine EL_run rfl (R_neq rfl rfl) ?_
 refine EL_nil ?_
 refine EC_cond rfl (fun hc13 => ?_) (fun hc13 => ?_)
 ·have hc13p := cvt hc13; try dsimp only at hc13p
  have hs := hs.nilD 1
  have hrb : diReadB m i = [] := by rw [diReadB, if_neg hc13p]
  refine EC_rseq ?_
  refine EL_run rfl (R_move rfl) ?_
  refine EL_run rfl (R_assign rfl) ?_
  refine EL_run rfl (R_assign rfl) ?_
  refine EL_nil ?_
  refine EC_ret ?_
  refine Then_r ?_
  exact ⟨[_, _], ⟨rfl, rfl, trivial⟩, _, _, ⟨none, 0, by rw [hrb]; rfl, rfl, rfl⟩, (hs.fin [true, true, true] [0]).as rfl (by rw [hrb]; rfl)⟩
 ·have hc13p := cvt hc13; try dsimp only at hc13p
  refine EC_skip ?_
  refine Then_n ?_
  have hck : diCheck m i = 0 := Decidable.not_not.1 hc13p
  have hrg : ¬ (i < 0 ∨ (m.lasts.length : Int) ≤ i) := fun h => by unfold diCheck at hck; rw [if_pos h] at hck; cases hck
  have hrb : diReadB m i = (diSec m i).b := by rw [diReadB, if_pos hck]
  have hse := (diSec m i).h
  refine EC_rseq ?_
  refine EL_run rfl (R_move rfl) ?_
  refine EL_run rfl (R_nilCheck rfl) ?_
  refine EL_run rfl (R_field fo_205_1 rfl) ?_
  refine EL_run rfl (R_lb (hs.at (i := 0) rfl) Tryz.isAgg203 rfl rfl) ?_
  refine EL_run rfl (R_move rfl) ?_
  refine EL_run rfl (R_lookupOk (hs.at (i := 2) rfl) Tryz.underlying203 Tryz.underlying3 Tryz.zeroValue200 rfl rfl) ?_
  rw [show (Value.tuple #[(mget (diMap m) i).getD _, Value.bool (mget (diMap m) i).isSome] : Value) = .tuple #[((sget m.waits i).getD Sec.zero).val, .bool (sget m.waits i).isSome] from by rw [show mget (diMap m) i = (sget m.waits i).map Sec.val from diMap_get _ _]; cases sget m.waits i <;> rfl]
  refine EL_run rfl (R_move rfl) ?_
  refine EL_run rfl (R_extract rfl rfl) ?_
  refine EL_run rfl (R_extract rfl rfl) ?_
  refine EL_op rfl (O_alloc hs rfl Tryz.zeroValue200 (fun b7 w hb7 hs => ?_))
  have hs := hs.as (es' := diE d g m ++ [blk b7 Sec.zero.l.toArray 200]) (ds' := []) (by kernel_rfl) rfl
  refine EL_op rfl (O_storeW hs (i := 3) rfl sz_200 rfl rfl (by rw [List.size_toArray, Sec.len]) (by rw [List.size_toArray, Sec.len]) (u8s_oneA _) (fun w hs => ?_))
  refine EL_run rfl (R_assign rfl) ?_
  refine EL_nil ?_
  refine EC_seq ?_
  refine EC_rseq ?_
  refine EL_run rfl (R_move rfl) ?_
  refine EL_run rfl (R_not rfl) ?_
  refine EL_nil ?_
  refine EC_cond rfl (fun hc25 => ?_) (fun hc25 => ?_)
  ·have hc25p := cvt hc25; try dsimp only at hc25p
   have hno : sget m.waits i = none := by simpa using hc25p
   have hib : i.toNat < m.lasts.length := by omega
   rw [hno] at hs
   refine EC_region ?_
   refine EL_run rfl (R_move rfl) ?_
   refine EL_run rfl (R_nilCheck rfl) ?_
   refine EL_run rfl (R_field fo_205_0 rfl) ?_
   refine EL_run rfl (R_lb (hs.at (i := 0) rfl) Tryz.isAgg202 rfl rfl) ?_
   refine EL_run rfl (R_move rfl) ?_
   refine EL_run rfl (R_idx es_202 rfl rfl rfl (by omega) (by omega)) ?_
   refine EL_run rfl (R_ldE (i := i.toNat) (f := Sec.l) (oSl.toD (hs.at (i := 1) rfl)) Sec.len Tryz.isAgg200 Tryz.sizeOf200 rfl (by simp) (List.getElem?_eq_getElem hib) (by decide)) ?_
   refine EL_op rfl (O_storeW hs (i := 3) rfl sz_200 rfl rfl (by rw [List.size_toArray, Sec.len]) (by rw [List.size_toArray, Sec.len]) (u8s_oneA _) (fun w hs => ?_))
   have hsec : m.lasts[i.toNat] = diSec m i := by rw [diSec, hno, Option.getD_none, List.getD_eq_getElem?_getD, List.getElem?_eq_getElem hib]; rfl
   rw [hsec] at hs
   refine EL_nil ?_
   refine Then_n ?_
   refine EC_rseq ?_
   refine EL_run rfl (R_sliceArr Tryz.underlying200 Tryz.sizeOf5 rfl) ?_
   have hs := hs.freezeBlk (i := 3) (m := 512) (sz := 1) (cs := u8s (diSec m i).b) rfl (by rw [u8s_len, hse])
   refine EL_run rfl (R_assign rfl) ?_
   refine EL_run rfl (R_assign rfl) ?_
   refine EL_nil ?_
   refine EC_ret ?_
   exact ⟨[_, _], ⟨rfl, rfl, trivial⟩, _, _, ⟨some ⟨b7, 0, none⟩, 512, by rw [hrb, hck, hse]; rfl, rfl, rfl⟩, (hs.fin [true, true, true] [0]).as rfl (by rw [hrb]; show [dSl _ 512 512 1 _] = [dSl _ _ _ _ _]; rw [hse])⟩
  ·have hc25p := cvt hc25; try dsimp only at hc25p
   obtain ⟨s, hsm⟩ : ∃ s, sget m.waits i = some s := Option.isSome_iff_exists.1 hc25p
   have hsec : ((sget m.waits i).getD Sec.zero) = diSec m i := by rw [diSec, hsm]; rfl
   rw [hsec] at hs
   refine EC_skip ?_
   refine Then_n ?_
   refine EC_rseq ?_
   refine EL_run rfl (R_sliceArr Tryz.underlying200 Tryz.sizeOf5 rfl) ?_
   have hs := hs.freezeBlk (i := 3) (m := 512) (sz := 1) (cs := u8s (diSec m i).b) rfl (by rw [u8s_len, hse])
   refine EL_run rfl (R_assign rfl) ?_
   refine EL_run rfl (R_assign rfl) ?_
   refine EL_nil ?_
   refine EC_ret ?_
   exact ⟨[_, _], ⟨rfl, rfl, trivial⟩, _, _, ⟨some ⟨b7, 0, none⟩, 512, by rw [hrb, hck, hse]; rfl, rfl, rfl⟩, (hs.fin [true, true, true] [0]).as rfl (by rw [hrb]; show [dSl _ 512 512 1 _] = [dSl _ _ _ _ _]; rw [hse])⟩
end Go.Proofs.YtpcojkbljgpecaaGreat
namespace Go.Proofs.YtpcojkbljgpecaaGreat
open Go
structure NdM where
  lvl : Int
  keys : List BL
  vals : List BL
  kids : List Ptr
/-- A node, as it lies. -/
structure Nd where
  lvl : Int
  ko : Option Addr
  kc : Nat
  keys : List SB
  vo : Option Addr
  vc : Nat
  vals : List SB
  po : Option Addr
  pc : Nat
  kids : List Ptr
def Nd.cells (n : Nd) : Array Value := #[.int .i64 n.lvl, .slice n.ko n.keys.length n.kc, .slice n.vo n.vals.length n.vc, .slice n.po n.kids.length n.pc]
def Nd.val (n : Nd) : Value := .agg n.cells
abbrev Nd.ds (n : Nd) : List Asn := [dSS n.ko n.kc n.keys, dSS n.vo n.vc n.vals, dP n.po n.pc n.kids]
def Nd.m (n : Nd) : NdM := ⟨n.lvl, n.keys.map SB.b, n.vals.map SB.b, n.kids⟩
def Nd.zero : Nd := ⟨0, none, 0, [], none, 0, [], none, 0, []⟩
def NdM.zero : NdM := ⟨0, [], [], []⟩
theorem Nd.zero_m : Nd.zero.m = NdM.zero := rfl
theorem Nd.oneA (n : Nd) : (n.cells.all (·.oneCell')) = true := by simp [Nd.cells, Value.oneCell']
def NdM.lists (n : NdM) : Prop := if n.lvl = 0 then n.vals.length = n.keys.length ∧ n.kids.length = 0 else n.kids.length = n.keys.length ∧ n.vals.length = 0
/-- A key at its place. -/
def keyOk (l : List BL) (i : Nat) : Prop := ∀ k, l[i]? = some k → k.length ≤ 160 ∧ ∀ j q, j + 1 = i → l[j]? = some q → bl q k = true
structure NdM.shape (n : NdM) : Prop where
  lvl : 0 ≤ n.lvl ∧ n.lvl ≤ 12
  some : 1 ≤ n.keys.length ∧ n.keys.length ≤ 4096
  lists : n.lists
  keys : ∀ i, i < n.keys.length → keyOk n.keys i
  vals : ∀ v, v ∈ n.vals → v.length ≤ 1024
  kids : ∀ p, p ∈ n.kids → p.right = true
theorem NdM.shape.vlen {n : NdM} (h : n.shape) : n.vals.length ≤ 4096 := by
  have h1 := h.lists
  have h2 := h.some
  unfold NdM.lists at h1
  split at h1 <;> omega
theorem NdM.shape.plen {n : NdM} (h : n.shape) : n.kids.length ≤ 4096 := by
  have h1 := h.lists
  have h2 := h.some
  unfold NdM.lists at h1
  split at h1 <;> omega
/-- How many bytes two keys begin with alike. -/
def shr : BL → BL → Nat
  | x :: a, y :: b => if x = y then shr a b + 1 else 0
  | _, _ => 0
theorem shr_le : ∀ a b : BL, shr a b ≤ a.length ∧ shr a b ≤ b.length
  | [], b => by cases b <;> simp [shr]
  | x :: a, [] => by simp [shr]
  | x :: a, y :: b => by
    have := shr_le a b
    rw [shr]
    split <;> simp only [List.length_cons] <;> omega
theorem shr_take : ∀ a b : BL, a.take (shr a b) = b.take (shr a b)
  | [], b => by cases b <;> simp [shr]
  | x :: a, [] => by simp [shr]
  | x :: a, y :: b => by
    rw [shr]
    split
    · rename_i h; subst h; rw [List.take_succ_cons, List.take_succ_cons, shr_take a b]
    · simp
theorem shr_step {a b : BL} {n : Nat} (ha : n < a.length) (hb : n < b.length) : shr (a.drop n) (b.drop n) = if a[n] = b[n] then shr (a.drop (n + 1)) (b.drop (n + 1)) + 1 else 0 := by
  rw [List.drop_eq_getElem_cons ha, List.drop_eq_getElem_cons hb, shr]
theorem shr_end {a b : BL} {n : Nat} (h : a.length ≤ n ∨ b.length ≤ n) : shr (a.drop n) (b.drop n) = 0 := by
  rcases h with h | h
  · rw [List.drop_eq_nil_of_le h]; cases b.drop n <;> rfl
  · rw [List.drop_eq_nil_of_le h]; cases a.drop n <;> rfl
/-- An entry's bytes: its key behind another one, and what stands with it. -/
def entB (last k body : BL) : BL := short (shr last k) ++ textB (k.drop (shr last k)) ++ body
def entsB : BL → List (BL × BL) → BL
  | _, [] => []
  | last, (k, body) :: r => entB last k body ++ entsB k r
def lastK (last : BL) : List (BL × BL) → BL
  | [] => last
  | (k, _) :: r => lastK k r
theorem entsB_snoc (k body : BL) : ∀ (l : List (BL × BL)) (last : BL), entsB last (l ++ [(k, body)]) = entsB last l ++ entB (lastK last l) k body
  | [], last => by simp [entsB, lastK]
  | (q, z) :: l, last => by rw [List.cons_append, entsB, entsB_snoc k body l q, entsB, lastK, List.append_assoc]
theorem lastK_snoc (k body : BL) : ∀ (l : List (BL × BL)) (last : BL), lastK last (l ++ [(k, body)]) = k
  | [], _ => rfl
  | (q, z) :: l, _ => by rw [List.cons_append, lastK, lastK_snoc k body l q]
def NdM.bodies (n : NdM) : List BL := if n.lvl = 0 then n.vals.map textB else n.kids.map ptrB
theorem NdM.bodies_leaf {n : NdM} (h : n.lvl = 0) : n.bodies = n.vals.map textB := if_pos h
theorem NdM.bodies_node {n : NdM} (h : ¬ n.lvl = 0) : n.bodies = n.kids.map ptrB := if_neg h
def NdM.ents (n : NdM) : List (BL × BL) := n.keys.zip n.bodies
def leafB (n : NdM) : BL := short n.lvl.toNat ++ short n.keys.length ++ entsB [] n.ents
theorem short_len_le {n : Nat} (h : n < 2 ^ 64) : (short n).length ≤ 10 := by rw [short_len]; exact groups_le n h
theorem textB_len_le {s : BL} (h : s.length < 2 ^ 64) : (textB s).length ≤ s.length + 10 := by
  have := short_len_le h
  simp only [textB, List.length_append]; omega
theorem NdM.shape.bodies_len {n : NdM} (h : n.shape) : n.bodies.length = n.keys.length := by
  have h1 := h.lists
  unfold NdM.lists at h1
  unfold NdM.bodies
  split
  · rename_i h2; rw [if_pos h2] at h1; simp [h1.1]
  · rename_i h2; rw [if_neg h2] at h1; simp [h1.1]
theorem NdM.shape.body_le {n : NdM} (h : n.shape) {b : BL} (hb : b ∈ n.bodies) : b.length ≤ 1034 := by
  unfold NdM.bodies at hb
  split at hb
  · obtain ⟨v, hv, rfl⟩ := List.mem_map.1 hb
    have h1 := h.vals v hv
    have := textB_len_le (s := v) (by omega)
    omega
  · obtain ⟨p, _, rfl⟩ := List.mem_map.1 hb
    rw [ptrB_len]; omega
theorem entB_len {last k body : BL} (hk : k.length ≤ 160) : (entB last k body).length ≤ 180 + body.length := by
  have h1 := (shr_le last k).2
  have h2 := short_len_le (n := shr last k) (by omega)
  have h3 := textB_len_le (s := k.drop (shr last k)) (by rw [List.length_drop]; omega)
  rw [List.length_drop] at h3
  simp only [entB, List.length_append]; omega
theorem entsB_len : ∀ (l : List (BL × BL)) (last : BL), (∀ e, e ∈ l → e.1.length ≤ 160 ∧ e.2.length ≤ 1034) → (entsB last l).length ≤ l.length * 1214
  | [], _, _ => by simp [entsB]
  | (k, b) :: l, last, h => by
    have h1 := h (k, b) List.mem_cons_self
    have h2 := entsB_len l k (fun e he => h e (List.mem_cons_of_mem _ he))
    have h3 := entB_len (last := last) (body := b) h1.1
    dsimp only at h1 h3
    simp only [entsB, List.length_append, List.length_cons, Nat.succ_mul]; omega
theorem NdM.shape.key_le {n : NdM} (h : n.shape) {k : BL} (hk : k ∈ n.keys) : k.length ≤ 160 := by
  obtain ⟨i, hi, rfl⟩ := List.getElem_of_mem hk
  exact (h.keys i hi _ (List.getElem?_eq_getElem hi)).1
theorem NdM.shape.ents_ok {n : NdM} (h : n.shape) : ∀ e, e ∈ n.ents → e.1.length ≤ 160 ∧ e.2.length ≤ 1034 := fun e he => by
  have h1 := List.of_mem_zip he
  exact ⟨h.key_le h1.1, h.body_le h1.2⟩
theorem NdM.shape.ents_len {n : NdM} (h : n.shape) : n.ents.length = n.keys.length := by
  unfold NdM.ents
  rw [List.length_zip, h.bodies_len, Nat.min_self]
theorem NdM.shape.leafB_le {n : NdM} (h : n.shape) : (leafB n).length ≤ 6000000 := by
  have h1 := entsB_len n.ents [] h.ents_ok
  have h2 := h.some
  have h3 := h.lvl
  rw [h.ents_len] at h1
  have h4 := short_len_le (n := n.lvl.toNat) (by omega)
  have h5 := short_len_le (n := n.keys.length) (by omega)
  simp only [leafB, List.length_append]; omega
def NdM.right (n : NdM) : Prop := n.shape ∧ (leafB n).length ≤ 4096
theorem sb_get {l : List SB} {i : Nat} (h : i < l.length) : (l.map SB.b)[i]? = some l[i].b := by simp [h]
open Classical in
/-- A node's bytes, and an error's number. -/
noncomputable def leafPut (n : NdM) : BL × Int := if n.shape then (if 4096 < (leafB n).length then ([], 3) else (leafB n, 0)) else ([], 2)
theorem ents_succ {n : NdM} (h : n.shape) {i : Nat} (hi : i < n.keys.length) : ∃ b, n.bodies[i]? = some b ∧ n.ents.take (i + 1) = n.ents.take i ++ [(n.keys[i], b)] := by
  have hb : i < n.bodies.length := by rw [h.bodies_len]; exact hi
  refine ⟨n.bodies[i], List.getElem?_eq_getElem hb, ?_⟩
  have he : i < n.ents.length := by rw [h.ents_len]; exact hi
  rw [List.take_succ_eq_append_getElem he]
  simp [NdM.ents]
theorem head_le {n : NdM} (h : n.shape) (i : Nat) : (short n.lvl.toNat ++ short n.keys.length ++ entsB [] (n.ents.take i)).length ≤ 6000000 := by
  have h1 := entsB_len (n.ents.take i) [] (fun e he => h.ents_ok e (List.mem_of_mem_take he))
  have h2 := h.some
  have h3 := h.lvl
  rw [List.length_take, h.ents_len] at h1
  have h4 := short_len_le (n := n.lvl.toNat) (by omega)
  have h5 := short_len_le (n := n.keys.length) (by omega)
  simp only [List.length_append]; omega
end Go.Proofs.YtpcojkbljgpecaaGreat
namespace Go.Proofs.YtpcojkbljgpecaaGreat
open Go
set_option maxRecDepth 100000 in
theorem blkRead_spec (d : Nat) (g : DiG) (m : DiM) (p : Ptr) {w0 : World} (hm : m.ok) : Spec Tryz.prog 191 #[.pointer (some ⟨d, 0, none⟩), p.val] w0 (diE d g m) [] (fun v es1 ds1 => ∃ ao c, v = .tuple #[.slice ao (blkRead m p).1.length c, .int .i64 (blkRead m p).2] ∧ es1 = (diE d g m) ∧ ds1 = [dB ao c (blkRead m p).1]) := by
 refine Spec.intro (fun F D hs => ?_)
 refine Calls_of_EC (args := [.pointer (some ⟨d, 0, none⟩), p.val]) Tryz.func191 rfl rfl rfl ?_
 refine EC_rseq ?_
 refine EL_op rfl (O_box hs rfl rfl (fun b3 w hb3 hs => ?_))
 refine EL_run rfl (R_assign rfl) ?_
 refine EL_run rfl (R_assign rfl) ?_
 refine EL_nil ?_
 refine EC_seq ?_
 refine EC_rseq ?_
 refine EL_run rfl (R_move rfl) ?_
 refine EL_run rfl (R_lw (hs.at (i := 3) rfl) Tryz.isAgg32 Tryz.sizeOf32 rfl (Ptr.size p)) ?_
 refine EL_op rfl (O_call hs [true] [] rfl rfl rfl Tryz.call258 (blkCheck_spec d g m p hm) (fun v es1 ds1 w hPhi hs => ?_))
 obtain ⟨rfl, rfl, rfl⟩ := hPhi
 refine EL_run rfl (R_assign rfl) ?_
 refine EL_nil ?_
 refine EC_rseq ?_
 refine EL_run rfl (R_move rfl) ?_
 refine EL_run rfl (R_neq rfl rfl) ?_
 refine EL_nil ?_
 refine EC_cond rfl (fun hc15 => ?_) (fun hc15 => ?_)
 ·have hc15p := cvt hc15; try dsimp only at hc15p
  have hs := hs.nilD 1
  have hgv : blkRead m p = ([], blkCheck m.lasts.length p) := by rw [blkRead, if_pos hc15p]
  refine EC_rseq ?_
  refine EL_run rfl (R_move rfl) ?_
  refine EL_run rfl (R_assign rfl) ?_
  refine EL_run rfl (R_assign rfl) ?_
  refine EL_nil ?_
  refine EC_ret ?_
  refine Then_r ?_
  exact ⟨[_, _], ⟨rfl, rfl, trivial⟩, _, _, ⟨none, 0, by rw [hgv]; rfl, rfl, rfl⟩, (hs.fin [true, true, true] [0]).as rfl (by rw [hgv]; rfl)⟩
 ·have hc15p := cvt hc15; try dsimp only at hc15p
  refine EC_skip ?_
  refine Then_n ?_
  have hck : blkCheck m.lasts.length p = 0 := Decidable.not_not.1 hc15p
  have hrg : ¬ (p.right = false ∨ (m.lasts.length : Int) < p.pos + sectors p.len) := fun h => by unfold blkCheck at hck; rw [if_pos h] at hck; cases hck
  have hpr : p.right = true := by cases hb : p.right; exact absurd (.inl hb) hrg; rfl
  have hri := Ptr.right_iff.1 hpr
  have hsr := sectors_range p.len
  obtain ⟨L, hL⟩ : ∃ L, L = p.len.toNat := ⟨_, rfl⟩
  obtain ⟨S, hS⟩ : ∃ S, S = (sectors p.len).toNat := ⟨_, rfl⟩
  have hSo := sectors_of (len := p.len) (by unfold sectors; rw [if_neg (by omega)]; omega)
  refine EC_rseq ?_
  refine EL_run rfl (R_field fo_32_2 rfl) ?_
  refine EL_run rfl (R_lb (hs.at (i := 3) rfl) Tryz.isAgg3 rfl rfl) ?_
  refine EL_op rfl (O_makeSlice (m := L) hs rfl ei_36 Tryz.zeroValue5 (sI (by omega)) (sI (by omega)) (by omega) (by omega) (fun b19 w hb19 hs => ?_))
  rw [show (Value.int .u8 0).cells = #[Value.int .u8 0] from rfl, zeros_u8] at hs
  refine EL_run rfl (R_assign rfl) ?_
  refine EL_nil ?_
  refine EC_seq ?_
  refine EC_rseq ?_
  refine EL_run rfl (R_lw (hs.at (i := 3) rfl) Tryz.isAgg32 Tryz.sizeOf32 rfl (Ptr.size p)) ?_
  refine EL_op rfl (O_call hs [] [] rfl rfl rfl Tryz.call113 (sectors_spec p) (fun v es1 ds1 w hPhi hs => ?_))
  obtain ⟨rfl, rfl, rfl⟩ := hPhi
  refine EL_run rfl (R_move rfl) ?_
  refine EL_nil ?_
  refine EC_block ?_
  refine EC_loop (fun mm ρ w => ∃ i : Nat, mm = S - i ∧ i ≤ S ∧ Slots ρ [(0, .pointer (some ⟨d, 0, none⟩)), (3, .pointer (some ⟨b3, 0, none⟩)), (7, .slice (some ⟨b19, 0, none⟩) L L), (21, .int .i64 (sectors p.len)), (22, .int .i64 (i : Int))] ∧ St w0 F D (diE d g m ++ [blk b3 p.cells 32, oSl (.slice (some ⟨b19, 0, none⟩) L L) 5 1 L (u8s (fillB m p.pos L i))]) [] w) (S) (⟨0, by omega, by omega, ⟨rfl, rfl, rfl, rfl, rfl, trivial⟩, (hs.fin [true, true, true, true, true] []).as (by simp [fillB, secsB, List.range_zero]; rfl) rfl⟩) ?_
  rintro mm ρ w ⟨i, rfl, hi, hsl, hs⟩
  refine EC_slots _ hsl ?_
  have hfl := fillB_len m p.pos L i
  refine EC_rseq ?_
  refine EL_run rfl (R_lss rfl rfl) ?_
  refine EL_nil ?_
  refine EC_seq ?_
  refine EC_cond rfl (fun hc23 => ?_) (fun hc23 => ?_)
  ·have hc23p := cvt hc23; try dsimp only at hc23p
   refine EC_skip ?_
   refine Then_n ?_
   refine EC_seq ?_
   refine EC_block ?_
   refine EC_rseq ?_
   refine EL_run rfl (R_move rfl) ?_
   refine EL_run rfl (R_assign rfl) ?_
   refine EL_nil ?_
   refine EC_rseq ?_
   refine EL_run rfl (R_move rfl) ?_
   refine EL_run rfl (R_field fo_32_0 rfl) ?_
   refine EL_run rfl (R_lb (hs.at (i := 3) rfl) Tryz.isAgg3 rfl rfl) ?_
   refine EL_run rfl (R_move rfl) ?_
   refine EL_run rfl (R_addI rfl rfl (by omega)) ?_
   refine EL_op rfl (O_call hs [true, true, true] [] rfl rfl rfl Tryz.call30 (diRead_spec d g m (p.pos + (i : Int)) hm) (fun v es1 ds1 w hPhi hs => ?_))
   obtain ⟨a1, c1, rfl, rfl, rfl⟩ := hPhi
   have hdc : diCheck m (p.pos + (i : Int)) = 0 := by unfold diCheck; rw [if_neg (by omega)]
   have hdb : diReadB m (p.pos + (i : Int)) = (diSec m (p.pos + (i : Int))).b := by rw [diReadB, if_pos hdc]
   rw [hdb] at hs
   rw [hdb, hdc]
   refine EL_run rfl (R_move rfl) ?_
   refine EL_run rfl (R_extract rfl rfl) ?_
   refine EL_run rfl (R_extract rfl rfl) ?_
   refine EL_run rfl (R_assign rfl) ?_
   refine EL_run rfl (R_assign rfl) ?_
   refine EL_nil ?_
   refine EC_seq ?_
   refine EC_rseq ?_
   refine EL_run rfl (R_move rfl) ?_
   refine EL_run rfl (R_neq rfl rfl) ?_
   refine EL_nil ?_
   refine EC_cond rfl (fun hc35 => ?_) (fun hc35 => ?_)
   ·exact absurd rfl (of_decide_eq_true hc35)
   ·have hc35p := cvt hc35; try dsimp only at hc35p
    refine EC_skip ?_
    refine Then_n ?_
    refine EC_region ?_
    refine EL_run rfl (R_move rfl) ?_
    refine EL_run rfl (R_move rfl) ?_
    refine EL_run rfl (R_mulI rfl rfl (by omega)) ?_
    refine EL_run rfl (R_sliceLo es_36 rfl rfl (by omega) (by omega)) ?_
    obtain ⟨o3, ho3, ho4⟩ := cutO_some (b := b19) (c := L) (l := ((i : Int) * 512).toNat) (sz := 1)
    have ho5 : o3 = i * 512 := by rw [ho4 (by omega)]; omega
    rw [ho3, ho5, show L - ((i : Int) * 512).toNat = L - i * 512 by omega]
    refine EL_run rfl (R_move rfl) ?_
    refine EL_op rfl (O_copySl hs (i := 4) rfl rfl Tryz.underlying36 sz_5 rfl rfl (Src.data (hs.rd (i := 0) rfl)) (by rw [u8s_len]; omega) (u8s_one _) (fun w hs => ?_))
    rw [fillB_step m p.pos L i (by omega)] at hs
    refine EL_nil ?_
    refine InBlock_n ?_
    refine Then_n ?_
    refine EC_region ?_
    refine EL_run rfl (R_addI rfl rfl (by omega)) ?_
    refine EL_run rfl (R_move rfl) ?_
    refine EL_nil ?_
    refine Then_n ?_
    exact ⟨S - (i + 1), by omega, i + 1, rfl, by omega, ⟨rfl, rfl, rfl, rfl, rfl, trivial⟩, (hs.fin [true, true, true, true, true] []).as rfl rfl⟩
  ·have hc23p := cvt hc23; try dsimp only at hc23p
   obtain rfl : i = S := by omega
   refine EC_exit ?_
   refine Then_e ?_
   refine Then_e ?_
   refine InBlock_hit rfl ?_
   refine Then_n ?_
   refine EC_seq ?_
   have hs := hs.as (es' := diE d g m ++ [blk b3 p.cells 32, oSl (.slice (some ⟨b19, 0, none⟩) (blkB m p).length L) 5 1 (blkB m p).length (u8s (blkB m p))]) (ds' := []) (by rw [← fillB_end m p hpr, ← hL, ← hS]; rw [fillB_len]) rfl
   have hbl : (blkB m p).length = L := by rw [← fillB_end m p hpr, ← hL, fillB_len]
   have hs := hs.freezeAt (i := 4) rfl
   refine EC_rseq ?_
   refine EL_run rfl (R_lw (hs.at (i := 3) rfl) Tryz.isAgg32 Tryz.sizeOf32 rfl (Ptr.size p)) ?_
   refine EL_run rfl (R_move rfl) ?_
   rw [show (Value.slice (some ⟨b19, 0, none⟩) L L) = .slice (some ⟨b19, 0, none⟩) (blkB m p).length L by rw [hbl]]
   refine EL_op rfl (O_call hs [] [0] rfl rfl rfl Tryz.call266 (check_spec p (some ⟨b19, 0, none⟩) L (blkB m p) (by omega)) (fun v es1 ds1 w hPhi hs => ?_))
   obtain ⟨rfl, rfl, rfl⟩ := hPhi
   refine EL_run rfl (R_neq rfl rfl) ?_
   refine EL_nil ?_
   refine EC_cond rfl (fun hc47 => ?_) (fun hc47 => ?_)
   ·have hc47p := cvt hc47; try dsimp only at hc47p
    have hs := hs.nilD 1
    have hgv : blkRead m p = ([], 12) := by rw [blkRead, if_neg (by omega), if_pos hc47p]
    refine EC_rseq ?_
    refine EL_run rfl (R_assign rfl) ?_
    refine EL_run rfl (R_assign rfl) ?_
    refine EL_nil ?_
    refine EC_ret ?_
    refine Then_r ?_
    exact ⟨[_, _], ⟨rfl, rfl, trivial⟩, _, _, ⟨none, 0, by rw [hgv]; rfl, rfl, rfl⟩, (hs.fin [true, true, true] [1]).as rfl (by rw [hgv]; rfl)⟩
   ·have hc47p := cvt hc47; try dsimp only at hc47p
    refine EC_skip ?_
    refine Then_n ?_
    have hgv : blkRead m p = (blkB m p, 0) := by rw [blkRead, if_neg (by omega), if_neg hc47p]
    refine EC_rseq ?_
    refine EL_run rfl (R_move rfl) ?_
    refine EL_run rfl (R_assign rfl) ?_
    refine EL_run rfl (R_assign rfl) ?_
    refine EL_nil ?_
    refine EC_ret ?_
    exact ⟨[_, _], ⟨rfl, rfl, trivial⟩, _, _, ⟨some ⟨b19, 0, none⟩, L, by rw [hgv]; rfl, rfl, rfl⟩, (hs.fin [true, true, true] [0]).as rfl (by rw [hgv]; rfl)⟩

set_option maxRecDepth 100000 in
theorem wrongP_spec (p : Ptr) {w0 : World} : Spec Tryz.prog 254 #[p.val] w0 [] [] (fun v es1 ds1 => v = .bool (!p.right) ∧ es1 = [] ∧ ds1 = []) := by
 refine Spec.intro (fun F D hs => ?_)
 refine Calls_of_EC (args := [p.val]) Tryz.func254 rfl rfl rfl ?_
 refine EC_rseq ?_
 refine EL_op rfl (O_box hs rfl rfl (fun b1 w hb1 hs => ?_))
 refine EL_run rfl (R_assign rfl) ?_
 refine EL_nil ?_
 refine EC_rseq ?_
 refine EL_run rfl (R_lw (hs.at (i := 0) rfl) Tryz.isAgg32 Tryz.sizeOf32 rfl (Ptr.size p)) ?_
 refine EL_op rfl (O_call hs [] [] rfl rfl rfl Tryz.call112 (right_spec p) (fun v es1 ds1 w hPhi hs => ?_))
 obtain ⟨rfl, rfl, rfl⟩ := hPhi
 refine EL_run rfl (R_not rfl) ?_
 refine EL_run rfl (R_assign rfl) ?_
 refine EL_nil ?_
 refine EC_ret ?_
 exact ⟨[_], ⟨rfl, trivial⟩, _, _, ⟨rfl, rfl, rfl⟩, (hs.fin [] []).as rfl rfl⟩

set_option maxRecDepth 100000 in
theorem idxWrong_spec (ao : Option Addr) (c : Nat) (l : List Ptr) {w0 : World} (hl : l.length ≤ 1000000) : Spec Tryz.prog 223 #[.slice ao l.length c, .func (.func 254) #[] #[]] w0 [] [dP ao c l] (fun v es1 ds1 => ∃ k : Int, v = .int .i64 k ∧ (0 ≤ k ↔ ∃ p, p ∈ l ∧ p.right = false) ∧ es1 = [] ∧ ds1 = []) := by
 refine Spec.intro (fun F D hs => ?_)
 refine Calls_of_EC (args := [.slice ao l.length c, .func (.func 254) #[] #[]]) Tryz.func223 rfl rfl rfl ?_
 refine EC_rseq ?_
 refine EL_run rfl (R_assign rfl) ?_
 refine EL_nil ?_
 refine EC_seq ?_
 refine EC_rseq ?_
 refine EL_run rfl (R_move rfl) ?_
 refine EL_run rfl (R_lenS Tryz.underlying26 rfl) ?_
 refine EL_run rfl (R_move rfl) ?_
 refine EL_nil ?_
 refine EC_block ?_
 refine EC_loop (fun mm ρ w => ∃ i : Nat, mm = l.length - i ∧ i ≤ l.length ∧ (∀ p, p ∈ l.take i → p.right = true) ∧ Slots ρ [(0, .slice ao l.length c), (1, .func (.func 254) #[] #[]), (7, .int .i64 (l.length : Int)), (8, .int .i64 (i : Int))] ∧ St w0 F D [] [dP ao c l] w) (l.length) (⟨0, by omega, by omega, fun p hp => (nomatch hp), ⟨rfl, rfl, rfl, rfl, trivial⟩, hs⟩) ?_
 rintro mm ρ w ⟨i, rfl, hi, hok, hsl, hs⟩
 refine EC_slots _ hsl ?_
 refine EC_rseq ?_
 refine EL_run rfl (R_lss rfl rfl) ?_
 refine EL_nil ?_
 refine EC_seq ?_
 refine EC_cond rfl (fun hc9 => ?_) (fun hc9 => ?_)
 ·have hc9p := cvt hc9; try dsimp only at hc9p
  have hib : i < l.length := by omega
  obtain ⟨bb, oo, rfl⟩ := dSlsomeF (hs.rd (i := 0) rfl) Ptr.len_l (by decide) hib
  refine EC_skip ?_
  refine Then_n ?_
  refine EC_seq ?_
  refine EC_block ?_
  refine EC_rseq ?_
  refine EL_run rfl (R_move rfl) ?_
  refine EL_run rfl (R_assign rfl) ?_
  refine EL_nil ?_
  refine EC_rseq ?_
  refine EL_run rfl (R_move rfl) ?_
  refine EL_run rfl (R_move rfl) ?_
  refine EL_run rfl (R_move rfl) ?_
  refine EL_run rfl (R_idx es_26 rfl (by rfl) rfl (by omega) (by omega)) ?_
  refine EL_run rfl (R_ldE (hs.rd (i := 0) rfl) Ptr.len_l Tryz.isAgg32 Tryz.sizeOf32 rfl (by simp <;> omega) (List.getElem?_eq_getElem hib) (by decide)) ?_
  refine EL_op rfl (O_call hs [] [] rfl rfl rfl Tryz.call254 (wrongP_spec l[i]) (fun v es1 ds1 w hPhi hs => ?_))
  obtain ⟨rfl, rfl, rfl⟩ := hPhi
  refine EL_nil ?_
  refine EC_cond rfl (fun hc16 => ?_) (fun hc16 => ?_)
  ·have hc16p := cvt hc16; try dsimp only at hc16p
   refine EC_rseq ?_
   refine EL_run rfl (R_move rfl) ?_
   refine EL_run rfl (R_assign rfl) ?_
   refine EL_nil ?_
   refine EC_ret ?_
   refine InBlock_r ?_
   refine Then_r ?_
   refine Then_r ?_
   refine InBlock_r ?_
   refine Then_r ?_
   exact ⟨[_], ⟨rfl, trivial⟩, _, _, ⟨_, rfl, ⟨fun _ => ⟨l[i], List.getElem_mem hib, hc16p⟩, fun _ => by omega⟩, rfl, rfl⟩, (hs.fin [] []).as rfl rfl⟩
  ·have hc16p := cvt hc16; try dsimp only at hc16p
   refine EC_skip ?_
   refine InBlock_n ?_
   refine Then_n ?_
   refine EC_region ?_
   refine EL_run rfl (R_addI rfl rfl (by omega)) ?_
   refine EL_run rfl (R_move rfl) ?_
   refine EL_nil ?_
   refine Then_n ?_
   have g1 : ∀ p, p ∈ l.take (i + 1) → p.right = true := fun p hp => by
     rw [List.take_succ_eq_append_getElem hib] at hp
     rcases List.mem_append.1 hp with hp | hp
     · exact hok p hp
     · obtain rfl := List.mem_singleton.1 hp
       exact hc16p
   exact ⟨l.length - (i + 1), by omega, i + 1, rfl, by omega, g1, ⟨rfl, rfl, rfl, rfl, trivial⟩, (hs.fin [] [0]).as rfl rfl⟩
 ·have hc9p := cvt hc9; try dsimp only at hc9p
  obtain rfl : i = l.length := by omega
  rw [List.take_length] at hok
  refine EC_exit ?_
  refine Then_e ?_
  refine Then_e ?_
  refine InBlock_hit rfl ?_
  refine Then_n ?_
  refine EC_rseq ?_
  refine EL_run rfl (R_assign rfl) ?_
  refine EL_nil ?_
  refine EC_ret ?_
  exact ⟨[_], ⟨rfl, trivial⟩, _, _, ⟨_, rfl, ⟨fun h => absurd h (by omega), fun ⟨p, hp, hr⟩ => Bool.noConfusion (hr.symm.trans (hok p hp))⟩, rfl, rfl⟩, (hs.fin [] []).as rfl rfl⟩

set_option maxRecDepth 100000 in
theorem hasWrong_spec (ao : Option Addr) (c : Nat) (l : List Ptr) {w0 : World} (hl : l.length ≤ 1000000) : Spec Tryz.prog 148 #[.slice ao l.length c, .func (.func 254) #[] #[]] w0 [] [dP ao c l] (fun v es1 ds1 => ∃ b : Bool, v = .bool b ∧ (b = true ↔ ∃ p, p ∈ l ∧ p.right = false) ∧ es1 = [] ∧ ds1 = []) := by
 refine Spec.intro (fun F D hs => ?_)
 refine Calls_of_EC (args := [.slice ao l.length c, .func (.func 254) #[] #[]]) Tryz.func148 rfl rfl rfl ?_
 refine EC_rseq ?_
 refine EL_run rfl (R_assign rfl) ?_
 refine EL_nil ?_
 refine EC_rseq ?_
 refine EL_run rfl (R_move rfl) ?_
 refine EL_run rfl (R_move rfl) ?_
 refine EL_op rfl (O_call hs [] [0] rfl rfl rfl Tryz.call223 (idxWrong_spec ao c l hl) (fun v es1 ds1 w hPhi hs => ?_))
 obtain ⟨k, rfl, hk, rfl, rfl⟩ := hPhi
 refine EL_run rfl (R_geq rfl rfl) ?_
 refine EL_run rfl (R_assign rfl) ?_
 refine EL_nil ?_
 refine EC_ret ?_
 exact ⟨[_], ⟨rfl, trivial⟩, _, _, ⟨_, rfl, by rw [decide_eq_true_eq]; exact hk, rfl, rfl⟩, (hs.fin [] []).as rfl rfl⟩

set_option maxRecDepth 100000 in
theorem nLists_spec (n : Nd) {w0 : World} : Spec Tryz.prog 253 #[n.val] w0 [] [] (fun v es1 ds1 => ∃ b : Bool, v = .bool b ∧ (b = true ↔ n.m.lists) ∧ es1 = [] ∧ ds1 = []) := by
 refine Spec.intro (fun F D hs => ?_)
 obtain ⟨lvl, ko, kc, keys, vo, vc, vals, po, pc, kids⟩ := n
 refine Calls_of_EC (args := [Nd.val ⟨lvl, ko, kc, keys, vo, vc, vals, po, pc, kids⟩]) Tryz.func253 rfl rfl rfl ?_
 refine EC_rseq ?_
 refine EL_op rfl (O_box hs rfl rfl (fun b1 w hb1 hs => ?_))
 refine EL_run rfl (R_assign rfl) ?_
 refine EL_nil ?_
 refine EC_seq ?_
 refine EC_rseq ?_
 refine EL_run rfl (R_field fo_39_0 rfl) ?_
 refine EL_run rfl (R_lb (hs.at (i := 0) rfl) Tryz.isAgg3 rfl rfl) ?_
 refine EL_run rfl (R_eql rfl rfl) ?_
 refine EL_nil ?_
 refine EC_cond rfl (fun hc5 => ?_) (fun hc5 => ?_)
 ·have hc5p := cvt hc5; try dsimp only at hc5p
  refine EC_rseq ?_
  refine EL_run rfl (R_field fo_39_2 rfl) ?_
  refine EL_run rfl (R_lb (hs.at (i := 0) rfl) Tryz.isAgg37 rfl rfl) ?_
  refine EL_run rfl (R_lenS Tryz.underlying37 rfl) ?_
  refine EL_run rfl (R_field fo_39_1 rfl) ?_
  refine EL_run rfl (R_lb (hs.at (i := 0) rfl) Tryz.isAgg37 rfl rfl) ?_
  refine EL_run rfl (R_lenS Tryz.underlying37 rfl) ?_
  refine EL_run rfl (R_eql rfl rfl) ?_
  refine EL_run rfl (R_move rfl) ?_
  refine EL_split 13 rfl (fun hg7 => ?_) (fun hg7 => ?_)
  ·have hg7p := cvt hg7; try dsimp only at hg7p
   refine EL_want rfl rfl hg7 ?_
   refine EL_run rfl (R_field fo_39_3 rfl) ?_
   refine EL_want rfl rfl hg7 ?_
   refine EL_run rfl (R_lb (hs.at (i := 0) rfl) Tryz.isAgg26 rfl rfl) ?_
   refine EL_want rfl rfl hg7 ?_
   refine EL_run rfl (R_lenS Tryz.underlying26 rfl) ?_
   refine EL_want rfl rfl hg7 ?_
   refine EL_run rfl (R_eql rfl rfl) ?_
   refine EL_run rfl (R_pickT rfl hg7 rfl) ?_
   refine EL_run rfl (R_assign rfl) ?_
   refine EL_nil ?_
   refine EC_ret ?_
   refine Then_r ?_
   exact ⟨[_], ⟨rfl, trivial⟩, _, _, ⟨_, rfl, by simp only [NdM.lists, Nd.m, List.length_map]; rw [if_pos hc5p]; first | (simp only [decide_eq_true_eq]; constructor <;> omega) | (constructor; intro h; cases h; intro h; omega), rfl, rfl⟩, (hs.fin [] []).as rfl rfl⟩
  ·have hg7p := cvt hg7; try dsimp only at hg7p
   refine EL_pass rfl rfl rfl hg7 ?_
   refine EL_pass rfl rfl rfl hg7 ?_
   refine EL_pass rfl rfl rfl hg7 ?_
   refine EL_pass rfl rfl rfl hg7 ?_
   refine EL_run rfl (R_pickF rfl hg7 rfl) ?_
   refine EL_run rfl (R_assign rfl) ?_
   refine EL_nil ?_
   refine EC_ret ?_
   refine Then_r ?_
   exact ⟨[_], ⟨rfl, trivial⟩, _, _, ⟨_, rfl, by simp only [NdM.lists, Nd.m, List.length_map]; rw [if_pos hc5p]; first | (simp only [decide_eq_true_eq]; constructor <;> omega) | (constructor; intro h; cases h; intro h; omega), rfl, rfl⟩, (hs.fin [] []).as rfl rfl⟩
 ·have hc5p := cvt hc5; try dsimp only at hc5p
  refine EC_skip ?_
  refine Then_n ?_
  refine EC_rseq ?_
  refine EL_run rfl (R_field fo_39_3 rfl) ?_
  refine EL_run rfl (R_lb (hs.at (i := 0) rfl) Tryz.isAgg26 rfl rfl) ?_
  refine EL_run rfl (R_lenS Tryz.underlying26 rfl) ?_
  refine EL_run rfl (R_field fo_39_1 rfl) ?_
  refine EL_run rfl (R_lb (hs.at (i := 0) rfl) Tryz.isAgg37 rfl rfl) ?_
  refine EL_run rfl (R_lenS Tryz.underlying37 rfl) ?_
  refine EL_run rfl (R_eql rfl rfl) ?_
  refine EL_run rfl (R_move rfl) ?_
  refine EL_split 26 rfl (fun hg7 => ?_) (fun hg7 => ?_)
  ·have hg7p := cvt hg7; try dsimp only at hg7p
   refine EL_want rfl rfl hg7 ?_
   refine EL_run rfl (R_field fo_39_2 rfl) ?_
   refine EL_want rfl rfl hg7 ?_
   refine EL_run rfl (R_lb (hs.at (i := 0) rfl) Tryz.isAgg37 rfl rfl) ?_
   refine EL_want rfl rfl hg7 ?_
   refine EL_run rfl (R_lenS Tryz.underlying37 rfl) ?_
   refine EL_want rfl rfl hg7 ?_
   refine EL_run rfl (R_eql rfl rfl) ?_
   refine EL_run rfl (R_pickT rfl hg7 rfl) ?_
   refine EL_run rfl (R_assign rfl) ?_
   refine EL_nil ?_
   refine EC_ret ?_
   exact ⟨[_], ⟨rfl, trivial⟩, _, _, ⟨_, rfl, by simp only [NdM.lists, Nd.m, List.length_map]; rw [if_neg hc5p]; first | (simp only [decide_eq_true_eq]; constructor <;> omega) | (constructor; intro h; cases h; intro h; omega), rfl, rfl⟩, (hs.fin [] []).as rfl rfl⟩
  ·have hg7p := cvt hg7; try dsimp only at hg7p
   refine EL_pass rfl rfl rfl hg7 ?_
   refine EL_pass rfl rfl rfl hg7 ?_
   refine EL_pass rfl rfl rfl hg7 ?_
   refine EL_pass rfl rfl rfl hg7 ?_
   refine EL_run rfl (R_pickF rfl hg7 rfl) ?_
   refine EL_run rfl (R_assign rfl) ?_
   refine EL_nil ?_
   refine EC_ret ?_
   exact ⟨[_], ⟨rfl, trivial⟩, _, _, ⟨_, rfl, by simp only [NdM.lists, Nd.m, List.length_map]; rw [if_neg hc5p]; first | (simp only [decide_eq_true_eq]; constructor <;> omega) | (constructor; intro h; cases h; intro h; omega), rfl, rfl⟩, (hs.fin [] []).as rfl rfl⟩
end Go.Proofs.YtpcojkbljgpecaaGreat
namespace Go.Proofs.YtpcojkbljgpecaaGreat
open Go
set_option maxRecDepth 100000 in
theorem keyLay_spec (b : Nat) (v : Value) (out : BL) (n : Int) (k : Nat) {w0 : World} (hk : k ≤ 8) (ho : out.length ≤ 1000) : Spec Tryz.prog 233 #[.int .i64 n, .int .i64 (k : Int), .pointer (some ⟨b, 0, none⟩)] w0 [blk b #[v] 36, oSl v 5 1 out.length (u8s out)] [] (fun r es1 ds1 => r = .tuple #[] ∧ ∃ v', es1 = [blk b #[v'] 36, oSl v' 5 1 (out ++ beB n k).length (u8s (out ++ beB n k))] ∧ ds1 = []) := by
 refine Spec.intro (fun F D hs => ?_)
 refine Calls_of_EC (args := [.int .i64 n, .int .i64 (k : Int), .pointer (some ⟨b, 0, none⟩)]) Tryz.func233 rfl rfl rfl ?_
 refine EC_rseq ?_
 refine EL_run rfl (R_move rfl) ?_
 refine EL_run rfl (R_subI rfl rfl (by omega)) ?_
 refine EL_run rfl (R_assign rfl) ?_
 refine EL_nil ?_
 refine EC_block ?_
 refine EC_loop (fun mm ρ w => ∃ (j : Nat) (v : Value) (o2 : BL), mm = j ∧ j ≤ k ∧ o2 ++ beB n j = out ++ beB n k ∧ o2.length + j = out.length + k ∧ Slots ρ [(0, .int .i64 n), (2, .pointer (some ⟨b, 0, none⟩)), (5, .int .i64 ((j : Int) - 1))] ∧ St w0 F D [blk b #[v] 36, oSl v 5 1 o2.length (u8s o2)] [] w) (k) (⟨k, v, out, rfl, Nat.le_refl _, rfl, rfl, ⟨rfl, rfl, rfl, trivial⟩, hs⟩) ?_
 rintro j ρ w ⟨_, v, o2, rfl, hj, ho2, hol, hsl, hs⟩
 refine EC_slots _ hsl ?_
 refine EC_seq ?_
 refine EC_rseq ?_
 refine EL_run rfl (R_move rfl) ?_
 refine EL_run rfl (R_geq rfl rfl) ?_
 refine EL_nil ?_
 refine EC_cond rfl (fun hc9 => ?_) (fun hc9 => ?_)
 ·have hc9p := cvt hc9; try dsimp only at hc9p
  obtain ⟨j, rfl⟩ : ∃ q, j = q + 1 := ⟨j - 1, by omega⟩
  refine EC_skip ?_
  refine Then_n ?_
  refine EC_seq ?_
  refine EC_block ?_
  refine EC_drawS hs [6, 7, 8] [0] [0] [] (.take 0 (.take 1 (.take 2 (.take 3 (.take 4 (.take 5 (.fork 6 (.fork 7 (.fork 8 .done (.done)) (.done)) (.done)))))))) mix_ok (by kernel_rfl) (fun w hs _ => ?_)
  refine EP_read rfl rfl rfl (RdS.of hs rfl rfl) (fun _ hR => R_lb (hR.e 0 rfl rfl) Tryz.isAgg36 rfl rfl) ?_
  refine EP_take rfl rfl rfl (fun _ => R_move rfl) ?_
  refine EP_take rfl rfl rfl (fun _ => R_move rfl) ?_
  refine EP_take rfl rfl rfl (fun _ => R_mulI rfl rfl (by omega)) ?_
  refine EP_take rfl rfl rfl (fun _ => R_shrI (8 * j) rfl rfl (by push_cast; omega) (by omega)) ?_
  refine EP_take rfl rfl rfl (fun _ => R_convB Tryz.underlying3 Tryz.underlying5 rfl) ?_
  refine EP_act rfl rfl (O_buildSlice [.tmp 17] hs rfl ei_36 rfl rfl rfl (size1 rfl) (by decide) (fun b18 w hb18 hs => ⟨(fun _ => RdS.of hs rfl rfl), ?_⟩))
  refine EP_act rfl rfl (O_append hs (i := 1) rfl rfl ei_36 rfl rfl (Src.own (hs.at (i := 2) rfl)) (one_flat1 rfl) (by omega) (by omega) (fun v19 w hs => ?_))
  obtain ⟨ao9, c9, hv9⟩ := oSl.val (hs.at (i := 1) rfl)
  subst hv9
  refine ⟨(rq_no (by kernel_rfl)), ?_⟩
  refine EP_act rfl rfl (O_store hs (i := 0) rfl Tryz.sizeOf36 rfl rfl rfl rfl (fun w hs => ⟨(rq_no (by kernel_rfl)), ?_⟩))
  have hs := (hs.fin [true, true] []).asSl (i := 1) rfl (o2 ++ [byteOf (n / 2 ^ (8 * j))]).length (u8s (o2 ++ [byteOf (n / 2 ^ (8 * j))])) (by simp) (u8s_snoc o2 _ rfl)
  refine EP_done ?_
  refine InBlock_n ?_
  refine Then_n ?_
  refine EC_region ?_
  refine EL_run rfl (R_move rfl) ?_
  refine EL_run rfl (R_subI rfl rfl (by omega)) ?_
  refine EL_run rfl (R_assign rfl) ?_
  refine EL_nil ?_
  refine Then_n ?_
  exact ⟨j, by omega, j, _, o2 ++ [byteOf (n / 2 ^ (8 * j))], rfl, by omega, by rw [← ho2, beB_succ]; simp, by simp; omega, ⟨rfl, rfl, sI (by push_cast; omega), trivial⟩, hs⟩
 ·have hc9p := cvt hc9; try dsimp only at hc9p
  obtain rfl : j = 0 := by omega
  rw [beB_zero, List.append_nil] at ho2
  subst ho2
  refine EC_exit ?_
  refine Then_e ?_
  refine Then_e ?_
  refine InBlock_hit rfl ?_
  exact ⟨[], trivial, _, _, ⟨rfl, v, rfl, rfl⟩, (hs.fin [true, true] []).as rfl rfl⟩

set_option maxRecDepth 100000 in
theorem key_spec (p : Ptr) {w0 : World} : Spec Tryz.prog 157 #[p.val] w0 [] [] (fun v es1 ds1 => es1 = [oSl v 5 1 (keyP p).length (u8s (keyP p))] ∧ ds1 = []) := by
 refine Spec.intro (fun F D hs => ?_)
 refine Calls_of_EC (args := [p.val]) Tryz.func157 rfl rfl rfl ?_
 refine EC_rseq ?_
 refine EL_op rfl (O_box hs rfl rfl (fun b1 w hb1 hs => ?_))
 refine EL_run rfl (R_assign rfl) ?_
 refine EL_nil ?_
 refine EC_rseq ?_
 refine EL_op rfl (O_alloc hs rfl Tryz.zeroValue36 (fun b3 w hb3 hs => ?_))
 have hs := hs.nilSl 5 1
 refine EL_nil ?_
 refine EC_rseq ?_
 refine EL_run rfl (R_makeFunc rfl rfl) ?_
 refine EL_run rfl (R_assign rfl) ?_
 refine EL_nil ?_
 refine EC_rseq ?_
 refine EL_run rfl (R_move rfl) ?_
 refine EL_run rfl (R_field fo_32_1 rfl) ?_
 refine EL_run rfl (R_lb (hs.at (i := 0) rfl) Tryz.isAgg3 rfl rfl) ?_
 refine EL_op rfl (O_call hs [false, true, true] [] rfl rfl rfl Tryz.call233 (keyLay_spec b3 (.slice none 0 0) [] p.birth 8 (by omega) (by simp)) (fun v es1 ds1 w hPhi hs => ?_))
 obtain ⟨rfl, v2, rfl, rfl⟩ := hPhi
 refine EL_nil ?_
 refine EC_rseq ?_
 refine EL_run rfl (R_move rfl) ?_
 refine EL_run rfl (R_field fo_32_0 rfl) ?_
 refine EL_run rfl (R_lb (hs.at (i := 0) rfl) Tryz.isAgg3 rfl rfl) ?_
 refine EL_op rfl (O_call hs [false, true, true] [] rfl rfl rfl Tryz.call233 (keyLay_spec b3 v2 ([] ++ beB p.birth 8) p.pos 4 (by omega) (by simp [beB_len])) (fun v es1 ds1 w hPhi hs => ?_))
 obtain ⟨rfl, v3, rfl, rfl⟩ := hPhi
 refine EL_nil ?_
 refine EC_rseq ?_
 refine EL_run rfl (R_lb (hs.at (i := 1) rfl) Tryz.isAgg36 rfl rfl) ?_
 refine EL_run rfl (R_assign rfl) ?_
 refine EL_nil ?_
 refine EC_ret ?_
 exact ⟨[_], ⟨rfl, trivial⟩, _, _, ⟨rfl, rfl⟩, (hs.fin [false, false, true] []).as (by simp [keyP]; rfl) rfl⟩

set_option maxRecDepth 100000 in
theorem refKey_spec (p : Ptr) {w0 : World} : Spec Tryz.prog 146 #[p.val] w0 [] [] (fun v es1 ds1 => es1 = [oSl v 5 1 (keyP p).length (u8s (keyP p))] ∧ ds1 = []) := by
 refine Spec.intro (fun F D hs => ?_)
 refine Calls_of_EC (args := [p.val]) Tryz.func146 rfl rfl rfl ?_
 refine EC_rseq ?_
 refine EL_op rfl (O_box hs rfl rfl (fun b1 w hb1 hs => ?_))
 refine EL_run rfl (R_assign rfl) ?_
 refine EL_nil ?_
 refine EC_rseq ?_
 refine EL_run rfl (R_assign rfl) ?_
 have hs := hs.nilSl 5 1
 refine EL_nil ?_
 refine EC_seq ?_
 refine EC_rseq ?_
 refine EL_run rfl (R_assign rfl) ?_
 refine EL_nil ?_
 refine EC_block ?_
 refine EC_loop (fun mm ρ w => ∃ (j : Nat) (v : Value) (o2 : BL), mm = j ∧ j ≤ 8 ∧ o2 ++ beB p.birth j = beB p.birth 8 ∧ o2.length + j = 8 ∧ Slots ρ [(1, .pointer (some ⟨b1, 0, none⟩)), (3, v), (4, .int .i64 ((j : Int) - 1))] ∧ St w0 F D [blk b1 p.cells 32, oSl v 5 1 o2.length (u8s o2)] [] w) (8) (⟨8, _, [], rfl, Nat.le_refl _, rfl, rfl, ⟨rfl, rfl, rfl, trivial⟩, hs⟩) ?_
 rintro j ρ w ⟨_, v, o2, rfl, hj, ho2, hol, hsl, hs⟩
 refine EC_slots _ hsl ?_
 refine EC_seq ?_
 refine EC_rseq ?_
 refine EL_run rfl (R_move rfl) ?_
 refine EL_run rfl (R_geq rfl rfl) ?_
 refine EL_nil ?_
 refine EC_cond rfl (fun hc7 => ?_) (fun hc7 => ?_)
 ·have hc7p := cvt hc7; try dsimp only at hc7p
  obtain ⟨j, rfl⟩ : ∃ q, j = q + 1 := ⟨j - 1, by omega⟩
  refine EC_skip ?_
  refine Then_n ?_
  refine EC_seq ?_
  refine EC_block ?_
  refine EC_region ?_
  refine EL_run rfl (R_move rfl) ?_
  refine EL_run rfl (R_field fo_32_1 rfl) ?_
  refine EL_run rfl (R_lb (hs.at (i := 0) rfl) Tryz.isAgg3 rfl rfl) ?_
  refine EL_run rfl (R_move rfl) ?_
  refine EL_run rfl (R_mulI rfl rfl (by omega)) ?_
  refine EL_run rfl (R_convIU Tryz.underlying3 Tryz.underlying315 rfl (by push_cast; omega) (by push_cast; omega)) ?_
  refine EL_run rfl (R_shrI (8 * j) rfl rfl (by push_cast; omega) (by omega)) ?_
  refine EL_run rfl (R_convB Tryz.underlying3 Tryz.underlying5 rfl) ?_
  refine EL_op rfl (O_buildSlice [.tmp 17] hs rfl ei_36 rfl rfl rfl (size1 rfl) (by decide) (fun b18 w hb18 hs => ?_))
  refine EL_op rfl (O_append hs (i := 1) rfl rfl ei_36 rfl rfl (Src.own (hs.at (i := 2) rfl)) (one_flat1 rfl) (by omega) (by omega) (fun v19 w hs => ?_))
  refine EL_run rfl (R_assign rfl) ?_
  have hs := (hs.fin [true, true] []).asSl (i := 1) rfl (o2 ++ [byteOf (p.birth / 2 ^ (8 * j))]).length (u8s (o2 ++ [byteOf (p.birth / 2 ^ (8 * j))])) (by simp) (u8s_snoc o2 _ rfl)
  refine EL_nil ?_
  refine InBlock_n ?_
  refine Then_n ?_
  refine EC_region ?_
  refine EL_run rfl (R_move rfl) ?_
  refine EL_run rfl (R_subI rfl rfl (by omega)) ?_
  refine EL_run rfl (R_assign rfl) ?_
  refine EL_nil ?_
  refine Then_n ?_
  exact ⟨j, by omega, j, v19, o2 ++ [byteOf (p.birth / 2 ^ (8 * j))], rfl, by omega, by rw [← ho2, beB_succ]; simp, by simp; omega, ⟨rfl, rfl, sI (by push_cast; omega), trivial⟩, hs⟩
 ·have hc7p := cvt hc7; try dsimp only at hc7p
  obtain rfl : j = 0 := by omega
  rw [beB_zero, List.append_nil] at ho2
  subst ho2
  refine EC_exit ?_
  refine Then_e ?_
  refine Then_e ?_
  refine InBlock_hit rfl ?_
  refine Then_n ?_
  refine EC_seq ?_
  refine EC_rseq ?_
  refine EL_run rfl (R_assign rfl) ?_
  refine EL_nil ?_
  refine EC_block ?_
  refine EC_loop (fun mm ρ w => ∃ (j : Nat) (v : Value) (o2 : BL), mm = j ∧ j ≤ 4 ∧ o2 ++ beB p.pos j = keyP p ∧ o2.length + j = 12 ∧ Slots ρ [(1, .pointer (some ⟨b1, 0, none⟩)), (3, v), (5, .int .i64 ((j : Int) - 1))] ∧ St w0 F D [blk b1 p.cells 32, oSl v 5 1 o2.length (u8s o2)] [] w) (4) (⟨4, _, beB p.birth 8, rfl, Nat.le_refl _, rfl, rfl, ⟨rfl, rfl, rfl, trivial⟩, hs⟩) ?_
  rintro j ρ w ⟨_, v, o2, rfl, hj, ho2, hol, hsl, hs⟩
  refine EC_slots _ hsl ?_
  refine EC_seq ?_
  refine EC_rseq ?_
  refine EL_run rfl (R_move rfl) ?_
  refine EL_run rfl (R_geq rfl rfl) ?_
  refine EL_nil ?_
  refine EC_cond rfl (fun hc21 => ?_) (fun hc21 => ?_)
  ·have hc21p := cvt hc21; try dsimp only at hc21p
   obtain ⟨j, rfl⟩ : ∃ q, j = q + 1 := ⟨j - 1, by omega⟩
   refine EC_skip ?_
   refine Then_n ?_
   refine EC_seq ?_
   refine EC_block ?_
   refine EC_region ?_
   refine EL_run rfl (R_move rfl) ?_
   refine EL_run rfl (R_field fo_32_0 rfl) ?_
   refine EL_run rfl (R_lb (hs.at (i := 0) rfl) Tryz.isAgg3 rfl rfl) ?_
   refine EL_run rfl (R_move rfl) ?_
   refine EL_run rfl (R_mulI rfl rfl (by omega)) ?_
   refine EL_run rfl (R_convIU Tryz.underlying3 Tryz.underlying315 rfl (by push_cast; omega) (by push_cast; omega)) ?_
   refine EL_run rfl (R_shrI (8 * j) rfl rfl (by push_cast; omega) (by omega)) ?_
   refine EL_run rfl (R_convB Tryz.underlying3 Tryz.underlying5 rfl) ?_
   refine EL_op rfl (O_buildSlice [.tmp 31] hs rfl ei_36 rfl rfl rfl (size1 rfl) (by decide) (fun b32 w hb32 hs => ?_))
   refine EL_op rfl (O_append hs (i := 1) rfl rfl ei_36 rfl rfl (Src.own (hs.at (i := 2) rfl)) (one_flat1 rfl) (by omega) (by omega) (fun v33 w hs => ?_))
   refine EL_run rfl (R_assign rfl) ?_
   have hs := (hs.fin [true, true] []).asSl (i := 1) rfl (o2 ++ [byteOf (p.pos / 2 ^ (8 * j))]).length (u8s (o2 ++ [byteOf (p.pos / 2 ^ (8 * j))])) (by simp) (u8s_snoc o2 _ rfl)
   refine EL_nil ?_
   refine InBlock_n ?_
   refine Then_n ?_
   refine EC_region ?_
   refine EL_run rfl (R_move rfl) ?_
   refine EL_run rfl (R_subI rfl rfl (by omega)) ?_
   refine EL_run rfl (R_assign rfl) ?_
   refine EL_nil ?_
   refine Then_n ?_
   exact ⟨j, by omega, j, v33, o2 ++ [byteOf (p.pos / 2 ^ (8 * j))], rfl, by omega, by rw [← ho2, beB_succ]; simp, by simp; omega, ⟨rfl, rfl, sI (by push_cast; omega), trivial⟩, hs⟩
  ·have hc21p := cvt hc21; try dsimp only at hc21p
   obtain rfl : j = 0 := by omega
   rw [beB_zero, List.append_nil] at ho2
   subst ho2
   refine EC_exit ?_
   refine Then_e ?_
   refine Then_e ?_
   refine InBlock_hit rfl ?_
   refine Then_n ?_
   refine EC_rseq ?_
   refine EL_run rfl (R_move rfl) ?_
   refine EL_run rfl (R_assign rfl) ?_
   refine EL_nil ?_
   refine EC_ret ?_
   exact ⟨[_], ⟨rfl, trivial⟩, _, _, ⟨rfl, rfl⟩, (hs.fin [false, true] []).as rfl rfl⟩

set_option maxRecDepth 100000 in
theorem bcmp_spec (a1 a2 : Option Addr) (c1 c2 : Nat) (l1 l2 : BL) {w0 : World} : Spec Tryz.prog 199 #[.slice a1 l1.length c1, .slice a2 l2.length c2] w0 [] [dB a1 c1 l1, dB a2 c2 l2] (fun v es1 ds1 => v = .int .i64 (cmpB l1 l2) ∧ es1 = [] ∧ ds1 = []) := by
 refine Spec.intro (fun F D hs => ?_)
 refine Calls_of_EC (args := [.slice a1 l1.length c1, .slice a2 l2.length c2]) Tryz.func199 rfl rfl rfl ?_
 refine EC_rseq ?_
 refine EL_run rfl (R_assign rfl) ?_
 refine EL_nil ?_
 refine EC_rseq ?_
 refine EL_run rfl (R_move rfl) ?_
 refine EL_run rfl (R_move rfl) ?_
 refine EL_run rfl (R_cmpB Tryz.func272 (by kernel_rfl) (by kernel_rfl) (by kernel_rfl) (by kernel_rfl) rfl rfl (hs.rd (i := 0) rfl) (hs.rd (i := 1) rfl)) ?_
 refine EL_run rfl (R_assign rfl) ?_
 refine EL_nil ?_
 refine EC_ret ?_
 exact ⟨[_], ⟨rfl, trivial⟩, _, _, ⟨rfl, rfl, rfl⟩, (hs.fin [] []).as rfl rfl⟩

set_option maxRecDepth 100000 in
theorem dcmp_spec (p q : Ptr) {w0 : World} : Spec Tryz.prog 226 #[p.val, q.val] w0 [] [] (fun v es1 ds1 => v = .int .i64 (cmpB (keyP p) (keyP q)) ∧ es1 = [] ∧ ds1 = []) := by
 refine Spec.intro (fun F D hs => ?_)
 refine Calls_of_EC (args := [p.val, q.val]) Tryz.func226 rfl rfl rfl ?_
 refine EC_rseq ?_
 refine EL_op rfl (O_box hs rfl rfl (fun b2 w hb2 hs => ?_))
 refine EL_op rfl (O_box hs rfl rfl (fun b3 w hb3 hs => ?_))
 refine EL_run rfl (R_assign rfl) ?_
 refine EL_nil ?_
 refine EC_dseqS hs [1, 3, 4] [0, 2] [0, 1] [] (.take 0 (.take 2 (.fork 1 (.fork 3 (.fork 4 (.take 5 .done) (.done)) (.done)) (.done)))) mix_ok (by kernel_rfl) (fun w hs _ => ?_)
 refine EP_read rfl rfl rfl (RdS.of hs rfl rfl) (fun _ hR => R_lw (hR.e 0 rfl rfl) Tryz.isAgg32 Tryz.sizeOf32 rfl (Ptr.size _)) ?_
 refine EP_read rfl rfl rfl (RdS.of hs rfl rfl) (fun _ hR => R_lw (hR.e 1 rfl rfl) Tryz.isAgg32 Tryz.sizeOf32 rfl (Ptr.size _)) ?_
 refine EP_act rfl rfl (O_call hs [] [] rfl rfl rfl Tryz.call157 (key_spec p) (fun v es1 ds1 w hPhi hs => ?_))
 obtain ⟨rfl, rfl⟩ := hPhi
 obtain ⟨ao6, c6, rfl, hs⟩ := hs.freezeSl (i := 2) rfl
 refine ⟨(fun _ => RdS.of hs rfl rfl), ?_⟩
 refine EP_act rfl rfl (O_call hs [] [] rfl rfl rfl Tryz.call157 (key_spec q) (fun v es1 ds1 w hPhi hs => ?_))
 obtain ⟨rfl, rfl⟩ := hPhi
 obtain ⟨ao8, c8, rfl, hs⟩ := hs.freezeSl (i := 2) rfl
 refine ⟨(fun _ => RdS.of hs rfl rfl), ?_⟩
 refine EP_act rfl rfl (O_call hs [] [0, 1] rfl rfl rfl Tryz.call199 (bcmp_spec ao6 ao8 c6 c8 (keyP p) (keyP q)) (fun v es1 ds1 w hPhi hs => ?_))
 obtain ⟨rfl, rfl, rfl⟩ := hPhi
 refine ⟨(fun _ => RdS.of hs rfl rfl), ?_⟩
 refine EP_take rfl rfl rfl (fun _ => R_assign rfl) ?_
 refine EP_done ?_
 refine EC_ret ?_
 exact ⟨[_], ⟨rfl, trivial⟩, _, _, ⟨rfl, rfl, rfl⟩, (hs.fin [] []).as rfl rfl⟩

set_option maxRecDepth 100000 in
theorem dsame_spec (p q : Ptr) {w0 : World} : Spec Tryz.prog 228 #[p.val, q.val] w0 [] [] (fun v es1 ds1 => v = .bool (decide (keyP p = keyP q)) ∧ es1 = [] ∧ ds1 = []) := by
 refine Spec.intro (fun F D hs => ?_)
 refine Calls_of_EC (args := [p.val, q.val]) Tryz.func228 rfl rfl rfl ?_
 refine EC_rseq ?_
 refine EL_op rfl (O_box hs rfl rfl (fun b2 w hb2 hs => ?_))
 refine EL_op rfl (O_box hs rfl rfl (fun b3 w hb3 hs => ?_))
 refine EL_run rfl (R_assign rfl) ?_
 refine EL_nil ?_
 refine EC_rseq ?_
 refine EL_run rfl (R_lw (hs.at (i := 0) rfl) Tryz.isAgg32 Tryz.sizeOf32 rfl (Ptr.size _)) ?_
 refine EL_run rfl (R_lw (hs.at (i := 1) rfl) Tryz.isAgg32 Tryz.sizeOf32 rfl (Ptr.size _)) ?_
 refine EL_op rfl (O_call hs [] [] rfl rfl rfl Tryz.call226 (dcmp_spec p q) (fun v es1 ds1 w hPhi hs => ?_))
 obtain ⟨rfl, rfl, rfl⟩ := hPhi
 refine EL_run rfl (R_eql rfl rfl) ?_
 refine EL_run rfl (R_assign rfl) ?_
 refine EL_nil ?_
 refine EC_ret ?_
 exact ⟨[_], ⟨rfl, trivial⟩, _, _, ⟨by simp only [tupleOf]; congr 1; exact decide_eq_decide.2 cmpB_eq, rfl, rfl⟩, (hs.fin [] []).as rfl rfl⟩

set_option maxRecDepth 100000 in
theorem splitIs_spec (b : Nat) (ep : Int) (p : Ptr) {w0 : World} : Spec Tryz.prog 230 #[p.val, .pointer (some ⟨b, 0, none⟩)] w0 [blk b #[.int .i64 ep] 3] [] (fun v es1 ds1 => v = .bool (decide (p.birth ≤ ep)) ∧ es1 = [blk b #[.int .i64 ep] 3] ∧ ds1 = []) := by
 refine Spec.intro (fun F D hs => ?_)
 refine Calls_of_EC (args := [p.val, .pointer (some ⟨b, 0, none⟩)]) Tryz.func230 rfl rfl rfl ?_
 refine EC_rseq ?_
 refine EL_op rfl (O_box hs rfl rfl (fun b2 w hb2 hs => ?_))
 refine EL_run rfl (R_assign rfl) ?_
 refine EL_nil ?_
 refine EC_rseq ?_
 refine EL_run rfl (R_field fo_32_1 rfl) ?_
 refine EL_run rfl (R_lb (hs.at (i := 1) rfl) Tryz.isAgg3 rfl rfl) ?_
 refine EL_run rfl (R_lb (hs.at (i := 0) rfl) Tryz.isAgg3 rfl rfl) ?_
 refine EL_run rfl (R_leq rfl rfl) ?_
 refine EL_run rfl (R_assign rfl) ?_
 refine EL_nil ?_
 refine EC_ret ?_
 exact ⟨[_], ⟨rfl, trivial⟩, _, _, ⟨rfl, rfl, rfl⟩, (hs.fin [true] []).as rfl rfl⟩

set_option maxRecDepth 100000 in
theorem refSectors_spec (p : Ptr) {w0 : World} : Spec Tryz.prog 326 #[p.val] w0 [] [] (fun v es1 ds1 => v = .int .i64 (sectors p.len) ∧ es1 = [] ∧ ds1 = []) := by
 refine Spec.intro (fun F D hs => ?_)
 refine Calls_of_EC (args := [p.val]) Tryz.func326 rfl rfl rfl ?_
 refine EC_rseq ?_
 refine EL_op rfl (O_box hs rfl rfl (fun b1 w hb1 hs => ?_))
 refine EL_run rfl (R_assign rfl) ?_
 refine EL_nil ?_
 refine EC_seq ?_
 refine EC_rseq ?_
 refine EL_run rfl (R_field fo_32_2 rfl) ?_
 refine EL_run rfl (R_lb (hs.at (i := 0) rfl) Tryz.isAgg3 rfl rfl) ?_
 refine EL_run rfl (R_lss rfl rfl) ?_
 refine EL_run rfl (R_move rfl) ?_
 refine EL_split 6 rfl (fun hg3 => ?_) (fun hg3 => ?_)
 ·have hg3p := cvt hg3; try dsimp only at hg3p
  refine EL_pass rfl rfl rfl hg3 ?_
  refine EL_pass rfl rfl rfl hg3 ?_
  refine EL_pass rfl rfl rfl hg3 ?_
  refine EL_run rfl (R_pickT rfl hg3 rfl) ?_
  refine EL_nil ?_
  refine EC_cond rfl (fun hcx => ?_) (fun hcx => ?_)
  ·skip
   refine EC_rseq ?_
   refine EL_run rfl (R_assign rfl) ?_
   refine EL_nil ?_
   refine EC_ret ?_
   refine Then_r ?_
   exact ⟨[_], ⟨rfl, trivial⟩, _, _, ⟨by simp only [tupleOf, sectors]; congr 1; rw [if_pos (by first | exact .inl hg3p | exact .inr hc10p)], rfl, rfl⟩, (hs.fin [] []).as rfl rfl⟩
  ·exact Bool.noConfusion hcx
 ·have hg3p := cvt hg3; try dsimp only at hg3p
  refine EL_want rfl rfl hg3 ?_
  refine EL_run rfl (R_field fo_32_2 rfl) ?_
  refine EL_want rfl rfl hg3 ?_
  refine EL_run rfl (R_lb (hs.at (i := 0) rfl) Tryz.isAgg3 rfl rfl) ?_
  refine EL_want rfl rfl hg3 ?_
  refine EL_run rfl (R_gtr rfl rfl) ?_
  refine EL_run rfl (R_pickF rfl hg3 rfl) ?_
  refine EL_nil ?_
  refine EC_cond rfl (fun hc10 => ?_) (fun hc10 => ?_)
  ·have hc10p := cvt hc10; try dsimp only at hc10p
   refine EC_rseq ?_
   refine EL_run rfl (R_assign rfl) ?_
   refine EL_nil ?_
   refine EC_ret ?_
   refine Then_r ?_
   exact ⟨[_], ⟨rfl, trivial⟩, _, _, ⟨by simp only [tupleOf, sectors]; congr 1; rw [if_pos (by first | exact .inl hg3p | exact .inr hc10p)], rfl, rfl⟩, (hs.fin [] []).as rfl rfl⟩
  ·have hc10p := cvt hc10; try dsimp only at hc10p
   refine EC_skip ?_
   refine Then_n ?_
   refine EC_rseq ?_
   refine EL_run rfl (R_field fo_32_2 rfl) ?_
   refine EL_run rfl (R_lb (hs.at (i := 0) rfl) Tryz.isAgg3 rfl rfl) ?_
   refine EL_run rfl (R_addI rfl rfl (by omega)) ?_
   refine EL_run rfl (R_quoI rfl rfl (by omega) (by omega) (by omega)) ?_
   refine EL_run rfl (R_assign rfl) ?_
   refine EL_nil ?_
   refine EC_ret ?_
   exact ⟨[_], ⟨rfl, trivial⟩, _, _, ⟨by simp only [tupleOf, sectors]; congr 1; rw [if_neg (by omega)], rfl, rfl⟩, (hs.fin [] []).as rfl rfl⟩
end Go.Proofs.YtpcojkbljgpecaaGreat
namespace Go.Proofs.YtpcojkbljgpecaaGreat
open Go
set_option maxRecDepth 100000 in
theorem nShape_spec (n : Nd) {w0 : World} : Spec Tryz.prog 180 #[n.val] w0 [] n.ds (fun v es1 ds1 => ∃ b : Bool, v = .bool b ∧ (b = true ↔ n.m.shape) ∧ es1 = [] ∧ ds1 = []) := by
 refine Spec.intro (fun F D hs => ?_)
 obtain ⟨lvl, ko, kc, keys, vo, vc, vals, po, pc, kids⟩ := n
 refine Calls_of_EC (args := [.agg #[.int .i64 lvl, .slice ko keys.length kc, .slice vo vals.length vc, .slice po kids.length pc]]) Tryz.func180 rfl rfl rfl ?_
 refine EC_rseq ?_
 refine EL_op rfl (O_box hs rfl rfl (fun b1 w hb1 hs => ?_))
 refine EL_run rfl (R_assign rfl) ?_
 refine EL_nil ?_
 refine EC_seq ?_
 refine EC_rseq ?_
 refine EL_run rfl (R_field fo_39_0 rfl) ?_
 refine EL_run rfl (R_lb (hs.at (i := 0) rfl) Tryz.isAgg3 rfl rfl) ?_
 refine EL_run rfl (R_lss rfl rfl) ?_
 refine EL_run rfl (R_move rfl) ?_
 refine EL_split 10 rfl (fun hg3 => ?_) (fun hg3 => ?_)
 ·have hg3p := cvt hg3; try dsimp only at hg3p
  refine EL_pass rfl rfl rfl hg3 ?_
  refine EL_pass rfl rfl rfl hg3 ?_
  refine EL_pass rfl rfl rfl hg3 ?_
  refine EL_run rfl (R_pickT rfl hg3 rfl) ?_
  refine EL_run rfl (R_move rfl) ?_
  refine EL_pass rfl rfl rfl rfl ?_
  refine EL_pass rfl rfl rfl rfl ?_
  refine EL_pass rfl rfl rfl rfl ?_
  refine EL_pass rfl rfl rfl rfl ?_
  refine EL_run rfl (R_pickT rfl rfl rfl) ?_
  refine EL_run rfl (R_move rfl) ?_
  refine EL_pass rfl rfl rfl rfl ?_
  refine EL_pass rfl rfl rfl rfl ?_
  refine EL_pass rfl rfl rfl rfl ?_
  refine EL_pass rfl rfl rfl rfl ?_
  refine EL_run rfl (R_pickT rfl rfl rfl) ?_
  refine EL_run rfl (R_move rfl) ?_
  refine EL_pass rfl rfl rfl rfl ?_
  refine EL_pass rfl rfl rfl rfl ?_
  refine EL_pass rfl rfl rfl rfl ?_
  refine EL_run rfl (R_pickT rfl rfl rfl) ?_
  refine EL_nil ?_
  refine EC_cond rfl (fun hcx => ?_) (fun hcx => ?_)
  ·skip
   refine EC_rseq ?_
   refine EL_run rfl (R_assign rfl) ?_
   refine EL_nil ?_
   refine EC_ret ?_
   refine Then_r ?_
   refine ⟨[_], ⟨rfl, trivial⟩, _, _, ⟨_, rfl, ⟨fun h => (nomatch h), fun h => ?_⟩, rfl, rfl⟩, (hs.fin [] []).as rfl rfl⟩
   have h1 := h.lvl
   have h2 := h.some
   simp only [Nd.m, List.length_map] at h1 h2
   first
     | omega
     | exact Bool.noConfusion (hc31p.symm.trans (hli.2 h.lists))
  ·exact Bool.noConfusion hcx
 ·have hg3p := cvt hg3; try dsimp only at hg3p
  refine EL_want rfl rfl hg3 ?_
  refine EL_run rfl (R_field fo_39_0 rfl) ?_
  refine EL_want rfl rfl hg3 ?_
  refine EL_run rfl (R_lb (hs.at (i := 0) rfl) Tryz.isAgg3 rfl rfl) ?_
  refine EL_want rfl rfl hg3 ?_
  refine EL_run rfl (R_gtr rfl rfl) ?_
  refine EL_run rfl (R_pickF rfl hg3 rfl) ?_
  refine EL_run rfl (R_move rfl) ?_
  refine EL_split 15 rfl (fun hg8 => ?_) (fun hg8 => ?_)
  ·have hg8p := cvt hg8; try dsimp only at hg8p
   refine EL_pass rfl rfl rfl hg8 ?_
   refine EL_pass rfl rfl rfl hg8 ?_
   refine EL_pass rfl rfl rfl hg8 ?_
   refine EL_pass rfl rfl rfl hg8 ?_
   refine EL_run rfl (R_pickT rfl hg8 rfl) ?_
   refine EL_run rfl (R_move rfl) ?_
   refine EL_pass rfl rfl rfl rfl ?_
   refine EL_pass rfl rfl rfl rfl ?_
   refine EL_pass rfl rfl rfl rfl ?_
   refine EL_pass rfl rfl rfl rfl ?_
   refine EL_run rfl (R_pickT rfl rfl rfl) ?_
   refine EL_run rfl (R_move rfl) ?_
   refine EL_pass rfl rfl rfl rfl ?_
   refine EL_pass rfl rfl rfl rfl ?_
   refine EL_pass rfl rfl rfl rfl ?_
   refine EL_run rfl (R_pickT rfl rfl rfl) ?_
   refine EL_nil ?_
   refine EC_cond rfl (fun hcx => ?_) (fun hcx => ?_)
   ·skip
    refine EC_rseq ?_
    refine EL_run rfl (R_assign rfl) ?_
    refine EL_nil ?_
    refine EC_ret ?_
    refine Then_r ?_
    refine ⟨[_], ⟨rfl, trivial⟩, _, _, ⟨_, rfl, ⟨fun h => (nomatch h), fun h => ?_⟩, rfl, rfl⟩, (hs.fin [] []).as rfl rfl⟩
    have h1 := h.lvl
    have h2 := h.some
    simp only [Nd.m, List.length_map] at h1 h2
    first
      | omega
      | exact Bool.noConfusion (hc31p.symm.trans (hli.2 h.lists))
   ·exact Bool.noConfusion hcx
  ·have hg8p := cvt hg8; try dsimp only at hg8p
   refine EL_want rfl rfl hg8 ?_
   refine EL_run rfl (R_field fo_39_1 rfl) ?_
   refine EL_want rfl rfl hg8 ?_
   refine EL_run rfl (R_lb (hs.at (i := 0) rfl) Tryz.isAgg37 rfl rfl) ?_
   refine EL_want rfl rfl hg8 ?_
   refine EL_run rfl (R_lenS Tryz.underlying37 rfl) ?_
   refine EL_want rfl rfl hg8 ?_
   refine EL_run rfl (R_eql rfl rfl) ?_
   refine EL_run rfl (R_pickF rfl hg8 rfl) ?_
   refine EL_run rfl (R_move rfl) ?_
   refine EL_split 21 rfl (fun hg14 => ?_) (fun hg14 => ?_)
   ·have hg14p := cvt hg14; try dsimp only at hg14p
    refine EL_pass rfl rfl rfl hg14 ?_
    refine EL_pass rfl rfl rfl hg14 ?_
    refine EL_pass rfl rfl rfl hg14 ?_
    refine EL_pass rfl rfl rfl hg14 ?_
    refine EL_run rfl (R_pickT rfl hg14 rfl) ?_
    refine EL_run rfl (R_move rfl) ?_
    refine EL_pass rfl rfl rfl rfl ?_
    refine EL_pass rfl rfl rfl rfl ?_
    refine EL_pass rfl rfl rfl rfl ?_
    refine EL_run rfl (R_pickT rfl rfl rfl) ?_
    refine EL_nil ?_
    refine EC_cond rfl (fun hcx => ?_) (fun hcx => ?_)
    ·skip
     refine EC_rseq ?_
     refine EL_run rfl (R_assign rfl) ?_
     refine EL_nil ?_
     refine EC_ret ?_
     refine Then_r ?_
     refine ⟨[_], ⟨rfl, trivial⟩, _, _, ⟨_, rfl, ⟨fun h => (nomatch h), fun h => ?_⟩, rfl, rfl⟩, (hs.fin [] []).as rfl rfl⟩
     have h1 := h.lvl
     have h2 := h.some
     simp only [Nd.m, List.length_map] at h1 h2
     first
       | omega
       | exact Bool.noConfusion (hc31p.symm.trans (hli.2 h.lists))
    ·exact Bool.noConfusion hcx
   ·have hg14p := cvt hg14; try dsimp only at hg14p
    refine EL_want rfl rfl hg14 ?_
    refine EL_run rfl (R_field fo_39_1 rfl) ?_
    refine EL_want rfl rfl hg14 ?_
    refine EL_run rfl (R_lb (hs.at (i := 0) rfl) Tryz.isAgg37 rfl rfl) ?_
    refine EL_want rfl rfl hg14 ?_
    refine EL_run rfl (R_lenS Tryz.underlying37 rfl) ?_
    refine EL_want rfl rfl hg14 ?_
    refine EL_run rfl (R_gtr rfl rfl) ?_
    refine EL_run rfl (R_pickF rfl hg14 rfl) ?_
    refine EL_run rfl (R_move rfl) ?_
    refine EL_split 27 rfl (fun hg20 => ?_) (fun hg20 => ?_)
    ·have hg20p := cvt hg20; try dsimp only at hg20p
     refine EL_pass rfl rfl rfl hg20 ?_
     refine EL_pass rfl rfl rfl hg20 ?_
     refine EL_pass rfl rfl rfl hg20 ?_
     refine EL_run rfl (R_pickT rfl hg20 rfl) ?_
     refine EL_nil ?_
     refine EC_cond rfl (fun hcx => ?_) (fun hcx => ?_)
     ·skip
      refine EC_rseq ?_
      refine EL_run rfl (R_assign rfl) ?_
      refine EL_nil ?_
      refine EC_ret ?_
      refine Then_r ?_
      refine ⟨[_], ⟨rfl, trivial⟩, _, _, ⟨_, rfl, ⟨fun h => (nomatch h), fun h => ?_⟩, rfl, rfl⟩, (hs.fin [] []).as rfl rfl⟩
      have h1 := h.lvl
      have h2 := h.some
      simp only [Nd.m, List.length_map] at h1 h2
      first
        | omega
        | exact Bool.noConfusion (hc31p.symm.trans (hli.2 h.lists))
     ·exact Bool.noConfusion hcx
    ·have hg20p := cvt hg20; try dsimp only at hg20p
     refine EL_want rfl rfl hg20 ?_
     refine EL_run rfl (R_lw (hs.at (i := 0) rfl) Tryz.isAgg39 Tryz.sizeOf39 rfl rfl) ?_
     refine EL_want rfl rfl hg20 ?_
     refine EL_op rfl (O_call hs [] [] rfl rfl rfl Tryz.call253 (nLists_spec ⟨lvl, ko, kc, keys, vo, vc, vals, po, pc, kids⟩) (fun v es1 ds1 w hPhi hs => ?_))
     obtain ⟨bl_, rfl, hli, rfl, rfl⟩ := hPhi
     refine EL_want rfl rfl hg20 ?_
     refine EL_run rfl (R_not rfl) ?_
     refine EL_run rfl (R_pickF rfl hg20 rfl) ?_
     refine EL_nil ?_
     refine EC_cond rfl (fun hc31 => ?_) (fun hc31 => ?_)
     ·have hc31p := cvt hc31; try dsimp only at hc31p
      refine EC_rseq ?_
      refine EL_run rfl (R_assign rfl) ?_
      refine EL_nil ?_
      refine EC_ret ?_
      refine Then_r ?_
      refine ⟨[_], ⟨rfl, trivial⟩, _, _, ⟨_, rfl, ⟨fun h => (nomatch h), fun h => ?_⟩, rfl, rfl⟩, (hs.fin [] []).as rfl rfl⟩
      have h1 := h.lvl
      have h2 := h.some
      simp only [Nd.m, List.length_map] at h1 h2
      first
        | omega
        | exact Bool.noConfusion (hc31p.symm.trans (hli.2 h.lists))
     ·have hc31p := cvt hc31; try dsimp only at hc31p
      refine EC_skip ?_
      refine Then_n ?_
      refine EC_seq ?_
      have hlv : 0 ≤ lvl ∧ lvl ≤ 12 := by omega
      have hks : 1 ≤ keys.length ∧ keys.length ≤ 4096 := by omega
      have hlist := hli.1 hc31p
      have hvp : vals.length ≤ 4096 ∧ kids.length ≤ 4096 := by
        have h1 := hlist
        simp only [NdM.lists, Nd.m, List.length_map] at h1
        split at h1 <;> omega
      refine EC_rseq ?_
      refine EL_run rfl (R_field fo_39_1 rfl) ?_
      refine EL_run rfl (R_lb (hs.at (i := 0) rfl) Tryz.isAgg37 rfl rfl) ?_
      refine EL_run rfl (R_lenS Tryz.underlying37 rfl) ?_
      refine EL_run rfl (R_move rfl) ?_
      refine EL_nil ?_
      refine EC_block ?_
      refine EC_loop (fun mm ρ w => ∃ i : Nat, mm = keys.length - i ∧ i ≤ keys.length ∧ (∀ j, j < i → keyOk (keys.map SB.b) j) ∧ Slots ρ [(1, .pointer (some ⟨b1, 0, none⟩)), (33, .slice ko keys.length kc), (34, .int .i64 (keys.length : Int)), (35, .int .i64 (i : Int))] ∧ St w0 F D [blk b1 #[.int .i64 lvl, .slice ko keys.length kc, .slice vo vals.length vc, .slice po kids.length pc] 39] [dSS ko kc keys, dSS vo vc vals, dP po pc kids] w) (keys.length) (⟨0, by omega, by omega, fun j h => absurd h (Nat.not_lt_zero _), ⟨rfl, rfl, rfl, rfl, trivial⟩, (hs.fin [true] [0, 1, 2]).as rfl rfl⟩) ?_
      rintro mm ρ w ⟨i, rfl, hi, hok, hsl, hs⟩
      refine EC_slots _ hsl ?_
      refine EC_rseq ?_
      refine EL_run rfl (R_lss rfl rfl) ?_
      refine EL_nil ?_
      refine EC_seq ?_
      refine EC_cond rfl (fun hc36 => ?_) (fun hc36 => ?_)
      ·have hc36p := cvt hc36; try dsimp only at hc36p
       have hib : i < keys.length := by omega
       obtain ⟨bb, oo, rfl⟩ := dSlsomeF (hs.rd (i := 0) rfl).1 SB.len (by decide) hib
       refine EC_skip ?_
       refine Then_n ?_
       refine EC_seq ?_
       refine EC_block ?_
       refine EC_rseq ?_
       refine EL_run rfl (R_move rfl) ?_
       refine EL_run rfl (R_idx es_37 rfl (by rfl) rfl (by omega) (by omega)) ?_
       refine EL_run rfl (R_ldF (j := 0) (hs.rd (i := 0) rfl).1 SB.len Tryz.isAgg36 rfl (by simp <;> omega) (List.getElem?_eq_getElem hib) rfl) ?_
       refine EL_run rfl (R_assign rfl) ?_
       refine EL_run rfl (R_assign rfl) ?_
       refine EL_nil ?_
       refine EC_rseq ?_
       refine EL_run rfl (R_move rfl) ?_
       refine EL_run rfl (R_lenS Tryz.underlying36 rfl) ?_
       refine EL_run rfl (R_gtr rfl rfl) ?_
       refine EL_run rfl (R_move rfl) ?_
       refine EL_split 43 rfl (fun hg3 => ?_) (fun hg3 => ?_)
       ·have hg3p := cvt hg3; try dsimp only at hg3p
        refine EL_pass rfl rfl rfl hg3 ?_
        refine EL_pass rfl rfl rfl hg3 ?_
        refine EL_pass rfl rfl rfl hg3 ?_
        refine EL_passU rfl rfl rfl ?_
        refine EL_passU rfl rfl rfl ?_
        refine EL_passU rfl rfl rfl ?_
        refine EL_passU rfl rfl rfl ?_
        refine EL_passU rfl rfl rfl ?_
        refine EL_passU rfl rfl rfl ?_
        refine EL_passU rfl rfl rfl ?_
        refine EL_passU rfl rfl rfl ?_
        refine EL_passU rfl rfl rfl ?_
        refine EL_pass rfl rfl rfl hg3 ?_
        refine EL_run rfl (R_pickT rfl hg3 rfl) ?_
        refine EL_nil ?_
        refine EC_cond rfl (fun hcx => ?_) (fun hcx => ?_)
        ·skip
         refine EC_rseq ?_
         refine EL_run rfl (R_assign rfl) ?_
         refine EL_nil ?_
         refine EC_ret ?_
         refine InBlock_r ?_
         refine Then_r ?_
         refine Then_r ?_
         refine InBlock_r ?_
         refine Then_r ?_
         refine ⟨[_], ⟨rfl, trivial⟩, _, _, ⟨_, rfl, ⟨fun h => (nomatch h), fun h => ?_⟩, rfl, rfl⟩, (hs.fin [] []).as rfl rfl⟩
         have h1 := h.keys i (by simpa [Nd.m] using hib) _ (sb_get hib)
         first
           | (have h2 := h1.1
              omega)
           | (have h2 := h1.2 (i - 1) _ (by omega) (sb_get hib2)
              have h3 := cmpB_lt.2 h2
              omega)
        ·exact Bool.noConfusion hcx
       ·have hg3p := cvt hg3; try dsimp only at hg3p
        refine EL_want rfl rfl hg3 ?_
        refine EL_run rfl (R_move rfl) ?_
        refine EL_want rfl rfl hg3 ?_
        refine EL_run rfl (R_gtr rfl rfl) ?_
        refine EL_want rfl rfl hg3 ?_
        refine EL_run rfl (R_move rfl) ?_
        refine EL_split 46 rfl (fun hg6 => ?_) (fun hg6 => ?_)
        ·have hg6p := cvt hg6; try dsimp only at hg6p
         have hib2 : i - 1 < keys.length := by omega
         have hs := (hs.dDpGet (j := 0) rfl (List.getElem_mem hib)).dDpGet (j := 0) rfl (List.getElem_mem hib2)
         refine EL_want rfl rfl hg6 ?_
         refine EL_run rfl (R_field fo_39_1 rfl) ?_
         refine EL_want rfl rfl hg6 ?_
         refine EL_run rfl (R_lb (hs.at (i := 0) rfl) Tryz.isAgg37 rfl rfl) ?_
         refine EL_want rfl rfl hg6 ?_
         refine EL_run rfl (R_move rfl) ?_
         refine EL_want rfl rfl hg6 ?_
         refine EL_run rfl (R_subI rfl rfl (by omega)) ?_
         refine EL_want rfl rfl hg6 ?_
         refine EL_run rfl (R_idx es_37 rfl (by rfl) rfl (by omega) (by omega)) ?_
         refine EL_want rfl rfl hg6 ?_
         refine EL_run rfl (R_ldF (j := 0) (hs.rd (i := 0) rfl).1 SB.len Tryz.isAgg36 rfl (by simp <;> omega) (List.getElem?_eq_getElem hib2) rfl) ?_
         refine EL_want rfl rfl hg6 ?_
         refine EL_run rfl (R_move rfl) ?_
         refine EL_want rfl rfl hg6 ?_
         refine EL_op rfl (O_call hs [] [4, 3] rfl rfl rfl Tryz.call199 (bcmp_spec _ _ _ _ keys[i - 1].b keys[i].b) (fun v es1 ds1 w hPhi hs => ?_))
         obtain ⟨rfl, rfl, rfl⟩ := hPhi
         refine EL_want rfl rfl hg6 ?_
         refine EL_run rfl (R_geq rfl rfl) ?_
         refine EL_want rfl rfl hg3 ?_
         refine EL_run rfl (R_pickT rfl hg6 rfl) ?_
         refine EL_run rfl (R_pickF rfl hg3 rfl) ?_
         refine EL_nil ?_
         refine EC_cond rfl (fun hc57 => ?_) (fun hc57 => ?_)
         ·have hc57p := cvt hc57; try dsimp only at hc57p
          refine EC_rseq ?_
          refine EL_run rfl (R_assign rfl) ?_
          refine EL_nil ?_
          refine EC_ret ?_
          refine InBlock_r ?_
          refine Then_r ?_
          refine Then_r ?_
          refine InBlock_r ?_
          refine Then_r ?_
          refine ⟨[_], ⟨rfl, trivial⟩, _, _, ⟨_, rfl, ⟨fun h => (nomatch h), fun h => ?_⟩, rfl, rfl⟩, (hs.fin [] []).as rfl rfl⟩
          have h1 := h.keys i (by simpa [Nd.m] using hib) _ (sb_get hib)
          first
            | (have h2 := h1.1
               omega)
            | (have h2 := h1.2 (i - 1) _ (by omega) (sb_get hib2)
               have h3 := cmpB_lt.2 h2
               omega)
         ·have hc57p := cvt hc57; try dsimp only at hc57p
          refine EC_skip ?_
          refine InBlock_n ?_
          refine Then_n ?_
          refine EC_region ?_
          refine EL_run rfl (R_addI rfl rfl (by omega)) ?_
          refine EL_run rfl (R_move rfl) ?_
          refine EL_nil ?_
          refine Then_n ?_
          have g1 : keyOk (keys.map SB.b) i := by
            intro k hk
            rw [sb_get hib] at hk
            obtain rfl := Option.some.inj hk
            refine ⟨by omega, fun j q hj hq => ?_⟩
            first
              | omega
              | (obtain rfl : j = i - 1 := by omega
                 rw [sb_get hib2] at hq
                 obtain rfl := Option.some.inj hq
                 cases hb : bl keys[i - 1].b keys[i].b
                 · have h1 : ¬ cmpB keys[i - 1].b keys[i].b < 0 := fun h => Bool.noConfusion (hb.symm.trans (cmpB_lt.1 h))
                   omega
                 · rfl)
          have g2 : ∀ j, j < i + 1 → keyOk (keys.map SB.b) j := fun j hj => by
            rcases Nat.lt_or_ge j i with h | h
            · exact hok j h
            · obtain rfl : j = i := by omega
              exact g1
          exact ⟨keys.length - (i + 1), by omega, i + 1, rfl, by omega, g2, ⟨rfl, rfl, rfl, rfl, trivial⟩, (hs.fin [true] [0, 1, 2]).as rfl rfl⟩
        ·have hg6p := cvt hg6; try dsimp only at hg6p
         refine EL_pass rfl rfl rfl hg6 ?_
         refine EL_pass rfl rfl rfl hg6 ?_
         refine EL_pass rfl rfl rfl hg6 ?_
         refine EL_pass rfl rfl rfl hg6 ?_
         refine EL_pass rfl rfl rfl hg6 ?_
         refine EL_pass rfl rfl rfl hg6 ?_
         refine EL_pass rfl rfl rfl hg6 ?_
         refine EL_pass rfl rfl rfl hg6 ?_
         refine EL_pass rfl rfl rfl hg6 ?_
         refine EL_want rfl rfl hg3 ?_
         refine EL_run rfl (R_pickF rfl hg6 rfl) ?_
         refine EL_run rfl (R_pickF rfl hg3 rfl) ?_
         refine EL_nil ?_
         refine EC_cond rfl (fun hcx => ?_) (fun hcx => ?_)
         ·exact Bool.noConfusion hcx
         ·skip
          refine EC_skip ?_
          refine InBlock_n ?_
          refine Then_n ?_
          refine EC_region ?_
          refine EL_run rfl (R_addI rfl rfl (by omega)) ?_
          refine EL_run rfl (R_move rfl) ?_
          refine EL_nil ?_
          refine Then_n ?_
          have g1 : keyOk (keys.map SB.b) i := by
            intro k hk
            rw [sb_get hib] at hk
            obtain rfl := Option.some.inj hk
            refine ⟨by omega, fun j q hj hq => ?_⟩
            first
              | omega
              | (obtain rfl : j = i - 1 := by omega
                 rw [sb_get hib2] at hq
                 obtain rfl := Option.some.inj hq
                 cases hb : bl keys[i - 1].b keys[i].b
                 · have h1 : ¬ cmpB keys[i - 1].b keys[i].b < 0 := fun h => Bool.noConfusion (hb.symm.trans (cmpB_lt.1 h))
                   omega
                 · rfl)
          have g2 : ∀ j, j < i + 1 → keyOk (keys.map SB.b) j := fun j hj => by
            rcases Nat.lt_or_ge j i with h | h
            · exact hok j h
            · obtain rfl : j = i := by omega
              exact g1
          exact ⟨keys.length - (i + 1), by omega, i + 1, rfl, by omega, g2, ⟨rfl, rfl, rfl, rfl, trivial⟩, (hs.fin [true] [0, 1, 2]).as rfl rfl⟩
      ·have hc36p := cvt hc36; try dsimp only at hc36p
       obtain rfl : i = keys.length := by omega
       refine EC_exit ?_
       refine Then_e ?_
       refine Then_e ?_
       refine InBlock_hit rfl ?_
       refine Then_n ?_
       refine EC_seq ?_
       refine EC_rseq ?_
       refine EL_run rfl (R_field fo_39_2 rfl) ?_
       refine EL_run rfl (R_lb (hs.at (i := 0) rfl) Tryz.isAgg37 rfl rfl) ?_
       refine EL_run rfl (R_lenS Tryz.underlying37 rfl) ?_
       refine EL_run rfl (R_move rfl) ?_
       refine EL_nil ?_
       refine EC_block ?_
       refine EC_loop (fun mm ρ w => ∃ i : Nat, mm = vals.length - i ∧ i ≤ vals.length ∧ (∀ v, v ∈ vals.take i → v.b.length ≤ 1024) ∧ Slots ρ [(1, .pointer (some ⟨b1, 0, none⟩)), (60, .slice vo vals.length vc), (61, .int .i64 (vals.length : Int)), (62, .int .i64 (i : Int))] ∧ St w0 F D [blk b1 #[.int .i64 lvl, .slice ko keys.length kc, .slice vo vals.length vc, .slice po kids.length pc] 39] [dSS ko kc keys, dSS vo vc vals, dP po pc kids] w) (vals.length) (⟨0, by omega, by omega, fun v h => (nomatch h), ⟨rfl, rfl, rfl, rfl, trivial⟩, (hs.fin [true] [0, 1, 2]).as rfl rfl⟩) ?_
       rintro mm ρ w ⟨i, rfl, hi, hvk, hsl, hs⟩
       refine EC_slots _ hsl ?_
       refine EC_rseq ?_
       refine EL_run rfl (R_lss rfl rfl) ?_
       refine EL_nil ?_
       refine EC_seq ?_
       refine EC_cond rfl (fun hc63 => ?_) (fun hc63 => ?_)
       ·have hc63p := cvt hc63; try dsimp only at hc63p
        have hib : i < vals.length := by omega
        obtain ⟨bb, oo, rfl⟩ := dSlsomeF (hs.rd (i := 1) rfl).1 SB.len (by decide) hib
        refine EC_skip ?_
        refine Then_n ?_
        refine EC_seq ?_
        refine EC_block ?_
        refine EC_rseq ?_
        refine EL_run rfl (R_idx es_37 rfl (by rfl) rfl (by omega) (by omega)) ?_
        refine EL_run rfl (R_ldF (j := 0) (hs.rd (i := 1) rfl).1 SB.len Tryz.isAgg36 rfl (by simp <;> omega) (List.getElem?_eq_getElem hib) rfl) ?_
        refine EL_run rfl (R_assign rfl) ?_
        refine EL_nil ?_
        refine EC_rseq ?_
        refine EL_run rfl (R_move rfl) ?_
        refine EL_run rfl (R_lenS Tryz.underlying36 rfl) ?_
        refine EL_run rfl (R_gtr rfl rfl) ?_
        refine EL_nil ?_
        refine EC_cond rfl (fun hc68 => ?_) (fun hc68 => ?_)
        ·have hc68p := cvt hc68; try dsimp only at hc68p
         refine EC_rseq ?_
         refine EL_run rfl (R_assign rfl) ?_
         refine EL_nil ?_
         refine EC_ret ?_
         refine InBlock_r ?_
         refine Then_r ?_
         refine Then_r ?_
         refine InBlock_r ?_
         refine Then_r ?_
         refine ⟨[_], ⟨rfl, trivial⟩, _, _, ⟨_, rfl, ⟨fun h => (nomatch h), fun h => ?_⟩, rfl, rfl⟩, (hs.fin [] []).as rfl rfl⟩
         have h1 := h.vals vals[i].b (List.mem_map.2 ⟨_, List.getElem_mem hib, rfl⟩)
         omega
        ·have hc68p := cvt hc68; try dsimp only at hc68p
         refine EC_skip ?_
         refine InBlock_n ?_
         refine Then_n ?_
         refine EC_region ?_
         refine EL_run rfl (R_addI rfl rfl (by omega)) ?_
         refine EL_run rfl (R_move rfl) ?_
         refine EL_nil ?_
         refine Then_n ?_
         have g1 : ∀ v, v ∈ vals.take (i + 1) → v.b.length ≤ 1024 := fun v hv => by
           rw [List.take_succ_eq_append_getElem hib] at hv
           rcases List.mem_append.1 hv with hv | hv
           · exact hvk v hv
           · obtain rfl := List.mem_singleton.1 hv
             omega
         exact ⟨vals.length - (i + 1), by omega, i + 1, rfl, by omega, g1, ⟨rfl, rfl, rfl, rfl, trivial⟩, (hs.fin [true] [0, 1, 2]).as rfl rfl⟩
       ·have hc63p := cvt hc63; try dsimp only at hc63p
        obtain rfl : i = vals.length := by omega
        rw [List.take_length] at hvk
        refine EC_exit ?_
        refine Then_e ?_
        refine Then_e ?_
        refine InBlock_hit rfl ?_
        refine Then_n ?_
        refine EC_rseq ?_
        refine EL_run rfl (R_field fo_39_3 rfl) ?_
        refine EL_run rfl (R_lb (hs.at (i := 0) rfl) Tryz.isAgg26 rfl rfl) ?_
        refine EL_op rfl (O_call hs [] [2] rfl rfl rfl Tryz.call148 (hasWrong_spec po pc kids (by omega)) (fun v es1 ds1 w hPhi hs => ?_))
        obtain ⟨bw, rfl, hbw, rfl, rfl⟩ := hPhi
        refine EL_run rfl (R_not rfl) ?_
        refine EL_run rfl (R_assign rfl) ?_
        refine EL_nil ?_
        refine EC_ret ?_
        refine ⟨[_], ⟨rfl, trivial⟩, _, _, ⟨_, rfl, ⟨fun h => ?_, fun h => ?_⟩, rfl, rfl⟩, (hs.fin [] []).as rfl rfl⟩
        · refine ⟨hlv, ?_, hlist, ?_, ?_, ?_⟩
          · simpa [Nd.m] using hks
          · intro j hj
            exact hok j (by simpa [Nd.m] using hj)
          · intro v hv
            obtain ⟨s, hs', rfl⟩ := List.mem_map.1 hv
            exact hvk s hs'
          · intro p hp
            cases hr : p.right
            · rw [hbw.2 ⟨p, hp, hr⟩] at h; cases h
            · rfl
        · cases hb : bw
          · rfl
          · obtain ⟨p, hp, hr⟩ := hbw.1 hb
            rw [h.kids p hp] at hr; cases hr

set_option maxRecDepth 100000 in
theorem shared_spec (ao : Option Addr) (c : Nat) (a : BL) (ao2 : Option Addr) (c2 : Nat) (b : BL) {w0 : World} (hal : a.length ≤ 1000000) : Spec Tryz.prog 256 #[.slice ao a.length c, .slice ao2 b.length c2] w0 [] [dB ao c a, dB ao2 c2 b] (fun v es1 ds1 => v = .int .i64 (shr a b : Int) ∧ es1 = [] ∧ ds1 = []) := by
 refine Spec.intro (fun F D hs => ?_)
 refine Calls_of_EC (args := [.slice ao a.length c, .slice ao2 b.length c2]) Tryz.func256 rfl rfl rfl ?_
 refine EC_rseq ?_
 refine EL_run rfl (R_assign rfl) ?_
 refine EL_nil ?_
 refine EC_rseq ?_
 refine EL_run rfl (R_assign rfl) ?_
 refine EL_nil ?_
 refine EC_seq ?_
 refine EC_block ?_
 refine EC_loop (fun mm ρ w => ∃ n : Nat, mm = a.length - n ∧ n ≤ a.length ∧ n ≤ b.length ∧ n + shr (a.drop n) (b.drop n) = shr a b ∧ Slots ρ [(0, .slice ao a.length c), (1, .slice ao2 b.length c2), (5, .int .i64 (n : Int))] ∧ St w0 F D [] [dB ao c a, dB ao2 c2 b] w) (a.length) (⟨0, by omega, by omega, by omega, by simp, ⟨rfl, rfl, rfl, trivial⟩, hs⟩) ?_
 rintro mm ρ w ⟨n, rfl, hna, hnb, hsh, hsl, hs⟩
 refine EC_slots _ hsl ?_
 refine EC_seq ?_
 refine EC_dseqS hs [] [14, 18] [] [0, 1] (.take 0 (.take 1 (.take 2 (.take 3 (.take 4 (.take 5 (.take 6 (.take 7 (.take 8 (.take 9 (.take 10 (.take 11 (.take 12 (.take 13 (.take 14 (.take 15 (.take 16 (.take 17 (.take 18 (.take 19 (.take 20 .done))))))))))))))))))))) mix_ok (by kernel_rfl) (fun w hs _ => ?_)
 refine EP_take rfl rfl rfl (fun _ => R_move rfl) ?_
 refine EP_take rfl rfl rfl (fun _ => R_move rfl) ?_
 refine EP_take rfl rfl rfl (fun _ => R_lenS Tryz.underlying36 rfl) ?_
 refine EP_take rfl rfl rfl (fun _ => R_lss rfl rfl) ?_
 refine EP_take rfl rfl rfl (fun _ => R_move rfl) ?_
 refine EP_split 10 rfl (fun hg4 => ?_) (fun hg4 => ?_)
 ·have hg4p := cvt hg4; try dsimp only at hg4p
  refine EP_takeG rfl rfl rfl hg4 rfl rfl (fun _ => R_move rfl) ?_
  refine EP_takeG rfl rfl rfl hg4 rfl rfl (fun _ => R_move rfl) ?_
  refine EP_takeG rfl rfl rfl hg4 rfl rfl (fun _ => R_lenS Tryz.underlying36 rfl) ?_
  refine EP_takeG rfl rfl rfl hg4 rfl rfl (fun _ => R_lss rfl rfl) ?_
  refine EP_take rfl rfl rfl (fun _ => R_pickT rfl hg4 rfl) ?_
  refine EP_take rfl rfl rfl (fun _ => R_move rfl) ?_
  refine EP_split 16 rfl (fun hg10 => ?_) (fun hg10 => ?_)
  ·have hg10p := cvt hg10; try dsimp only at hg10p
   have ha : n < a.length := by omega
   have hb : n < b.length := by omega
   obtain ⟨ba, oa, rfl⟩ := dSl.some (hs.rd (i := 0) rfl) (u8s_nil ha)
   obtain ⟨bb, ob, rfl⟩ := dSl.some (hs.rd (i := 1) rfl) (u8s_nil hb)
   refine EP_takeG rfl rfl rfl hg10 rfl rfl (fun _ => R_move rfl) ?_
   refine EP_takeG rfl rfl rfl hg10 rfl rfl (fun _ => R_move rfl) ?_
   refine EP_takeG rfl rfl rfl hg10 rfl rfl (fun _ => R_idx es_36 rfl (by rfl) rfl (by omega) (by omega)) ?_
   refine EP_readG rfl rfl rfl hg10 rfl rfl (RdS.of hs rfl rfl) (fun _ hR => R_ld (hR.d 0 rfl rfl) Tryz.isAgg5 rfl (by simp <;> omega) (u8s_get (List.getElem?_eq_getElem ha))) ?_
   refine EP_takeG rfl rfl rfl hg10 rfl rfl (fun _ => R_move rfl) ?_
   refine EP_takeG rfl rfl rfl hg10 rfl rfl (fun _ => R_move rfl) ?_
   refine EP_takeG rfl rfl rfl hg10 rfl rfl (fun _ => R_idx es_36 rfl (by rfl) rfl (by omega) (by omega)) ?_
   refine EP_readG rfl rfl rfl hg10 rfl rfl (RdS.of hs rfl rfl) (fun _ hR => R_ld (hR.d 1 rfl rfl) Tryz.isAgg5 rfl (by simp <;> omega) (u8s_get (List.getElem?_eq_getElem hb))) ?_
   refine EP_takeG rfl rfl rfl hg10 rfl rfl (fun _ => R_eql rfl rfl) ?_
   refine EP_take rfl rfl rfl (fun _ => R_pickT rfl hg10 rfl) ?_
   refine EP_done ?_
   refine EC_cond rfl (fun hc26 => ?_) (fun hc26 => ?_)
   ·have hc26p := cvt hc26; try dsimp only at hc26p
    refine EC_skip ?_
    refine Then_n ?_
    refine EC_block ?_
    refine EC_region ?_
    refine EL_run rfl (R_move rfl) ?_
    refine EL_run rfl (R_addI rfl rfl (by omega)) ?_
    refine EL_run rfl (R_assign rfl) ?_
    refine EL_nil ?_
    refine InBlock_n ?_
    refine Then_n ?_
    have he : a[n] = b[n] := UInt8.toNat_inj.1 (by omega)
    exact ⟨a.length - (n + 1), by omega, n + 1, rfl, by omega, by omega, by rw [← hsh, shr_step ha hb, if_pos he]; omega, ⟨rfl, rfl, sI (by omega), trivial⟩, (hs.fin [] [0, 1]).as rfl rfl⟩
   ·have hc26p := cvt hc26; try dsimp only at hc26p
    refine EC_exit ?_
    refine Then_e ?_
    refine Then_e ?_
    refine InBlock_hit rfl ?_
    refine Then_n ?_
    have hend : shr a b = n := by
      rw [← hsh]
      first
        | (rw [shr_step ha hb, if_neg (fun h => by rw [h] at hc26p; exact hc26p rfl)]; rfl)
        | (rw [shr_end (by omega)]; rfl)
    refine EC_rseq ?_
    refine EL_run rfl (R_move rfl) ?_
    refine EL_run rfl (R_assign rfl) ?_
    refine EL_nil ?_
    refine EC_ret ?_
    exact ⟨[_], ⟨rfl, trivial⟩, _, _, ⟨by rw [hend]; rfl, rfl, rfl⟩, (hs.fin [] []).as rfl rfl⟩
  ·have hg10p := cvt hg10; try dsimp only at hg10p
   refine EP_passT rfl rfl rfl hg10 rfl (fun _ => RdS.of hs rfl rfl) ?_
   refine EP_passT rfl rfl rfl hg10 rfl (fun _ => RdS.of hs rfl rfl) ?_
   refine EP_passT rfl rfl rfl hg10 rfl (fun _ => RdS.of hs rfl rfl) ?_
   refine EP_passT rfl rfl rfl hg10 rfl (fun _ => RdS.of hs rfl rfl) ?_
   refine EP_passT rfl rfl rfl hg10 rfl (fun _ => RdS.of hs rfl rfl) ?_
   refine EP_passT rfl rfl rfl hg10 rfl (fun _ => RdS.of hs rfl rfl) ?_
   refine EP_passT rfl rfl rfl hg10 rfl (fun _ => RdS.of hs rfl rfl) ?_
   refine EP_passT rfl rfl rfl hg10 rfl (fun _ => RdS.of hs rfl rfl) ?_
   refine EP_passT rfl rfl rfl hg10 rfl (fun _ => RdS.of hs rfl rfl) ?_
   refine EP_take rfl rfl rfl (fun _ => R_pickF rfl hg10 rfl) ?_
   refine EP_done ?_
   refine EC_cond rfl (fun hcx => ?_) (fun hcx => ?_)
   ·exact Bool.noConfusion hcx
   ·skip
    refine EC_exit ?_
    refine Then_e ?_
    refine Then_e ?_
    refine InBlock_hit rfl ?_
    refine Then_n ?_
    have hend : shr a b = n := by
      rw [← hsh]
      first
        | (rw [shr_step ha hb, if_neg (fun h => by rw [h] at hc26p; exact hc26p rfl)]; rfl)
        | (rw [shr_end (by omega)]; rfl)
    refine EC_rseq ?_
    refine EL_run rfl (R_move rfl) ?_
    refine EL_run rfl (R_assign rfl) ?_
    refine EL_nil ?_
    refine EC_ret ?_
    exact ⟨[_], ⟨rfl, trivial⟩, _, _, ⟨by rw [hend]; rfl, rfl, rfl⟩, (hs.fin [] []).as rfl rfl⟩
 ·have hg4p := cvt hg4; try dsimp only at hg4p
  refine EP_passT rfl rfl rfl hg4 rfl (fun _ => RdS.of hs rfl rfl) ?_
  refine EP_passT rfl rfl rfl hg4 rfl (fun _ => RdS.of hs rfl rfl) ?_
  refine EP_passT rfl rfl rfl hg4 rfl (fun _ => RdS.of hs rfl rfl) ?_
  refine EP_passT rfl rfl rfl hg4 rfl (fun _ => RdS.of hs rfl rfl) ?_
  refine EP_take rfl rfl rfl (fun _ => R_pickF rfl hg4 rfl) ?_
  refine EP_take rfl rfl rfl (fun _ => R_move rfl) ?_
  refine EP_passT rfl rfl rfl rfl rfl (fun _ => RdS.of hs rfl rfl) ?_
  refine EP_passT rfl rfl rfl rfl rfl (fun _ => RdS.of hs rfl rfl) ?_
  refine EP_passT rfl rfl rfl rfl rfl (fun _ => RdS.of hs rfl rfl) ?_
  refine EP_passT rfl rfl rfl rfl rfl (fun _ => RdS.of hs rfl rfl) ?_
  refine EP_passT rfl rfl rfl rfl rfl (fun _ => RdS.of hs rfl rfl) ?_
  refine EP_passT rfl rfl rfl rfl rfl (fun _ => RdS.of hs rfl rfl) ?_
  refine EP_passT rfl rfl rfl rfl rfl (fun _ => RdS.of hs rfl rfl) ?_
  refine EP_passT rfl rfl rfl rfl rfl (fun _ => RdS.of hs rfl rfl) ?_
  refine EP_passT rfl rfl rfl rfl rfl (fun _ => RdS.of hs rfl rfl) ?_
  refine EP_take rfl rfl rfl (fun _ => R_pickF rfl rfl rfl) ?_
  refine EP_done ?_
  refine EC_cond rfl (fun hcx => ?_) (fun hcx => ?_)
  ·exact Bool.noConfusion hcx
  ·skip
   refine EC_exit ?_
   refine Then_e ?_
   refine Then_e ?_
   refine InBlock_hit rfl ?_
   refine Then_n ?_
   have hend : shr a b = n := by
     rw [← hsh]
     first
       | (rw [shr_step ha hb, if_neg (fun h => by rw [h] at hc26p; exact hc26p rfl)]; rfl)
       | (rw [shr_end (by omega)]; rfl)
   refine EC_rseq ?_
   refine EL_run rfl (R_move rfl) ?_
   refine EL_run rfl (R_assign rfl) ?_
   refine EL_nil ?_
   refine EC_ret ?_
   exact ⟨[_], ⟨rfl, trivial⟩, _, _, ⟨by rw [hend]; rfl, rfl, rfl⟩, (hs.fin [] []).as rfl rfl⟩
end Go.Proofs.YtpcojkbljgpecaaGreat
namespace Go.Proofs.YtpcojkbljgpecaaGreat
open Go
theorem lastK_mem : ∀ (l : List (BL × BL)) (last : BL), lastK last l = last ∨ ∃ e, e ∈ l ∧ lastK last l = e.1
  | [], _ => .inl rfl
  | (k, b) :: l, _ => by
    rcases lastK_mem l k with h | ⟨e, he, h⟩
    · exact .inr ⟨(k, b), List.mem_cons_self, h⟩
    · exact .inr ⟨e, List.mem_cons_of_mem _ he, h⟩
theorem lastK_le {n : NdM} (h : n.shape) (i : Nat) : (lastK [] (n.ents.take i)).length ≤ 1000000 := by
  rcases lastK_mem (n.ents.take i) [] with h1 | ⟨e, he, h1⟩
  · rw [h1]; simp
  · rw [h1]
    have := (h.ents_ok e (List.mem_of_mem_take he)).1
    omega
set_option maxRecDepth 100000 in
theorem nBytes_spec (n : Nd) {w0 : World} (hn : n.m.shape) : Spec Tryz.prog 181 #[n.val] w0 [] n.ds (fun v es1 ds1 => es1 = [oSl v 5 1 (leafB n.m).length (u8s (leafB n.m))] ∧ ds1 = []) := by
 refine Spec.intro (fun F D hs => ?_)
 obtain ⟨lvl, ko, kc, keys, vo, vc, vals, po, pc, kids⟩ := n
 refine Calls_of_EC (args := [.agg #[.int .i64 lvl, .slice ko keys.length kc, .slice vo vals.length vc, .slice po kids.length pc]]) Tryz.func181 rfl rfl rfl ?_
 refine EC_rseq ?_
 refine EL_op rfl (O_box hs rfl rfl (fun b1 w hb1 hs => ?_))
 refine EL_run rfl (R_assign rfl) ?_
 refine EL_nil ?_
 have hs := hs.nilD 1
 have hlv := hn.lvl
 have hks := hn.some
 simp only [Nd.m, List.length_map] at hlv hks
 have h4 := short_len_le (n := lvl.toNat) (by omega)
 have h5 := short_len_le (n := keys.length) (by omega)
 refine EC_dseqS hs [3, 8] [1, 5] [0] [] (.take 0 (.take 1 (.take 2 (.take 4 (.take 5 (.take 6 (.take 7 (.fork 3 (.fork 8 (.take 9 .done) (.done)) (.done))))))))) mix_ok (by kernel_rfl) (fun w hs _ => ?_)
 refine EP_take rfl rfl rfl (fun _ => R_field fo_39_0 rfl) ?_
 refine EP_read rfl rfl rfl (RdS.of hs rfl rfl) (fun _ hR => R_lb (hR.e 0 rfl rfl) Tryz.isAgg3 rfl rfl) ?_
 refine EP_take rfl rfl rfl (fun _ => R_convIU Tryz.underlying3 Tryz.underlying328 rfl (by omega) (by omega)) ?_
 refine EP_take rfl rfl rfl (fun _ => R_field fo_39_1 rfl) ?_
 refine EP_read rfl rfl rfl (RdS.of hs rfl rfl) (fun _ hR => R_lb (hR.e 0 rfl rfl) Tryz.isAgg37 rfl rfl) ?_
 refine EP_take rfl rfl rfl (fun _ => R_lenS Tryz.underlying37 rfl) ?_
 refine EP_take rfl rfl rfl (fun _ => R_convIU Tryz.underlying3 Tryz.underlying328 rfl (by omega) (by omega)) ?_
 refine EP_act rfl rfl (O_call hs [] [3] rfl rfl rfl Tryz.call255 (short_spec none 0 [] lvl.toNat (by omega) (by simp)) (fun v es1 ds1 w hPhi hs => ?_))
 obtain ⟨rfl, rfl⟩ := hPhi
 obtain ⟨a1, c1, rfl, hs⟩ := hs.freezeSl (i := 1) rfl
 refine ⟨(fun _ => RdS.of hs rfl rfl), ?_⟩
 refine EP_act rfl rfl (O_call hs [] [4] rfl rfl rfl Tryz.call255 (short_spec a1 c1 ([] ++ short lvl.toNat) keys.length (by omega) (by simp; omega)) (fun v es1 ds1 w hPhi hs => ?_))
 obtain ⟨rfl, rfl⟩ := hPhi
 refine ⟨(fun _ => RdS.of hs rfl rfl), ?_⟩
 refine EP_take rfl rfl rfl (fun _ => R_assign rfl) ?_
 refine EP_done ?_
 refine EC_rseq ?_
 refine EL_run rfl (R_assign rfl) ?_
 refine EL_nil ?_
 refine EC_seq ?_
 refine EC_rseq ?_
 refine EL_run rfl (R_field fo_39_1 rfl) ?_
 refine EL_run rfl (R_lb (hs.at (i := 0) rfl) Tryz.isAgg37 rfl rfl) ?_
 refine EL_run rfl (R_lenS Tryz.underlying37 rfl) ?_
 refine EL_run rfl (R_move rfl) ?_
 refine EL_nil ?_
 refine EC_block ?_
 refine EC_loop (fun mm ρ w => ∃ (i : Nat) (q : SB) (v : Value), mm = keys.length - i ∧ i ≤ keys.length ∧ q.b = lastK [] ((Nd.m ⟨lvl, ko, kc, keys, vo, vc, vals, po, pc, kids⟩).ents.take i) ∧ Slots ρ [(1, .pointer (some ⟨b1, 0, none⟩)), (3, v), (4, q.val), (18, .slice ko keys.length kc), (19, .int .i64 (keys.length : Int)), (20, .int .i64 (i : Int))] ∧ St w0 F D [blk b1 #[.int .i64 lvl, .slice ko keys.length kc, .slice vo vals.length vc, .slice po kids.length pc] 39, oSl v 5 1 (short lvl.toNat ++ short keys.length ++ entsB [] ((Nd.m ⟨lvl, ko, kc, keys, vo, vc, vals, po, pc, kids⟩).ents.take i)).length (u8s (short lvl.toNat ++ short keys.length ++ entsB [] ((Nd.m ⟨lvl, ko, kc, keys, vo, vc, vals, po, pc, kids⟩).ents.take i)))] [dSS ko kc keys, dSS vo vc vals, dP po pc kids, dB none 0 [], q.D] w) (keys.length) (⟨0, ⟨none, 0, []⟩, _, by omega, by omega, rfl, ⟨rfl, rfl, rfl, rfl, rfl, rfl, trivial⟩, (hs.fin [true, true] [0, 1, 2, 3, 3]).as (by simp [entsB]; rfl) rfl⟩) ?_
 rintro mm ρ w ⟨i, q, v, rfl, hi, hq, hsl, hs⟩
 refine EC_slots _ hsl ?_
 have hol := head_le hn i
 simp only [Nd.m, List.length_map] at hol
 obtain ⟨o, ho⟩ : ∃ o, o = (short lvl.toNat ++ short keys.length ++ entsB [] ((Nd.m ⟨lvl, ko, kc, keys, vo, vc, vals, po, pc, kids⟩).ents.take i)) := ⟨_, rfl⟩
 rw [← ho] at hs
 change ((short lvl.toNat ++ short keys.length ++ entsB [] ((Nd.m ⟨lvl, ko, kc, keys, vo, vc, vals, po, pc, kids⟩).ents.take i))).length ≤ _ at hol
 rw [← ho] at hol
 refine EC_rseq ?_
 refine EL_run rfl (R_lss rfl rfl) ?_
 refine EL_nil ?_
 refine EC_seq ?_
 refine EC_cond rfl (fun hc21 => ?_) (fun hc21 => ?_)
 ·have hc21p := cvt hc21; try dsimp only at hc21p
  have hib : i < keys.length := by omega
  obtain ⟨bb, oo, rfl⟩ := dSlsomeF (hs.rd (i := 0) rfl).1 SB.len (by decide) hib
  obtain ⟨bd, hbd, het⟩ := ents_succ hn (i := i) (by simpa [Nd.m] using hib)
  obtain ⟨k, hk⟩ : ∃ k, k = keys[i].b := ⟨_, rfl⟩
  have hke : (Nd.m ⟨lvl, some ⟨bb, oo, none⟩, kc, keys, vo, vc, vals, po, pc, kids⟩).keys[i]'(by simpa [Nd.m] using hib) = k := by simp [Nd.m, hk]
  have hk160 := hn.key_le (k := k) (by rw [hk]; exact List.mem_map.2 ⟨_, List.getElem_mem hib, rfl⟩)
  have hbl := hn.body_le (List.mem_of_getElem? hbd)
  obtain ⟨sh, hsh⟩ : ∃ s, s = shr q.b k := ⟨_, rfl⟩
  have hshl := shr_le q.b k
  rw [← hsh] at hshl
  have h6 := short_len_le (n := sh) (by omega)
  have hs := hs.dDpGet (j := 0) rfl (List.getElem_mem hib)
  have hs := hs.as (es' := [blk b1 #[.int .i64 lvl, .slice (some ⟨bb, oo, none⟩) keys.length kc, .slice vo vals.length vc, .slice po kids.length pc] 39, oSl v 5 1 o.length (u8s o)]) (ds' := [dSS (some ⟨bb, oo, none⟩) kc keys, dSS vo vc vals, dP po pc kids, dB none 0 [], q.D, dB keys[i].ao keys[i].c k]) rfl (by rw [hk]; rfl)
  refine EC_skip ?_
  refine Then_n ?_
  refine EC_seq ?_
  refine EC_block ?_
  refine EC_rseq ?_
  refine EL_run rfl (R_move rfl) ?_
  refine EL_run rfl (R_idx es_37 rfl (by rfl) rfl (by omega) (by omega)) ?_
  refine EL_run rfl (R_ldF (j := 0) (hs.rd (i := 0) rfl).1 SB.len Tryz.isAgg36 rfl (by simp <;> omega) (List.getElem?_eq_getElem hib) rfl) ?_
  refine EL_run rfl (R_assign rfl) ?_
  refine EL_run rfl (R_assign rfl) ?_
  rw [show keys[i].val = .slice keys[i].ao k.length keys[i].c by rw [hk]; rfl]
  refine EL_nil ?_
  refine EC_rseq ?_
  refine EL_run rfl (R_move rfl) ?_
  refine EL_run rfl (R_move rfl) ?_
  refine EL_op rfl (O_call hs [] [4, 5] rfl rfl rfl Tryz.call256 (shared_spec q.ao q.c q.b keys[i].ao keys[i].c k (by rw [hq]; have := hn.some; exact lastK_le hn i)) (fun v es1 ds1 w hPhi hs => ?_))
  obtain ⟨rfl, rfl, rfl⟩ := hPhi
  rw [← hsh]
  refine EL_run rfl (R_assign rfl) ?_
  refine EL_nil ?_
  refine EC_rseq ?_
  refine EL_run rfl (R_move rfl) ?_
  refine EL_run rfl (R_move rfl) ?_
  refine EL_run rfl (R_convIU Tryz.underlying3 Tryz.underlying328 rfl (by omega) (by omega)) ?_
  refine EL_op rfl (O_call hs [] [3] rfl rfl rfl Tryz.call255 (short_spec none 0 [] sh (by omega) (by simp)) (fun v es1 ds1 w hPhi hs => ?_))
  obtain ⟨rfl, rfl⟩ := hPhi
  refine EL_op rfl (O_append hs (i := 1) rfl rfl ei_36 rfl rfl (Src.own (hs.at (i := 2) rfl)) (u8s_one _) (by simp; omega) (by simp; omega) (fun v32 w hs => ?_))
  refine EL_run rfl (R_assign rfl) ?_
  have hs := (hs.fin [true, true] [0, 1, 2, 3, 4, 5]).asSl (i := 1) rfl (o ++ short sh).length (u8s (o ++ short sh)) (by simp) (by simp [u8s_append])
  have hs := hs.dBdrop (j := 5) rfl sh hshl.2
  have h7 := textB_len_le (s := k.drop sh) (by rw [List.length_drop]; omega)
  rw [List.length_drop] at h7
  refine EL_nil ?_
  refine EC_rseq ?_
  refine EL_run rfl (R_move rfl) ?_
  refine EL_run rfl (R_move rfl) ?_
  refine EL_run rfl (R_move rfl) ?_
  refine EL_run rfl (R_sliceLo es_36 rfl rfl (by omega) (by omega)) ?_
  rw [show k.length - ((sh : Int)).toNat = (k.drop sh).length by rw [List.length_drop]; omega, show ((sh : Int)).toNat = sh by omega]
  refine EL_run rfl (R_convStr Tryz.underlying36 Tryz.underlying5 Tryz.underlying9 rfl (hs.rd (i := 6) rfl)) ?_
  refine EL_op rfl (O_call hs [] [3] rfl rfl rfl Tryz.call213 (text_spec none 0 [] (k.drop sh) (by rw [List.length_drop]; omega) (by simp)) (fun v es1 ds1 w hPhi hs => ?_))
  obtain ⟨rfl, rfl⟩ := hPhi
  refine EL_op rfl (O_append hs (i := 1) rfl rfl ei_36 rfl rfl (Src.own (hs.at (i := 2) rfl)) (u8s_one _) (by simp; omega) (by simp; omega) (fun v39 w hs => ?_))
  refine EL_run rfl (R_assign rfl) ?_
  have hs := (hs.fin [true, true] [0, 1, 2, 3, 4, 5]).asSl (i := 1) rfl (o ++ short sh ++ textB (k.drop sh)).length (u8s (o ++ short sh ++ textB (k.drop sh))) (by simp [Nat.add_assoc]) (by simp [u8s_append])
  refine EL_nil ?_
  refine EC_cut (fun ρ w => ∃ v : Value, Slots ρ [(1, .pointer (some ⟨b1, 0, none⟩)), (3, v), (6, keys[i].val), (18, .slice (some ⟨bb, oo, none⟩) keys.length kc), (19, .int .i64 (keys.length : Int)), (20, .int .i64 (i : Int))] ∧ St w0 F D [blk b1 #[.int .i64 lvl, .slice (some ⟨bb, oo, none⟩) keys.length kc, .slice vo vals.length vc, .slice po kids.length pc] 39, oSl v 5 1 (o ++ short sh ++ textB (k.drop sh) ++ bd).length (u8s (o ++ short sh ++ textB (k.drop sh) ++ bd))] [dSS (some ⟨bb, oo, none⟩) kc keys, dSS vo vc vals, dP po pc kids, dB none 0 [], q.D, dB keys[i].ao keys[i].c k] w) ?_ ?_
  ·skip
   refine EC_rseq ?_
   refine EL_run rfl (R_field fo_39_0 rfl) ?_
   refine EL_run rfl (R_lb (hs.at (i := 0) rfl) Tryz.isAgg3 rfl rfl) ?_
   refine EL_run rfl (R_eql rfl rfl) ?_
   refine EL_nil ?_
   refine EC_cond rfl (fun hc42 => ?_) (fun hc42 => ?_)
   ·have hc42p := cvt hc42; try dsimp only at hc42p
    have hvl := hn.lists
    simp only [NdM.lists, Nd.m, List.length_map] at hvl
    rw [if_pos hc42p] at hvl
    have hiv : i < vals.length := by omega
    obtain ⟨bv, ov, rfl⟩ := dSlsomeF (hs.rd (i := 1) rfl).1 SB.len (by decide) hiv
    have hbe : bd = textB vals[i].b := by
      have h := hbd
      rw [NdM.bodies_leaf (by exact hc42p)] at h
      simpa [Nd.m, hiv] using h.symm
    have hv1 := hn.vals vals[i].b (List.mem_map.2 ⟨_, List.getElem_mem hiv, rfl⟩)
    have hs := hs.dDpGet (j := 1) rfl (List.getElem_mem hiv)
    have h8 := textB_len_le (s := vals[i].b) (by omega)
    refine EC_region ?_
    refine EL_run rfl (R_move rfl) ?_
    refine EL_run rfl (R_field fo_39_2 rfl) ?_
    refine EL_run rfl (R_lb (hs.at (i := 0) rfl) Tryz.isAgg37 rfl rfl) ?_
    refine EL_run rfl (R_move rfl) ?_
    refine EL_run rfl (R_idx es_37 rfl (by rfl) rfl (by omega) (by omega)) ?_
    refine EL_run rfl (R_ldF (j := 0) (hs.rd (i := 1) rfl).1 SB.len Tryz.isAgg36 rfl (by simp <;> omega) (List.getElem?_eq_getElem hiv) rfl) ?_
    refine EL_run rfl (R_convStr Tryz.underlying36 Tryz.underlying5 Tryz.underlying9 rfl (hs.rd (i := 6) rfl)) ?_
    refine EL_op rfl (O_call hs [] [3] rfl rfl rfl Tryz.call213 (text_spec none 0 [] vals[i].b (by omega) (by simp)) (fun v es1 ds1 w hPhi hs => ?_))
    obtain ⟨rfl, rfl⟩ := hPhi
    refine EL_op rfl (O_append hs (i := 1) rfl rfl ei_36 rfl rfl (Src.own (hs.at (i := 2) rfl)) (u8s_one _) (by simp; omega) (by simp; omega) (fun v51 w hs => ?_))
    refine EL_run rfl (R_assign rfl) ?_
    refine EL_nil ?_
    refine Then_n ?_
    have hs := hs.asSl (i := 1) rfl (o ++ short sh ++ textB (k.drop sh) ++ bd).length (u8s (o ++ short sh ++ textB (k.drop sh) ++ bd)) (by rw [hbe]; simp [Nat.add_assoc]) (by rw [hbe]; simp [u8s_append])
    exact ⟨_, ⟨rfl, rfl, by rw [hk]; rfl, rfl, rfl, rfl, trivial⟩, (hs.fin [true, true] [0, 1, 2, 3, 4, 5]).as rfl rfl⟩
   ·have hc42p := cvt hc42; try dsimp only at hc42p
    have hvl := hn.lists
    simp only [NdM.lists, Nd.m, List.length_map] at hvl
    rw [if_neg hc42p] at hvl
    have hip : i < kids.length := by omega
    obtain ⟨bv, ov, rfl⟩ := dSlsomeF (hs.rd (i := 2) rfl) Ptr.len_l (by decide) hip
    have hbe : bd = ptrB kids[i] := by
      have h := hbd
      rw [NdM.bodies_node (by exact hc42p)] at h
      simpa [Nd.m, hip] using h.symm
    have hpr := hn.kids kids[i] (List.getElem_mem hip)
    have h8 := ptrB_len kids[i]
    refine EC_region ?_
    refine EL_run rfl (R_move rfl) ?_
    refine EL_run rfl (R_field fo_39_3 rfl) ?_
    refine EL_run rfl (R_lb (hs.at (i := 0) rfl) Tryz.isAgg26 rfl rfl) ?_
    refine EL_run rfl (R_move rfl) ?_
    refine EL_run rfl (R_idx es_26 rfl (by rfl) rfl (by omega) (by omega)) ?_
    refine EL_run rfl (R_ldE (hs.rd (i := 2) rfl) Ptr.len_l Tryz.isAgg32 Tryz.sizeOf32 rfl (by simp <;> omega) (List.getElem?_eq_getElem hip) (by decide)) ?_
    refine EL_op rfl (O_call hs [] [3] rfl rfl rfl Tryz.call215 (ptrPut_spec none 0 [] kids[i] (by simp) (PtrNN.of hpr)) (fun v es1 ds1 w hPhi hs => ?_))
    obtain ⟨rfl, rfl⟩ := hPhi
    refine EL_op rfl (O_append hs (i := 1) rfl rfl ei_36 rfl rfl (Src.own (hs.at (i := 2) rfl)) (u8s_one _) (by simp; omega) (by simp; omega) (fun v59 w hs => ?_))
    refine EL_run rfl (R_assign rfl) ?_
    refine EL_nil ?_
    refine Then_n ?_
    have hs := hs.asSl (i := 1) rfl (o ++ short sh ++ textB (k.drop sh) ++ bd).length (u8s (o ++ short sh ++ textB (k.drop sh) ++ bd)) (by rw [hbe]; simp [Nat.add_assoc]) (by rw [hbe]; simp [u8s_append])
    exact ⟨_, ⟨rfl, rfl, by rw [hk]; rfl, rfl, rfl, rfl, trivial⟩, (hs.fin [true, true] [0, 1, 2, 3, 4, 5]).as rfl rfl⟩
  ·rintro ρ w ⟨v, hsl, hs⟩
   refine EC_slots _ hsl ?_
   refine EC_region ?_
   refine EL_run rfl (R_move rfl) ?_
   refine EL_run rfl (R_assign rfl) ?_
   refine EL_nil ?_
   refine InBlock_n ?_
   refine Then_n ?_
   refine EC_region ?_
   refine EL_run rfl (R_addI rfl rfl (by omega)) ?_
   refine EL_run rfl (R_move rfl) ?_
   refine EL_nil ?_
   refine Then_n ?_
   exact ⟨keys.length - (i + 1), by omega, i + 1, keys[i], _, rfl, by omega, by rw [het, lastK_snoc]; simp [Nd.m, hk], ⟨rfl, rfl, rfl, rfl, rfl, rfl, trivial⟩, (hs.fin [true, true] [0, 1, 2, 3, 5]).as (by rw [het, entsB_snoc, ← List.append_assoc, ← ho, ← hq, hke, entB, ← hsh]; simp only [List.append_assoc]; rfl) (by rw [hk]; rfl)⟩
 ·have hc21p := cvt hc21; try dsimp only at hc21p
  obtain rfl : i = keys.length := by omega
  have hend : o = leafB (Nd.m ⟨lvl, ko, kc, keys, vo, vc, vals, po, pc, kids⟩) := by
    rw [ho, leafB]
    rw [List.take_of_length_le (by rw [hn.ents_len]; simp [Nd.m])]
    simp [Nd.m]
  rw [hend] at hs
  refine EC_exit ?_
  refine Then_e ?_
  refine Then_e ?_
  refine InBlock_hit rfl ?_
  refine Then_n ?_
  refine EC_rseq ?_
  refine EL_run rfl (R_move rfl) ?_
  refine EL_run rfl (R_assign rfl) ?_
  refine EL_nil ?_
  refine EC_ret ?_
  exact ⟨[_], ⟨rfl, trivial⟩, _, _, ⟨rfl, rfl⟩, (hs.fin [false, true] []).as rfl rfl⟩
end Go.Proofs.YtpcojkbljgpecaaGreat
namespace Go.Proofs.YtpcojkbljgpecaaGreat
open Go
section
variable {P : Program} {n : Nat} {ρ : Env} {w : World} {do_ : Option Nat} {ty : TypeId} {pos : String} {aft : Array Edge} {x y z : Operand} {t : TypeId}
theorem R_sliceHM {ao : Option Addr} {m c sz : Nat} {k k2 : IntKind} {h q : Int} (hs : elemSize P t = some sz) (hx : evO ρ x = some (.slice ao m c)) (hz : evO ρ y = some (.int k h)) (hq : evO ρ z = some (.int k2 q)) (h1 : 0 ≤ h) (h2 : h ≤ q) (h3 : q ≤ c) :
    RunV P n ⟨do_, .slice t x none (some y) (some z), ty, pos, aft, none⟩ ρ w (.slice ao h.toNat q.toNat) := fun a ha => by
  unfold elemSize at hs
  split at hs
  · rename_i e hu
    obtain ⟨inf, hinf, hsz⟩ := Option.map_eq_some_iff.1 hs
    simp only [execOp, ha.eval hx, ha.eval hz, ha.eval hq, Option.map_some, Option.map_none, Instr.sliceAt, Sem.run_bind, run_underlying hu, Result.andThen_ok, Instr.slice, Instr.sliceBounds, sl_bound (show 0 ≤ q by omega) h3, sl_bound (y := q.toNat) h1 (by omega), Sem.run_pure, sizeOf, typeInfo, run_program, hinf, if_true]
    by_cases hc : q.toNat = 0
    · simp [hc]
    · simp only [hc, if_false, Nat.zero_mul, Nat.sub_zero]
      cases ao with
      | none => rfl
      | some ad => simp [Addr.add]
  · cases hs
/-- No elements at all. -/
theorem St.nilDp {α : Type} {W w : World} {F D : Nat → Prop} {es ds : List Asn} (hs : St W F D es ds w) (f : α → List Value) (g : α → Asn) (sz : Nat) : St W F D es (ds ++ [dDp f g sz none 0 []]) w :=
  have h1 := (hs.nilD sz).dAllNil g
  hs.derL [] _ (fun _ => ⟨h1.dh _ (by simp), h1.dh _ (by simp)⟩) (fun k hk => by
    rcases hk with ⟨h, _⟩ | ⟨x, hx, _⟩
    · exact absurd rfl h
    · cases hx)
end
theorem fold_seg (off : Nat) : ∀ (vs : List Value) (k : Nat) (l : List Value), off + k + vs.length ≤ l.length → (vs.zipIdx k).foldl (fun (cs : Array Value) (x : Value × Nat) => cs.setIfInBounds (off + x.2) x.1) l.toArray = (setSeg l (off + k) vs).toArray
  | [], k, l, _ => by simp [setSeg]
  | v :: vs, k, l, h => by
    simp only [List.length_cons] at h
    rw [List.zipIdx_cons, List.foldl_cons, List.setIfInBounds_toArray, fold_seg off vs (k + 1) _ (by rw [List.length_set]; omega)]
    congr 1
    simp only [setSeg, List.length_cons]
    rw [List.set_eq_take_append_cons_drop, if_pos (by omega)]
    have h1 : (l.take (off + k)).length = off + k := by rw [List.length_take]; omega
    rw [List.take_append, List.drop_append, h1, show off + (k + 1) - (off + k) = 1 by omega, List.take_of_length_le (by omega)]
    rw [show off + (k + 1) + vs.length - (off + k) = vs.length + 1 by omega, List.drop_of_length_le (show (l.take (off + k)).length ≤ _ by omega)]
    simp [List.drop_drop]
    omega
theorem fill_cons {place : Nat → Option (Nat × Nat)} {i off sz : Nat} {v : Value} {vs l : List Value} {rest : List (Nat × Value)} (hp : place i = some (off, sz)) (hc : v.cells.toList = vs) (hl : vs.length = sz) (hb : off + sz ≤ l.length) :
    Instr.fill place l.toArray ((i, v) :: rest) = Instr.fill place (setSeg l off vs).toArray rest := by
  have hs : v.cells.size = sz := by rw [← hl, ← hc, Array.length_toList]
  rw [Instr.fill, hp]
  simp only
  rw [if_neg (by simp [hs]; omega)]
  congr 1
  rw [← Array.foldl_toList, Array.toList_zipIdx, hc]
  exact fold_seg off vs 0 l (by omega)
theorem setSeg_all {l vs : List Value} (h : vs.length = l.length) : setSeg l 0 vs = vs := by simp [setSeg, h]
theorem and_three (p : Int) : IntKind.i64.wrap (((BitVec.ofInt 64 p &&& BitVec.ofInt 64 3).toNat : Nat) : Int) = p % 4 := by
  have h1 : (BitVec.ofInt 64 3 : BitVec 64) = 3#64 := by decide
  have h2 : (BitVec.ofInt 64 p &&& 3#64).toNat = (p % 4).toNat := by
    rw [BitVec.toNat_and, BitVec.toNat_ofInt]
    have h3 : (3#64).toNat = 2 ^ 2 - 1 := by decide
    rw [h3, Nat.and_two_pow_sub_one_eq_mod]
    omega
  rw [h1, h2]
  rw [IntWalk.i64_in] <;> omega
theorem R_and3 {P : Program} {n : Nat} {ρ : Env} {w : World} {do_ : Option Nat} {ty : TypeId} {pos : String} {aft : Array Edge} {x y : Operand} {t t' : TypeId} {p : Int} (hx : evO ρ x = some (.int .i64 p)) (hy : evO ρ y = some (.int .i64 3)) : RunV P n ⟨do_, .binOp .and t x y t', ty, pos, aft, none⟩ ρ w (.int .i64 (p % 4)) := fun ac hr => by
  have := and_three p
  simp only [execOp, hr.eval hx, hr.eval hy, eqGuard, binOp, Op.intBits, ne_eq, not_true, if_false]
  show Sem.run P (pure (Next.value (Value.int .i64 _))) w = _
  exact congrArg (fun z => Result.ok (Next.value (Value.int .i64 z)) w) this
/-- A made slice of slices that are only read, from now on only read too. -/
theorem St.mkSS {W w : World} {F D : Nat → Prop} {es ds : List Asn} {i e m c : Nat} {ao : Option Addr} {xs : List Value} (hs : St W F D es ds w) (hi : es[i]? = some (oSl (.slice ao m c) e 1 m xs)) (l : List SB) (hm : m = l.length) (hx : xs = l.flatMap SB.l) (js : List Nat) (hj : pickD js ds = l.map SB.D) :
    St W F D (es.eraseIdx i) (ds ++ [dAll SB.D l] ++ [dSl ao m c 1 (l.flatMap SB.l), dSS ao c l]) w := by
  subst hx
  have h1 := hs.derL js (dAll SB.D l) (fun h s hs => h _ (by rw [hj]; exact List.mem_map.2 ⟨s, hs, rfl⟩)) (fun k ⟨s, hs, hk⟩ => ⟨s.D, by rw [hj]; exact List.mem_map.2 ⟨s, hs, rfl⟩, hk⟩)
  exact h1.freezeDp (j := ds.length) hi hm (get_last _ _)
end Go.Proofs.YtpcojkbljgpecaaGreat
namespace Go.Proofs.YtpcojkbljgpecaaGreat
open Go
theorem readText_used {b : BL} {most : Nat} (h : (readText b most).2.2 = 0) : (readText b most).2.1 ≤ b.length ∧ (readText b most).1.length ≤ most := by
  simp only [readText] at h ⊢
  split at h
  · exact absurd h (by assumption)
  · rename_i h1
    have := readShort_used (b := b) (Decidable.not_not.1 h1)
    rw [if_neg h1]
    split at h
    · cases h
    · rename_i h2
      rw [if_neg h2]
      split at h
      · cases h
      · rename_i h3
        rw [if_neg h3]
        simp only [List.length_take, List.length_drop]; omega
def rdNum (b : BL) (bad : Bool) (most : Nat) : Nat × BL × Bool := if (readShort b).2.2 ≠ 0 ∨ most < (readShort b).1 then (0, b, true) else ((readShort b).1, b.drop (readShort b).2.1, bad)
def rdText (b : BL) (bad : Bool) (most : Nat) : BL × BL × Bool := if (readText b most).2.2 ≠ 0 then ([], b, true) else ((readText b most).1, b.drop (readText b most).2.1, bad)
def rdKid (b : BL) (bad : Bool) : Ptr × BL × Bool := if (ptrRead b).2 ≠ 0 then (Ptr.none, b, true) else ((ptrRead b).1, b.drop 52, bad)
def rdKey (b : BL) (bad : Bool) (last : BL) : BL × BL × Bool :=
  let n := rdNum b bad last.length
  let t := rdText n.2.1 n.2.2 160
  (last.take n.1 ++ t.1, t.2)
theorem rdNum_le (b : BL) (bad : Bool) (most : Nat) : (rdNum b bad most).1 ≤ most ∧ (rdNum b bad most).2.1.length ≤ b.length := by
  unfold rdNum
  split
  · simp
  · simp only [List.length_drop]; omega
theorem rdText_le (b : BL) (bad : Bool) (most : Nat) : (rdText b bad most).1.length ≤ most ∧ (rdText b bad most).2.1.length ≤ b.length := by
  unfold rdText
  split
  · simp
  · rename_i h
    have := readText_used (Decidable.not_not.1 h)
    simp only [List.length_drop]; omega
theorem rdKid_le (b : BL) (bad : Bool) : (rdKid b bad).2.1.length ≤ b.length := by
  unfold rdKid
  split
  · simp
  · simp only [List.length_drop]; omega
theorem rdKey_le (b : BL) (bad : Bool) (last : BL) : (rdKey b bad last).1.length ≤ last.length + 160 ∧ (rdKey b bad last).2.1.length ≤ b.length := by
  have h1 := rdNum_le b bad last.length
  have h2 := rdText_le (rdNum b bad last.length).2.1 (rdNum b bad last.length).2.2 160
  simp only [rdKey, List.length_append, List.length_take]; omega
/-- What is read, entry by entry. -/
structure RS where
  last : BL
  keys : List BL
  vals : List BL
  kids : List Ptr
  rest : BL
  bad : Bool
def rdStep (lvl : Nat) (s : RS) : RS :=
  let k := rdKey s.rest s.bad s.last
  if lvl = 0 then
    let v := rdText k.2.1 k.2.2 1024
    ⟨k.1, s.keys ++ [k.1], s.vals ++ [v.1], s.kids, v.2.1, v.2.2⟩
  else
    let v := rdKid k.2.1 k.2.2
    ⟨k.1, s.keys ++ [k.1], s.vals, s.kids ++ [v.1], v.2.1, v.2.2⟩
def rdAll (lvl : Nat) : Nat → RS → RS
  | 0, s => s
  | k + 1, s => if s.bad then s else rdAll lvl k (rdStep lvl s)
theorem rdAll_bad (lvl : Nat) : ∀ (k : Nat) (s : RS), s.bad = true → rdAll lvl k s = s
  | 0, _, _ => rfl
  | k + 1, s, h => by rw [rdAll, if_pos h]
theorem rdAll_step {lvl C i : Nat} {s : RS} (hi : i < C) (hb : s.bad = false) : rdAll lvl (C - i) s = rdAll lvl (C - (i + 1)) (rdStep lvl s) := by
  rw [show C - i = (C - (i + 1)) + 1 by omega, rdAll, if_neg (by rw [hb]; exact Bool.false_ne_true)]
def rdHead (b : BL) : Nat × BL × Bool := rdNum b false 12
def rdCount (b : BL) : Nat × BL × Bool := rdNum (rdHead b).2.1 (rdHead b).2.2 4096
def rdEnd (b : BL) : RS := rdAll (rdHead b).1 (rdCount b).1 ⟨[], [], [], [], (rdCount b).2.1, (rdCount b).2.2⟩
def rdNode (b : BL) : NdM := ⟨((rdHead b).1 : Int), (rdEnd b).keys, (rdEnd b).vals, (rdEnd b).kids⟩
open Classical in
/-- A node out of bytes, and an error's number. -/
noncomputable def leafRd (b : BL) : NdM × Int :=
  if 4096 < b.length ∨ (rdEnd b).bad = true ∨ (rdEnd b).rest ≠ [] ∨ ¬ (rdNode b).right ∨ leafB (rdNode b) ≠ b then (NdM.zero, 11) else (rdNode b, 0)
theorem leafRd_no {b : BL} (h : 4096 < b.length ∨ (rdEnd b).bad = true ∨ (rdEnd b).rest ≠ [] ∨ ¬ (rdNode b).right ∨ leafB (rdNode b) ≠ b) : leafRd b = (NdM.zero, 11) := if_pos h
theorem leafRd_yes {b : BL} (h : ¬ (4096 < b.length ∨ (rdEnd b).bad = true ∨ (rdEnd b).rest ≠ [] ∨ ¬ (rdNode b).right ∨ leafB (rdNode b) ≠ b)) : leafRd b = (rdNode b, 0) := if_neg h
end Go.Proofs.YtpcojkbljgpecaaGreat
namespace Go.Proofs.YtpcojkbljgpecaaGreat
open Go
set_option maxRecDepth 100000 in
theorem nRight_spec (n : Nd) {w0 : World} : Spec Tryz.prog 197 #[n.val] w0 [] n.ds (fun v es1 ds1 => ∃ b : Bool, v = .bool b ∧ (b = true ↔ n.m.right) ∧ es1 = [] ∧ ds1 = []) := by
 refine Spec.intro (fun F D hs => ?_)
 obtain ⟨lvl, ko, kc, keys, vo, vc, vals, po, pc, kids⟩ := n
 refine Calls_of_EC (args := [.agg #[.int .i64 lvl, .slice ko keys.length kc, .slice vo vals.length vc, .slice po kids.length pc]]) Tryz.func197 rfl rfl rfl ?_
 refine EC_rseq ?_
 refine EL_op rfl (O_box hs rfl rfl (fun b1 w hb1 hs => ?_))
 refine EL_run rfl (R_assign rfl) ?_
 refine EL_nil ?_
 refine EC_rseq ?_
 refine EL_run rfl (R_lw (hs.at (i := 0) rfl) Tryz.isAgg39 Tryz.sizeOf39 rfl rfl) ?_
 refine EL_op rfl (O_call hs [] [0, 1, 2] rfl rfl rfl Tryz.call180 (nShape_spec ⟨lvl, ko, kc, keys, vo, vc, vals, po, pc, kids⟩) (fun v es1 ds1 w hPhi hs => ?_))
 obtain ⟨sb, rfl, hsb, rfl, rfl⟩ := hPhi
 refine EL_run rfl (R_move rfl) ?_
 refine EL_split 5 rfl (fun hg2 => ?_) (fun hg2 => ?_)
 ·have hg2p := cvt hg2; try dsimp only at hg2p
  refine EL_want rfl rfl hg2 ?_
  refine EL_run rfl (R_lw (hs.at (i := 0) rfl) Tryz.isAgg39 Tryz.sizeOf39 rfl rfl) ?_
  refine EL_want rfl rfl hg2 ?_
  refine EL_op rfl (O_call hs [] [0, 1, 2] rfl rfl rfl Tryz.call181 (nBytes_spec ⟨lvl, ko, kc, keys, vo, vc, vals, po, pc, kids⟩ (hsb.1 hg2p)) (fun v es1 ds1 w hPhi hs => ?_))
  obtain ⟨rfl, rfl⟩ := hPhi
  have hbl := NdM.shape.leafB_le (hsb.1 hg2p)
  obtain ⟨av, cv, rfl⟩ := oSl.val (hs.at (i := 1) rfl)
  refine EL_want rfl rfl hg2 ?_
  refine EL_run rfl (R_lenS Tryz.underlying36 rfl) ?_
  refine EL_want rfl rfl hg2 ?_
  refine EL_run rfl (R_leq rfl rfl) ?_
  refine EL_run rfl (R_pickT rfl hg2 rfl) ?_
  refine EL_run rfl (R_assign rfl) ?_
  refine EL_nil ?_
  refine EC_ret ?_
  refine ⟨[_], ⟨rfl, trivial⟩, _, _, ⟨_, rfl, ⟨fun h => ?_, fun h => ?_⟩, rfl, rfl⟩, (hs.fin [] []).as rfl rfl⟩
  ·first
    | exact ⟨hsb.1 hg2p, by have h2 := of_decide_eq_true h; omega⟩
    | exact Bool.noConfusion h
  ·first
    | exact absurd (hg2p.symm.trans (hsb.2 h.1)) (by decide)
    | exact decide_eq_true (by have h2 := h.2; omega)
 ·have hg2p := cvt hg2; try dsimp only at hg2p
  refine EL_pass rfl rfl rfl hg2 ?_
  refine EL_pass rfl rfl rfl hg2 ?_
  refine EL_pass rfl rfl rfl hg2 ?_
  refine EL_pass rfl rfl rfl hg2 ?_
  refine EL_run rfl (R_pickF rfl hg2 rfl) ?_
  refine EL_run rfl (R_assign rfl) ?_
  refine EL_nil ?_
  refine EC_ret ?_
  refine ⟨[_], ⟨rfl, trivial⟩, _, _, ⟨_, rfl, ⟨fun h => ?_, fun h => ?_⟩, rfl, rfl⟩, (hs.fin [] []).as rfl rfl⟩
  ·first
    | exact ⟨hsb.1 hg2p, by have h2 := of_decide_eq_true h; omega⟩
    | exact Bool.noConfusion h
  ·first
    | exact absurd (hg2p.symm.trans (hsb.2 h.1)) (by decide)
    | exact decide_eq_true (by have h2 := h.2; omega)

set_option maxRecDepth 100000 in
theorem nPut_spec (n : Nd) {w0 : World} : Spec Tryz.prog 95 #[n.val] w0 [] n.ds (fun v es1 ds1 => ∃ v1, v = .tuple #[v1, .int .i64 (leafPut n.m).2] ∧ es1 = [oSl v1 5 1 (leafPut n.m).1.length (u8s (leafPut n.m).1)] ∧ ds1 = []) := by
 refine Spec.intro (fun F D hs => ?_)
 obtain ⟨lvl, ko, kc, keys, vo, vc, vals, po, pc, kids⟩ := n
 refine Calls_of_EC (args := [.agg #[.int .i64 lvl, .slice ko keys.length kc, .slice vo vals.length vc, .slice po kids.length pc]]) Tryz.func95 rfl rfl rfl ?_
 refine EC_rseq ?_
 refine EL_op rfl (O_box hs rfl rfl (fun b1 w hb1 hs => ?_))
 refine EL_run rfl (R_assign rfl) ?_
 refine EL_run rfl (R_assign rfl) ?_
 refine EL_nil ?_
 refine EC_seq ?_
 refine EC_rseq ?_
 refine EL_run rfl (R_lw (hs.at (i := 0) rfl) Tryz.isAgg39 Tryz.sizeOf39 rfl rfl) ?_
 refine EL_op rfl (O_call hs [] [0, 1, 2] rfl rfl rfl Tryz.call180 (nShape_spec ⟨lvl, ko, kc, keys, vo, vc, vals, po, pc, kids⟩) (fun v es1 ds1 w hPhi hs => ?_))
 obtain ⟨sb, rfl, hsb, rfl, rfl⟩ := hPhi
 refine EL_run rfl (R_not rfl) ?_
 refine EL_nil ?_
 refine EC_cond rfl (fun hc7 => ?_) (fun hc7 => ?_)
 ·have hc7p := cvt hc7; try dsimp only at hc7p
  have hs := hs.nilSl 5 1
  refine EC_rseq ?_
  refine EL_run rfl (R_assign rfl) ?_
  refine EL_run rfl (R_assign rfl) ?_
  refine EL_nil ?_
  refine EC_ret ?_
  refine Then_r ?_
  exact ⟨[_, _], ⟨rfl, rfl, trivial⟩, _, _, ⟨_, by rw [leafPut, if_neg (fun h => absurd (hsb.2 h) (by simp [hc7p]))]; rfl, rfl, rfl⟩, (hs.fin [false, true] []).as (by rw [leafPut, if_neg (fun h => absurd (hsb.2 h) (by simp [hc7p]))]; rfl) rfl⟩
 ·have hc7p := cvt hc7; try dsimp only at hc7p
  refine EC_skip ?_
  refine Then_n ?_
  have hsh := hsb.1 hc7p
  refine EC_rseq ?_
  refine EL_run rfl (R_lw (hs.at (i := 0) rfl) Tryz.isAgg39 Tryz.sizeOf39 rfl rfl) ?_
  refine EL_op rfl (O_call hs [] [0, 1, 2] rfl rfl rfl Tryz.call181 (nBytes_spec ⟨lvl, ko, kc, keys, vo, vc, vals, po, pc, kids⟩ hsh) (fun v es1 ds1 w hPhi hs => ?_))
  obtain ⟨rfl, rfl⟩ := hPhi
  have hbl := NdM.shape.leafB_le hsh
  obtain ⟨av, cv, rfl⟩ := oSl.val (hs.at (i := 1) rfl)
  refine EL_run rfl (R_assign rfl) ?_
  refine EL_nil ?_
  refine EC_seq ?_
  refine EC_rseq ?_
  refine EL_run rfl (R_move rfl) ?_
  refine EL_run rfl (R_lenS Tryz.underlying36 rfl) ?_
  refine EL_run rfl (R_gtr rfl rfl) ?_
  refine EL_nil ?_
  refine EC_cond rfl (fun hc12 => ?_) (fun hc12 => ?_)
  ·have hc12p := cvt hc12; try dsimp only at hc12p
   have hs := hs.nilSl 5 1
   have hlp : leafPut (Nd.m ⟨lvl, ko, kc, keys, vo, vc, vals, po, pc, kids⟩) = ([], 3) := by rw [leafPut, if_pos hsh, if_pos (by omega)]
   refine EC_rseq ?_
   refine EL_run rfl (R_assign rfl) ?_
   refine EL_run rfl (R_assign rfl) ?_
   refine EL_nil ?_
   refine EC_ret ?_
   refine Then_r ?_
   exact ⟨[_, _], ⟨rfl, rfl, trivial⟩, _, _, ⟨_, by rw [hlp]; rfl, rfl, rfl⟩, (hs.fin [false, false, true] []).as (by rw [hlp]; rfl) rfl⟩
  ·have hc12p := cvt hc12; try dsimp only at hc12p
   refine EC_skip ?_
   refine Then_n ?_
   refine EC_rseq ?_
   refine EL_run rfl (R_move rfl) ?_
   refine EL_run rfl (R_assign rfl) ?_
   refine EL_run rfl (R_assign rfl) ?_
   refine EL_nil ?_
   refine EC_ret ?_
   have hlp : leafPut (Nd.m ⟨lvl, ko, kc, keys, vo, vc, vals, po, pc, kids⟩) = (leafB (Nd.m ⟨lvl, ko, kc, keys, vo, vc, vals, po, pc, kids⟩), 0) := by rw [leafPut, if_pos hsh, if_neg (by omega)]
   exact ⟨[_, _], ⟨rfl, rfl, trivial⟩, _, _, ⟨_, by rw [hlp]; rfl, rfl, rfl⟩, (hs.fin [false, true] []).as (by rw [hlp]; rfl) rfl⟩

set_option maxRecDepth 100000 in
theorem bEqual_spec (a1 a2 : Option Addr) (c1 c2 : Nat) (l1 l2 : BL) {w0 : World} : Spec Tryz.prog 156 #[.slice a1 l1.length c1, .slice a2 l2.length c2] w0 [] [dB a1 c1 l1, dB a2 c2 l2] (fun v es1 ds1 => v = .bool (decide (l1 = l2)) ∧ es1 = [] ∧ ds1 = []) := by
 refine Spec.intro (fun F D hs => ?_)
 refine Calls_of_EC (args := [.slice a1 l1.length c1, .slice a2 l2.length c2]) Tryz.func156 rfl rfl rfl ?_
 refine EC_rseq ?_
 refine EL_run rfl (R_assign rfl) ?_
 refine EL_nil ?_
 refine EC_rseq ?_
 refine EL_run rfl (R_move rfl) ?_
 refine EL_run rfl (R_convStr Tryz.underlying36 Tryz.underlying5 Tryz.underlying9 rfl (hs.rd (i := 0) rfl)) ?_
 refine EL_run rfl (R_move rfl) ?_
 refine EL_run rfl (R_convStr Tryz.underlying36 Tryz.underlying5 Tryz.underlying9 rfl (hs.rd (i := 1) rfl)) ?_
 refine EL_run rfl (R_strEql rfl rfl) ?_
 refine EL_run rfl (R_assign rfl) ?_
 refine EL_nil ?_
 refine EC_ret ?_
 exact ⟨[_], ⟨rfl, trivial⟩, _, _, ⟨rfl, rfl, rfl⟩, (hs.fin [] []).as rfl rfl⟩

set_option maxRecDepth 100000 in
theorem rdNum_spec (r : Nat) (ao : Option Addr) (c : Nat) (b : BL) (bad : Bool) (most : Nat) {w0 : World} (hb : b.length ≤ 1000000) (hm : most ≤ 1000000) : Spec Tryz.prog 267 #[.pointer (some ⟨r, 0, none⟩), .int .i64 (most : Int)] w0 [blk r #[.slice ao b.length c, .bool bad] 353] [dB ao c b] (fun v es1 ds1 => ∃ ao' c', v = .int .i64 ((rdNum b bad most).1 : Int) ∧ es1 = [blk r #[.slice ao' (rdNum b bad most).2.1.length c', .bool (rdNum b bad most).2.2] 353] ∧ ds1 = [dB ao' c' (rdNum b bad most).2.1]) := by
 refine Spec.intro (fun F D hs => ?_)
 refine Calls_of_EC (args := [.pointer (some ⟨r, 0, none⟩), .int .i64 (most : Int)]) Tryz.func267 rfl rfl rfl ?_
 refine EC_rseq ?_
 refine EL_run rfl (R_assign rfl) ?_
 refine EL_nil ?_
 refine EC_rseq ?_
 refine EL_run rfl (R_move rfl) ?_
 refine EL_run rfl (R_nilCheck rfl) ?_
 refine EL_run rfl (R_field fo_353_0 rfl) ?_
 refine EL_run rfl (R_lb (hs.at (i := 0) rfl) Tryz.isAgg36 rfl rfl) ?_
 refine EL_op rfl (O_call hs [] [0] rfl rfl rfl Tryz.call278 (readShort_spec ao c b (by omega)) (fun v es1 ds1 w hPhi hs => ?_))
 obtain ⟨n, u, e, hr, rfl, rfl, rfl⟩ := hPhi
 refine EL_run rfl (R_move rfl) ?_
 refine EL_run rfl (R_extract rfl rfl) ?_
 refine EL_run rfl (R_extract rfl rfl) ?_
 refine EL_run rfl (R_extract rfl rfl) ?_
 refine EL_run rfl (R_assign rfl) ?_
 refine EL_run rfl (R_assign rfl) ?_
 refine EL_run rfl (R_assign rfl) ?_
 refine EL_nil ?_
 refine EC_seq ?_
 refine EC_rseq ?_
 refine EL_run rfl (R_move rfl) ?_
 refine EL_run rfl (R_neq rfl rfl) ?_
 refine EL_run rfl (R_move rfl) ?_
 refine EL_split 19 rfl (fun hg2 => ?_) (fun hg2 => ?_)
 ·have hg2p := cvt hg2; try dsimp only at hg2p
  refine EL_pass rfl rfl rfl hg2 ?_
  refine EL_pass rfl rfl rfl hg2 ?_
  refine EL_pass rfl rfl rfl hg2 ?_
  refine EL_pass rfl rfl rfl hg2 ?_
  refine EL_run rfl (R_pickT rfl hg2 rfl) ?_
  refine EL_nil ?_
  refine EC_cond rfl (fun hcx => ?_) (fun hcx => ?_)
  ·skip
   refine EC_rseq ?_
   refine EL_run rfl (R_move rfl) ?_
   refine EL_run rfl (R_nilCheck rfl) ?_
   refine EL_run rfl (R_field fo_353_1 rfl) ?_
   refine EL_op rfl (O_store hs (i := 0) rfl Tryz.sizeOf4 rfl rfl rfl rfl (fun w hs => ?_))
   refine EL_nil ?_
   refine EC_rseq ?_
   refine EL_run rfl (R_assign rfl) ?_
   refine EL_nil ?_
   refine EC_ret ?_
   refine Then_r ?_
   have hv : (rdNum b bad most) = (0, b, true) := by rw [rdNum, hr, if_pos (by simp only []; omega)]
   exact ⟨[_], ⟨rfl, trivial⟩, _, _, ⟨_, _, by rw [hv]; rfl, rfl, rfl⟩, (hs.fin [true] [0]).as (by rw [hv]; rfl) (by rw [hv]; rfl)⟩
  ·exact Bool.noConfusion hcx
 ·have hg2p := cvt hg2; try dsimp only at hg2p
  refine EL_want rfl rfl hg2 ?_
  refine EL_run rfl (R_move rfl) ?_
  refine EL_want rfl rfl hg2 ?_
  refine EL_run rfl (R_move rfl) ?_
  refine EL_want rfl rfl hg2 ?_
  refine EL_run rfl (R_convIU Tryz.underlying3 Tryz.underlying328 rfl (by omega) (by omega)) ?_
  refine EL_want rfl rfl hg2 ?_
  refine EL_run rfl (R_gtr rfl rfl) ?_
  refine EL_run rfl (R_pickF rfl hg2 rfl) ?_
  refine EL_nil ?_
  refine EC_cond rfl (fun hc24 => ?_) (fun hc24 => ?_)
  ·have hc24p := cvt hc24; try dsimp only at hc24p
   refine EC_rseq ?_
   refine EL_run rfl (R_move rfl) ?_
   refine EL_run rfl (R_nilCheck rfl) ?_
   refine EL_run rfl (R_field fo_353_1 rfl) ?_
   refine EL_op rfl (O_store hs (i := 0) rfl Tryz.sizeOf4 rfl rfl rfl rfl (fun w hs => ?_))
   refine EL_nil ?_
   refine EC_rseq ?_
   refine EL_run rfl (R_assign rfl) ?_
   refine EL_nil ?_
   refine EC_ret ?_
   refine Then_r ?_
   have hv : (rdNum b bad most) = (0, b, true) := by rw [rdNum, hr, if_pos (by simp only []; omega)]
   exact ⟨[_], ⟨rfl, trivial⟩, _, _, ⟨_, _, by rw [hv]; rfl, rfl, rfl⟩, (hs.fin [true] [0]).as (by rw [hv]; rfl) (by rw [hv]; rfl)⟩
  ·have hc24p := cvt hc24; try dsimp only at hc24p
   refine EC_skip ?_
   refine Then_n ?_
   have hv : (rdNum b bad most) = (n, b.drop u, bad) := by rw [rdNum, hr, if_neg (by simp only []; omega)]
   have hu := readShort_used (b := b) (by rw [hr]; simp only []; omega)
   rw [hr] at hu
   simp only at hu
   refine EC_rseq ?_
   refine EL_run rfl (R_move rfl) ?_
   refine EL_run rfl (R_move rfl) ?_
   refine EL_run rfl (R_nilCheck rfl) ?_
   refine EL_run rfl (R_field fo_353_0 rfl) ?_
   refine EL_run rfl (R_lb (hs.at (i := 0) rfl) Tryz.isAgg36 rfl rfl) ?_
   refine EL_run rfl (R_move rfl) ?_
   refine EL_run rfl (R_sliceLo es_36 rfl rfl (by omega) (by omega)) ?_
   refine EL_run rfl (R_nilCheck rfl) ?_
   refine EL_run rfl (R_field fo_353_0 rfl) ?_
   refine EL_op rfl (O_store hs (i := 0) rfl Tryz.sizeOf36 rfl rfl rfl rfl (fun w hs => ?_))
   have hs := hs.dBdrop (j := 0) rfl u hu.2
   refine EL_nil ?_
   refine EC_rseq ?_
   refine EL_run rfl (R_move rfl) ?_
   refine EL_run rfl (R_convS Tryz.underlying328 Tryz.underlying3 rfl (by omega) (by omega)) ?_
   refine EL_run rfl (R_assign rfl) ?_
   refine EL_nil ?_
   refine EC_ret ?_
   exact ⟨[_], ⟨rfl, trivial⟩, _, _, ⟨_, _, by rw [hv]; rfl, rfl, rfl⟩, (hs.fin [true] [1]).as (by rw [hv]; simp only [List.length_drop]; rfl) (by rw [hv]; rfl)⟩

set_option maxRecDepth 100000 in
theorem rdText_spec (r : Nat) (ao : Option Addr) (c : Nat) (b : BL) (bad : Bool) (most : Nat) {w0 : World} (hb : b.length ≤ 1000000) (hm : most ≤ 1000000) : Spec Tryz.prog 269 #[.pointer (some ⟨r, 0, none⟩), .int .i64 (most : Int)] w0 [blk r #[.slice ao b.length c, .bool bad] 353] [dB ao c b] (fun v es1 ds1 => ∃ ao' c' a2 c2, v = .slice a2 (rdText b bad most).1.length c2 ∧ es1 = [blk r #[.slice ao' (rdText b bad most).2.1.length c', .bool (rdText b bad most).2.2] 353] ∧ ds1 = [dB ao' c' (rdText b bad most).2.1, dB a2 c2 (rdText b bad most).1]) := by
 refine Spec.intro (fun F D hs => ?_)
 refine Calls_of_EC (args := [.pointer (some ⟨r, 0, none⟩), .int .i64 (most : Int)]) Tryz.func269 rfl rfl rfl ?_
 refine EC_rseq ?_
 refine EL_run rfl (R_assign rfl) ?_
 refine EL_nil ?_
 refine EC_rseq ?_
 refine EL_run rfl (R_move rfl) ?_
 refine EL_run rfl (R_nilCheck rfl) ?_
 refine EL_run rfl (R_field fo_353_0 rfl) ?_
 refine EL_run rfl (R_lb (hs.at (i := 0) rfl) Tryz.isAgg36 rfl rfl) ?_
 refine EL_run rfl (R_move rfl) ?_
 refine EL_op rfl (O_call hs [] [0] rfl rfl rfl Tryz.call279 (readText_spec ao c b most (by omega) (by omega)) (fun v es1 ds1 w hPhi hs => ?_))
 obtain ⟨rfl, rfl, rfl⟩ := hPhi
 refine EL_run rfl (R_move rfl) ?_
 refine EL_run rfl (R_extract rfl rfl) ?_
 refine EL_run rfl (R_extract rfl rfl) ?_
 refine EL_run rfl (R_extract rfl rfl) ?_
 refine EL_run rfl (R_assign rfl) ?_
 refine EL_run rfl (R_assign rfl) ?_
 refine EL_run rfl (R_assign rfl) ?_
 refine EL_nil ?_
 refine EC_seq ?_
 refine EC_rseq ?_
 refine EL_run rfl (R_move rfl) ?_
 refine EL_run rfl (R_neq rfl rfl) ?_
 refine EL_nil ?_
 refine EC_cond rfl (fun hc19 => ?_) (fun hc19 => ?_)
 ·have hc19p := cvt hc19; try dsimp only at hc19p
  have hv : (rdText b bad most) = ([], b, true) := by rw [rdText, if_pos (by omega)]
  have hs := hs.nilD 1
  refine EC_rseq ?_
  refine EL_run rfl (R_move rfl) ?_
  refine EL_run rfl (R_nilCheck rfl) ?_
  refine EL_run rfl (R_field fo_353_1 rfl) ?_
  refine EL_op rfl (O_store hs (i := 0) rfl Tryz.sizeOf4 rfl rfl rfl rfl (fun w hs => ?_))
  refine EL_nil ?_
  refine EC_rseq ?_
  refine EL_run rfl (R_assign rfl) ?_
  refine EL_nil ?_
  refine EC_ret ?_
  refine Then_r ?_
  exact ⟨[_], ⟨rfl, trivial⟩, _, _, ⟨_, _, none, 0, by rw [hv]; rfl, rfl, rfl⟩, (hs.fin [true] [0, 1]).as (by rw [hv]; rfl) (by rw [hv]; rfl)⟩
 ·have hc19p := cvt hc19; try dsimp only at hc19p
  refine EC_skip ?_
  refine Then_n ?_
  have hv : (rdText b bad most) = ((readText b most).1, b.drop (readText b most).2.1, bad) := by rw [rdText, if_neg (by omega)]
  have hu := readText_used (b := b) (most := most) (by omega)
  obtain ⟨t, ht⟩ : ∃ t, t = readText b most := ⟨_, rfl⟩
  rw [← ht] at hu hv
  rw [← ht]
  refine EC_rseq ?_
  refine EL_run rfl (R_move rfl) ?_
  refine EL_run rfl (R_move rfl) ?_
  refine EL_run rfl (R_nilCheck rfl) ?_
  refine EL_run rfl (R_field fo_353_0 rfl) ?_
  refine EL_run rfl (R_lb (hs.at (i := 0) rfl) Tryz.isAgg36 rfl rfl) ?_
  refine EL_run rfl (R_move rfl) ?_
  refine EL_run rfl (R_sliceLo es_36 rfl rfl (by omega) (by omega)) ?_
  refine EL_run rfl (R_nilCheck rfl) ?_
  refine EL_run rfl (R_field fo_353_0 rfl) ?_
  refine EL_op rfl (O_store hs (i := 0) rfl Tryz.sizeOf36 rfl rfl rfl rfl (fun w hs => ?_))
  have hs := hs.dBdrop (j := 0) rfl t.2.1 hu.1
  refine EL_nil ?_
  refine EC_rseq ?_
  refine EL_run rfl (R_move rfl) ?_
  refine EL_op rfl (O_convBytes hs rfl Tryz.underlying9 Tryz.underlying36 Tryz.underlying5 rfl (fun b33 c33 w hb33 hs => ?_))
  refine EL_run rfl (R_assign rfl) ?_
  refine EL_nil ?_
  refine EC_ret ?_
  exact ⟨[_], ⟨rfl, trivial⟩, _, _, ⟨_, _, _, _, by rw [hv]; rfl, rfl, rfl⟩, (hs.fin [true] [1, 2]).as (by rw [hv]; simp only [List.length_drop]; rfl) (by rw [hv]; rfl)⟩

set_option maxRecDepth 100000 in
theorem rdKid_spec (r : Nat) (ao : Option Addr) (c : Nat) (b : BL) (bad : Bool) {w0 : World} (hb : b.length ≤ 1000000) : Spec Tryz.prog 270 #[.pointer (some ⟨r, 0, none⟩)] w0 [blk r #[.slice ao b.length c, .bool bad] 353] [dB ao c b] (fun v es1 ds1 => ∃ ao' c', v = (rdKid b bad).1.val ∧ es1 = [blk r #[.slice ao' (rdKid b bad).2.1.length c', .bool (rdKid b bad).2.2] 353] ∧ ds1 = [dB ao' c' (rdKid b bad).2.1]) := by
 refine Spec.intro (fun F D hs => ?_)
 refine Calls_of_EC (args := [.pointer (some ⟨r, 0, none⟩)]) Tryz.func270 rfl rfl rfl ?_
 refine EC_rseq ?_
 refine EL_op rfl (O_alloc hs rfl Tryz.zeroValue32 (fun b2 w hb2 hs => ?_))
 have hs := hs.as (es' := [blk r #[.slice ao b.length c, .bool bad] 353, blk b2 Ptr.none.cells 32]) (ds' := [dB ao c b]) (by kernel_rfl) rfl
 refine EL_nil ?_
 refine EC_rseq ?_
 refine EL_run rfl (R_move rfl) ?_
 refine EL_run rfl (R_nilCheck rfl) ?_
 refine EL_run rfl (R_field fo_353_0 rfl) ?_
 refine EL_run rfl (R_lb (hs.at (i := 0) rfl) Tryz.isAgg36 rfl rfl) ?_
 refine EL_op rfl (O_call hs [] [0] rfl rfl rfl Tryz.call155 (ptrRead_spec ao c b (by omega)) (fun v es1 ds1 w hPhi hs => ?_))
 obtain ⟨rfl, rfl, rfl⟩ := hPhi
 refine EL_run rfl (R_move rfl) ?_
 refine EL_run rfl (R_extract rfl rfl) ?_
 refine EL_run rfl (R_extract rfl rfl) ?_
 refine EL_op rfl (O_alloc hs rfl Tryz.zeroValue32 (fun b3 w hb3 hs => ?_))
 have hs := hs.as (es' := [blk r #[.slice ao b.length c, .bool bad] 353, blk b2 Ptr.none.cells 32, blk b3 Ptr.none.cells 32]) (ds' := [dB ao c b]) (by kernel_rfl) rfl
 refine EL_op rfl (O_storeW hs (i := 2) rfl sz_32 rfl rfl (Ptr.size _) (Ptr.size _) (Ptr.oneA _) (fun w hs => ?_))
 refine EL_run rfl (R_assign rfl) ?_
 refine EL_nil ?_
 refine EC_seq ?_
 refine EC_rseq ?_
 refine EL_run rfl (R_move rfl) ?_
 refine EL_run rfl (R_neq rfl rfl) ?_
 refine EL_nil ?_
 refine EC_cond rfl (fun hc14 => ?_) (fun hc14 => ?_)
 ·have hc14p := cvt hc14; try dsimp only at hc14p
  have hv : (rdKid b bad) = (Ptr.none, b, true) := by rw [rdKid, if_pos (by omega)]
  have hpn : (ptrRead b).1 = Ptr.none := by
    unfold ptrRead at hc14p ⊢
    split
    · rfl
    · rename_i h1
      rw [if_neg h1] at hc14p
      split
      · rfl
      · rename_i h2
        rw [if_neg h2] at hc14p
        exact absurd rfl hc14p
  rw [hpn] at hs
  refine EC_rseq ?_
  refine EL_run rfl (R_move rfl) ?_
  refine EL_run rfl (R_nilCheck rfl) ?_
  refine EL_run rfl (R_field fo_353_1 rfl) ?_
  refine EL_op rfl (O_store hs (i := 0) rfl Tryz.sizeOf4 rfl rfl rfl rfl (fun w hs => ?_))
  refine EL_nil ?_
  refine EC_rseq ?_
  refine EL_run rfl (R_lw (hs.at (i := 2) rfl) Tryz.isAgg32 Tryz.sizeOf32 rfl (Ptr.size _)) ?_
  refine EL_op rfl (O_storeW hs (i := 1) rfl sz_32 rfl rfl (Ptr.size _) (Ptr.size _) (Ptr.oneA _) (fun w hs => ?_))
  refine EL_nil ?_
  refine EC_ret ?_
  refine Then_r ?_
  exact ⟨[_], ⟨res_cell hs (i := 1) rfl Tryz.sizeOf32 Tryz.isAgg32 rfl (Ptr.size _), trivial⟩, _, _, ⟨_, _, by rw [hv]; rfl, rfl, rfl⟩, (hs.fin [true] [0]).as (by rw [hv]; rfl) (by rw [hv]; rfl)⟩
 ·have hc14p := cvt hc14; try dsimp only at hc14p
  refine EC_skip ?_
  refine Then_n ?_
  have hbl : 52 ≤ b.length := Decidable.byContradiction (fun h => by
    unfold ptrRead at hc14p
    rw [if_pos (by omega)] at hc14p
    simp at hc14p)
  have hv : (rdKid b bad) = ((ptrRead b).1, b.drop 52, bad) := by rw [rdKid, if_neg (by omega)]
  refine EC_rseq ?_
  refine EL_run rfl (R_move rfl) ?_
  refine EL_run rfl (R_move rfl) ?_
  refine EL_run rfl (R_nilCheck rfl) ?_
  refine EL_run rfl (R_field fo_353_0 rfl) ?_
  refine EL_run rfl (R_lb (hs.at (i := 0) rfl) Tryz.isAgg36 rfl rfl) ?_
  refine EL_run rfl (R_sliceLo es_36 rfl rfl (by omega) (by omega)) ?_
  refine EL_run rfl (R_nilCheck rfl) ?_
  refine EL_run rfl (R_field fo_353_0 rfl) ?_
  refine EL_op rfl (O_store hs (i := 0) rfl Tryz.sizeOf36 rfl rfl rfl rfl (fun w hs => ?_))
  have hs := hs.dBdrop (j := 0) rfl 52 hbl
  refine EL_nil ?_
  refine EC_rseq ?_
  refine EL_run rfl (R_lw (hs.at (i := 2) rfl) Tryz.isAgg32 Tryz.sizeOf32 rfl (Ptr.size _)) ?_
  refine EL_op rfl (O_storeW hs (i := 1) rfl sz_32 rfl rfl (Ptr.size _) (Ptr.size _) (Ptr.oneA _) (fun w hs => ?_))
  refine EL_nil ?_
  refine EC_ret ?_
  exact ⟨[_], ⟨res_cell hs (i := 1) rfl Tryz.sizeOf32 Tryz.isAgg32 rfl (Ptr.size _), trivial⟩, _, _, ⟨_, _, by rw [hv]; rfl, rfl, rfl⟩, (hs.fin [true] [1]).as (by rw [hv]; simp only [List.length_drop]; rfl) (by rw [hv]; rfl)⟩

set_option maxRecDepth 100000 in
theorem rdKey_spec (r : Nat) (ao : Option Addr) (c : Nat) (b : BL) (bad : Bool) (lo : Option Addr) (lc : Nat) (l : BL) {w0 : World} (hb : b.length ≤ 1000000) (hl : l.length ≤ 900000) : Spec Tryz.prog 268 #[.pointer (some ⟨r, 0, none⟩), .slice lo l.length lc] w0 [blk r #[.slice ao b.length c, .bool bad] 353] [dB ao c b, dB lo lc l] (fun v es1 ds1 => ∃ ao' c', es1 = [blk r #[.slice ao' (rdKey b bad l).2.1.length c', .bool (rdKey b bad l).2.2] 353, oSl v 5 1 (rdKey b bad l).1.length (u8s (rdKey b bad l).1)] ∧ ds1 = [dB ao' c' (rdKey b bad l).2.1]) := by
 refine Spec.intro (fun F D hs => ?_)
 refine Calls_of_EC (args := [.pointer (some ⟨r, 0, none⟩), .slice lo l.length lc]) Tryz.func268 rfl rfl rfl ?_
 refine EC_rseq ?_
 refine EL_run rfl (R_assign rfl) ?_
 refine EL_nil ?_
 refine EC_rseq ?_
 refine EL_run rfl (R_move rfl) ?_
 refine EL_run rfl (R_move rfl) ?_
 refine EL_run rfl (R_lenS Tryz.underlying36 rfl) ?_
 refine EL_op rfl (O_call hs [true] [0] rfl rfl rfl Tryz.call267 (rdNum_spec r ao c b bad l.length hb (by omega)) (fun v es1 ds1 w hPhi hs => ?_))
 obtain ⟨a1, c1, rfl, rfl, rfl⟩ := hPhi
 obtain ⟨n, hn⟩ : ∃ n, n = rdNum b bad l.length := ⟨_, rfl⟩
 have hnl := rdNum_le b bad l.length
 rw [← hn] at hs hnl
 rw [← hn]
 refine EL_run rfl (R_assign rfl) ?_
 refine EL_nil ?_
 refine EC_rseq ?_
 refine EL_run rfl (R_move rfl) ?_
 refine EL_op rfl (O_call hs [true] [2] rfl rfl rfl Tryz.call269 (rdText_spec r a1 c1 n.2.1 n.2.2 160 (by omega) (by omega)) (fun v es1 ds1 w hPhi hs => ?_))
 obtain ⟨a2, c2, a3, c3, rfl, rfl, rfl⟩ := hPhi
 obtain ⟨t, ht⟩ : ∃ t, t = rdText n.2.1 n.2.2 160 := ⟨_, rfl⟩
 have htl := rdText_le n.2.1 n.2.2 160
 rw [← ht] at hs htl
 rw [← ht]
 have hv : (rdKey b bad l) = (l.take n.1 ++ t.1, t.2) := by rw [ht, hn]; rfl
 refine EL_run rfl (R_assign rfl) ?_
 refine EL_nil ?_
 refine EC_rseq ?_
 refine EL_run rfl (R_move rfl) ?_
 refine EL_run rfl (R_move rfl) ?_
 refine EL_run rfl (R_move rfl) ?_
 refine EL_run rfl (R_lenS Tryz.underlying36 rfl) ?_
 refine EL_run rfl (R_addI rfl rfl (by omega)) ?_
 refine EL_op rfl (O_makeSlice2 (m := n.1) (c := n.1 + t.1.length) hs rfl ei_36 Tryz.zeroValue5 rfl (sI (by omega)) (by omega) (by omega) (by omega) (fun b19 w hb19 hs => ?_))
 have hs := hs.asSl (i := 1) rfl n.1 (u8s (List.replicate n.1 0)) rfl (by rw [show (Value.int IntKind.u8 0).cells = #[Value.int .u8 0] from rfl, zeros_u8]; simp [u8s, List.map_replicate])
 refine EL_run rfl (R_assign rfl) ?_
 refine EL_nil ?_
 refine EC_rseq ?_
 refine EL_run rfl (R_move rfl) ?_
 refine EL_run rfl (R_move rfl) ?_
 refine EL_run rfl (R_move rfl) ?_
 refine EL_run rfl (R_move rfl) ?_
 refine EL_run rfl (R_sliceHM es_36 rfl rfl rfl (by omega) (by omega) (by have := (hs.rd (i := 1) rfl).1.1; omega)) ?_
 have hs := hs.dBtake (j := 1) rfl n.1
 have hs := hs.dBcap (j := 5) rfl n.1 (by rw [List.length_take]; omega) (by have := (hs.rd (i := 1) rfl).1.1; omega)
 refine EL_op rfl (O_copySl (i := 1) (mm := n.1) (news := u8s (l.take n.1)) hs rfl rfl Tryz.underlying36 sz_5 rfl rfl (by have h := Src.data (hs.rd (i := 6) rfl); rw [show (l.take n.1).length = n.1 by rw [List.length_take]; omega] at h; exact h) (by rw [u8s_len]; simp) (u8s_one _) (fun w hs => ?_))
 have hlt : (l.take n.1).length = n.1 := by rw [List.length_take]; omega
 have hs := hs.asSl (i := 1) rfl n.1 (u8s (l.take n.1)) rfl (by rw [List.take_of_length_le (by rw [u8s_len]; omega), setSeg]; simp [u8s]; omega)
 refine EL_nil ?_
 refine EC_rseq ?_
 refine EL_run rfl (R_move rfl) ?_
 refine EL_run rfl (R_move rfl) ?_
 refine EL_op rfl (O_append hs (i := 1) rfl rfl ei_36 rfl rfl (Src.data (hs.rd (i := 4) rfl)) (u8s_one _) (by omega) (by omega) (fun v28 w hs => ?_))
 refine EL_run rfl (R_assign rfl) ?_
 refine EL_nil ?_
 refine EC_ret ?_
 have hs := hs.asSl (i := 1) rfl (l.take n.1 ++ t.1).length (u8s (l.take n.1 ++ t.1)) (by rw [List.length_append]; omega) (by rw [u8s_append])
 exact ⟨[_], ⟨rfl, trivial⟩, _, _, ⟨_, _, rfl, rfl⟩, (hs.fin [true, true] [3]).as (by rw [hv]; rfl) (by rw [hv]; rfl)⟩
end Go.Proofs.YtpcojkbljgpecaaGreat
namespace Go.Proofs.YtpcojkbljgpecaaGreat
open Go
set_option maxRecDepth 100000 in
theorem leafRead_spec (ao : Option Addr) (c : Nat) (b : BL) {w0 : World} : Spec Tryz.prog 192 #[.slice ao b.length c] w0 [] [dB ao c b] (fun v es1 ds1 => ∃ n : Nd, n.m = (leafRd b).1 ∧ v = .tuple #[n.val, .int .i64 (leafRd b).2] ∧ es1 = [] ∧ ds1 = n.ds) := by
 refine Spec.intro (fun F D hs => ?_)
 refine Calls_of_EC (args := [.slice ao b.length c]) Tryz.func192 rfl rfl rfl ?_
 refine EC_rseq ?_
 refine EL_op rfl (O_alloc hs rfl Tryz.zeroValue39 (fun b2 w hb2 hs => ?_))
 have hs := hs.as (es' := [blk b2 Nd.zero.cells 39]) (ds' := [dB ao c b]) (by kernel_rfl) rfl
 refine EL_run rfl (R_assign rfl) ?_
 refine EL_nil ?_
 refine EC_seq ?_
 refine EC_rseq ?_
 refine EL_run rfl (R_move rfl) ?_
 refine EL_run rfl (R_lenS Tryz.underlying36 rfl) ?_
 refine EL_run rfl (R_gtr rfl rfl) ?_
 refine EL_nil ?_
 refine EC_cond rfl (fun hc9 => ?_) (fun hc9 => ?_)
 ·have hc9p := cvt hc9; try dsimp only at hc9p
  have hv := leafRd_no (b := b) (.inl (by omega))
  have hs := ((hs.nilDp SB.l SB.D 1).nilDp SB.l SB.D 1).nilD 36
  refine EC_rseq ?_
  refine EL_run rfl (R_buildS (cs := Nd.zero.cells) [] pl_39 Tryz.zeroValue39 rfl rfl rfl) ?_
  refine EL_op rfl (O_storeW hs (i := 0) rfl sz_39 rfl rfl rfl rfl (Nd.oneA _) (fun w hs => ?_))
  refine EL_run rfl (R_assign rfl) ?_
  refine EL_nil ?_
  refine EC_ret ?_
  refine Then_r ?_
  exact ⟨[_, _], ⟨res_cell hs (i := 0) rfl Tryz.sizeOf39 Tryz.isAgg39 rfl rfl, rfl, trivial⟩, _, _, ⟨Nd.zero, by rw [hv]; rfl, by rw [hv]; rfl, rfl, rfl⟩, (hs.fin [] [1, 2, 3]).as rfl rfl⟩
 ·have hc9p := cvt hc9; try dsimp only at hc9p
  refine EC_skip ?_
  refine Then_n ?_
  refine EC_rseq ?_
  refine EL_run rfl (R_move rfl) ?_
  refine EL_run rfl (R_buildS [(0, .tmp 11)] pl_353 Tryz.zeroValue353 rfl rfl rfl) ?_
  refine EL_op rfl (O_box hs rfl rfl (fun b13 w hb13 hs => ?_))
  have hs := hs.as (es' := [blk b2 Nd.zero.cells 39, blk b13 #[.slice ao b.length c, .bool false] 353]) (ds' := [dB ao c b]) rfl rfl
  refine EL_run rfl (R_assign rfl) ?_
  refine EL_nil ?_
  refine EC_rseq ?_
  refine EL_run rfl (R_move rfl) ?_
  refine EL_op rfl (O_call hs [false, true] [0] rfl rfl rfl Tryz.call267 (rdNum_spec b13 ao c b false 12 (by omega) (by omega)) (fun v es1 ds1 w hPhi hs => ?_))
  obtain ⟨a1, c1, rfl, rfl, rfl⟩ := hPhi
  obtain ⟨h, hh⟩ : ∃ h, h = rdHead b := ⟨_, rfl⟩
  have hhl := rdNum_le b false 12
  rw [show rdNum b false 12 = h from hh.symm] at hs hhl
  rw [show rdNum b false 12 = h from hh.symm]
  refine EL_run rfl (R_buildS (cs := Nd.cells ⟨(h.1 : Int), none, 0, [], none, 0, [], none, 0, []⟩) [(0, .tmp 15)] pl_39 Tryz.zeroValue39 rfl rfl rfl) ?_
  refine EL_op rfl (O_alloc hs rfl Tryz.zeroValue39 (fun b5 w hb5 hs => ?_))
  have hs := hs.as (es' := [blk b2 Nd.zero.cells 39, blk b13 #[.slice a1 h.2.1.length c1, .bool h.2.2] 353, blk b5 Nd.zero.cells 39]) (ds' := [dB ao c b, dB a1 c1 h.2.1]) (by kernel_rfl) rfl
  refine EL_op rfl (O_storeW hs (i := 2) rfl sz_39 rfl rfl rfl rfl (Nd.oneA _) (fun w hs => ?_))
  refine EL_nil ?_
  refine EC_rseq ?_
  refine EL_run rfl (R_assign rfl) ?_
  refine EL_nil ?_
  refine EC_cut (fun ρ w => ∃ (kv vv pv : Value) (keys vals : List SB) (kids : List Ptr) (ra : Option Addr) (rc : Nat), keys.map SB.b = (rdEnd b).keys ∧ vals.map SB.b = (rdEnd b).vals ∧ kids = (rdEnd b).kids ∧ keys.length ≤ 4096 ∧ vals.length ≤ 4096 ∧ kids.length ≤ 4096 ∧ Slots ρ [(0, .slice ao b.length c), (2, .pointer (some ⟨b2, 0, none⟩)), (3, .int .i64 0), (4, .pointer (some ⟨b13, 0, none⟩)), (5, .pointer (some ⟨b5, 0, none⟩))] ∧ St w0 F D [blk b2 Nd.zero.cells 39, blk b13 #[.slice ra (rdEnd b).rest.length rc, .bool (rdEnd b).bad] 353, blk b5 #[.int .i64 (h.1 : Int), kv, vv, pv] 39, oSl kv 36 1 keys.length (keys.flatMap SB.l), oSl vv 36 1 vals.length (vals.flatMap SB.l), oSl pv 32 36 kids.length (kids.flatMap Ptr.l)] [dB ao c b, dB ra rc (rdEnd b).rest, dAll SB.D keys, dAll SB.D vals] w) ?_ ?_
  ·skip
   refine EC_rseq ?_
   refine EL_run rfl (R_move rfl) ?_
   refine EL_op rfl (O_call hs [false, true] [1] rfl rfl rfl Tryz.call267 (rdNum_spec b13 a1 c1 h.2.1 h.2.2 4096 (by omega) (by omega)) (fun v es1 ds1 w hPhi hs => ?_))
   obtain ⟨ra, rc, rfl, rfl, rfl⟩ := hPhi
   obtain ⟨n, hn⟩ : ∃ n, n = rdCount b := ⟨_, rfl⟩
   have hnl := rdNum_le h.2.1 h.2.2 4096
   have hnn : rdNum h.2.1 h.2.2 4096 = n := by rw [hn, hh]; rfl
   rw [hnn] at hs hnl
   rw [hnn]
   have hend : rdEnd b = rdAll h.1 n.1 ⟨[], [], [], [], n.2.1, n.2.2⟩ := by rw [hn, hh]; rfl
   have hs := (((hs.nilSl 36 1).nilSl 36 1).nilSl 32 36)
   have hs := ((hs.nilD 1).dAllNil SB.D).dAllNil SB.D
   refine EL_run rfl (R_move rfl) ?_
   refine EL_nil ?_
   refine EC_block ?_
   refine EC_loop (fun mm ρ w => ∃ (i : Nat) (s : RS) (kv vv pv lv : Value) (keys vals : List SB) (kids : List Ptr) (ra la : Option Addr) (rc lc : Nat), mm = n.1 - i ∧ i ≤ n.1 ∧ rdEnd b = rdAll h.1 (n.1 - i) s ∧ keys.map SB.b = s.keys ∧ vals.map SB.b = s.vals ∧ kids = s.kids ∧ (keys.length ≤ i ∧ vals.length ≤ i ∧ kids.length ≤ i ∧ s.last.length ≤ i * 160 ∧ s.rest.length ≤ 4096) ∧ lv = .slice la s.last.length lc ∧ Slots ρ [(0, .slice ao b.length c), (2, .pointer (some ⟨b2, 0, none⟩)), (3, .int .i64 0), (4, .pointer (some ⟨b13, 0, none⟩)), (5, .pointer (some ⟨b5, 0, none⟩)), (6, lv), (18, .int .i64 (n.1 : Int)), (19, .int .i64 (i : Int))] ∧ St w0 F D [blk b2 Nd.zero.cells 39, blk b13 #[.slice ra s.rest.length rc, .bool s.bad] 353, blk b5 #[.int .i64 (h.1 : Int), kv, vv, pv] 39, oSl kv 36 1 keys.length (keys.flatMap SB.l), oSl vv 36 1 vals.length (vals.flatMap SB.l), oSl pv 32 36 kids.length (kids.flatMap Ptr.l)] [dB ao c b, dB ra rc s.rest, dB la lc s.last, dAll SB.D keys, dAll SB.D vals] w) (n.1) (⟨0, ⟨[], [], [], [], n.2.1, n.2.2⟩, _, _, _, _, [], [], [], ra, none, rc, 0, by omega, by omega, hend, rfl, rfl, rfl, ⟨by simp, by simp, by simp, by simp, by simp only []; omega⟩, rfl, ⟨rfl, rfl, rfl, rfl, rfl, rfl, rfl, rfl, trivial⟩, (hs.fin [true, true, true, true, true, true] [0, 2, 3, 4, 5]).as rfl rfl⟩) ?_
   rintro mm ρ w ⟨i, s, kv, vv, pv, lv, keys, vals, kids, ra, la, rc, lc, rfl, hi, hend, hk, hvs, hks, hls, rfl, hsl, hs⟩
   refine EC_slots _ hsl ?_
   refine EC_rseq ?_
   refine EL_run rfl (R_lss rfl rfl) ?_
   refine EL_nil ?_
   refine EC_seq ?_
   refine EC_cond rfl (fun hc20 => ?_) (fun hc20 => ?_)
   ·have hc20p := cvt hc20; try dsimp only at hc20p
    refine EC_skip ?_
    refine Then_n ?_
    refine EC_seq ?_
    refine EC_block ?_
    refine EC_seq ?_
    refine EC_rseq ?_
    refine EL_run rfl (R_move rfl) ?_
    refine EL_run rfl (R_nilCheck rfl) ?_
    refine EL_run rfl (R_field fo_353_1 rfl) ?_
    refine EL_run rfl (R_lb (hs.at (i := 1) rfl) Tryz.isAgg4 rfl rfl) ?_
    refine EL_nil ?_
    refine EC_cond rfl (fun hc24 => ?_) (fun hc24 => ?_)
    ·have hc24p := cvt hc24; try dsimp only at hc24p
     have hfin : rdEnd b = s := by rw [hend, rdAll_bad _ _ _ hc24p]
     refine EC_exit ?_
     refine Then_e ?_
     refine InBlock_miss rfl ?_
     refine Then_e ?_
     refine Then_e ?_
     refine InBlock_hit rfl ?_
     refine Then_n ?_
     exact ⟨kv, vv, pv, keys, vals, kids, ra, rc, by rw [hfin]; exact hk, by rw [hfin]; exact hvs, by rw [hfin]; exact hks, by omega, by omega, by omega, ⟨rfl, rfl, rfl, rfl, rfl, trivial⟩, (hs.fin [true, true, true, true, true, true] [0, 1, 3, 4]).as (by rw [hfin]; rfl) (by rw [hfin]; rfl)⟩
    ·have hc24p := cvt hc24; try dsimp only at hc24p
     refine EC_skip ?_
     refine Then_n ?_
     refine EC_rseq ?_
     refine EL_run rfl (R_move rfl) ?_
     refine EL_run rfl (R_move rfl) ?_
     refine EL_op rfl (O_call hs [false, true] [1, 2] rfl rfl rfl Tryz.call268 (rdKey_spec b13 ra rc s.rest s.bad la lc s.last (by omega) (by omega)) (fun v es1 ds1 w hPhi hs => ?_))
     obtain ⟨a1, c1, rfl, rfl⟩ := hPhi
     obtain ⟨a4, c4, rfl, hs⟩ := hs.freezeSl (i := 6) rfl
     obtain ⟨k, hkk⟩ : ∃ k, k = rdKey s.rest s.bad s.last := ⟨_, rfl⟩
     have hkl := rdKey_le s.rest s.bad s.last
     rw [← hkk] at hs hkl
     rw [← hkk]
     refine EL_run rfl (R_assign rfl) ?_
     refine EL_nil ?_
     refine EC_rseq ?_
     refine EL_run rfl (R_field fo_39_1 rfl) ?_
     refine EL_run rfl (R_lb (hs.at (i := 2) rfl) Tryz.isAgg37 rfl rfl) ?_
     refine EL_run rfl (R_move rfl) ?_
     refine EL_op rfl (O_buildSlice [.tmp 30] hs rfl ei_37 rfl rfl rfl (size1 rfl) (by decide) (fun b31 w hb31 hs => ?_))
     refine EL_op rfl (O_append hs (i := 3) rfl rfl ei_37 rfl rfl (Src.own (hs.at (i := 6) rfl)) (SB.one [⟨a4, c4, k.1⟩]) (by omega) (by omega) (fun v32 w hs => ?_))
     obtain ⟨z1, z2, rfl⟩ := oSl.val (hs.at (i := 3) rfl)
     have hs := hs.pushed (i := 3) rfl (⟨a4, c4, k.1⟩ : SB) rfl
     refine EL_run rfl (R_field fo_39_1 rfl) ?_
     refine EL_op rfl (O_store hs (i := 2) rfl Tryz.sizeOf37 rfl rfl rfl rfl (fun w hs => ?_))
     refine EL_nil ?_
     refine EC_rseq ?_
     refine EL_run rfl (R_field fo_39_0 rfl) ?_
     refine EL_run rfl (R_lb (hs.at (i := 2) rfl) Tryz.isAgg3 rfl rfl) ?_
     refine EL_run rfl (R_eql rfl rfl) ?_
     refine EL_nil ?_
     refine EC_cond rfl (fun hc36 => ?_) (fun hc36 => ?_)
     ·have hc36p := cvt hc36; try dsimp only at hc36p
      have hlv : h.1 = 0 := by omega
      refine EC_drawS hs [3, 4, 5, 7] [1] [2] [] (.take 0 (.take 1 (.take 2 (.fork 3 (.fork 4 (.fork 5 (.take 6 (.fork 7 .done (.done))) (.done)) (.done)) (.done))))) mix_ok (by kernel_rfl) (fun w hs _ => ?_)
      refine EP_take rfl rfl rfl (fun _ => R_field fo_39_2 rfl) ?_
      refine EP_read rfl rfl rfl (RdS.of hs rfl rfl) (fun _ hR => R_lb (hR.e 2 rfl rfl) Tryz.isAgg37 rfl rfl) ?_
      refine EP_take rfl rfl rfl (fun _ => R_move rfl) ?_
      refine EP_act rfl rfl (O_call hs [false, true] [5] rfl rfl rfl Tryz.call269 (rdText_spec b13 a1 c1 k.2.1 k.2.2 1024 (by omega) (by omega)) (fun v es1 ds1 w hPhi hs => ?_))
      obtain ⟨a5, c5, a6, c6, rfl, rfl, rfl⟩ := hPhi
      obtain ⟨t, ht⟩ : ∃ t, t = rdText k.2.1 k.2.2 1024 := ⟨_, rfl⟩
      have htl := rdText_le k.2.1 k.2.2 1024
      rw [← ht] at hs htl
      rw [← ht]
      refine ⟨(fun _ => RdS.of hs rfl rfl), ?_⟩
      refine EP_act rfl rfl (O_buildSlice [.tmp 40] hs rfl ei_37 rfl rfl rfl (size1 rfl) (by decide) (fun b41 w hb41 hs => ⟨(fun _ => RdS.of hs rfl rfl), ?_⟩))
      refine EP_act rfl rfl (O_append hs (i := 4) rfl rfl ei_37 rfl rfl (Src.own (hs.at (i := 7) rfl)) (SB.one [⟨a6, c6, t.1⟩]) (by omega) (by omega) (fun v42 w hs => ?_))
      obtain ⟨z3, z4, rfl⟩ := oSl.val (hs.at (i := 4) rfl)
      have hs := hs.pushed (i := 4) rfl (⟨a6, c6, t.1⟩ : SB) rfl
      refine ⟨(rq_no (by kernel_rfl)), ?_⟩
      refine EP_take rfl rfl rfl (fun _ => R_field fo_39_2 rfl) ?_
      refine EP_act rfl rfl (O_store hs (i := 2) rfl Tryz.sizeOf37 rfl rfl rfl rfl (fun w hs => ⟨(rq_no (by kernel_rfl)), ?_⟩))
      refine EP_done ?_
      refine InBlock_n ?_
      refine Then_n ?_
      refine EC_region ?_
      refine EL_run rfl (R_addI rfl rfl (by omega)) ?_
      refine EL_run rfl (R_move rfl) ?_
      refine EL_nil ?_
      refine Then_n ?_
      first
        | (have hst : rdStep h.1 s = ⟨k.1, s.keys ++ [k.1], s.vals ++ [t.1], s.kids, t.2.1, t.2.2⟩ := by simp only [rdStep, ← hkk, if_pos hlv, ← ht]
           have hs := hs.dAllSnoc (g := SB.D) (l := keys) (x := ⟨a4, c4, k.1⟩) (j := 3) (k := 6) rfl rfl
           have hs := hs.dAllSnoc (g := SB.D) (l := vals) (x := ⟨a6, c6, t.1⟩) (j := 4) (k := 8) rfl rfl
           exact ⟨n.1 - (i + 1), by omega, i + 1, ⟨k.1, s.keys ++ [k.1], s.vals ++ [t.1], s.kids, t.2.1, t.2.2⟩, _, _, _, _, keys ++ [⟨a4, c4, k.1⟩], vals ++ [⟨a6, c6, t.1⟩], kids, _, a4, _, c4, rfl, by omega, by rw [← hst, ← rdAll_step (by omega) hc24p]; exact hend, by simp [hk], by simp [hvs], hks, ⟨by simp; omega, by simp; omega, by omega, by simp only []; omega, by simp only []; omega⟩, rfl, ⟨rfl, rfl, rfl, rfl, rfl, rfl, rfl, rfl, trivial⟩, (hs.fin [true, true, true, true, true, true] [0, 7, 6, 9, 10]).as rfl rfl⟩)
        | (have hst : rdStep h.1 s = ⟨k.1, s.keys ++ [k.1], s.vals, s.kids ++ [t.1], t.2.1, t.2.2⟩ := by simp only [rdStep, ← hkk, if_neg hlv, ← ht]
           have hs := hs.dAllSnoc (g := SB.D) (l := keys) (x := ⟨a4, c4, k.1⟩) (j := 3) (k := 6) rfl rfl
           exact ⟨n.1 - (i + 1), by omega, i + 1, ⟨k.1, s.keys ++ [k.1], s.vals, s.kids ++ [t.1], t.2.1, t.2.2⟩, _, _, _, _, keys ++ [⟨a4, c4, k.1⟩], vals, kids ++ [t.1], _, a4, _, c4, rfl, by omega, by rw [← hst, ← rdAll_step (by omega) hc24p]; exact hend, by simp [hk], hvs, by simp [hks], ⟨by simp; omega, by omega, by simp; omega, by simp only []; omega, by simp only []; omega⟩, rfl, ⟨rfl, rfl, rfl, rfl, rfl, rfl, rfl, rfl, trivial⟩, (hs.fin [true, true, true, true, true, true] [0, 7, 6, 8, 4]).as rfl rfl⟩)
     ·have hc36p := cvt hc36; try dsimp only at hc36p
      have hlv : ¬ h.1 = 0 := by omega
      refine EC_drawS hs [3, 4, 5, 7] [1] [2] [] (.take 0 (.take 1 (.take 2 (.fork 3 (.fork 4 (.fork 5 (.take 6 (.fork 7 .done (.done))) (.done)) (.done)) (.done))))) mix_ok (by kernel_rfl) (fun w hs _ => ?_)
      refine EP_take rfl rfl rfl (fun _ => R_field fo_39_3 rfl) ?_
      refine EP_read rfl rfl rfl (RdS.of hs rfl rfl) (fun _ hR => R_lb (hR.e 2 rfl rfl) Tryz.isAgg26 rfl rfl) ?_
      refine EP_take rfl rfl rfl (fun _ => R_move rfl) ?_
      refine EP_act rfl rfl (O_call hs [false, true] [5] rfl rfl rfl Tryz.call270 (rdKid_spec b13 a1 c1 k.2.1 k.2.2 (by omega)) (fun v es1 ds1 w hPhi hs => ?_))
      obtain ⟨a5, c5, rfl, rfl, rfl⟩ := hPhi
      obtain ⟨t, ht⟩ : ∃ t, t = rdKid k.2.1 k.2.2 := ⟨_, rfl⟩
      have htl := rdKid_le k.2.1 k.2.2
      rw [← ht] at hs htl
      rw [← ht]
      refine ⟨(fun _ => RdS.of hs rfl rfl), ?_⟩
      refine EP_act rfl rfl (O_buildSlice [.tmp 47] hs rfl ei_26 rfl rfl rfl (sizeN (Ptr.size _)) (by decide) (fun b48 w hb48 hs => ⟨(fun _ => RdS.of hs rfl rfl), ?_⟩))
      refine EP_act rfl rfl (O_append hs (i := 5) rfl rfl ei_26 rfl rfl (Src.own (hs.at (i := 7) rfl)) (ptr_oneF _) (by omega) (by omega) (fun v49 w hs => ?_))
      obtain ⟨z3, z4, rfl⟩ := oSl.val (hs.at (i := 5) rfl)
      have hs := hs.pushed (i := 5) rfl t.1 rfl
      refine ⟨(rq_no (by kernel_rfl)), ?_⟩
      refine EP_take rfl rfl rfl (fun _ => R_field fo_39_3 rfl) ?_
      refine EP_act rfl rfl (O_store hs (i := 2) rfl Tryz.sizeOf26 rfl rfl rfl rfl (fun w hs => ⟨(rq_no (by kernel_rfl)), ?_⟩))
      refine EP_done ?_
      refine InBlock_n ?_
      refine Then_n ?_
      refine EC_region ?_
      refine EL_run rfl (R_addI rfl rfl (by omega)) ?_
      refine EL_run rfl (R_move rfl) ?_
      refine EL_nil ?_
      refine Then_n ?_
      first
        | (have hst : rdStep h.1 s = ⟨k.1, s.keys ++ [k.1], s.vals ++ [t.1], s.kids, t.2.1, t.2.2⟩ := by simp only [rdStep, ← hkk, if_pos hlv, ← ht]
           have hs := hs.dAllSnoc (g := SB.D) (l := keys) (x := ⟨a4, c4, k.1⟩) (j := 3) (k := 6) rfl rfl
           have hs := hs.dAllSnoc (g := SB.D) (l := vals) (x := ⟨a6, c6, t.1⟩) (j := 4) (k := 8) rfl rfl
           exact ⟨n.1 - (i + 1), by omega, i + 1, ⟨k.1, s.keys ++ [k.1], s.vals ++ [t.1], s.kids, t.2.1, t.2.2⟩, _, _, _, _, keys ++ [⟨a4, c4, k.1⟩], vals ++ [⟨a6, c6, t.1⟩], kids, _, a4, _, c4, rfl, by omega, by rw [← hst, ← rdAll_step (by omega) hc24p]; exact hend, by simp [hk], by simp [hvs], hks, ⟨by simp; omega, by simp; omega, by omega, by simp only []; omega, by simp only []; omega⟩, rfl, ⟨rfl, rfl, rfl, rfl, rfl, rfl, rfl, rfl, trivial⟩, (hs.fin [true, true, true, true, true, true] [0, 7, 6, 9, 10]).as rfl rfl⟩)
        | (have hst : rdStep h.1 s = ⟨k.1, s.keys ++ [k.1], s.vals, s.kids ++ [t.1], t.2.1, t.2.2⟩ := by simp only [rdStep, ← hkk, if_neg hlv, ← ht]
           have hs := hs.dAllSnoc (g := SB.D) (l := keys) (x := ⟨a4, c4, k.1⟩) (j := 3) (k := 6) rfl rfl
           exact ⟨n.1 - (i + 1), by omega, i + 1, ⟨k.1, s.keys ++ [k.1], s.vals, s.kids ++ [t.1], t.2.1, t.2.2⟩, _, _, _, _, keys ++ [⟨a4, c4, k.1⟩], vals, kids ++ [t.1], _, a4, _, c4, rfl, by omega, by rw [← hst, ← rdAll_step (by omega) hc24p]; exact hend, by simp [hk], hvs, by simp [hks], ⟨by simp; omega, by omega, by simp; omega, by simp only []; omega, by simp only []; omega⟩, rfl, ⟨rfl, rfl, rfl, rfl, rfl, rfl, rfl, rfl, trivial⟩, (hs.fin [true, true, true, true, true, true] [0, 7, 6, 8, 4]).as rfl rfl⟩)
   ·have hc20p := cvt hc20; try dsimp only at hc20p
    obtain rfl : i = n.1 := by omega
    have hfin : rdEnd b = s := by rw [hend, Nat.sub_self]; rfl
    refine EC_exit ?_
    refine Then_e ?_
    refine Then_e ?_
    refine InBlock_hit rfl ?_
    refine Then_n ?_
    exact ⟨kv, vv, pv, keys, vals, kids, ra, rc, by rw [hfin]; exact hk, by rw [hfin]; exact hvs, by rw [hfin]; exact hks, by omega, by omega, by omega, ⟨rfl, rfl, rfl, rfl, rfl, trivial⟩, (hs.fin [true, true, true, true, true, true] [0, 1, 3, 4]).as (by rw [hfin]; rfl) (by rw [hfin]; rfl)⟩
  ·rintro ρ w ⟨kv, vv, pv, keys, vals, kids, ra, rc, hk, hvs, hks, hkl, hvl, hpl, hsl, hs⟩
   refine EC_slots _ hsl ?_
   obtain ⟨E, hE⟩ : ∃ E, E = rdEnd b := ⟨_, rfl⟩
   rw [← hE] at hs hk hvs hks
   obtain ⟨ko, kc, rfl⟩ := oSl.val (hs.at (i := 3) rfl)
   have hs := hs.freezeDp (f := SB.l) (g := SB.D) (l := keys) (i := 3) (j := 2) rfl rfl rfl
   obtain ⟨vo, vc, rfl⟩ := oSl.val (hs.at (i := 3) rfl)
   have hs := hs.freezeDp (f := SB.l) (g := SB.D) (l := vals) (i := 3) (j := 3) rfl rfl rfl
   obtain ⟨po, pc, rfl, hs⟩ := hs.freezeSl (i := 3) rfl
   have hs := (hs.fin [true, true, true] [0, 1, 5, 7, 8]).as (ds' := [dB ao c b, dB ra rc E.rest, dSS ko kc keys, dSS vo vc vals, dP po pc kids]) rfl rfl
   have hm : Nd.m ⟨(h.1 : Int), ko, kc, keys, vo, vc, vals, po, pc, kids⟩ = rdNode b := by simp only [Nd.m, rdNode, hk, hvs, hks, ← hE, ← hh]
   refine EC_seq ?_
   refine EC_rseq ?_
   refine EL_run rfl (R_move rfl) ?_
   refine EL_run rfl (R_nilCheck rfl) ?_
   refine EL_run rfl (R_field fo_353_1 rfl) ?_
   refine EL_run rfl (R_lb (hs.at (i := 1) rfl) Tryz.isAgg4 rfl rfl) ?_
   refine EL_run rfl (R_move rfl) ?_
   refine EL_split 56 rfl (fun hg4 => ?_) (fun hg4 => ?_)
   ·have hg4p := cvt hg4; try dsimp only at hg4p
    refine EL_pass rfl rfl rfl hg4 ?_
    refine EL_pass rfl rfl rfl hg4 ?_
    refine EL_pass rfl rfl rfl hg4 ?_
    refine EL_pass rfl rfl rfl hg4 ?_
    refine EL_pass rfl rfl rfl hg4 ?_
    refine EL_pass rfl rfl rfl hg4 ?_
    refine EL_run rfl (R_pickT rfl hg4 rfl) ?_
    refine EL_run rfl (R_move rfl) ?_
    refine EL_pass rfl rfl rfl rfl ?_
    refine EL_pass rfl rfl rfl rfl ?_
    refine EL_pass rfl rfl rfl rfl ?_
    refine EL_run rfl (R_pickT rfl rfl rfl) ?_
    refine EL_run rfl (R_move rfl) ?_
    refine EL_pass rfl rfl rfl rfl ?_
    refine EL_pass rfl rfl rfl rfl ?_
    refine EL_pass rfl rfl rfl rfl ?_
    refine EL_pass rfl rfl rfl rfl ?_
    refine EL_pass rfl rfl rfl rfl ?_
    refine EL_run rfl (R_pickT rfl rfl rfl) ?_
    refine EL_nil ?_
    refine EC_cond rfl (fun hcx => ?_) (fun hcx => ?_)
    ·skip
     have hv := leafRd_no (b := b) (by
       rw [← hE]
       first
         | exact .inr (.inl hg4p)
         | exact .inr (.inr (.inl (fun h => by rw [h] at hg12p; exact hg12p rfl)))
         | exact .inr (.inr (.inr (.inr hc75p)))
         | exact .inr (.inr (.inr (.inl (fun h => absurd (hg17p.symm.trans (hrb.2 h)) (by decide))))))
     have hs := ((hs.nilDp SB.l SB.D 1).nilDp SB.l SB.D 1).nilD 36
     refine EC_rseq ?_
     refine EL_run rfl (R_buildS (cs := Nd.zero.cells) [] pl_39 Tryz.zeroValue39 rfl rfl rfl) ?_
     refine EL_op rfl (O_storeW hs (i := 0) rfl sz_39 rfl rfl rfl rfl (Nd.oneA _) (fun w hs => ?_))
     refine EL_run rfl (R_assign rfl) ?_
     refine EL_nil ?_
     refine EC_ret ?_
     refine Then_r ?_
     first
       | exact ⟨[_, _], ⟨res_cell hs (i := 0) rfl Tryz.sizeOf39 Tryz.isAgg39 rfl rfl, rfl, trivial⟩, _, _, ⟨Nd.zero, by rw [hv]; rfl, by rw [hv]; rfl, rfl, rfl⟩, (hs.fin [] [5, 6, 7]).as rfl rfl⟩
       | exact ⟨[_, _], ⟨res_cell hs (i := 0) rfl Tryz.sizeOf39 Tryz.isAgg39 rfl rfl, rfl, trivial⟩, _, _, ⟨Nd.zero, by rw [hv]; rfl, by rw [hv]; rfl, rfl, rfl⟩, (hs.fin [] [6, 7, 8]).as rfl rfl⟩
    ·exact Bool.noConfusion hcx
   ·have hg4p := cvt hg4; try dsimp only at hg4p
    refine EL_want rfl rfl hg4 ?_
    refine EL_run rfl (R_move rfl) ?_
    refine EL_want rfl rfl hg4 ?_
    refine EL_run rfl (R_nilCheck rfl) ?_
    refine EL_want rfl rfl hg4 ?_
    refine EL_run rfl (R_field fo_353_0 rfl) ?_
    refine EL_want rfl rfl hg4 ?_
    refine EL_run rfl (R_lb (hs.at (i := 1) rfl) Tryz.isAgg36 rfl rfl) ?_
    refine EL_want rfl rfl hg4 ?_
    refine EL_run rfl (R_lenS Tryz.underlying36 rfl) ?_
    refine EL_want rfl rfl hg4 ?_
    refine EL_run rfl (R_neq rfl rfl) ?_
    refine EL_run rfl (R_pickF rfl hg4 rfl) ?_
    refine EL_run rfl (R_move rfl) ?_
    refine EL_split 64 rfl (fun hg12 => ?_) (fun hg12 => ?_)
    ·have hg12p := cvt hg12; try dsimp only at hg12p
     refine EL_pass rfl rfl rfl hg12 ?_
     refine EL_pass rfl rfl rfl hg12 ?_
     refine EL_pass rfl rfl rfl hg12 ?_
     refine EL_run rfl (R_pickT rfl hg12 rfl) ?_
     refine EL_run rfl (R_move rfl) ?_
     refine EL_pass rfl rfl rfl rfl ?_
     refine EL_pass rfl rfl rfl rfl ?_
     refine EL_pass rfl rfl rfl rfl ?_
     refine EL_pass rfl rfl rfl rfl ?_
     refine EL_pass rfl rfl rfl rfl ?_
     refine EL_run rfl (R_pickT rfl rfl rfl) ?_
     refine EL_nil ?_
     refine EC_cond rfl (fun hcx => ?_) (fun hcx => ?_)
     ·skip
      have hv := leafRd_no (b := b) (by
        rw [← hE]
        first
          | exact .inr (.inl hg4p)
          | exact .inr (.inr (.inl (fun h => by rw [h] at hg12p; exact hg12p rfl)))
          | exact .inr (.inr (.inr (.inr hc75p)))
          | exact .inr (.inr (.inr (.inl (fun h => absurd (hg17p.symm.trans (hrb.2 h)) (by decide))))))
      have hs := ((hs.nilDp SB.l SB.D 1).nilDp SB.l SB.D 1).nilD 36
      refine EC_rseq ?_
      refine EL_run rfl (R_buildS (cs := Nd.zero.cells) [] pl_39 Tryz.zeroValue39 rfl rfl rfl) ?_
      refine EL_op rfl (O_storeW hs (i := 0) rfl sz_39 rfl rfl rfl rfl (Nd.oneA _) (fun w hs => ?_))
      refine EL_run rfl (R_assign rfl) ?_
      refine EL_nil ?_
      refine EC_ret ?_
      refine Then_r ?_
      first
        | exact ⟨[_, _], ⟨res_cell hs (i := 0) rfl Tryz.sizeOf39 Tryz.isAgg39 rfl rfl, rfl, trivial⟩, _, _, ⟨Nd.zero, by rw [hv]; rfl, by rw [hv]; rfl, rfl, rfl⟩, (hs.fin [] [5, 6, 7]).as rfl rfl⟩
        | exact ⟨[_, _], ⟨res_cell hs (i := 0) rfl Tryz.sizeOf39 Tryz.isAgg39 rfl rfl, rfl, trivial⟩, _, _, ⟨Nd.zero, by rw [hv]; rfl, by rw [hv]; rfl, rfl, rfl⟩, (hs.fin [] [6, 7, 8]).as rfl rfl⟩
     ·exact Bool.noConfusion hcx
    ·have hg12p := cvt hg12; try dsimp only at hg12p
     refine EL_want rfl rfl hg12 ?_
     refine EL_run rfl (R_lw (hs.at (i := 2) rfl) Tryz.isAgg39 Tryz.sizeOf39 rfl rfl) ?_
     refine EL_want rfl rfl hg12 ?_
     refine EL_op rfl (O_call hs [] [2, 3, 4] rfl rfl rfl Tryz.call197 (nRight_spec ⟨(h.1 : Int), ko, kc, keys, vo, vc, vals, po, pc, kids⟩) (fun v es1 ds1 w hPhi hs => ?_))
     obtain ⟨rb, rfl, hrb, rfl, rfl⟩ := hPhi
     rw [hm] at hrb
     refine EL_want rfl rfl hg12 ?_
     refine EL_run rfl (R_not rfl) ?_
     refine EL_run rfl (R_pickF rfl hg12 rfl) ?_
     refine EL_run rfl (R_move rfl) ?_
     refine EL_split 69 rfl (fun hg17 => ?_) (fun hg17 => ?_)
     ·have hg17p := cvt hg17; try dsimp only at hg17p
      refine EL_pass rfl rfl rfl hg17 ?_
      refine EL_pass rfl rfl rfl hg17 ?_
      refine EL_pass rfl rfl rfl hg17 ?_
      refine EL_pass rfl rfl rfl hg17 ?_
      refine EL_pass rfl rfl rfl hg17 ?_
      refine EL_run rfl (R_pickT rfl hg17 rfl) ?_
      refine EL_nil ?_
      refine EC_cond rfl (fun hcx => ?_) (fun hcx => ?_)
      ·skip
       have hv := leafRd_no (b := b) (by
         rw [← hE]
         first
           | exact .inr (.inl hg4p)
           | exact .inr (.inr (.inl (fun h => by rw [h] at hg12p; exact hg12p rfl)))
           | exact .inr (.inr (.inr (.inr hc75p)))
           | exact .inr (.inr (.inr (.inl (fun h => absurd (hg17p.symm.trans (hrb.2 h)) (by decide))))))
       have hs := ((hs.nilDp SB.l SB.D 1).nilDp SB.l SB.D 1).nilD 36
       refine EC_rseq ?_
       refine EL_run rfl (R_buildS (cs := Nd.zero.cells) [] pl_39 Tryz.zeroValue39 rfl rfl rfl) ?_
       refine EL_op rfl (O_storeW hs (i := 0) rfl sz_39 rfl rfl rfl rfl (Nd.oneA _) (fun w hs => ?_))
       refine EL_run rfl (R_assign rfl) ?_
       refine EL_nil ?_
       refine EC_ret ?_
       refine Then_r ?_
       first
         | exact ⟨[_, _], ⟨res_cell hs (i := 0) rfl Tryz.sizeOf39 Tryz.isAgg39 rfl rfl, rfl, trivial⟩, _, _, ⟨Nd.zero, by rw [hv]; rfl, by rw [hv]; rfl, rfl, rfl⟩, (hs.fin [] [5, 6, 7]).as rfl rfl⟩
         | exact ⟨[_, _], ⟨res_cell hs (i := 0) rfl Tryz.sizeOf39 Tryz.isAgg39 rfl rfl, rfl, trivial⟩, _, _, ⟨Nd.zero, by rw [hv]; rfl, by rw [hv]; rfl, rfl, rfl⟩, (hs.fin [] [6, 7, 8]).as rfl rfl⟩
      ·exact Bool.noConfusion hcx
     ·have hg17p := cvt hg17; try dsimp only at hg17p
      refine EL_want rfl rfl hg17 ?_
      refine EL_run rfl (R_lw (hs.at (i := 2) rfl) Tryz.isAgg39 Tryz.sizeOf39 rfl rfl) ?_
      refine EL_want rfl rfl hg17 ?_
      refine EL_op rfl (O_call hs [] [2, 3, 4] rfl rfl rfl Tryz.call181 (nBytes_spec ⟨(h.1 : Int), ko, kc, keys, vo, vc, vals, po, pc, kids⟩ (by rw [hm]; exact (hrb.1 hg17p).1)) (fun v es1 ds1 w hPhi hs => ?_))
      obtain ⟨rfl, rfl⟩ := hPhi
      rw [hm] at hs
      obtain ⟨a7, c7, rfl, hs⟩ := hs.freezeSl (i := 3) rfl
      refine EL_want rfl rfl hg17 ?_
      refine EL_run rfl (R_move rfl) ?_
      refine EL_want rfl rfl hg17 ?_
      refine EL_op rfl (O_call hs [] [5, 0] rfl rfl rfl Tryz.call156 (bEqual_spec a7 ao c7 c (leafB (rdNode b)) b) (fun v es1 ds1 w hPhi hs => ?_))
      obtain ⟨rfl, rfl, rfl⟩ := hPhi
      refine EL_want rfl rfl hg17 ?_
      refine EL_run rfl (R_not rfl) ?_
      refine EL_run rfl (R_pickF rfl hg17 rfl) ?_
      refine EL_nil ?_
      refine EC_cond rfl (fun hc75 => ?_) (fun hc75 => ?_)
      ·have hc75p := cvt hc75; try dsimp only at hc75p
       have hv := leafRd_no (b := b) (by
         rw [← hE]
         first
           | exact .inr (.inl hg4p)
           | exact .inr (.inr (.inl (fun h => by rw [h] at hg12p; exact hg12p rfl)))
           | exact .inr (.inr (.inr (.inr hc75p)))
           | exact .inr (.inr (.inr (.inl (fun h => absurd (hg17p.symm.trans (hrb.2 h)) (by decide))))))
       have hs := ((hs.nilDp SB.l SB.D 1).nilDp SB.l SB.D 1).nilD 36
       refine EC_rseq ?_
       refine EL_run rfl (R_buildS (cs := Nd.zero.cells) [] pl_39 Tryz.zeroValue39 rfl rfl rfl) ?_
       refine EL_op rfl (O_storeW hs (i := 0) rfl sz_39 rfl rfl rfl rfl (Nd.oneA _) (fun w hs => ?_))
       refine EL_run rfl (R_assign rfl) ?_
       refine EL_nil ?_
       refine EC_ret ?_
       refine Then_r ?_
       first
         | exact ⟨[_, _], ⟨res_cell hs (i := 0) rfl Tryz.sizeOf39 Tryz.isAgg39 rfl rfl, rfl, trivial⟩, _, _, ⟨Nd.zero, by rw [hv]; rfl, by rw [hv]; rfl, rfl, rfl⟩, (hs.fin [] [5, 6, 7]).as rfl rfl⟩
         | exact ⟨[_, _], ⟨res_cell hs (i := 0) rfl Tryz.sizeOf39 Tryz.isAgg39 rfl rfl, rfl, trivial⟩, _, _, ⟨Nd.zero, by rw [hv]; rfl, by rw [hv]; rfl, rfl, rfl⟩, (hs.fin [] [6, 7, 8]).as rfl rfl⟩
      ·have hc75p := cvt hc75; try dsimp only at hc75p
       refine EC_skip ?_
       refine Then_n ?_
       refine EC_rseq ?_
       refine EL_run rfl (R_lw (hs.at (i := 2) rfl) Tryz.isAgg39 Tryz.sizeOf39 rfl rfl) ?_
       refine EL_op rfl (O_storeW hs (i := 0) rfl sz_39 rfl rfl rfl rfl (Nd.oneA ⟨(h.1 : Int), ko, kc, keys, vo, vc, vals, po, pc, kids⟩) (fun w hs => ?_))
       refine EL_run rfl (R_assign rfl) ?_
       refine EL_nil ?_
       refine EC_ret ?_
       have hv : leafRd b = (rdNode b, 0) := leafRd_yes (by
         rw [← hE]
         rintro (h1 | h1 | h1 | h1 | h1)
         · omega
         · rw [hg4p] at h1; cases h1
         · exact h1 (List.eq_nil_of_length_eq_zero (by omega))
         · exact h1 (hrb.1 hg17p)
         · exact h1 hc75p)
       exact ⟨[_, _], ⟨res_cell hs (i := 0) rfl Tryz.sizeOf39 Tryz.isAgg39 rfl rfl, rfl, trivial⟩, _, _, ⟨⟨(h.1 : Int), ko, kc, keys, vo, vc, vals, po, pc, kids⟩, by rw [hv]; exact hm, by rw [hv]; rfl, rfl, rfl⟩, (hs.fin [] [2, 3, 4]).as rfl rfl⟩
end Go.Proofs.YtpcojkbljgpecaaGreat
