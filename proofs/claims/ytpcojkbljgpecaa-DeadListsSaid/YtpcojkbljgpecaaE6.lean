/- The engine, part 6: how the walk goes on at the ends of pieces of code. -/
import Derived.Test.YtpcojkbljgpecaaE5
namespace Go.Proofs.Ytpcojkbljgpecaa
open Go
section
variable {P : Program} {n : Nat} {ρ : Env} {K : Env → World → Prop} {Q : Post} {w : World} {y c : Code} {id j : Nat} {l : List Oper}

theorem Then_n (h : K ρ w) : Then K Q .normal ρ w := h
theorem Then_e (h : Q (.exit j) ρ w) : Then K Q (.exit j) ρ w := h
theorem Then_r (h : Q .ret ρ w) : Then K Q .ret ρ w := h
theorem InBlock_n (h : Q .normal ρ w) : InBlock id Q .normal ρ w := h
theorem InBlock_r (h : Q .ret ρ w) : InBlock id Q .ret ρ w := h
theorem InBlock_hit (hj : Nat.beq j id = true) (h : Q .normal ρ w) : InBlock id Q (.exit j) ρ w := by
  simp only [InBlock, hj, cond_true]; exact h
theorem InBlock_miss (hj : Nat.beq j id = false) (h : Q (.exit j) ρ w) : InBlock id Q (.exit j) ρ w := by
  simp only [InBlock, hj, cond_false]; exact h

theorem EC_rseq (h : EL P n l.toArray l (EC P n y Q) ρ w) : EC P n (.seq (.region id l.toArray false) y) Q ρ w := EC_seq (EC_region (Q := Then (EC P n y Q) Q) h)

theorem EC_dseq (act rd : List Nat) (R : World → Prop) (p : Plan) (hm : P.follows .mixedOrders = true)
    (hok : (Region.noSelect l.toArray && planOk l.toArray act p l.toArray.size (Array.replicate l.toArray.size false) false) = true)
    (h : EPlan P n l.toArray act rd R (EC P n y Q) p false ρ { w with drawn := w.drawn + 1 }) : EC P n (.seq (.region id l.toArray true) y) Q ρ w :=
  EC_seq (EC_draw (Q := Then (EC P n y Q) Q) act rd R p hm hok h)

theorem EL_split {ops : Array Oper} {rest : List Oper} {b : Bool} (d : Nat) (hb : ρ d = some (.bool b)) (h1 : b = true → EL P n ops rest K ρ w) (h2 : b = false → EL P n ops rest K ρ w) : EL P n ops rest K ρ w := by
  cases b
  · exact h2 rfl
  · exact h1 rfl
theorem EP_split {ops : Array Oper} {act rd : List Nat} {R : World → Prop} {p : Plan} {f b : Bool} (d : Nat) (hb : ρ d = some (.bool b)) (h1 : b = true → EPlan P n ops act rd R K p f ρ w) (h2 : b = false → EPlan P n ops act rd R K p f ρ w) : EPlan P n ops act rd R K p f ρ w := by
  cases b
  · exact h2 rfl
  · exact h1 rfl

theorem bnt {b : Bool} (h : (!b) = true) : b = false := by cases b <;> simp_all
theorem bnf {b : Bool} (h : (!b) = false) : b = true := by cases b <;> simp_all

/-- What is read in a region: some of the pieces. -/
def RdS (es ds : List Asn) (is js : List Nat) (w : World) : Prop :=
  (∀ i, is.contains i = true → ∀ a, es[i]? = some a → a.P w) ∧ (∀ j, js.contains j = true → ∀ d, ds[j]? = some d → d.P w)

theorem RdS.e {es ds : List Asn} {is js : List Nat} {w : World} (h : RdS es ds is js w) (i : Nat) {a : Asn} (hi : is.contains i = true) (ha : es[i]? = some a) : a.P w := h.1 i hi a ha
theorem RdS.d {es ds : List Asn} {is js : List Nat} {w : World} (h : RdS es ds is js w) (j : Nat) {a : Asn} (hj : js.contains j = true) (ha : ds[j]? = some a) : a.P w := h.2 j hj a ha

theorem RdS.of {W : World} {F D : Nat → Prop} {es ds es' ds' : List Asn} {is js : List Nat} {w : World} (hs : St W F D es' ds' w) (h1 : is.map (es'[·]?) = is.map (es[·]?)) (h2 : js.map (ds'[·]?) = js.map (ds[·]?)) : RdS es ds is js w := by
  refine ⟨fun i hi a ha => ?_, fun j hj d hd => ?_⟩
  · have hm : i ∈ is := by simpa using hi
    have : es'[i]? = es[i]? := List.map_inj_left.1 h1 i hm
    exact hs.at (this.trans ha)
  · have hm : j ∈ js := by simpa using hj
    have : ds'[j]? = ds[j]? := List.map_inj_left.1 h2 j hm
    exact hs.rd (this.trans hd)

theorem rq_no {ops : Array Oper} {act rd : List Nat} {i : Nat} {G : Prop} (h : rq ops act rd i = false) : rq ops act rd i = true → G := fun h' => by rw [h] at h'; cases h'

section
variable {W : World} {F D : Nat → Prop} {es ds : List Asn}

theorem EC_dseqS (hs : St W F D es ds w) (act rd is js : List Nat) (p : Plan) (hm : P.follows .mixedOrders = true)
    (hok : (Region.noSelect l.toArray && planOk l.toArray act p l.toArray.size (Array.replicate l.toArray.size false) false) = true)
    (h : ∀ w, St W F D es ds w → RdS es ds is js w → EPlan P n l.toArray act rd (RdS es ds is js) (EC P n y Q) p false ρ w) : EC P n (.seq (.region id l.toArray true) y) Q ρ w :=
  EC_dseq act rd _ p hm hok (h _ hs.drew (RdS.of hs.drew rfl rfl))

theorem EC_drawS (hs : St W F D es ds w) (act rd is js : List Nat) (p : Plan) (hm : P.follows .mixedOrders = true)
    (hok : (Region.noSelect l.toArray && planOk l.toArray act p l.toArray.size (Array.replicate l.toArray.size false) false) = true)
    (h : ∀ w, St W F D es ds w → RdS es ds is js w → EPlan P n l.toArray act rd (RdS es ds is js) (Q .normal) p false ρ w) : EC P n (.region id l.toArray true) Q ρ w :=
  EC_draw act rd _ p hm hok (h _ hs.drew (RdS.of hs.drew rfl rfl))
end

/-! ### Loads out of a piece at hand -/
section
variable {d : Option Nat} {ty : TypeId} {pos : String} {aft : Array Edge} {x : Operand} {t : TypeId} {v : Value}

theorem R_lb {b o : Nat} {c : Array Value} {tt : TypeId} (hb : (blk b c tt).P w) (hag : ∀ w, (isAgg t).run P w = .ok false w) (hx : evO ρ x = some (.pointer (some ⟨b, o, none⟩))) (hc : c[o]? = some v) :
    RunV P n ⟨d, .load t x, ty, pos, aft, none⟩ ρ w v := R_load hag hx (by rw [cell_blk hb]; exact hc)

theorem R_lw {b : Nat} {c : Array Value} {tt : TypeId} {sz : Nat} (hb : (blk b c tt).P w) (hag : ∀ w, (isAgg t).run P w = .ok true w) (hsz : ∀ w, (sizeOf t).run P w = .ok sz w) (hx : evO ρ x = some (.pointer (some ⟨b, 0, none⟩)))
    (hl : c.size = sz) : RunV P n ⟨d, .load t x, ty, pos, aft, none⟩ ρ w (.agg c) := by
  have h := R_loadR (P := P) (n := n) (ρ := ρ) (w := w) (do_ := d) (ty := ty) (pos := pos) (aft := aft) (cs := c.toList) hsz hag hx (by simpa using hl) (fun i u hu => by rw [cell_blk hb]; simpa using hu)
  simpa using h

theorem R_lp {b o : Nat} {c : Array Value} {tt : TypeId} {sz : Nat} {cs : List Value} (hb : (blk b c tt).P w) (hag : ∀ w, (isAgg t).run P w = .ok true w) (hsz : ∀ w, (sizeOf t).run P w = .ok sz w) (hx : evO ρ x = some (.pointer (some ⟨b, o, none⟩)))
    (hl : cs.length = sz) (hc : ∀ i u, cs[i]? = some u → c[o + i]? = some u) : RunV P n ⟨d, .load t x, ty, pos, aft, none⟩ ρ w (.agg cs.toArray) :=
  R_loadR hsz hag hx hl (fun i u hu => by rw [cell_blk hb]; exact hc i u hu)

/-- Out of a slice that is only read: a scalar. -/
theorem R_ld {b o a m c sz i : Nat} {cs : List Value} (hd : (dSl (some ⟨b, o, none⟩) m c sz cs).P w) (hag : ∀ w, (isAgg t).run P w = .ok false w) (hx : evO ρ x = some (.pointer (some ⟨b, a, none⟩))) (ha : a = o + i) (hc : cs[i]? = some v) :
    RunV P n ⟨d, .load t x, ty, pos, aft, none⟩ ρ w v := by
  obtain ⟨b', o', hao, hrow⟩ := hd.2.2 (by intro h; rw [h] at hc; simp at hc)
  simp only [Option.some.injEq, Addr.mk.injEq, and_true] at hao
  obtain ⟨rfl, rfl⟩ := hao
  subst ha
  exact R_load hag hx (hrow i v hc)

/-- A struct or an array. -/
theorem R_ldR {b o a m c sz i s : Nat} {cs vs : List Value} (hd : (dSl (some ⟨b, o, none⟩) m c sz cs).P w) (hag : ∀ w, (isAgg t).run P w = .ok true w) (hsz : ∀ w, (sizeOf t).run P w = .ok s w) (hx : evO ρ x = some (.pointer (some ⟨b, a, none⟩))) (ha : a = o + i)
    (hl : vs.length = s) (hne : cs ≠ []) (hc : ∀ j u, vs[j]? = some u → cs[i + j]? = some u) : RunV P n ⟨d, .load t x, ty, pos, aft, none⟩ ρ w (.agg vs.toArray) := by
  obtain ⟨b', o', hao, hrow⟩ := hd.2.2 hne
  simp only [Option.some.injEq, Addr.mk.injEq, and_true] at hao
  obtain ⟨rfl, rfl⟩ := hao
  subst ha
  exact R_loadR hsz hag hx hl (fun j u hu => by rw [Nat.add_assoc]; exact hrow (i + j) u (hc j u hu))

theorem dSl.some {ao : Option Addr} {m c sz : Nat} {cs : List Value} (h : (dSl ao m c sz cs).P w) (hne : cs ≠ []) : ∃ b o, ao = some ⟨b, o, none⟩ := by
  obtain ⟨b, o, hao, _⟩ := h.2.2 hne
  exact ⟨b, o, hao⟩
end

theorem flat_get {α : Type} (sz : Nat) (f : α → List Value) (hf : ∀ x, (f x).length = sz) : ∀ (l : List α) (i j : Nat) (x : α), l[i]? = some x → j < sz → (l.flatMap f)[i * sz + j]? = (f x)[j]?
  | y :: l, 0, j, x, h, hj => by
    simp only [List.getElem?_cons_zero, Option.some.injEq] at h
    subst h
    rw [List.flatMap_cons, Nat.zero_mul, Nat.zero_add, List.getElem?_append_left (by rw [hf]; exact hj)]
  | y :: l, i + 1, j, x, h, hj => by
    simp only [List.getElem?_cons_succ] at h
    rw [List.flatMap_cons, List.getElem?_append_right (by rw [hf, Nat.succ_mul]; omega), hf]
    have : (i + 1) * sz + j - sz = i * sz + j := by rw [Nat.succ_mul]; omega
    rw [this]
    exact flat_get sz f hf l i j x h hj
  | [], i, j, x, h, _ => by simp at h

theorem flat_len {α : Type} (sz : Nat) (f : α → List Value) (hf : ∀ x, (f x).length = sz) (l : List α) : (l.flatMap f).length = l.length * sz := by
  induction l with
  | nil => simp
  | cons y l ih => rw [List.flatMap_cons, List.length_append, ih, hf, List.length_cons, Nat.succ_mul]; omega
end
/-! What a test tells. -/
instance {p : Prop} [Decidable p] : HAdd (PLift (decide p = true)) Unit (PLift p) := ⟨fun h _ => ⟨of_decide_eq_true h.down⟩⟩
instance {p : Prop} [Decidable p] : HAdd (PLift (decide p = false)) Unit (PLift (¬ p)) := ⟨fun h _ => ⟨of_decide_eq_false h.down⟩⟩
instance {p : Prop} [Decidable p] : HAdd (PLift ((!decide p) = true)) Unit (PLift (¬ p)) := ⟨fun h _ => ⟨of_decide_eq_false (bnt h.down)⟩⟩
instance {p : Prop} [Decidable p] : HAdd (PLift ((!decide p) = false)) Unit (PLift p) := ⟨fun h _ => ⟨of_decide_eq_true (bnf h.down)⟩⟩
instance (priority := low) {b : Bool} : HAdd (PLift ((!b) = true)) Unit (PLift (b = false)) := ⟨fun h _ => ⟨bnt h.down⟩⟩
instance (priority := low) {b : Bool} : HAdd (PLift ((!b) = false)) Unit (PLift (b = true)) := ⟨fun h _ => ⟨bnf h.down⟩⟩
instance (priority := 10) {b v : Bool} : HAdd (PLift (b = v)) Unit (PLift (b = v)) := ⟨fun h _ => h⟩
theorem cvt {b v : Bool} {p : Prop} [HAdd (PLift (b = v)) Unit (PLift p)] (h : b = v) : p := (HAdd.hAdd (PLift.up h) ()).down
end Go.Proofs.Ytpcojkbljgpecaa
