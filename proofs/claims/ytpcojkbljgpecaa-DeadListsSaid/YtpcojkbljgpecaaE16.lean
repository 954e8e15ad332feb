/- The engine, part 16: from a contract to what the statement asks behind the call. -/
import Derived.Test.YtpcojkbljgpecaaE15
import Derived.ProofKit
import Derived.ChangeStays
import Derived.OpenShut
import Derived.JoinedOf
namespace Go.Proofs.Ytpcojkbljgpecaa
open Go Go.ChangeShapes Go.WideShapes Go.ChangeAt Go.RowKit

section
variable {H : Type} {enc : TypeId × Value → H} {P : Program}

/-- Types whose values are read, and stay as they are read. -/
def readOk (P : Program) (ts : List TypeId) : Bool := ts.all fun t => P.readableRec t && decide (t < P.types.size)

theorem trodAll_stays (hl : laidOutB P = true) {W W' : World} {sp : Nat → Bool} : ∀ {ts : List TypeId} {vs : List Value} {ds : List (DataW H)} {p : List MemPlace}, readOk P ts = true →
    DataW.TrodAll enc P W 0 (fun _ => true) true ts vs ds p → (∀ x ∈ p, W.sameAt W' x) → (∀ x ∈ p, sp x.block = true) → DataW.TrodAll enc P W' 0 sp true ts vs ds p
  | [], vs, ds, p, _, h, _, _ => by
    obtain ⟨rfl, rfl, rfl⟩ := trodAll_nil h
    exact trodAll_mk0
  | t :: ts, vs, ds, p, hr, h, hs, hp => by
    simp only [readOk, List.all_cons, Bool.and_eq_true, decide_eq_true_eq] at hr
    obtain ⟨⟨hr1, hr2⟩, hr3⟩ := hr
    obtain ⟨v, vs', d, ds', p1, p2, rfl, rfl, rfl, ⟨n, hn⟩, ht⟩ := trodAll_cons h
    exact trodAll_cons_mk ⟨n, DataW.trod_stays (kids_book hl hr1) (book_sized hr1) (fun h => by cases h) ⟨hr2, book_self t⟩ hn (fun x hx => hs x (List.mem_append_left _ hx)) (fun x hx => hp x (List.mem_append_left _ hx))⟩
      (trodAll_stays hl (by simpa [readOk] using hr3) ht (fun x hx => hs x (List.mem_append_right _ hx)) (fun x hx => hp x (List.mem_append_right _ hx)))

theorem sameAt_frame {W W' : World} (h : ∀ k, k < W.heap.size → W'.heap[k]? = W.heap[k]?) (p : MemPlace) (hp : p.block < W.heap.size) : W.sameAt W' p := by
  cases p with
  | cell b off => exact cell_same (h b hp)
  | map b => exact h b hp

theorem keptBut_frame {W W' : World} {may : MemPlace → Prop} (ho : W'.os = W.os) (hout : W'.output = W.output) (h : ∀ k, k < W.heap.size → W'.heap[k]? = W.heap[k]?) : W.keptBut W' may := by
  refine ⟨ho, hout, fun i hi => ?_⟩
  rw [h i hi]
  cases hb : W.heap[i]? with
  | none => simp
  | some o =>
    cases o <;> simp

/-- A law that tells true, and lets everything be. -/
theorem post_true {f : Func} {s : ChangeSpec} {apart fresh handsOn : Bool} {W W' : World} {args : Array Value} {ds gs : List (DataW H)} {before : List MemPlace} {bt : TypeId} (hl : laidOutB P = true) (hr : readOk P f.params.toList = true) (hv : s.vars = [])
    (hbt : f.resultTypes = #[bt]) (hbu : P.underlying bt = some .bool) (hfn : (s.fn H ds).results = [.lit (.bool true)] ∧ (s.fn H ds).args = ds ∧ (s.fn H ds).vars = [])
    (hW : DataW.Whole enc P f.params.toList s.vars apart W args.toList ds gs before) (ho : W'.os = W.os) (hout : W'.output = W.output) (h : ∀ k, k < W.heap.size → W'.heap[k]? = W.heap[k]?) :
    s.post enc P f apart fresh handsOn false W args (.bool true) W' := by
  have hlt := hW.lt
  have hW0 := hW
  obtain ⟨p, q, hA, hV, rfl, hfz, hnd⟩ := hW
  rw [hv] at hV
  obtain ⟨rfl, rfl⟩ := trodVars_none hV
  rw [List.append_nil] at hlt
  refine ⟨ds, [], p ++ [], [], p, [], hW0, ?_, ?_, ?_, keptBut_frame ho hout h, fun hh => by cases hh⟩
  · rw [List.append_nil, hfn.1, hbt]
    exact trodAll_mk1 (shut_bool hbu _)
  · rw [List.append_nil, hfn.2.1]
    exact trodAll_stays hl hr hA (fun x hx => sameAt_frame h x (hlt x hx)) (fun x hx => by simpa using hlt x hx)
  · rw [List.append_nil, hfn.2.2, hv]
    rfl
end
#print axioms post_true
end Go.Proofs.Ytpcojkbljgpecaa
