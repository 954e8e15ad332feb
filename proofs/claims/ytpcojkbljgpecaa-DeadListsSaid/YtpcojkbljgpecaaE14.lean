/- The engine, part 14: slices that are made, cuts with a capacity. -/
import Derived.Test.YtpcojkbljgpecaaE13
import Derived.Laws.OwnMore
namespace Go.Proofs.Ytpcojkbljgpecaa
open Go
theorem madeCells_const {z : Array Value} {u : Value} (h : ∀ i (hi : i < z.size), z[i] = u) (hp : 0 < z.size) (n : Nat) : (madeCells z n).toList = List.replicate n u := by
  apply List.ext_getElem
  · simp [madeCells]
  · intro i h1 h2
    have hlt : i % z.size < z.size := Nat.mod_lt _ hp
    simp [madeCells, hlt, h]
theorem flatMap_replicate {α : Type} (f : α → List Value) (a : α) (u : Value) (k : Nat) (h : f a = List.replicate k u) : ∀ n, (List.replicate n a).flatMap f = List.replicate (n * k) u
  | 0 => by simp
  | n + 1 => by rw [List.replicate_succ, List.flatMap_cons, flatMap_replicate f a u k h n, h, List.replicate_append_replicate, Nat.succ_mul]; congr 1; omega

section
variable {P : Program} {n : Nat} {ρ : Env} {K : Env → World → Prop} {W w : World} {F D : Nat → Prop} {es ds : List Asn} {d : Nat} {do_ : Option Nat} {ty : TypeId} {pos : String} {aft : Array Edge} {x y z : Operand} {t t' : TypeId} {v : Value}

theorem O_makeSlice {e sz by_ m : Nat} {kl kc : IntKind} {zv : Value} (hs : St W F D es ds w) (hd : Nat.blt d n = true) (he : einfoB P t e sz by_ = true) (hz : ∀ w, (zeroValue e).run P w = .ok zv w) (hx : evO ρ x = some (.int kl (m : Int))) (hy : evO ρ y = some (.int kc (m : Int))) (hb : by_ * m ≤ 281474976710656) (hm : m ≤ 4294967296)
    (hK : ∀ b w', W.heap.size ≤ b → St W F D (es ++ [oSl (.slice (some ⟨b, 0, none⟩) m m) e sz m (madeCells zv.cells (m * sz)).toList]) ds w' → K (upd ρ d (.slice (some ⟨b, 0, none⟩) m m)) w') : EOp P n ⟨some d, .makeSlice t x y, ty, pos, aft, none⟩ K ρ w := fun a ha => by
  obtain ⟨hu, hsz0, i, z, hi, hzz, hisz, hby, hzc⟩ := einfo_parts he
  have hz0 : z = zv := by
    have := hz w
    simp only [zeroValue, Sem.run_bind, typeInfo, run_program, Result.andThen_ok, hi, Sem.run_pure, hzz] at this
    injection this
  subst hz0
  obtain ⟨w', hr, hown, hg⟩ := run_make_full (P := P) w 0 t e i z sz hu hi hzz hisz kl kc m (by rw [hby]; exact hb) (by unfold maxLen; omega) (Nat.zero_le _)
  unfold Oper.wp
  have hrun : (execOp a.eval ⟨some d, .makeSlice t x y, ty, pos, aft, none⟩).run P w = .ok (.value (.slice (some ⟨w.heap.size, 0, none⟩) m m)) w' := by
    simp only [execOp, ha.eval hx, ha.eval hy, Sem.run_bind, hr, Result.andThen_ok, Sem.run_pure]
  rw [hrun]
  have hlt : w.heap.size < w'.heap.size := (hown.lt w.heap.size rfl).2
  have h1 : St W F D es ds w' := hs.grow hg.os hg.tape hg.output hg.size (fun k hk => hg.block k hk (fun h => by cases h))
  refine ⟨_, ha.put hd _, hK _ _ hs.size (h1.add _ hown (fun k hk => ?_))⟩
  have hk' : k = w.heap.size := by simpa [oSl, Value.ownBlock, eq_comm] using hk
  subst hk'
  exact ⟨hlt, fun h => absurd (Nat.lt_of_lt_of_le h hs.size) (Nat.lt_irrefl _), fun a ha hk => absurd (hs.ef a ha _ hk).1 (Nat.lt_irrefl _), fun d hd hk => absurd (hs.df d hd _ hk).1 (Nat.lt_irrefl _)⟩

theorem R_sliceLHM {u : Operand} {ao : Option Addr} {m c sz : Nat} {k k' k2 : IntKind} {l h q : Int} (hs : elemSize P t = some sz) (hx : evO ρ x = some (.slice ao m c)) (hy : evO ρ y = some (.int k l)) (hz : evO ρ z = some (.int k' h)) (hq : evO ρ u = some (.int k2 q)) (h0 : 0 ≤ l) (h1 : l ≤ h) (h2 : h ≤ q) (h3 : q ≤ c) :
    RunV P n ⟨do_, .slice t x (some y) (some z) (some u), ty, pos, aft, none⟩ ρ w (.slice (cutO ao q.toNat l.toNat sz) (h.toNat - l.toNat) (q.toNat - l.toNat)) := fun a ha => by
  unfold elemSize at hs
  split at hs
  · rename_i e hu
    obtain ⟨inf, hinf, hsz⟩ := Option.map_eq_some_iff.1 hs
    subst hsz
    simp only [execOp, ha.eval hx, ha.eval hy, ha.eval hz, ha.eval hq, Option.map_some, Instr.sliceAt, Sem.run_bind, run_underlying hu, Result.andThen_ok, Instr.slice, Instr.sliceBounds, sl_bound (show 0 ≤ q by omega) h3, sl_bound (y := q.toNat) (show 0 ≤ h by omega) (by omega), sl_bound (y := h.toNat) h0 (by omega), Sem.run_pure, sizeOf, typeInfo, run_program, hinf, Option.isSome_some, if_true]
    rfl
  · cases hs

/-- Fewer may be said of a capacity. -/
theorem dSl.cap {ao : Option Addr} {m c c' sz : Nat} {cs : List Value} (h : (dSl ao m c sz cs).P w) (h1 : m ≤ c') (h2 : c' ≤ c) : (dSl ao m c' sz cs).P w :=
  ⟨⟨h1, fun hn => by have := h.1.2.1 hn; omega, fun ad h3 h4 => h.1.2.2 ad h3 (by omega)⟩, h.2.1, h.2.2⟩
theorem St.dBcap {ao : Option Addr} {c : Nat} {l : BL} (hs : St W F D es ds w) {j : Nat} (hj : ds[j]? = some (dB ao c l)) (c' : Nat) (h1 : l.length ≤ c') (h2 : c' ≤ c) : St W F D es (ds ++ [dB ao c' l]) w :=
  hs.derive (d := dB ao c l) (List.mem_of_getElem? hj) _ (fun h => dSl.cap h h1 h2) (fun k hk => hk)
theorem St.dBcut3 {ao : Option Addr} {c : Nat} {l : BL} (hs : St W F D es ds w) {j : Nat} (hj : ds[j]? = some (dB ao c l)) (lo hi : Nat) (h1 : lo < hi) (h2 : hi ≤ l.length) :
    St W F D es (ds ++ [dB (cutO ao hi lo 1) (hi - lo) ((l.drop lo).take (hi - lo))]) w := by
  have hc : l.length ≤ c := (hs.rd hj).1.1
  have e1 : ((l.drop lo).take (hi - lo)).length = hi - lo := by rw [List.length_take, List.length_drop]; omega
  have hcut : cutO ao hi lo 1 = cutO ao c lo 1 := by
    unfold cutO
    rw [if_neg (by omega), if_neg (by omega)]
  have e2 : ((u8s l).drop (lo * 1)).take ((hi - lo) * 1) = u8s ((l.drop lo).take (hi - lo)) := by simp [u8s, List.map_drop, List.map_take]
  rw [hcut]
  refine hs.derive (d := dB ao c l) (List.mem_of_getElem? hj) _ (fun h => ?_) (fun k hk => dSl.cut_foot (l := lo) (h := hi) k (by rw [e2]; exact hk))
  have h3 := dSl.cut (l := lo) (h := hi) h (by omega) h2
  rw [e2] at h3
  have h4 := dSl.cap (c' := hi - lo) h3 (Nat.le_refl _) (by omega)
  show (dSl _ _ _ _ _).P w
  rw [e1]; exact h4
end
#print axioms O_makeSlice
#print axioms R_sliceLHM
end Go.Proofs.Ytpcojkbljgpecaa
