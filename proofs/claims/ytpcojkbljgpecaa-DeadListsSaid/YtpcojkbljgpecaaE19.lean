/- The engine, part 19: owned slices that are cut and cleared. -/
import Derived.Test.YtpcojkbljgpecaaE17
namespace Go.Proofs.Ytpcojkbljgpecaa
open Go
theorem oSl.some {w : World} {ao : Option Addr} {e sz m mm c : Nat} {cs : List Value} (h : (oSl (.slice ao mm c) e sz m cs).P w) (hm : 0 < m) : ∃ b, ao = some ⟨b, 0, none⟩ := by
  rcases h.2 with ⟨hv, h0⟩ | ⟨g, cap, cur, hv, _⟩
  · omega
  · injection hv with h1 _ _; exact ⟨g, h1⟩
theorem own_eq (ao : Option Addr) (m m' c c' : Nat) : (Value.slice ao m c).ownBlock = (Value.slice ao m' c').ownBlock := by cases ao <;> rfl
theorem cutO_some {b c l sz : Nat} : ∃ o, cutO (some ⟨b, 0, none⟩) c l sz = some ⟨b, o, none⟩ ∧ (l < c → o = l * sz) := by
  unfold cutO
  split
  · exact ⟨0, rfl, fun h => by omega⟩
  · refine ⟨l * sz, ?_, fun _ => rfl⟩
    show some ((⟨b, 0, none⟩ : Addr).add (l * sz)) = _
    unfold Addr.add
    split
    · rename_i h; rw [h]
    · simp
theorem flat_take {α : Type} (sz : Nat) (f : α → List Value) (hf : ∀ x, (f x).length = sz) : ∀ (l : List α) (k : Nat), (l.flatMap f).take (k * sz) = (l.take k).flatMap f
  | l, 0 => by simp
  | [], k + 1 => by simp
  | y :: l, k + 1 => by
    rw [List.flatMap_cons, List.take_succ_cons, List.flatMap_cons, ← flat_take sz f hf l k, Nat.succ_mul, List.take_append, hf, List.take_of_length_le (by rw [hf]; omega)]
    congr 2; omega
section
variable {P : Program} {n : Nat} {ρ : Env} {K : Env → World → Prop} {W w : World} {F D : Nat → Prop} {es ds : List Asn} {d : Nat} {ty : TypeId} {pos : String} {aft : Array Edge} {x y : Operand} {t : TypeId} {v : Value}
/-- The head of an owned slice is owned. -/
theorem St.cutOwn (hs : St W F D es ds w) {i : Nat} {ao : Option Addr} {e sz m c k : Nat} {xs : List Value} (hi : es[i]? = some (oSl (.slice ao m c) e sz m xs)) (hk : k ≤ m) : St W F D (es.set i (oSl (.slice ao k c) e sz k (xs.take (k * sz)))) ds w := by
  have h := hs.at hi
  have hle : k * sz ≤ m * sz := Nat.mul_le_mul_right _ hk
  refine hs.change hi _ rfl rfl rfl (Nat.le_refl _) (fun _ _ _ => rfl) ⟨by rw [List.length_take, h.1]; omega, ?_⟩ (fun q hq => ⟨.inl ((own_eq ao m k c c).trans hq), ?_⟩)
  · rcases h.2 with ⟨hv, h0⟩ | ⟨g, cap, cur, hv, hb, hg, hm, hcm, hcs, htk⟩
    · injection hv with h1 h2 h3
      have : k = 0 := by omega
      subst this
      exact .inl ⟨by rw [h1, h3], rfl⟩
    · injection hv with h1 h2 h3
      refine .inr ⟨g, cap, cur, by rw [h1, h3], hb, hg, by omega, hcm, hcs, ?_⟩
      rw [← htk, List.take_take, Nat.min_eq_left hle]
  · exact (hs.ef _ (List.mem_of_getElem? hi) q ((own_eq ao m k c c).trans hq)).1
theorem O_clear {d : Option Nat} {b o m c e sz k cc i : Nat} {xs : List Value} {z : Value} (hs : St W F D es ds w) (hi : es[i]? = some (oSl (.slice (some ⟨b, 0, none⟩) m c) e sz m xs)) (hd : dstOk n d = true) (hu : P.underlying t = some (.slice e)) (hz : ∀ w, (zeroValue e).run P w = .ok z w) (hzs : z.cells.size = sz) (hz1 : ∀ u ∈ z.cells.toList, u.oneCell' = true) (hx : evO ρ x = some (.slice (some ⟨b, o, none⟩) k cc)) (ho : 0 < k → o + k * sz ≤ xs.length)
    (hK : ∀ w' ys, ys.length = xs.length → ys.take o = xs.take o → St W F D (es.set i (oSl (.slice (some ⟨b, 0, none⟩) m c) e sz m ys)) ds w' → K (updo ρ d (.tuple #[])) w') : EOp P n ⟨d, .call ⟨.builtin .clear, #[x], #[t]⟩, ty, pos, aft, none⟩ K ρ w := fun a ha => by
  unfold Oper.wp
  by_cases hk : k = 0
  · subst hk
    have hrun : (execOp a.eval ⟨d, .call ⟨.builtin .clear, #[x], #[t]⟩, ty, pos, aft, none⟩).run P w = .ok (.value (.tuple #[])) w := by
      simp [execOp, resolve, invoke, builtin, ha.eval hx, Builtin.clear_, Sem.run_bind, run_underlying hu]
    rw [hrun]
    refine ⟨_, ha.puto hd _, hK _ xs rfl rfl ?_⟩
    have h := hs.at hi
    exact hs.change hi _ rfl rfl rfl (Nat.le_refl _) (fun _ _ _ => rfl) h (fun q hq => ⟨.inl hq, (hs.ef _ (List.mem_of_getElem? hi) q hq).1⟩)
  · have hown : w.ownsRow 0 e sz (.slice (some ⟨b, 0, none⟩) m c) m xs := hs.at hi
    obtain ⟨hlen, hh⟩ := hown
    rcases hh with ⟨hv0, _⟩ | ⟨g, cap, cur, hv0, hb0, hb, hmc, hcm, hcs, htk⟩
    · cases hv0
    injection hv0 with q1 q2 q3
    injection q1 with q1
    injection q1 with q1
    subst q1; subst q3
    obtain ⟨zs, hzse, hzl, hz2⟩ : ∃ zs : List Value, (Builtin.zeroCells z.cells k).toList = zs ∧ zs.length = k * sz ∧ ∀ u ∈ zs, u.oneCell' = true := by
      refine ⟨_, rfl, ?_, ?_⟩
      · rw [Array.length_toList, size_zeroCells, hzs]
      · intro u hu
        obtain ⟨i, hi, rfl⟩ := List.getElem_of_mem hu
        have hp : 0 < z.cells.size := by
          rcases Nat.eq_zero_or_pos z.cells.size with h | h
          · rw [Array.length_toList, size_zeroCells, h] at hi; omega
          · exact h
        have hm : i % z.cells.size < z.cells.size := Nat.mod_lt _ hp
        have : (Builtin.zeroCells z.cells k).toList[i] = z.cells[i % z.cells.size] := by
          simp [Builtin.zeroCells, hm]
        rw [this]
        exact hz1 _ (by simp)
    have hol := ho (by omega)
    have hcl : xs.length ≤ cur.size := by rw [hlen, hcs]; exact Nat.mul_le_mul_right _ hmc
    have hst := run_storeCells_at P b o e zs 0 cur w hb (by simp only [Nat.add_zero]; omega) hz2
    simp only [Nat.add_zero] at hst
    have hst' : (storeCells ⟨b, o, none⟩ zs).run P w = .ok () (w.setRow b (setSeg cur.toList o zs).toArray) := hst
    obtain ⟨f1, f2, f3⟩ := setRow_facts (c' := (setSeg cur.toList o zs).toArray) hb
    have hrun : (execOp a.eval ⟨d, .call ⟨.builtin .clear, #[x], #[t]⟩, ty, pos, aft, none⟩).run P w = .ok (.value (.tuple #[])) (w.setRow b (setSeg cur.toList o zs).toArray) := by
      obtain ⟨k', rfl⟩ : ∃ k', k = k' + 1 := ⟨k - 1, by omega⟩
      simp [execOp, resolve, invoke, builtin, ha.eval hx, Builtin.clear_, Sem.run_bind, run_underlying hu, hz, hzse, hst']
    rw [hrun]
    have hsplit : cur.toList = xs ++ cur.toList.drop (m * sz) := by rw [← htk, List.take_append_drop]
    have hnew : setSeg cur.toList o zs = setSeg xs o zs ++ cur.toList.drop (m * sz) := by
      conv => lhs; rw [hsplit]
      exact setSeg_append_left (by rw [hzl]; exact hol)
    have hsl : (setSeg xs o zs).length = xs.length := setSeg_len (by rw [hzl]; exact hol)
    refine ⟨_, ha.puto hd _, hK _ (setSeg xs o zs) hsl ?_ (hs.change hi _ rfl rfl rfl (by omega) (fun q _ hk => f2 q (fun e => hk (by simp [oSl, Value.ownBlock, e]))) ⟨by rw [hsl, hlen], .inr ⟨b, c, (setSeg cur.toList o zs).toArray, rfl, Nat.zero_le _, f1, hmc, hcm, ?_, ?_⟩⟩ (fun q hq => ⟨.inl hq, ?_⟩))⟩
    · unfold setSeg
      rw [List.append_assoc, List.take_append_of_le_length (by rw [List.length_take]; omega), List.take_take, Nat.min_self]
    · have hl2 := setSeg_len (xs := cur.toList) (vs := zs) (o := o) (by rw [hzl, Array.length_toList]; omega)
      rw [List.size_toArray, hl2, Array.length_toList, hcs]
    · show (setSeg cur.toList o zs).take (m * sz) = _
      rw [hnew, List.take_append_of_le_length (by rw [hsl, hlen]; exact Nat.le_refl _), List.take_of_length_le (by rw [hsl, hlen]; exact Nat.le_refl _)]
    · have : q = b := by simpa [oSl, Value.ownBlock, eq_comm] using hq
      subst this
      rw [f3]
      exact (Array.getElem?_eq_some_iff.1 hb).1
end
#print axioms O_clear
end Go.Proofs.Ytpcojkbljgpecaa
