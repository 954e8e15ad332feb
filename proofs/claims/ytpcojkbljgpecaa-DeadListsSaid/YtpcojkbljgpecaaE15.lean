/- The engine, part 15: the bytes of a constant text. -/
import Derived.Test.YtpcojkbljgpecaaE14
import Derived.Lib.SlBytesConst
namespace Go.Proofs.Ytpcojkbljgpecaa
open Go
section
variable {P : Program} {n : Nat} {ρ : Env} {K : Env → World → Prop} {W w : World} {F D : Nat → Prop} {es ds : List Asn} {d : Nat} {ty : TypeId} {pos : String} {aft : Array Edge} {x : Operand} {t : TypeId}
theorem O_convConst {i b m c e : Nat} {l : BL} (hs : St W F D es ds w) (hi : es[i]? = some (oSl (.slice (some ⟨b, 0, none⟩) m c) e 1 m (u8s l))) (hd : Nat.blt d n = true) (hu : P.underlying t = some (.slice e)) (he : P.underlying e = some (.int .u8)) (hx : evO ρ x = some (.slice (some ⟨b, 0, none⟩) m c)) (hl : l.length = m)
    (hK : ∀ w', St W F D (es.eraseIdx i) (ds ++ [dB (some ⟨b, 0, none⟩) c l]) w' → K (upd ρ d (.slice (some ⟨b, 0, none⟩) l.length c)) w') : EOp P n ⟨some d, .convert t t x, ty, pos, aft, none⟩ K ρ w := fun a ha => by
  subst hl
  have hown := hs.at hi
  obtain ⟨_, hmc, hlen, hcells, _⟩ := own_cells hown rfl
  rcases hown.2 with ⟨hv, _⟩ | ⟨g, cap, cur, hv, _, hg, hrest⟩
  · cases hv
  · injection hv with h1 h2 h3
    injection h1 with h1
    injection h1 with h1
    subst h1
    subst h3
    have hsh : w.shape? b = some (e, cur.size) := by unfold World.shape?; rw [hg]
    have hrun : (execOp a.eval ⟨some d, .convert t t x, ty, pos, aft, none⟩).run P w = .ok (.value (.slice (some ⟨b, 0, none⟩) l.length c)) (w.freeze ⟨b, cur.size, none⟩ 1) := by
      simp [execOp, ha.eval hx, convert, run_underlying hu, run_underlying he, markStringish, hsh, Sem.run_bind]
    have hb' : (w.freeze ⟨b, cur.size, none⟩ 1).heap[b]? = some (.cells cur e (cur.size, cur.size + 1)) := by
      simp [World.freeze, Array.getElem?_modify, hg]
    have ho' : ∀ k, k ≠ b → (w.freeze ⟨b, cur.size, none⟩ 1).heap[k]? = w.heap[k]? := fun k hk => by
      simp [World.freeze, Array.getElem?_modify, Ne.symm hk]
    have hsz : (w.freeze ⟨b, cur.size, none⟩ 1).heap.size = w.heap.size := by simp [World.freeze]
    unfold Oper.wp
    rw [hrun]
    have hD : (dB (some ⟨b, 0, none⟩) c l).P (w.freeze ⟨b, cur.size, none⟩ 1) := by
      refine ⟨⟨hmc, (fun h => nomatch h), (fun ad had _ => by cases had; rfl)⟩, by simp [u8s], fun _ => ⟨b, 0, rfl, fun j u hu => ?_⟩⟩
      obtain ⟨g, hgg, hcc⟩ := hcells _ rfl
      simp only [Addr.mk.injEq, and_true] at hgg
      subst hgg
      have := hcc j u hu
      rw [cell_blk hb']
      rw [cell_blk hg] at this
      exact this
    have h1 := hs.change hi (dB (some ⟨b, 0, none⟩) c l) (by simp [World.freeze]) (by simp [World.freeze]) (by simp [World.freeze]) (by omega) (fun k _ hk => ho' k (fun e => hk (by simp [oSl, Value.ownBlock, e]))) hD (fun k hk => by
      obtain ⟨_, ad, had, rfl⟩ := hk
      cases had
      exact ⟨.inl (by simp [oSl, Value.ownBlock]), by rw [hsz]; exact (Array.getElem?_eq_some_iff.1 hg).1⟩)
    have hil : i < es.length := (List.getElem?_eq_some_iff.1 hi).1
    have h2 := h1.freeze (i := i) (a := dB (some ⟨b, 0, none⟩) c l) (by simp [hil]) (dB (some ⟨b, 0, none⟩) c l) id (fun k hk => hk)
    rw [List.eraseIdx_set_eq] at h2
    exact ⟨_, ha.put hd _, hK _ h2⟩
theorem and_one (p : Int) : IntKind.i64.wrap (((BitVec.ofInt 64 p &&& BitVec.ofInt 64 1).toNat : Nat) : Int) = p % 2 := by
  have h1 : (BitVec.ofInt 64 1 : BitVec 64) = 1#64 := by decide
  have h2 : (BitVec.ofInt 64 p &&& 1#64).toNat = (p % 2).toNat := by
    rw [BitVec.toNat_and, BitVec.toNat_ofInt]
    have h3 : (1#64).toNat = 2 ^ 1 - 1 := by decide
    rw [h3, Nat.and_two_pow_sub_one_eq_mod]
    omega
  rw [h1, h2]
  rw [wrap_i64] <;> omega
theorem R_and1 {do_ : Option Nat} {y : Operand} {t' : TypeId} {p : Int} (hx : evO ρ x = some (.int .i64 p)) (hy : evO ρ y = some (.int .i64 1)) : RunV P n ⟨do_, .binOp .and t x y t', ty, pos, aft, none⟩ ρ w (.int .i64 (p % 2)) := fun ac hr => by
  have := and_one p
  simp only [execOp, hr.eval hx, hr.eval hy, eqGuard, binOp, Op.intBits, ne_eq, not_true, if_false]
  show Sem.run P (pure (Next.value (Value.int .i64 _))) w = _
  exact congrArg (fun z => Result.ok (Next.value (Value.int .i64 z)) w) this
end
#print axioms O_convConst
end Go.Proofs.Ytpcojkbljgpecaa
