/- The engine, part 13: owned slices that are looked at; nil slices that are read; a mapping that is built. -/
import Derived.Test.YtpcojkbljgpecaaE12
namespace Go.Proofs.Ytpcojkbljgpecaa
open Go
theorem oSl.val {v : Value} {e sz m : Nat} {cs : List Value} {w : World} (h : (oSl v e sz m cs).P w) : ∃ ao c, v = .slice ao m c := by
  rcases h.2 with ⟨rfl, hm⟩ | ⟨g, cap, cur, rfl, _⟩
  · subst hm; exact ⟨none, 0, rfl⟩
  · exact ⟨_, cap, rfl⟩
theorem oSl.toD {ao : Option Addr} {e sz m c : Nat} {cs : List Value} {w : World} (h : (oSl (.slice ao m c) e sz m cs).P w) : (dSl ao m c sz cs).P w := by
  obtain ⟨_, hmc, hlen, hc, hnil⟩ := own_cells h rfl
  refine ⟨⟨hmc, fun h => (hnil h).2, fun ad had _ => by obtain ⟨g, rfl, _⟩ := hc ad had; rfl⟩, hlen, fun hne => ?_⟩
  cases ao with
  | none =>
    have := (hnil rfl).1
    subst this
    rw [Nat.zero_mul] at hlen
    exact absurd (List.eq_nil_of_length_eq_zero hlen) hne
  | some ad =>
    obtain ⟨g, rfl, hcc⟩ := hc ad rfl
    exact ⟨g, 0, rfl, hcc⟩
section
variable {W w : World} {F D : Nat → Prop} {es ds : List Asn}
/-- The nil slice can be read. -/
theorem St.nilD (hs : St W F D es ds w) (sz : Nat) : St W F D es (ds ++ [dSl none 0 0 sz []]) w :=
  hs.data _ ⟨⟨Nat.le_refl _, fun _ => rfl, by intro ad h; cases h⟩, by simp, fun h => absurd rfl h⟩ (fun k hk => absurd rfl hk.1)
end
end Go.Proofs.Ytpcojkbljgpecaa
