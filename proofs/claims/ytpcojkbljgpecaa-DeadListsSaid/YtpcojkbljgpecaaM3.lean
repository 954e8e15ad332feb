/- Models: pointers to blocks. -/
import Derived.Test.YtpcojkbljgpecaaE10
import Derived.Test.YtpcojkbljgpecaaM1
import Derived.Test.YtpcojkbljgpecaaM2
namespace Go.Proofs.Ytpcojkbljgpecaa
open Go
def sectors (len : Int) : Int := if len < 1 ∨ len > 65536 then 0 else (len + 511) / 512
theorem sectors_range (len : Int) : 0 ≤ sectors len ∧ sectors len ≤ 128 := by unfold sectors; split <;> omega
def Ptr.right (p : Ptr) : Bool := decide (1 ≤ p.birth ∧ p.birth ≤ 1152921504606846976) && decide (0 < sectors p.len) && decide (2 ≤ p.pos ∧ p.pos ≤ 8192 - sectors p.len)
theorem Ptr.right_iff {p : Ptr} : p.right = true ↔ (1 ≤ p.birth ∧ p.birth ≤ 1152921504606846976) ∧ (1 ≤ p.len ∧ p.len ≤ 65536) ∧ (2 ≤ p.pos ∧ p.pos ≤ 8192 - sectors p.len) := by
  have h : 0 < sectors p.len ↔ 1 ≤ p.len ∧ p.len ≤ 65536 := by unfold sectors; split <;> omega
  unfold Ptr.right
  rw [Bool.and_eq_true, Bool.and_eq_true, decide_eq_true_eq, decide_eq_true_eq, decide_eq_true_eq, h]
  exact ⟨fun ⟨⟨a, b⟩, c⟩ => ⟨a, b, c⟩, fun ⟨a, b, c⟩ => ⟨⟨a, b⟩, c⟩⟩
def Ptr.of (pos birth : Int) (b : BL) : Ptr := ⟨pos, birth, b.length, crcSum b, shaSum b, shaSum_len b⟩
/-- An error's number. -/
def Ptr.check (p : Ptr) (b : BL) : Int := if p.right = false then 2 else if (b.length : Int) ≠ p.len ∨ p ≠ Ptr.of p.pos p.birth b then 12 else 0
end Go.Proofs.Ytpcojkbljgpecaa
