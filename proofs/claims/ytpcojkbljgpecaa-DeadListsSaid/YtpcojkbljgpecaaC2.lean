/- DeadLists: any blocks have the document's keys, order, parts by an epoch, and sectors: the law answers true for every input; no condition. -/
import Derived.Test.YtpcojkbljgpecaaRows
import Derived.Test.YtpcojkbljgpecaaW17
import Derived.Test.YtpcojkbljgpecaaE16
import Derived.Test.YtpcojkbljgpecaaE22
namespace Go.Proofs.Ytpcojkbljgpecaa
open Go Go.ChangeShapes Go.WideShapes Go.ChangeAt Go.RowKit
theorem own_knob : ownKnob Try.prog.godebug = none := by kernel_rfl
theorem laid_out : laidOutB Try.prog = true := by kernel_rfl

set_option maxRecDepth 100000 in
theorem deadLists_lifted (os : Os) (started : os.Started) (H : Type) (enc : TypeId × Value → H) :
    ReturnsInHanded {} Try.checked os 3 .any (Rows.deadListsSpec.pre6 enc Try.prog Try.f3 Rows.deadListsRow.domain false) (Rows.deadListsSpec.post enc Try.prog Try.f3 false true false false) := by
  refine returnsInHanded_of_change (C := Try.checked) own_knob started (by kernel_rfl) Try.func3
    (ChangeSpec.witness6 (enc := enc) (C := Try.checked) false ⟨#[], #[.slice none 0 0, .int .i64 0], []⟩ 8 (by kernel_rfl) (by kernel_rfl) (by kernel_rfl) (by kernel_rfl)) ?_
  intro W base args ds gs before hval0 hW hcnd _
  have hval : ∀ (j : Nat) t v, Try.f3.params[j]? = some t → args[j]? = some v → Value.okWide Try.prog W .any base t v := hval0
  have hW' := hW
  obtain ⟨p, q, hA0, hV, rfl, hfz, hnd⟩ := hW
  have hA : DataW.TrodAll enc Try.prog W 0 (fun _ => true) true Try.f3.params.toList args.toList ds p := hA0
  rw [Try.params3] at hA hval
  obtain ⟨v0, vs0, d0, ds0, p0, q0, hargs, rfl, rfl, h0, r0⟩ := trodAll_cons hA
  obtain ⟨v1, vs1, d1, ds1, p1, q1, rfl, rfl, rfl, h1, r1⟩ := trodAll_cons r0
  obtain ⟨rfl, rfl, rfl⟩ := trodAll_nil r1
  obtain rfl : args = #[v0, v1] := by cases args; simp_all
  obtain ⟨n1, rfl, rfl, rfl, w1⟩ := open_int Try.underlying3 (hval 1 3 v1 rfl rfl) h1
  obtain ⟨a0, len0, cap0, rfl⟩ := okWide_slice Try.underlying22 (hval 0 22 v0 rfl rfl)
  obtain ⟨k0, h0⟩ := h0
  obtain ⟨s, ⟨hs1, hs2, hs3⟩, hs4⟩ := Opens.slice (Opens.ptr ptrT (by kernel_rfl) (by kernel_rfl) (by kernel_rfl)) Try.underlying22 (by kernel_rfl) (by decide) Ptr.len_l H enc W k0 _ _ h0
  have hsv : Value.slice a0 len0 cap0 = s.val := by
    have : [Value.slice a0 len0 cap0] = [s.val] := hs1
    injection this
  rw [hsv] at hW' ⊢
  have hst := St.start (W := W) (F := footL []) [dP s.ao s.c s.l] (fun d hd => by obtain rfl := List.mem_singleton.1 hd; exact hs2.1) (fun d hd k hk => by obtain rfl := List.mem_singleton.1 hd; exact hs3 k (.inl hk))
  refine (deadLists_spec s.ao s.c s.l n1 _ hst).mono fun e W' he => ?_
  cases e with
  | returned v =>
    obtain ⟨es1, ds1, ⟨rfl, rfl, rfl⟩, hst1⟩ := he
    exact ⟨_, rfl, post_true laid_out (by kernel_rfl) rfl rfl Try.underlying4 ⟨rfl, rfl, rfl⟩ hW' hst1.os hst1.output (fun k hk => hst1.frame k hk (fun ⟨a, ha, _⟩ => nomatch ha))⟩
  | panicked c => exact he.elim
  | outgrown => exact he.elim

/-- The statement. -/
theorem deadLists_holds : Rows.DeadListsSaid :=
  OpenClaim.holds_of_wide 3 Try.f3 rfl rfl rfl rfl rfl rfl rfl ⟨rfl, rfl, rfl, rfl, rfl⟩ rfl rfl rfl rfl rfl (by kernel_rfl) Try.func3 (by kernel_rfl)
    (of_decide_eq_true (by kernel_rfl)) (by unfold Func.isWrapper; first | (rw [if_pos (by decide +kernel)]; kernel_rfl) | (rw [if_neg (by decide +kernel)]; exact ⟨rfl, rfl⟩))
    (fun os started H enc _ => deadLists_lifted os started H enc)
#print axioms deadLists_holds
end Go.Proofs.Ytpcojkbljgpecaa
