/- Walks, part 9: a fresh pool. -/
import Derived.Test.YtpcojkbljgpecaaW8
namespace Go.Proofs.Ytpcojkbljgpecaa
open Go
def freshM (n : Nat) : PoM := ⟨diNew n, ⟨2, n, 0, [⟨2, n⟩], [], [⟨2, n⟩]⟩, 1, false, []⟩
theorem spAdd_nil {s : Sp} (h : s.right = true) : spAdd [] s = [s] := by
  unfold spAdd
  rw [if_pos ⟨rfl, h⟩]
  rfl
theorem freshM_ok {n : Nat} {d : Nat} {dg : DiG} {a : Nat} {ag : AlG} {ko : Option Addr} {kc : Nat} (hn : 3 ≤ n ∧ n ≤ 8192) (hag : ag.ok ⟨2, n, 0, [⟨2, n⟩], [], [⟨2, n⟩]⟩) : (freshM n).ok ⟨d, dg, a, ag, ko, kc⟩ := by
  have hv : valid [(⟨2, n⟩ : Sp)] = true := by
    unfold valid validFrom
    rw [show (Sp.mk 2 (n : Int)).right = true by rw [Sp.right_iff]; dsimp only; omega]
    simp [validFrom]
  refine ⟨⟨by simp [freshM, diNew]; omega, by simp [freshM, diNew]⟩, ⟨by simp [freshM]; omega, by simp [freshM], hv, hv, by simp [freshM], by simp [freshM], by simp [freshM]⟩, hag, by simp [freshM]; omega, by simp [freshM]⟩
set_option maxRecDepth 100000 in
theorem fresh_spec (n : Nat) {w0 : World} (hn : 3 ≤ n ∧ n ≤ 8192) : Spec Try.prog 14 #[.int .i64 (n : Int)] w0 [] [] (fun v es1 ds1 => ∃ (p : Nat) (g : PoG), v = .pointer (some ⟨p, 0, none⟩) ∧ (freshM n).ok g ∧ es1 = poE p g (freshM n) ∧ ds1 = poD g (freshM n)) := by
  refine Spec.intro (fun F D hs => ?_)
  refine Calls_of_EC (args := [.int .i64 (n : Int)]) Try.func14 rfl rfl rfl ?_
  refine EC_rseq ?_
  refine EL_run rfl (R_assign rfl) ?_
  refine EL_nil ?_
  refine EC_rseq ?_
  refine EL_run rfl (R_move rfl) ?_
  refine EL_op rfl (O_call hs [] [] rfl rfl rfl Try.call29 (diNew_spec n (by omega)) (fun v es1 ds1 w hPhi hs => ?_))
  obtain ⟨d, dg, rfl, rfl, rfl⟩ := hPhi
  refine EL_run rfl (R_move rfl) ?_
  refine EL_run rfl (R_extract rfl rfl) ?_
  refine EL_run rfl (R_extract rfl rfl) ?_
  refine EL_run rfl (R_assign rfl) ?_
  refine EL_run rfl (R_assign rfl) ?_
  refine EL_nil ?_
  refine EC_rseq ?_
  refine EL_run rfl (R_move rfl) ?_
  refine EL_op rfl (O_call hs [] [] rfl rfl rfl Try.call30 (alNew_spec 2 n 0 (by omega)) (fun v es1 ds1 w hPhi hs => ?_))
  obtain ⟨a, ag, rfl, hag, rfl, rfl⟩ := hPhi
  rw [spAdd_nil (s := ⟨2, n⟩) (by rw [Sp.right_iff]; dsimp only; omega)] at hs hag
  refine EL_run rfl (R_move rfl) ?_
  refine EL_run rfl (R_extract rfl rfl) ?_
  refine EL_run rfl (R_extract rfl rfl) ?_
  refine EL_run rfl (R_assign rfl) ?_
  refine EL_run rfl (R_assign rfl) ?_
  refine EL_nil ?_
  refine EC_seq ?_
  refine EC_rseq ?_
  refine EL_run rfl (R_move rfl) ?_
  refine EL_run rfl (R_neq rfl rfl) ?_
  refine EL_run rfl (R_move rfl) ?_
  refine EL_split 19 rfl (fun hg2 => ?_) (fun hg2 => ?_)
  · exact absurd (of_decide_eq_true hg2) (by simp)
  · (first | have hg2p := of_decide_eq_true hg2 | have hg2p := of_decide_eq_false hg2 | have hg2p := of_decide_eq_false (bnt hg2) | have hg2p := of_decide_eq_true (bnf hg2) | have hg2p := bnt hg2 | have hg2p := bnf hg2 | have hg2p := hg2); try dsimp only at hg2p
    refine EL_want rfl rfl hg2 ?_
    refine EL_run rfl (R_move rfl) ?_
    refine EL_want rfl rfl hg2 ?_
    refine EL_run rfl (R_neq rfl rfl) ?_
    refine EL_run rfl (R_pickF rfl hg2 rfl) ?_
    refine EL_nil ?_
    refine EC_cond rfl (fun hc22 => ?_) (fun hc22 => ?_)
    · exact absurd (of_decide_eq_true hc22) (by simp)
    · (first | have hc22p := of_decide_eq_true hc22 | have hc22p := of_decide_eq_false hc22 | have hc22p := of_decide_eq_false (bnt hc22) | have hc22p := of_decide_eq_true (bnf hc22) | have hc22p := bnt hc22 | have hc22p := bnf hc22 | have hc22p := hc22); try dsimp only at hc22p
      refine EC_skip ?_
      refine Then_n ?_
      refine EC_rseq ?_
      refine EL_run rfl (R_move rfl) ?_
      refine EL_run rfl (R_move rfl) ?_
      refine EL_run rfl (R_buildS (cs := (poCells ⟨d, dg, a, ag, none, 0⟩ (freshM n))) [(0, .tmp 23), (1, .tmp 24), (2, .const (.int .i64 1))] pl_40 Try.zeroValue40 rfl rfl (by kernel_rfl)) ?_
      refine EL_op rfl (O_box hs rfl rfl (fun b26 w hb26 hs => ?_))
      refine EL_run rfl (R_assign rfl) ?_
      have hs := ((hs.nilSl 30 36).perm (es' := [_, _, _, _, _, _, _, _]) (List.perm_append_comm (l₁ := [_, _, _, _, _, _]) (l₂ := [_, _])))
      refine EL_nil ?_
      refine EC_ret ?_
      exact ⟨[_], ⟨rfl, trivial⟩, _, _, ⟨b26, ⟨d, dg, a, ag, none, 0⟩, rfl, freshM_ok hn hag, rfl, rfl⟩, (hs.fin [true, true, true, true, true, true, true, true] [0]).as rfl rfl⟩
end Go.Proofs.Ytpcojkbljgpecaa
