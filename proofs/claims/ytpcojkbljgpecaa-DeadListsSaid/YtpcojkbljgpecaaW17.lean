/- Walks, part 17: what DeadLists tells. -/
import Derived.Test.YtpcojkbljgpecaaW16
namespace Go.Proofs.Ytpcojkbljgpecaa
open Go
set_option maxRecDepth 100000 in
theorem deadLists_spec (ao : Option Addr) (c : Nat) (l : List Ptr) (ep : Int) {w0 : World} : Spec Try.prog 3 #[.slice ao l.length c, .int .i64 ep] w0 [] [dP ao c l] (fun v es1 ds1 => v = .bool true ∧ es1 = [] ∧ ds1 = []) := by
  refine Spec.intro (fun F D hs => ?_)
  refine Calls_of_EC (args := [.slice ao l.length c, .int .i64 ep]) Try.func3 rfl rfl rfl ?_
  refine EC_rseq ?_
  refine EL_run rfl (R_assign rfl) ?_
  refine EL_nil ?_
  refine EC_cut (fun ρ w => ∃ (q : List Ptr) (qo : Option Addr), q.length ≤ 200 ∧ Slots ρ [(0, .slice qo q.length c), (1, .int .i64 ep)] ∧ St w0 F D [] [dP qo c q] w) ?_ ?_
  · skip
    refine EC_rseq ?_
    refine EL_run rfl (R_move rfl) ?_
    refine EL_run rfl (R_lenS Try.underlying22 rfl) ?_
    refine EL_run rfl (R_gtr rfl rfl) ?_
    refine EL_nil ?_
    refine EC_cond rfl (fun hc12 => ?_) (fun hc12 => ?_)
    · (first | have hc12p := of_decide_eq_true hc12 | have hc12p := of_decide_eq_false hc12 | have hc12p := of_decide_eq_false (bnt hc12) | have hc12p := of_decide_eq_true (bnf hc12) | have hc12p := bnt hc12 | have hc12p := bnf hc12 | have hc12p := hc12); try dsimp only at hc12p
      refine EC_region ?_
      refine EL_run rfl (R_move rfl) ?_
      refine EL_run rfl (R_sliceHi es_22 rfl rfl (by omega) (by have := (hs.rd (i := 0) rfl).1.1; omega)) ?_
      have hs := hs.dEtake (j := 0) rfl Ptr.len_l 200 (by omega)
      rw [show ((200 : Int)).toNat = (l.take 200).length by rw [List.length_take]; omega]
      refine EL_run rfl (R_assign rfl) ?_
      refine EL_nil ?_
      refine Then_n ?_
      exact ⟨l.take 200, _, by rw [List.length_take]; omega, ⟨rfl, rfl, trivial⟩, (hs.fin [] [1]).as rfl rfl⟩
    · (first | have hc12p := of_decide_eq_true hc12 | have hc12p := of_decide_eq_false hc12 | have hc12p := of_decide_eq_false (bnt hc12) | have hc12p := of_decide_eq_true (bnf hc12) | have hc12p := bnt hc12 | have hc12p := bnf hc12 | have hc12p := hc12); try dsimp only at hc12p
      refine EC_skip ?_
      refine Then_n ?_
      exact ⟨l, _, by omega, ⟨rfl, rfl, trivial⟩, hs⟩
  · rintro ρ w ⟨q, qo, hq, hsl, hs⟩
    refine EC_slots _ hsl ?_
    refine EC_rseq ?_
    refine EL_run rfl (R_move rfl) ?_
    refine EL_run rfl (R_move rfl) ?_
    refine EL_op rfl (O_call hs [] [0] rfl rfl rfl Try.call5 (split_spec ep qo c q (by omega)) (fun v es1 ds1 w hPhi hs => ?_))
    obtain ⟨v1, v2, rfl, rfl, rfl⟩ := hPhi
    obtain ⟨a1, c1, rfl, hs⟩ := hs.freezeSl (i := 0) rfl
    obtain ⟨a2, c2, rfl, hs⟩ := hs.freezeSl (i := 0) rfl
    refine EL_run rfl (R_move rfl) ?_
    refine EL_run rfl (R_extract rfl rfl) ?_
    refine EL_run rfl (R_extract rfl rfl) ?_
    refine EL_run rfl (R_assign rfl) ?_
    refine EL_run rfl (R_assign rfl) ?_
    refine EL_nil ?_
    refine EC_rseq ?_
    refine EL_run rfl (R_move rfl) ?_
    refine EL_run rfl (R_move rfl) ?_
    refine EL_op rfl (O_call hs [] [0] rfl rfl rfl Try.call6 (refSplit_spec ep qo c q (by omega)) (fun v es1 ds1 w hPhi hs => ?_))
    obtain ⟨v1, v2, rfl, rfl, rfl⟩ := hPhi
    obtain ⟨a3, c3, rfl, hs⟩ := hs.freezeSl (i := 0) rfl
    obtain ⟨a4, c4, rfl, hs⟩ := hs.freezeSl (i := 0) rfl
    refine EL_run rfl (R_move rfl) ?_
    refine EL_run rfl (R_extract rfl rfl) ?_
    refine EL_run rfl (R_extract rfl rfl) ?_
    refine EL_run rfl (R_assign rfl) ?_
    refine EL_run rfl (R_assign rfl) ?_
    refine EL_nil ?_
    refine EC_seq ?_
    refine EC_rseq ?_
    refine EL_run rfl (R_assign rfl) ?_
    refine EL_nil ?_
    refine EC_block ?_
    refine EC_loop (fun mm ρ w => ∃ i : Nat, mm = q.length - i ∧ i ≤ q.length ∧ Slots ρ [(0, .slice qo q.length c), (5, .slice a1 (q.filter (elder ep)).length c1), (6, .slice a2 (q.filter (young ep)).length c2), (7, .slice a3 (q.filter (elder ep)).length c3), (8, .slice a4 (q.filter (young ep)).length c4), (9, .int .i64 (i : Int))] ∧ St w0 F D [] [dP qo c q, dP a1 c1 (q.filter (elder ep)), dP a2 c2 (q.filter (young ep)), dP a3 c3 (q.filter (elder ep)), dP a4 c4 (q.filter (young ep))] w) (q.length) (⟨0, by omega, by omega, ⟨rfl, rfl, rfl, rfl, rfl, rfl, trivial⟩, hs⟩) ?_
    rintro mm ρ w ⟨i, rfl, hi, hsl, hs⟩
    refine EC_slots _ hsl ?_
    refine EC_seq ?_
    refine EC_rseq ?_
    refine EL_run rfl (R_move rfl) ?_
    refine EL_run rfl (R_move rfl) ?_
    refine EL_run rfl (R_lenS Try.underlying22 rfl) ?_
    refine EL_run rfl (R_lss rfl rfl) ?_
    refine EL_nil ?_
    refine EC_cond rfl (fun hc30 => ?_) (fun hc30 => ?_)
    · (first | have hc30p := of_decide_eq_true hc30 | have hc30p := of_decide_eq_false hc30 | have hc30p := of_decide_eq_false (bnt hc30) | have hc30p := of_decide_eq_true (bnf hc30) | have hc30p := bnt hc30 | have hc30p := bnf hc30 | have hc30p := hc30); try dsimp only at hc30p
      have hib : i < q.length := by omega
      obtain ⟨bb, oo, rfl⟩ := dSlsomeF (hs.rd (i := 0) rfl) Ptr.len_l (by decide) hib
      refine EC_skip ?_
      refine Then_n ?_
      refine EC_seq ?_
      refine EC_block ?_
      refine EC_dseqS hs [4, 5, 10, 11] [3, 9] [] [0] (.take 0 (.take 1 (.take 2 (.take 3 (.take 6 (.take 7 (.take 8 (.take 9 (.fork 4 (.fork 5 (.fork 10 (.fork 11 (.take 12 .done) (.done)) (.done)) (.fork 10 (.fork 5 (.fork 11 (.take 12 .done) (.done)) (.fork 11 (.fork 5 (.take 12 .done) (.done)) (.done))) (.done))) (.done)))))))))) mix_ok (by kernel_rfl) (fun w hs _ => ?_)
      refine EP_take rfl rfl rfl (fun _ => R_move rfl) ?_
      refine EP_take rfl rfl rfl (fun _ => R_move rfl) ?_
      refine EP_take rfl rfl rfl (fun _ => R_idx es_22 rfl (by rfl) rfl (by omega) (by omega)) ?_
      refine EP_read rfl rfl rfl (RdS.of hs rfl rfl) (fun _ hR => R_ldE (hR.d 0 rfl rfl) Ptr.len_l Try.isAgg30 Try.sizeOf30 rfl (by simp <;> omega) (List.getElem?_eq_getElem hib) (by decide)) ?_
      refine EP_take rfl rfl rfl (fun _ => R_move rfl) ?_
      refine EP_take rfl rfl rfl (fun _ => R_move rfl) ?_
      refine EP_take rfl rfl rfl (fun _ => R_idx es_22 rfl (by rfl) rfl (by omega) (by omega)) ?_
      refine EP_read rfl rfl rfl (RdS.of hs rfl rfl) (fun _ hR => R_ldE (hR.d 0 rfl rfl) Ptr.len_l Try.isAgg30 Try.sizeOf30 rfl (by simp <;> omega) (List.getElem?_eq_getElem hib) (by decide)) ?_
      refine EP_act rfl rfl (O_call hs [] [] rfl rfl rfl Try.call7 (key_spec q[i]) (fun v es1 ds1 w hPhi hs => ?_))
      obtain ⟨rfl, rfl⟩ := hPhi
      obtain ⟨ao37, c37, rfl, hs⟩ := hs.freezeSl (i := 0) rfl
      refine ⟨(fun _ => RdS.of hs rfl rfl), ?_⟩
      refine EP_fork rfl rfl (EOp_val rfl (R_convStr Try.underlying25 Try.underlying5 Try.underlying9 rfl (hs.rd (i := 5) rfl)) ⟨(fun _ => RdS.of hs rfl rfl), ?_⟩) ?_
      · skip
        refine EP_act rfl rfl (O_call hs [] [] rfl rfl rfl Try.call8 (refKey_spec q[i]) (fun v es1 ds1 w hPhi hs => ?_))
        obtain ⟨rfl, rfl⟩ := hPhi
        obtain ⟨ao43, c43, rfl, hs⟩ := hs.freezeSl (i := 0) rfl
        refine ⟨(fun _ => RdS.of hs rfl rfl), ?_⟩
        refine EP_act rfl rfl (EOp_val rfl (R_convStr Try.underlying25 Try.underlying5 Try.underlying9 rfl (hs.rd (i := 6) rfl)) ⟨(fun _ => RdS.of hs rfl rfl), ?_⟩)
        refine EP_take rfl rfl rfl (fun _ => R_strNeq rfl rfl) ?_
        refine EP_done ?_
        refine EC_cond rfl (fun hc45 => ?_) (fun hc45 => ?_)
        · exact absurd rfl (of_decide_eq_true hc45)
        · (first | have hc45p := of_decide_eq_true hc45 | have hc45p := of_decide_eq_false hc45 | have hc45p := of_decide_eq_false (bnt hc45) | have hc45p := of_decide_eq_true (bnf hc45) | have hc45p := bnt hc45 | have hc45p := bnf hc45 | have hc45p := hc45); try dsimp only at hc45p
          refine EC_skip ?_
          refine InBlock_n ?_
          refine Then_n ?_
          refine EC_region ?_
          refine EL_run rfl (R_move rfl) ?_
          refine EL_run rfl (R_addI rfl rfl (by omega)) ?_
          refine EL_run rfl (R_assign rfl) ?_
          refine EL_nil ?_
          refine Then_n ?_
          exact ⟨q.length - (i + 1), by omega, i + 1, rfl, by omega, ⟨rfl, rfl, rfl, rfl, rfl, sI (by omega), trivial⟩, (hs.fin [] [0, 1, 2, 3, 4]).as rfl rfl⟩
      refine EP_fork rfl rfl (O_call hs [] [] rfl rfl rfl Try.call8 (refKey_spec q[i]) (fun v es1 ds1 w hPhi hs => ?_)) ?_
      · skip
        obtain ⟨rfl, rfl⟩ := hPhi
        obtain ⟨ao43, c43, rfl, hs⟩ := hs.freezeSl (i := 0) rfl
        refine ⟨(fun _ => RdS.of hs rfl rfl), ?_⟩
        refine EP_fork rfl rfl (EOp_val rfl (R_convStr Try.underlying25 Try.underlying5 Try.underlying9 rfl (hs.rd (i := 5) rfl)) ⟨(fun _ => RdS.of hs rfl rfl), ?_⟩) ?_
        · skip
          refine EP_act rfl rfl (EOp_val rfl (R_convStr Try.underlying25 Try.underlying5 Try.underlying9 rfl (hs.rd (i := 6) rfl)) ⟨(fun _ => RdS.of hs rfl rfl), ?_⟩)
          refine EP_take rfl rfl rfl (fun _ => R_strNeq rfl rfl) ?_
          refine EP_done ?_
          refine EC_cond rfl (fun hc45 => ?_) (fun hc45 => ?_)
          · exact absurd rfl (of_decide_eq_true hc45)
          · (first | have hc45p := of_decide_eq_true hc45 | have hc45p := of_decide_eq_false hc45 | have hc45p := of_decide_eq_false (bnt hc45) | have hc45p := of_decide_eq_true (bnf hc45) | have hc45p := bnt hc45 | have hc45p := bnf hc45 | have hc45p := hc45); try dsimp only at hc45p
            refine EC_skip ?_
            refine InBlock_n ?_
            refine Then_n ?_
            refine EC_region ?_
            refine EL_run rfl (R_move rfl) ?_
            refine EL_run rfl (R_addI rfl rfl (by omega)) ?_
            refine EL_run rfl (R_assign rfl) ?_
            refine EL_nil ?_
            refine Then_n ?_
            exact ⟨q.length - (i + 1), by omega, i + 1, rfl, by omega, ⟨rfl, rfl, rfl, rfl, rfl, sI (by omega), trivial⟩, (hs.fin [] [0, 1, 2, 3, 4]).as rfl rfl⟩
        refine EP_fork rfl rfl (EOp_val rfl (R_convStr Try.underlying25 Try.underlying5 Try.underlying9 rfl (hs.rd (i := 6) rfl)) ⟨(fun _ => RdS.of hs rfl rfl), ?_⟩) ?_
        · skip
          refine EP_act rfl rfl (EOp_val rfl (R_convStr Try.underlying25 Try.underlying5 Try.underlying9 rfl (hs.rd (i := 5) rfl)) ⟨(fun _ => RdS.of hs rfl rfl), ?_⟩)
          refine EP_take rfl rfl rfl (fun _ => R_strNeq rfl rfl) ?_
          refine EP_done ?_
          refine EC_cond rfl (fun hc45 => ?_) (fun hc45 => ?_)
          · exact absurd rfl (of_decide_eq_true hc45)
          · (first | have hc45p := of_decide_eq_true hc45 | have hc45p := of_decide_eq_false hc45 | have hc45p := of_decide_eq_false (bnt hc45) | have hc45p := of_decide_eq_true (bnf hc45) | have hc45p := bnt hc45 | have hc45p := bnf hc45 | have hc45p := hc45); try dsimp only at hc45p
            refine EC_skip ?_
            refine InBlock_n ?_
            refine Then_n ?_
            refine EC_region ?_
            refine EL_run rfl (R_move rfl) ?_
            refine EL_run rfl (R_addI rfl rfl (by omega)) ?_
            refine EL_run rfl (R_assign rfl) ?_
            refine EL_nil ?_
            refine Then_n ?_
            exact ⟨q.length - (i + 1), by omega, i + 1, rfl, by omega, ⟨rfl, rfl, rfl, rfl, rfl, sI (by omega), trivial⟩, (hs.fin [] [0, 1, 2, 3, 4]).as rfl rfl⟩
        exact EP_end
      exact EP_end
    · (first | have hc30p := of_decide_eq_true hc30 | have hc30p := of_decide_eq_false hc30 | have hc30p := of_decide_eq_false (bnt hc30) | have hc30p := of_decide_eq_true (bnf hc30) | have hc30p := bnt hc30 | have hc30p := bnf hc30 | have hc30p := hc30); try dsimp only at hc30p
      refine EC_exit ?_
      refine Then_e ?_
      refine Then_e ?_
      refine InBlock_hit rfl ?_
      refine Then_n ?_
      refine EC_rseq ?_
      refine EL_run rfl (R_move rfl) ?_
      refine EL_op rfl (O_call hs [] [0] rfl rfl rfl Try.call10 (dsort_spec qo c q (by omega)) (fun v es1 ds1 w hPhi hs => ?_))
      obtain ⟨rfl, rfl⟩ := hPhi
      obtain ⟨a5, c5, rfl, hs⟩ := hs.freezeSl (i := 0) rfl
      refine EL_run rfl (R_move rfl) ?_
      refine EL_op rfl (O_call hs [] [0] rfl rfl rfl Try.call11 (refSort_spec qo c q (by omega)) (fun v es1 ds1 w hPhi hs => ?_))
      obtain ⟨a6, c6, rfl, rfl, rfl⟩ := hPhi
      have hrl := refSort_len (key := keyP) q
      have hfl := List.length_filter_le (elder ep) q
      have hfl2 := List.length_filter_le (young ep) q
      refine EL_op rfl (O_call hs [] [5, 6] rfl rfl rfl Try.call9 (samePs_spec a5 c5 (refSort keyP q) a6 c6 (refSort keyP q) (by omega)) (fun v es1 ds1 w hPhi hs => ?_))
      obtain ⟨rfl, rfl, rfl⟩ := hPhi
      refine EL_run rfl (R_move rfl) ?_
      refine EL_split 51 rfl (fun hg5 => ?_) (fun hg5 => ?_)
      · (first | have hg5p := of_decide_eq_true hg5 | have hg5p := of_decide_eq_false hg5 | have hg5p := of_decide_eq_false (bnt hg5) | have hg5p := of_decide_eq_true (bnf hg5) | have hg5p := bnt hg5 | have hg5p := bnf hg5 | have hg5p := hg5); try dsimp only at hg5p
        refine EL_want rfl rfl hg5 ?_
        refine EL_run rfl (R_move rfl) ?_
        refine EL_want rfl rfl hg5 ?_
        refine EL_run rfl (R_move rfl) ?_
        refine EL_want rfl rfl hg5 ?_
        refine EL_op rfl (O_call hs [] [1, 3] rfl rfl rfl Try.call9 (samePs_spec a1 c1 (q.filter (elder ep)) a3 c3 (q.filter (elder ep)) (by omega)) (fun v es1 ds1 w hPhi hs => ?_))
        obtain ⟨rfl, rfl, rfl⟩ := hPhi
        refine EL_run rfl (R_pickT rfl hg5 rfl) ?_
        refine EL_run rfl (R_move rfl) ?_
        refine EL_split 56 rfl (fun hg10 => ?_) (fun hg10 => ?_)
        · (first | have hg10p := of_decide_eq_true hg10 | have hg10p := of_decide_eq_false hg10 | have hg10p := of_decide_eq_false (bnt hg10) | have hg10p := of_decide_eq_true (bnf hg10) | have hg10p := bnt hg10 | have hg10p := bnf hg10 | have hg10p := hg10); try dsimp only at hg10p
          refine EL_want rfl rfl hg10 ?_
          refine EL_run rfl (R_move rfl) ?_
          refine EL_want rfl rfl hg10 ?_
          refine EL_run rfl (R_move rfl) ?_
          refine EL_want rfl rfl hg10 ?_
          refine EL_op rfl (O_call hs [] [2, 4] rfl rfl rfl Try.call9 (samePs_spec a2 c2 (q.filter (young ep)) a4 c4 (q.filter (young ep)) (by omega)) (fun v es1 ds1 w hPhi hs => ?_))
          obtain ⟨rfl, rfl, rfl⟩ := hPhi
          refine EL_run rfl (R_pickT rfl hg10 rfl) ?_
          refine EL_run rfl (R_move rfl) ?_
          refine EL_split 61 rfl (fun hg15 => ?_) (fun hg15 => ?_)
          · (first | have hg15p := of_decide_eq_true hg15 | have hg15p := of_decide_eq_false hg15 | have hg15p := of_decide_eq_false (bnt hg15) | have hg15p := of_decide_eq_true (bnf hg15) | have hg15p := bnt hg15 | have hg15p := bnf hg15 | have hg15p := hg15); try dsimp only at hg15p
            refine EL_want rfl rfl hg15 ?_
            refine EL_run rfl (R_move rfl) ?_
            refine EL_want rfl rfl hg15 ?_
            refine EL_op rfl (O_call hs [] [0] rfl rfl rfl Try.call12 (dsectors_spec qo c q (by omega)) (fun v es1 ds1 w hPhi hs => ?_))
            obtain ⟨rfl, rfl, rfl⟩ := hPhi
            refine EL_want rfl rfl hg15 ?_
            refine EL_run rfl (R_move rfl) ?_
            refine EL_want rfl rfl hg15 ?_
            refine EL_op rfl (O_call hs [] [0] rfl rfl rfl Try.call13 (refSectorsL_spec qo c q (by omega)) (fun v es1 ds1 w hPhi hs => ?_))
            obtain ⟨rfl, rfl, rfl⟩ := hPhi
            refine EL_want rfl rfl hg15 ?_
            refine EL_run rfl (R_eql rfl rfl) ?_
            refine EL_run rfl (R_pickT rfl hg15 rfl) ?_
            refine EL_run rfl (R_move rfl) ?_
            refine EL_split 68 rfl (fun hg22 => ?_) (fun hg22 => ?_)
            · (first | have hg22p := of_decide_eq_true hg22 | have hg22p := of_decide_eq_false hg22 | have hg22p := of_decide_eq_false (bnt hg22) | have hg22p := of_decide_eq_true (bnf hg22) | have hg22p := bnt hg22 | have hg22p := bnf hg22 | have hg22p := hg22); try dsimp only at hg22p
              refine EL_want rfl rfl hg22 ?_
              refine EL_run rfl (R_buildS (cs := Ptr.none.cells) [] pl_30 Try.zeroValue30 rfl rfl rfl) ?_
              refine EL_want rfl rfl hg22 ?_
              refine EL_op rfl (O_call hs [] [] rfl rfl rfl Try.call7 (key_spec Ptr.none) (fun v es1 ds1 w hPhi hs => ?_))
              obtain ⟨rfl, rfl⟩ := hPhi
              obtain ⟨a7, c7, rfl, hs⟩ := hs.freezeSl (i := 0) rfl
              refine EL_want rfl rfl hg22 ?_
              refine EL_run rfl (R_lenS Try.underlying25 rfl) ?_
              refine EL_want rfl rfl hg22 ?_
              refine EL_run rfl (R_eql rfl rfl) ?_
              refine EL_run rfl (R_pickT rfl hg22 rfl) ?_
              refine EL_run rfl (R_assign rfl) ?_
              refine EL_nil ?_
              refine EC_ret ?_
              exact ⟨[_], ⟨rfl, trivial⟩, _, _, ⟨by show Value.bool (decide _) = _; rw [keyP_len]; rfl, rfl, rfl⟩, (hs.fin [] []).as rfl rfl⟩
            · exact absurd rfl (of_decide_eq_false hg22)
          · exact absurd rfl (of_decide_eq_false hg15)
        · exact absurd rfl (of_decide_eq_false hg10)
      · exact absurd rfl (of_decide_eq_false hg5)
end Go.Proofs.Ytpcojkbljgpecaa
