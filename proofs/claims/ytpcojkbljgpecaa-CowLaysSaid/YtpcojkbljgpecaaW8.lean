/- Walks, part 8: a pool of blocks. -/
import Derived.Test.YtpcojkbljgpecaaW6
import Derived.Test.YtpcojkbljgpecaaW7
import Derived.Test.YtpcojkbljgpecaaM7
namespace Go.Proofs.Ytpcojkbljgpecaa
open Go
set_option maxRecDepth 100000 in
theorem ready_spec (p : Nat) (g : PoG) (m : PoM) {w0 : World} (hm : m.ok g) : Spec Try.prog 31 #[.pointer (some ⟨p, 0, none⟩)] w0 (poE p g m) (poD g m) (fun v es1 ds1 => v = .int .i64 0 ∧ es1 = (poE p g m) ∧ ds1 = []) := by
  refine Spec.intro (fun F D hs => ?_)
  refine Calls_of_EC (args := [.pointer (some ⟨p, 0, none⟩)]) Try.func31 rfl rfl rfl ?_
  refine EC_rseq ?_
  refine EL_run rfl (R_assign rfl) ?_
  refine EL_nil ?_
  refine EC_seq ?_
  have hsum := alUse_sum m.al
  have hr1 := total_range m.al.free
  have hr2 := total_range (alWaiting m.al)
  have hlf := hm.al.lf
  have hlw := hm.al.lw
  have hfl : (alWaiting m.al).length ≤ m.al.waits.length := spFold_len m.al.waits
  have hlo := hm.al.lo
  have hso := hm.some
  refine EC_dseqS hs [7, 15, 20, 26] [6, 14, 19, 25] [0] [] (.take 0 (.take 1 (.take 2 (.take 3 (.take 4 (.take 5 (.take 6 (.fork 7 (.take 8 (.take 9 (.take 10 (.take 11 (.take 12 (.take 13 (.take 14 (.take 16 (.take 17 (.take 18 (.take 19 (.take 22 (.take 23 (.take 24 (.take 25 (.fork 15 (.fork 20 (.take 21 (.fork 26 (.take 27 (.take 28 (.take 29 .done))) (.done))) (.done)) (.done))))))))))))))))) (.done))))))))) mix_ok (by kernel_rfl) (fun w hs _ => ?_)
  refine EP_take rfl rfl rfl (fun _ => R_move rfl) ?_
  refine EP_take rfl rfl rfl (fun _ => R_eqlPtrNil Try.underlying35 rfl rfl) ?_
  refine EP_take rfl rfl rfl (fun _ => R_move rfl) ?_
  refine EP_split 5 rfl (fun hg2 => ?_) (fun hg2 => ?_)
  · exact Bool.noConfusion hg2
  · (first | have hg2p := of_decide_eq_true hg2 | have hg2p := of_decide_eq_false hg2 | have hg2p := of_decide_eq_false (bnt hg2) | have hg2p := of_decide_eq_true (bnf hg2) | have hg2p := bnt hg2 | have hg2p := bnf hg2 | have hg2p := hg2); try dsimp only at hg2p
    refine EP_takeG rfl rfl rfl hg2 rfl rfl (fun _ => R_move rfl) ?_
    refine EP_takeG rfl rfl rfl hg2 rfl rfl (fun _ => R_nilCheck rfl) ?_
    refine EP_takeG rfl rfl rfl hg2 rfl rfl (fun _ => R_field fo_40_0 rfl) ?_
    refine EP_readG rfl rfl rfl hg2 rfl rfl (RdS.of hs rfl rfl) (fun _ hR => R_lb (hR.e 0 rfl rfl) Try.isAgg37 rfl rfl) ?_
    refine EP_actG rfl rfl rfl hg2 rfl (O_call hs [false, false, true] [] rfl rfl rfl Try.call44 (diLen_spec g.d g.dg m.di) (fun v es1 ds1 w hPhi hs => ?_))
    obtain ⟨rfl, rfl, rfl⟩ := hPhi
    refine ⟨(fun _ => RdS.of hs rfl rfl), ?_⟩
    refine EP_takeG rfl rfl rfl hg2 rfl rfl (fun _ => R_eql rfl rfl) ?_
    refine EP_take rfl rfl rfl (fun _ => R_pickF rfl hg2 rfl) ?_
    refine EP_take rfl rfl rfl (fun _ => R_move rfl) ?_
    refine EP_split 13 rfl (fun hg10 => ?_) (fun hg10 => ?_)
    · exact absurd (of_decide_eq_true hg10) (by have := hm.di.len; omega)
    · (first | have hg10p := of_decide_eq_true hg10 | have hg10p := of_decide_eq_false hg10 | have hg10p := of_decide_eq_false (bnt hg10) | have hg10p := of_decide_eq_true (bnf hg10) | have hg10p := bnt hg10 | have hg10p := bnf hg10 | have hg10p := hg10); try dsimp only at hg10p
      refine EP_takeG rfl rfl rfl hg10 rfl rfl (fun _ => R_move rfl) ?_
      refine EP_takeG rfl rfl rfl hg10 rfl rfl (fun _ => R_nilCheck rfl) ?_
      refine EP_takeG rfl rfl rfl hg10 rfl rfl (fun _ => R_field fo_40_1 rfl) ?_
      refine EP_readG rfl rfl rfl hg10 rfl rfl (RdS.of hs rfl rfl) (fun _ hR => R_lb (hR.e 0 rfl rfl) Try.isAgg38 rfl rfl) ?_
      refine EP_takeG rfl rfl rfl hg10 rfl rfl (fun _ => R_move rfl) ?_
      refine EP_takeG rfl rfl rfl hg10 rfl rfl (fun _ => R_nilCheck rfl) ?_
      refine EP_takeG rfl rfl rfl hg10 rfl rfl (fun _ => R_field fo_40_1 rfl) ?_
      refine EP_readG rfl rfl rfl hg10 rfl rfl (RdS.of hs rfl rfl) (fun _ hR => R_lb (hR.e 0 rfl rfl) Try.isAgg38 rfl rfl) ?_
      refine EP_takeG rfl rfl rfl hg10 rfl rfl (fun _ => R_move rfl) ?_
      refine EP_takeG rfl rfl rfl hg10 rfl rfl (fun _ => R_nilCheck rfl) ?_
      refine EP_takeG rfl rfl rfl hg10 rfl rfl (fun _ => R_field fo_40_1 rfl) ?_
      refine EP_readG rfl rfl rfl hg10 rfl rfl (RdS.of hs rfl rfl) (fun _ hR => R_lb (hR.e 0 rfl rfl) Try.isAgg38 rfl rfl) ?_
      refine EP_actG rfl rfl rfl hg10 rfl (O_call hs [false, false, false, false, false, true] [0] rfl rfl rfl Try.call37 (alFree_spec g.a g.ag m.al hm.al) (fun v es1 ds1 w hPhi hs => ?_))
      obtain ⟨rfl, rfl, rfl⟩ := hPhi
      refine ⟨(fun _ => RdS.of hs rfl rfl), ?_⟩
      refine EP_actG rfl rfl rfl hg10 rfl (O_call hs [false, false, false, false, false, true, true, true] [0] rfl rfl rfl Try.call16 (alUse_spec g.a g.ag m.al hm.ag hm.al) (fun v es1 ds1 w hPhi hs => ?_))
      obtain ⟨rfl, rfl, rfl⟩ := hPhi
      refine ⟨(fun _ => RdS.of hs rfl rfl), ?_⟩
      refine EP_takeG rfl rfl rfl hg10 rfl rfl (fun _ => R_addI rfl rfl (by omega)) ?_
      refine EP_actG rfl rfl rfl hg10 rfl (O_call hs [false, false, false, false, false, true, true, true] [] rfl rfl rfl Try.call38 (alWait_spec g.a g.ag m.al hm.ag hm.al) (fun v es1 ds1 w hPhi hs => ?_))
      obtain ⟨rfl, rfl, rfl⟩ := hPhi
      refine ⟨(fun _ => RdS.of hs rfl rfl), ?_⟩
      refine EP_takeG rfl rfl rfl hg10 rfl rfl (fun _ => R_addI rfl rfl (by omega)) ?_
      refine EP_takeG rfl rfl rfl hg10 rfl rfl (fun _ => R_eql rfl rfl) ?_
      refine EP_take rfl rfl rfl (fun _ => R_pickF rfl hg10 rfl) ?_
      refine EP_done ?_
      refine EC_cond rfl (fun hc32 => ?_) (fun hc32 => ?_)
      · exact absurd (of_decide_eq_true hc32) (by omega)
      · (first | have hc32p := of_decide_eq_true hc32 | have hc32p := of_decide_eq_false hc32 | have hc32p := of_decide_eq_false (bnt hc32) | have hc32p := of_decide_eq_true (bnf hc32) | have hc32p := bnt hc32 | have hc32p := bnf hc32 | have hc32p := hc32); try dsimp only at hc32p
        refine EC_skip ?_
        refine Then_n ?_
        refine EC_rseq ?_
        refine EL_run rfl (R_assign rfl) ?_
        refine EL_nil ?_
        refine EC_ret ?_
        exact ⟨[_], ⟨rfl, trivial⟩, _, _, ⟨rfl, rfl, rfl⟩, (hs.fin [true, true, true, true, true, true, true, true] []).as rfl rfl⟩

set_option maxRecDepth 100000 in
theorem span_spec (q : Ptr) {w0 : World} (hq : q.right = true) : Spec Try.prog 39 #[q.val] w0 [] [] (fun v es1 ds1 => v = q.span.val ∧ es1 = [] ∧ ds1 = []) := by
  refine Spec.intro (fun F D hs => ?_)
  refine Calls_of_EC (args := [q.val]) Try.func39 rfl rfl rfl ?_
  refine EC_rseq ?_
  refine EL_op rfl (O_box hs rfl rfl (fun b1 w hb1 hs => ?_))
  refine EL_op rfl (O_alloc hs rfl Try.zeroValue49 (fun b2 w hb2 hs => ?_))
  refine EL_nil ?_
  refine EC_dseqS hs [5, 8] [1, 3, 4] [0] [] (.take 0 (.take 1 (.take 2 (.take 3 (.take 4 (.fork 5 (.take 6 (.take 7 (.fork 8 .done (.done)))) (.done))))))) mix_ok (by kernel_rfl) (fun w hs _ => ?_)
  refine EP_take rfl rfl rfl (fun _ => R_field fo_30_0 rfl) ?_
  refine EP_read rfl rfl rfl (RdS.of hs rfl rfl) (fun _ hR => R_lb (hR.e 0 rfl rfl) Try.isAgg3 rfl rfl) ?_
  refine EP_take rfl rfl rfl (fun _ => R_field fo_30_0 rfl) ?_
  refine EP_read rfl rfl rfl (RdS.of hs rfl rfl) (fun _ hR => R_lb (hR.e 0 rfl rfl) Try.isAgg3 rfl rfl) ?_
  refine EP_read rfl rfl rfl (RdS.of hs rfl rfl) (fun _ hR => R_lw (hR.e 0 rfl rfl) Try.isAgg30 Try.sizeOf30 rfl (Ptr.size q)) ?_
  refine EP_act rfl rfl (O_call hs [] [] rfl rfl rfl Try.call17 (sectors_spec q) (fun v es1 ds1 w hPhi hs => ?_))
  obtain ⟨rfl, rfl, rfl⟩ := hPhi
  have hsr := sectors_range q.len
  have hri := Ptr.right_iff.1 hq
  refine ⟨(fun _ => RdS.of hs rfl rfl), ?_⟩
  refine EP_take rfl rfl rfl (fun _ => R_addI rfl rfl (by omega)) ?_
  refine EP_take rfl rfl rfl (fun _ => R_buildS (cs := q.span.l.toArray) [(0, .tmp 4), (1, .tmp 9)] pl_49 Try.zeroValue49 rfl rfl rfl) ?_
  refine EP_act rfl rfl (O_storeW hs (i := 1) rfl sz_49 rfl rfl rfl rfl (Sp.oneA _) (fun w hs => ⟨(rq_no (by kernel_rfl)), ?_⟩))
  refine EP_done ?_
  refine EC_ret ?_
  exact ⟨[_], ⟨res_cell hs (i := 1) rfl Try.sizeOf49 Try.isAgg49 rfl rfl, trivial⟩, _, _, ⟨rfl, rfl, rfl⟩, (hs.fin [] []).as rfl rfl⟩

set_option maxRecDepth 100000 in
theorem kill_spec (p : Nat) (g : PoG) (m : PoM) (q : Ptr) {w0 : World} (hm : m.ok g) : Spec Try.prog 18 #[.pointer (some ⟨p, 0, none⟩), q.val] w0 (poE p g m) (poD g m) (fun v es1 ds1 => ∃ g2 : PoG, v = .int .i64 (poKill m q).2 ∧ g2.ag.ok (poKill m q).1.al ∧ es1 = poE p g2 (poKill m q).1 ∧ ds1 = poD g2 (poKill m q).1) := by
  refine Spec.intro (fun F D hs => ?_)
  refine Calls_of_EC (args := [.pointer (some ⟨p, 0, none⟩), q.val]) Try.func18 rfl rfl rfl ?_
  refine EC_rseq ?_
  refine EL_op rfl (O_box hs rfl rfl (fun b3 w hb3 hs => ?_))
  refine EL_run rfl (R_assign rfl) ?_
  refine EL_nil ?_
  refine EC_seq ?_
  refine EC_rseq ?_
  refine EL_run rfl (R_move rfl) ?_
  refine EL_op rfl (O_call hs [true, true, true, true, true, true, true, true] [0] rfl rfl rfl Try.call31 (ready_spec p g m hm) (fun v es1 ds1 w hPhi hs => ?_))
  obtain ⟨rfl, rfl, rfl⟩ := hPhi
  refine EL_run rfl (R_assign rfl) ?_
  refine EL_nil ?_
  refine EC_block ?_
  refine EC_rseq ?_
  refine EL_run rfl (R_move rfl) ?_
  refine EL_run rfl (R_neq rfl rfl) ?_
  refine EL_run rfl (R_assign rfl) ?_
  refine EL_nil ?_
  refine EC_cond rfl (fun hc8 => ?_) (fun hc8 => ?_)
  · exact absurd (of_decide_eq_true hc8) (by omega)
  · (first | have hc8p := of_decide_eq_true hc8 | have hc8p := of_decide_eq_false hc8 | have hc8p := of_decide_eq_false (bnt hc8) | have hc8p := of_decide_eq_true (bnf hc8) | have hc8p := bnt hc8 | have hc8p := bnf hc8 | have hc8p := hc8); try dsimp only at hc8p
    refine EC_rseq ?_
    refine EL_run rfl (R_lw (hs.at (i := 8) rfl) Try.isAgg30 Try.sizeOf30 rfl (Ptr.size q)) ?_
    refine EL_op rfl (O_call hs [] [] rfl rfl rfl Try.call32 (right_spec q) (fun v es1 ds1 w hPhi hs => ?_))
    obtain ⟨rfl, rfl, rfl⟩ := hPhi
    refine EL_run rfl (R_not rfl) ?_
    refine EL_run rfl (R_assign rfl) ?_
    refine EL_nil ?_
    refine EC_cond rfl (fun hc12 => ?_) (fun hc12 => ?_)
    · (first | have hc12p := of_decide_eq_true hc12 | have hc12p := of_decide_eq_false hc12 | have hc12p := of_decide_eq_false (bnt hc12) | have hc12p := of_decide_eq_true (bnf hc12) | have hc12p := bnt hc12 | have hc12p := bnf hc12 | have hc12p := hc12); try dsimp only at hc12p
      have hgv : poKill m q = (m, 2) := by rw [poKill, if_pos hc12p]
      refine EC_rseq ?_
      refine EL_run rfl (R_assign rfl) ?_
      refine EL_nil ?_
      refine EC_ret ?_
      refine InBlock_r ?_
      refine Then_r ?_
      exact ⟨[_], ⟨rfl, trivial⟩, _, _, ⟨g, by rw [hgv]; rfl, by rw [hgv]; exact hm.ag, rfl, rfl⟩, (hs.fin [true, true, true, true, true, true, true, true] [0]).as (by rw [hgv]; rfl) (by rw [hgv]; rfl)⟩
    · (first | have hc12p := of_decide_eq_true hc12 | have hc12p := of_decide_eq_false hc12 | have hc12p := of_decide_eq_false (bnt hc12) | have hc12p := of_decide_eq_true (bnf hc12) | have hc12p := bnt hc12 | have hc12p := bnf hc12 | have hc12p := hc12); try dsimp only at hc12p
      refine EC_dseqS hs [] [1, 5] [0, 8] [] (.take 0 (.take 1 (.take 2 (.take 3 (.take 4 (.take 5 (.take 6 (.take 7 .done)))))))) mix_ok (by kernel_rfl) (fun w hs _ => ?_)
      refine EP_take rfl rfl rfl (fun _ => R_field fo_30_1 rfl) ?_
      refine EP_read rfl rfl rfl (RdS.of hs rfl rfl) (fun _ hR => R_lb (hR.e 8 rfl rfl) Try.isAgg3 rfl rfl) ?_
      refine EP_take rfl rfl rfl (fun _ => R_move rfl) ?_
      refine EP_take rfl rfl rfl (fun _ => R_nilCheck rfl) ?_
      refine EP_take rfl rfl rfl (fun _ => R_field fo_40_2 rfl) ?_
      refine EP_read rfl rfl rfl (RdS.of hs rfl rfl) (fun _ hR => R_lb (hR.e 0 rfl rfl) Try.isAgg3 rfl rfl) ?_
      refine EP_take rfl rfl rfl (fun _ => R_eql rfl rfl) ?_
      refine EP_take rfl rfl rfl (fun _ => R_assign rfl) ?_
      refine EP_done ?_
      refine EC_cond rfl (fun hc16 => ?_) (fun hc16 => ?_)
      · (first | have hc16p := of_decide_eq_true hc16 | have hc16p := of_decide_eq_false hc16 | have hc16p := of_decide_eq_false (bnt hc16) | have hc16p := of_decide_eq_true (bnf hc16) | have hc16p := bnt hc16 | have hc16p := bnf hc16 | have hc16p := hc16); try dsimp only at hc16p
        have hgv : poKill m q = ({ m with al := (alGive m.al q.span).1 }, (alGive m.al q.span).2) := by rw [poKill, if_neg (by rw [hc12p]; exact Bool.noConfusion), if_pos hc16p]
        refine EC_dseqS hs [5, 6] [3, 4] [0, 8] [] (.take 0 (.take 1 (.take 2 (.take 3 (.take 4 (.fork 5 (.fork 6 (.take 7 .done) (.done)) (.done))))))) mix_ok (by kernel_rfl) (fun w hs _ => ?_)
        refine EP_take rfl rfl rfl (fun _ => R_move rfl) ?_
        refine EP_take rfl rfl rfl (fun _ => R_nilCheck rfl) ?_
        refine EP_take rfl rfl rfl (fun _ => R_field fo_40_1 rfl) ?_
        refine EP_read rfl rfl rfl (RdS.of hs rfl rfl) (fun _ hR => R_lb (hR.e 0 rfl rfl) Try.isAgg38 rfl rfl) ?_
        refine EP_read rfl rfl rfl (RdS.of hs rfl rfl) (fun _ hR => R_lw (hR.e 8 rfl rfl) Try.isAgg30 Try.sizeOf30 rfl (Ptr.size q)) ?_
        refine EP_act rfl rfl (O_call hs [] [] rfl rfl rfl Try.call39 (span_spec q hc12p) (fun v es1 ds1 w hPhi hs => ?_))
        obtain ⟨rfl, rfl, rfl⟩ := hPhi
        refine ⟨(fun _ => RdS.of hs rfl rfl), ?_⟩
        refine EP_act rfl rfl (O_call hs [false, false, false, false, false, true, true, true] [0] rfl rfl rfl Try.call35 (alGive_spec g.a g.ag m.al q.span hm.ag hm.al) (fun v es1 ds1 w hPhi hs => ?_))
        obtain ⟨fo, fc, rfl, rfl, rfl⟩ := hPhi
        refine ⟨(fun _ => RdS.of hs rfl rfl), ?_⟩
        refine EP_take rfl rfl rfl (fun _ => R_assign rfl) ?_
        refine EP_done ?_
        refine EC_ret ?_
        refine InBlock_r ?_
        refine Then_r ?_
        exact ⟨[_], ⟨rfl, trivial⟩, _, _, ⟨{ g with ag := { g.ag with fo := fo, fc := fc } }, by rw [hgv]; rfl, by rw [hgv]; exact alGive_gok hm.ag, rfl, rfl⟩, (hs.fin [true, true, true, true, true, true, true, true] [1]).as (by rw [hgv]; rfl) (by rw [hgv]; rfl)⟩
      · (first | have hc16p := of_decide_eq_true hc16 | have hc16p := of_decide_eq_false hc16 | have hc16p := of_decide_eq_false (bnt hc16) | have hc16p := of_decide_eq_true (bnf hc16) | have hc16p := bnt hc16 | have hc16p := bnf hc16 | have hc16p := hc16); try dsimp only at hc16p
        refine EC_skip ?_
        refine InBlock_n ?_
        refine Then_n ?_
        have hgv : poKill m q = ({ m with killed := m.killed ++ [q] }, 0) := by rw [poKill, if_neg (by rw [hc12p]; exact Bool.noConfusion), if_neg hc16p]
        refine EC_dseqS hs [6, 7, 10] [4, 5] [0, 8] [] (.take 0 (.take 1 (.take 2 (.take 3 (.take 4 (.take 5 (.fork 6 (.fork 7 (.take 8 (.take 9 (.fork 10 .done (.done)))) (.done)) (.done)))))))) mix_ok (by kernel_rfl) (fun w hs _ => ?_)
        refine EP_take rfl rfl rfl (fun _ => R_move rfl) ?_
        refine EP_take rfl rfl rfl (fun _ => R_move rfl) ?_
        refine EP_take rfl rfl rfl (fun _ => R_nilCheck rfl) ?_
        refine EP_take rfl rfl rfl (fun _ => R_field fo_40_4 rfl) ?_
        refine EP_read rfl rfl rfl (RdS.of hs rfl rfl) (fun _ hR => R_lb (hR.e 0 rfl rfl) Try.isAgg22 rfl rfl) ?_
        refine EP_read rfl rfl rfl (RdS.of hs rfl rfl) (fun _ hR => R_lw (hR.e 8 rfl rfl) Try.isAgg30 Try.sizeOf30 rfl (Ptr.size q)) ?_
        refine EP_act rfl rfl (O_buildSlice [.tmp 36] hs rfl ei_22 rfl rfl rfl (sizeN (Ptr.size q)) (by decide) (fun b37 w hb37 hs => ⟨(fun _ => RdS.of hs rfl rfl), ?_⟩))
        refine EP_act rfl rfl (O_append hs (i := 1) rfl rfl ei_22 rfl rfl (Src.own (hs.at (i := 9) rfl)) (by intro u hu; exact Ptr.one_l q u (by simpa [Value.cells, Ptr.val, Ptr.cells] using hu)) (by have := hm.kl; omega) (by have := hm.kl; omega) (fun v38 w hs => ?_))
        have hs := hs.asSl (i := 1) rfl (m.killed ++ [q]).length ((m.killed ++ [q]).flatMap Ptr.l) (by simp) (by simp [Value.cells, Ptr.val, Ptr.cells])
        obtain ⟨ao9, c9, hv9⟩ := oSl.val (hs.at (i := 1) rfl)
        subst hv9
        refine ⟨(fun _ => RdS.of hs rfl rfl), ?_⟩
        refine EP_take rfl rfl rfl (fun _ => R_nilCheck rfl) ?_
        refine EP_take rfl rfl rfl (fun _ => R_field fo_40_4 rfl) ?_
        refine EP_act rfl rfl (O_store hs (i := 0) rfl Try.sizeOf22 rfl rfl rfl rfl (fun w hs => ⟨(rq_no (by kernel_rfl)), ?_⟩))
        refine EP_done ?_
        refine EC_rseq ?_
        refine EL_run rfl (R_assign rfl) ?_
        refine EL_nil ?_
        refine EC_ret ?_
        exact ⟨[_], ⟨rfl, trivial⟩, _, _, ⟨{ g with ko := ao9, kc := c9 }, by rw [hgv]; rfl, by rw [hgv]; exact hm.ag, rfl, rfl⟩, (hs.fin [true, true, true, true, true, true, true, true] [0]).as (by rw [hgv]; rfl) (by rw [hgv]; rfl)⟩

set_option maxRecDepth 100000 in
theorem lay_spec (p : Nat) (g : PoG) (m : PoM) (ao : Option Addr) (c : Nat) (b : BL) {w0 : World} (hm : m.ok g) (hok : (alTake m.al (sectors b.length) m.spare).1.ok) (hb : b.length ≤ 1000000) : Spec Try.prog 15 #[.pointer (some ⟨p, 0, none⟩), .slice ao b.length c] w0 (poE p g m) (poD g m ++ [dB ao c b]) (fun v es1 ds1 => ∃ g2 : PoG, v = .tuple #[(poLay m b).2.1.val, .int .i64 (poLay m b).2.2] ∧ g2.ag.ok (poLay m b).1.al ∧ es1 = poE p g2 (poLay m b).1 ∧ ds1 = poD g2 (poLay m b).1) := by
  refine Spec.intro (fun F D hs => ?_)
  refine Calls_of_EC (args := [.pointer (some ⟨p, 0, none⟩), .slice ao b.length c]) Try.func15 rfl rfl rfl ?_
  refine EC_rseq ?_
  refine EL_op rfl (O_alloc hs rfl Try.zeroValue30 (fun b4 w hb4 hs => ?_))
  refine EL_run rfl (R_assign rfl) ?_
  refine EL_nil ?_
  refine EC_seq ?_
  refine EC_rseq ?_
  refine EL_run rfl (R_move rfl) ?_
  refine EL_op rfl (O_call hs [true, true, true, true, true, true, true, true] [0] rfl rfl rfl Try.call31 (ready_spec p g m hm) (fun v es1 ds1 w hPhi hs => ?_))
  obtain ⟨rfl, rfl, rfl⟩ := hPhi
  refine EL_run rfl (R_assign rfl) ?_
  refine EL_nil ?_
  refine EC_rseq ?_
  refine EL_run rfl (R_move rfl) ?_
  refine EL_run rfl (R_neq rfl rfl) ?_
  refine EL_nil ?_
  refine EC_cond rfl (fun hc14 => ?_) (fun hc14 => ?_)
  · exact absurd (of_decide_eq_true hc14) (by omega)
  · (first | have hc14p := of_decide_eq_true hc14 | have hc14p := of_decide_eq_false hc14 | have hc14p := of_decide_eq_false (bnt hc14) | have hc14p := of_decide_eq_true (bnf hc14) | have hc14p := bnt hc14 | have hc14p := bnf hc14 | have hc14p := hc14); try dsimp only at hc14p
    refine EC_skip ?_
    refine Then_n ?_
    refine EC_rseq ?_
    refine EL_run rfl (R_move rfl) ?_
    refine EL_run rfl (R_lenS Try.underlying25 rfl) ?_
    refine EL_run rfl (R_buildS (cs := (Ptr.bare 0 0 b.length).cells) [(2, .tmp 18)] pl_30 Try.zeroValue30 rfl rfl (by kernel_rfl)) ?_
    refine EL_op rfl (O_call hs [] [] rfl rfl rfl Try.call17 (sectors_spec (Ptr.bare 0 0 b.length)) (fun v es1 ds1 w hPhi hs => ?_))
    obtain ⟨hv, rfl, rfl⟩ := hPhi
    replace hv : v = .int .i64 (sectors (b.length : Int)) := hv
    subst hv
    have hsr := sectors_range (b.length : Int)
    refine EL_run rfl (R_assign rfl) ?_
    refine EL_nil ?_
    refine EC_seq ?_
    refine EC_rseq ?_
    refine EL_run rfl (R_move rfl) ?_
    refine EL_run rfl (R_eql rfl rfl) ?_
    refine EL_run rfl (R_move rfl) ?_
    refine EL_split 23 rfl (fun hg2 => ?_) (fun hg2 => ?_)
    · (first | have hg2p := of_decide_eq_true hg2 | have hg2p := of_decide_eq_false hg2 | have hg2p := of_decide_eq_false (bnt hg2) | have hg2p := of_decide_eq_true (bnf hg2) | have hg2p := bnt hg2 | have hg2p := bnf hg2 | have hg2p := hg2); try dsimp only at hg2p
      refine EL_pass rfl rfl rfl hg2 ?_
      refine EL_pass rfl rfl rfl hg2 ?_
      refine EL_pass rfl rfl rfl hg2 ?_
      refine EL_pass rfl rfl rfl hg2 ?_
      refine EL_pass rfl rfl rfl hg2 ?_
      refine EL_pass rfl rfl rfl hg2 ?_
      refine EL_pass rfl rfl rfl hg2 ?_
      refine EL_pass rfl rfl rfl hg2 ?_
      refine EL_pass rfl rfl rfl hg2 ?_
      refine EL_run rfl (R_pickT rfl hg2 rfl) ?_
      refine EL_nil ?_
      refine EC_cond rfl (fun hcx => ?_) (fun hcx => ?_)
      · skip
        have hgv : poLay m b = (m, Ptr.none, 2) := by rw [poLay, if_pos (by first | exact .inl hg2p | exact .inr hc33p)]
        refine EC_rseq ?_
        refine EL_run rfl (R_buildS (cs := Ptr.none.cells) [] pl_30 Try.zeroValue30 rfl rfl rfl) ?_
        refine EL_op rfl (O_storeW hs (i := 8) rfl sz_30 rfl rfl rfl rfl (Ptr.oneA _) (fun w hs => ?_))
        refine EL_run rfl (R_assign rfl) ?_
        refine EL_nil ?_
        refine EC_ret ?_
        refine Then_r ?_
        exact ⟨[_, _], ⟨res_cell hs (i := 8) rfl Try.sizeOf30 Try.isAgg30 rfl (Ptr.size _), rfl, trivial⟩, _, _, ⟨g, by rw [hgv]; rfl, by rw [hgv]; exact hm.ag, rfl, rfl⟩, (hs.fin [true, true, true, true, true, true, true, true] [0]).as (by rw [hgv]; rfl) (by rw [hgv]; rfl)⟩
      · exact Bool.noConfusion hcx
    · (first | have hg2p := of_decide_eq_true hg2 | have hg2p := of_decide_eq_false hg2 | have hg2p := of_decide_eq_false (bnt hg2) | have hg2p := of_decide_eq_true (bnf hg2) | have hg2p := bnt hg2 | have hg2p := bnf hg2 | have hg2p := hg2); try dsimp only at hg2p
      refine EL_want rfl rfl hg2 ?_
      refine EL_run rfl (R_move rfl) ?_
      refine EL_want rfl rfl hg2 ?_
      refine EL_run rfl (R_nilCheck rfl) ?_
      refine EL_want rfl rfl hg2 ?_
      refine EL_run rfl (R_field fo_40_2 rfl) ?_
      refine EL_want rfl rfl hg2 ?_
      refine EL_run rfl (R_lb (hs.at (i := 0) rfl) Try.isAgg3 rfl rfl) ?_
      refine EL_want rfl rfl hg2 ?_
      refine EL_run rfl (R_move rfl) ?_
      refine EL_want rfl rfl hg2 ?_
      refine EL_run rfl (R_lenS Try.underlying25 rfl) ?_
      refine EL_want rfl rfl hg2 ?_
      refine EL_run rfl (R_buildS (cs := (Ptr.bare 2 m.epoch b.length).cells) [(0, .const (.int .i64 2)), (1, .tmp 27), (2, .tmp 29)] pl_30 Try.zeroValue30 rfl rfl (by kernel_rfl)) ?_
      refine EL_want rfl rfl hg2 ?_
      refine EL_op rfl (O_call hs [] [] rfl rfl rfl Try.call32 (right_spec (Ptr.bare 2 m.epoch b.length)) (fun v es1 ds1 w hPhi hs => ?_))
      obtain ⟨rfl, rfl, rfl⟩ := hPhi
      refine EL_want rfl rfl hg2 ?_
      refine EL_run rfl (R_not rfl) ?_
      refine EL_run rfl (R_pickF rfl hg2 rfl) ?_
      refine EL_nil ?_
      refine EC_cond rfl (fun hc33 => ?_) (fun hc33 => ?_)
      · (first | have hc33p := of_decide_eq_true hc33 | have hc33p := of_decide_eq_false hc33 | have hc33p := of_decide_eq_false (bnt hc33) | have hc33p := of_decide_eq_true (bnf hc33) | have hc33p := bnt hc33 | have hc33p := bnf hc33 | have hc33p := hc33); try dsimp only at hc33p
        have hgv : poLay m b = (m, Ptr.none, 2) := by rw [poLay, if_pos (by first | exact .inl hg2p | exact .inr hc33p)]
        refine EC_rseq ?_
        refine EL_run rfl (R_buildS (cs := Ptr.none.cells) [] pl_30 Try.zeroValue30 rfl rfl rfl) ?_
        refine EL_op rfl (O_storeW hs (i := 8) rfl sz_30 rfl rfl rfl rfl (Ptr.oneA _) (fun w hs => ?_))
        refine EL_run rfl (R_assign rfl) ?_
        refine EL_nil ?_
        refine EC_ret ?_
        refine Then_r ?_
        exact ⟨[_, _], ⟨res_cell hs (i := 8) rfl Try.sizeOf30 Try.isAgg30 rfl (Ptr.size _), rfl, trivial⟩, _, _, ⟨g, by rw [hgv]; rfl, by rw [hgv]; exact hm.ag, rfl, rfl⟩, (hs.fin [true, true, true, true, true, true, true, true] [0]).as (by rw [hgv]; rfl) (by rw [hgv]; rfl)⟩
      · (first | have hc33p := of_decide_eq_true hc33 | have hc33p := of_decide_eq_false hc33 | have hc33p := of_decide_eq_false (bnt hc33) | have hc33p := of_decide_eq_true (bnf hc33) | have hc33p := bnt hc33 | have hc33p := bnf hc33 | have hc33p := hc33); try dsimp only at hc33p
        refine EC_skip ?_
        refine Then_n ?_
        have hno : ¬ (sectors (b.length : Int) = 0 ∨ (Ptr.bare 2 m.epoch b.length).right = false) := by rintro (h | h); exact hg2p h; exact Bool.noConfusion (hc33p.symm.trans h)
        refine EC_dseqS hs [9] [3, 8] [0] [] (.take 0 (.take 1 (.take 2 (.take 3 (.take 4 (.take 5 (.take 6 (.take 7 (.take 8 (.fork 9 (.take 10 (.take 11 (.take 12 (.take 13 (.take 14 .done))))) (.done))))))))))) mix_ok (by kernel_rfl) (fun w hs _ => ?_)
        refine EP_take rfl rfl rfl (fun _ => R_move rfl) ?_
        refine EP_take rfl rfl rfl (fun _ => R_nilCheck rfl) ?_
        refine EP_take rfl rfl rfl (fun _ => R_field fo_40_1 rfl) ?_
        refine EP_read rfl rfl rfl (RdS.of hs rfl rfl) (fun _ hR => R_lb (hR.e 0 rfl rfl) Try.isAgg38 rfl rfl) ?_
        refine EP_take rfl rfl rfl (fun _ => R_move rfl) ?_
        refine EP_take rfl rfl rfl (fun _ => R_move rfl) ?_
        refine EP_take rfl rfl rfl (fun _ => R_nilCheck rfl) ?_
        refine EP_take rfl rfl rfl (fun _ => R_field fo_40_3 rfl) ?_
        refine EP_read rfl rfl rfl (RdS.of hs rfl rfl) (fun _ hR => R_lb (hR.e 0 rfl rfl) Try.isAgg4 rfl rfl) ?_
        refine EP_act rfl rfl (O_call hs [false, false, false, false, false, true] [0] rfl rfl rfl Try.call33 (alTake_spec g.a g.ag m.al (sectors (b.length : Int)) m.spare hm.al (by omega)) (fun v es1 ds1 w hPhi hs => ?_))
        obtain ⟨fo, fc, rfl, rfl, rfl⟩ := hPhi
        have hw1 := alTake_waits m.al (sectors (b.length : Int)) m.spare
        have har := alTake_range hm.al.vf (sectors (b.length : Int)) m.spare
        have hgo1 := alTake_gok (sp := m.spare) (n := sectors (b.length : Int)) (fo := fo) (fc := fc) hm.ag
        have hlay := poLay_take m b hno
        obtain ⟨⟨m1, at1, e1⟩, htk⟩ : ∃ z, z = alTake m.al (sectors (b.length : Int)) m.spare := ⟨_, rfl⟩
        rw [← htk] at hs hok hw1 har hgo1 hlay
        rw [← htk]
        dsimp only at hok hw1 har hgo1 hlay
        have hs := hs.as (es' := poE p { g with ag := { g.ag with fo := fo, fc := fc } } { m with al := m1 } ++ [blk b4 Ptr.none.cells 30]) (by rw [poE_of hw1]; rfl) rfl
        refine ⟨(rq_no (by kernel_rfl)), ?_⟩
        refine EP_take rfl rfl rfl (fun _ => R_move rfl) ?_
        refine EP_take rfl rfl rfl (fun _ => R_extract rfl rfl) ?_
        refine EP_take rfl rfl rfl (fun _ => R_extract rfl rfl) ?_
        refine EP_take rfl rfl rfl (fun _ => R_assign rfl) ?_
        refine EP_take rfl rfl rfl (fun _ => R_assign rfl) ?_
        refine EP_done ?_
        refine EC_seq ?_
        refine EC_rseq ?_
        refine EL_run rfl (R_move rfl) ?_
        refine EL_run rfl (R_neq rfl rfl) ?_
        refine EL_nil ?_
        refine EC_cond rfl (fun hc49 => ?_) (fun hc49 => ?_)
        · (first | have hc49p := of_decide_eq_true hc49 | have hc49p := of_decide_eq_false hc49 | have hc49p := of_decide_eq_false (bnt hc49) | have hc49p := of_decide_eq_true (bnf hc49) | have hc49p := bnt hc49 | have hc49p := bnf hc49 | have hc49p := hc49); try dsimp only at hc49p
          have hgv : poLay m b = ({ m with al := m1 }, Ptr.none, e1) := by rw [hlay, if_pos hc49p]
          refine EC_rseq ?_
          refine EL_run rfl (R_buildS (cs := Ptr.none.cells) [] pl_30 Try.zeroValue30 rfl rfl rfl) ?_
          refine EL_run rfl (R_move rfl) ?_
          refine EL_op rfl (O_storeW hs (i := 8) rfl sz_30 rfl rfl rfl rfl (Ptr.oneA _) (fun w hs => ?_))
          refine EL_run rfl (R_assign rfl) ?_
          refine EL_nil ?_
          refine EC_ret ?_
          refine Then_r ?_
          exact ⟨[_, _], ⟨res_cell hs (i := 8) rfl Try.sizeOf30 Try.isAgg30 rfl (Ptr.size _), rfl, trivial⟩, _, _, ⟨{ g with ag := { g.ag with fo := fo, fc := fc } }, by rw [hgv]; rfl, by rw [hgv]; exact hgo1, rfl, rfl⟩, (hs.fin [true, true, true, true, true, true, true, true] [2]).as (by rw [hgv]; rfl) (by rw [hgv]; rfl)⟩
        · (first | have hc49p := of_decide_eq_true hc49 | have hc49p := of_decide_eq_false hc49 | have hc49p := of_decide_eq_false (bnt hc49) | have hc49p := of_decide_eq_true (bnf hc49) | have hc49p := bnt hc49 | have hc49p := bnf hc49 | have hc49p := hc49); try dsimp only at hc49p
          refine EC_skip ?_
          refine Then_n ?_
          refine EC_dseqS hs [10, 14, 15] [3, 8] [0] [] (.take 0 (.take 1 (.take 2 (.take 3 (.take 4 (.take 5 (.take 6 (.take 7 (.take 8 (.take 9 (.fork 10 (.take 11 (.take 12 (.take 13 (.fork 14 (.fork 15 (.take 16 .done) (.done)) (.done))))) (.fork 14 (.fork 10 (.take 11 (.take 12 (.take 13 (.fork 15 (.take 16 .done) (.done))))) (.done)) (.done))))))))))))) mix_ok (by kernel_rfl) (fun w hs _ => ?_)
          refine EP_take rfl rfl rfl (fun _ => R_move rfl) ?_
          refine EP_take rfl rfl rfl (fun _ => R_nilCheck rfl) ?_
          refine EP_take rfl rfl rfl (fun _ => R_field fo_40_0 rfl) ?_
          refine EP_read rfl rfl rfl (RdS.of hs rfl rfl) (fun _ hR => R_lb (hR.e 0 rfl rfl) Try.isAgg37 rfl rfl) ?_
          refine EP_take rfl rfl rfl (fun _ => R_move rfl) ?_
          refine EP_take rfl rfl rfl (fun _ => R_move rfl) ?_
          refine EP_take rfl rfl rfl (fun _ => R_nilCheck rfl) ?_
          refine EP_take rfl rfl rfl (fun _ => R_field fo_40_2 rfl) ?_
          refine EP_read rfl rfl rfl (RdS.of hs rfl rfl) (fun _ hR => R_lb (hR.e 0 rfl rfl) Try.isAgg3 rfl rfl) ?_
          refine EP_take rfl rfl rfl (fun _ => R_move rfl) ?_
          refine EP_fork rfl rfl (O_call hs [false, false, true, true, true] [1] rfl rfl rfl Try.call34 (blkWrite_spec g.d g.dg m.di at1 m.epoch ao c b hm.di hb) (fun v es1 ds1 w hPhi hs => ?_)) ?_
          · skip
            obtain ⟨rfl, rfl, rfl⟩ := hPhi
            refine ⟨(rq_no (by kernel_rfl)), ?_⟩
            refine EP_take rfl rfl rfl (fun _ => R_move rfl) ?_
            refine EP_take rfl rfl rfl (fun _ => R_extract rfl rfl) ?_
            refine EP_take rfl rfl rfl (fun _ => R_extract rfl rfl) ?_
            refine EP_act rfl rfl (O_alloc hs rfl Try.zeroValue30 (fun b10 w hb10 hs => ⟨(fun _ => RdS.of hs rfl rfl), ?_⟩))
            refine EP_act rfl rfl (O_storeW hs (i := 9) rfl sz_30 rfl rfl rfl (Ptr.size _) (Ptr.oneA _) (fun w hs => ⟨(rq_no (by kernel_rfl)), ?_⟩))
            refine EP_take rfl rfl rfl (fun _ => R_assign rfl) ?_
            refine EP_done ?_
            refine EC_seq ?_
            refine EC_rseq ?_
            refine EL_run rfl (R_move rfl) ?_
            refine EL_run rfl (R_neq rfl rfl) ?_
            refine EL_nil ?_
            refine EC_cond rfl (fun hc67 => ?_) (fun hc67 => ?_)
            · (first | have hc67p := of_decide_eq_true hc67 | have hc67p := of_decide_eq_false hc67 | have hc67p := of_decide_eq_false (bnt hc67) | have hc67p := of_decide_eq_true (bnf hc67) | have hc67p := bnt hc67 | have hc67p := bnf hc67 | have hc67p := hc67); try dsimp only at hc67p
              have hgv : poLay m b = ({ m with di := (blkWrite m.di at1 m.epoch b).1, al := (alGive m1 ⟨at1, at1 + sectors b.length⟩).1 }, (blkWrite m.di at1 m.epoch b).2) := by rw [hlay, if_neg hc49p, if_pos hc67p]
              refine EC_region ?_
              refine EL_run rfl (R_move rfl) ?_
              refine EL_run rfl (R_nilCheck rfl) ?_
              refine EL_run rfl (R_field fo_40_1 rfl) ?_
              refine EL_run rfl (R_lb (hs.at (i := 0) rfl) Try.isAgg38 rfl rfl) ?_
              refine EL_run rfl (R_move rfl) ?_
              refine EL_run rfl (R_move rfl) ?_
              refine EL_run rfl (R_move rfl) ?_
              refine EL_run rfl (R_addI rfl rfl (by dsimp only; omega)) ?_
              refine EL_run rfl (R_buildS (cs := (Sp.mk at1 (at1 + sectors b.length)).l.toArray) [(0, .tmp 72), (1, .tmp 75)] pl_49 Try.zeroValue49 rfl rfl rfl) ?_
              refine EL_op rfl (O_call hs [false, false, false, false, false, true, true, true] [2] rfl rfl rfl Try.call35 (alGive_spec g.a { g.ag with fo := fo, fc := fc } m1 ⟨at1, at1 + sectors b.length⟩ hgo1 hok) (fun v es1 ds1 w hPhi hs => ?_))
              obtain ⟨fo2, fc2, rfl, rfl, rfl⟩ := hPhi
              refine EL_nil ?_
              refine Then_n ?_
              refine EC_rseq ?_
              refine EL_run rfl (R_lw (hs.at (i := 9) rfl) Try.isAgg30 Try.sizeOf30 rfl (Ptr.size _)) ?_
              refine EL_run rfl (R_move rfl) ?_
              refine EL_op rfl (O_storeW hs (i := 8) rfl sz_30 rfl rfl rfl (Ptr.size _) (Ptr.oneA _) (fun w hs => ?_))
              refine EL_run rfl (R_assign rfl) ?_
              refine EL_nil ?_
              refine EC_ret ?_
              exact ⟨[_, _], ⟨res_cell hs (i := 8) rfl Try.sizeOf30 Try.isAgg30 rfl (Ptr.size _), rfl, trivial⟩, _, _, ⟨{ g with ag := { g.ag with fo := fo2, fc := fc2 } }, by rw [hgv]; rfl, by rw [hgv]; exact alGive_gok hgo1, rfl, rfl⟩, (hs.fin [true, true, true, true, true, true, true, true] [3]).as (by rw [hgv]; rfl) (by rw [hgv]; rfl)⟩
            · (first | have hc67p := of_decide_eq_true hc67 | have hc67p := of_decide_eq_false hc67 | have hc67p := of_decide_eq_false (bnt hc67) | have hc67p := of_decide_eq_true (bnf hc67) | have hc67p := bnt hc67 | have hc67p := bnf hc67 | have hc67p := hc67); try dsimp only at hc67p
              refine EC_skip ?_
              refine Then_n ?_
              have hgv : poLay m b = ({ m with di := (blkWrite m.di at1 m.epoch b).1, al := m1 }, (blkWrite m.di at1 m.epoch b).2) := by rw [hlay, if_neg hc49p, if_neg hc67p]
              refine EC_rseq ?_
              refine EL_run rfl (R_lw (hs.at (i := 9) rfl) Try.isAgg30 Try.sizeOf30 rfl (Ptr.size _)) ?_
              refine EL_run rfl (R_move rfl) ?_
              refine EL_op rfl (O_storeW hs (i := 8) rfl sz_30 rfl rfl rfl (Ptr.size _) (Ptr.oneA _) (fun w hs => ?_))
              refine EL_run rfl (R_assign rfl) ?_
              refine EL_nil ?_
              refine EC_ret ?_
              exact ⟨[_, _], ⟨res_cell hs (i := 8) rfl Try.sizeOf30 Try.isAgg30 rfl (Ptr.size _), rfl, trivial⟩, _, _, ⟨{ g with ag := { g.ag with fo := fo, fc := fc } }, by rw [hgv]; rfl, by rw [hgv]; exact hgo1, rfl, rfl⟩, (hs.fin [true, true, true, true, true, true, true, true] [2]).as (by rw [hgv]; rfl) (by rw [hgv]; rfl)⟩
          refine EP_fork rfl rfl (O_alloc hs rfl Try.zeroValue30 (fun b10 w hb10 hs => ⟨(fun _ => RdS.of hs rfl rfl), ?_⟩)) ?_
          · skip
            refine EP_act rfl rfl (O_call hs [false, false, true, true, true] [1] rfl rfl rfl Try.call34 (blkWrite_spec g.d g.dg m.di at1 m.epoch ao c b hm.di hb) (fun v es1 ds1 w hPhi hs => ?_))
            obtain ⟨rfl, rfl, rfl⟩ := hPhi
            refine ⟨(rq_no (by kernel_rfl)), ?_⟩
            refine EP_take rfl rfl rfl (fun _ => R_move rfl) ?_
            refine EP_take rfl rfl rfl (fun _ => R_extract rfl rfl) ?_
            refine EP_take rfl rfl rfl (fun _ => R_extract rfl rfl) ?_
            refine EP_act rfl rfl (O_storeW hs (i := 9) rfl sz_30 rfl rfl rfl (Ptr.size _) (Ptr.oneA _) (fun w hs => ⟨(rq_no (by kernel_rfl)), ?_⟩))
            refine EP_take rfl rfl rfl (fun _ => R_assign rfl) ?_
            refine EP_done ?_
            refine EC_seq ?_
            refine EC_rseq ?_
            refine EL_run rfl (R_move rfl) ?_
            refine EL_run rfl (R_neq rfl rfl) ?_
            refine EL_nil ?_
            refine EC_cond rfl (fun hc67 => ?_) (fun hc67 => ?_)
            · (first | have hc67p := of_decide_eq_true hc67 | have hc67p := of_decide_eq_false hc67 | have hc67p := of_decide_eq_false (bnt hc67) | have hc67p := of_decide_eq_true (bnf hc67) | have hc67p := bnt hc67 | have hc67p := bnf hc67 | have hc67p := hc67); try dsimp only at hc67p
              have hgv : poLay m b = ({ m with di := (blkWrite m.di at1 m.epoch b).1, al := (alGive m1 ⟨at1, at1 + sectors b.length⟩).1 }, (blkWrite m.di at1 m.epoch b).2) := by rw [hlay, if_neg hc49p, if_pos hc67p]
              refine EC_region ?_
              refine EL_run rfl (R_move rfl) ?_
              refine EL_run rfl (R_nilCheck rfl) ?_
              refine EL_run rfl (R_field fo_40_1 rfl) ?_
              refine EL_run rfl (R_lb (hs.at (i := 0) rfl) Try.isAgg38 rfl rfl) ?_
              refine EL_run rfl (R_move rfl) ?_
              refine EL_run rfl (R_move rfl) ?_
              refine EL_run rfl (R_move rfl) ?_
              refine EL_run rfl (R_addI rfl rfl (by dsimp only; omega)) ?_
              refine EL_run rfl (R_buildS (cs := (Sp.mk at1 (at1 + sectors b.length)).l.toArray) [(0, .tmp 72), (1, .tmp 75)] pl_49 Try.zeroValue49 rfl rfl rfl) ?_
              refine EL_op rfl (O_call hs [false, false, false, false, false, true, true, true] [2] rfl rfl rfl Try.call35 (alGive_spec g.a { g.ag with fo := fo, fc := fc } m1 ⟨at1, at1 + sectors b.length⟩ hgo1 hok) (fun v es1 ds1 w hPhi hs => ?_))
              obtain ⟨fo2, fc2, rfl, rfl, rfl⟩ := hPhi
              refine EL_nil ?_
              refine Then_n ?_
              refine EC_rseq ?_
              refine EL_run rfl (R_lw (hs.at (i := 9) rfl) Try.isAgg30 Try.sizeOf30 rfl (Ptr.size _)) ?_
              refine EL_run rfl (R_move rfl) ?_
              refine EL_op rfl (O_storeW hs (i := 8) rfl sz_30 rfl rfl rfl (Ptr.size _) (Ptr.oneA _) (fun w hs => ?_))
              refine EL_run rfl (R_assign rfl) ?_
              refine EL_nil ?_
              refine EC_ret ?_
              exact ⟨[_, _], ⟨res_cell hs (i := 8) rfl Try.sizeOf30 Try.isAgg30 rfl (Ptr.size _), rfl, trivial⟩, _, _, ⟨{ g with ag := { g.ag with fo := fo2, fc := fc2 } }, by rw [hgv]; rfl, by rw [hgv]; exact alGive_gok hgo1, rfl, rfl⟩, (hs.fin [true, true, true, true, true, true, true, true] [3]).as (by rw [hgv]; rfl) (by rw [hgv]; rfl)⟩
            · (first | have hc67p := of_decide_eq_true hc67 | have hc67p := of_decide_eq_false hc67 | have hc67p := of_decide_eq_false (bnt hc67) | have hc67p := of_decide_eq_true (bnf hc67) | have hc67p := bnt hc67 | have hc67p := bnf hc67 | have hc67p := hc67); try dsimp only at hc67p
              refine EC_skip ?_
              refine Then_n ?_
              have hgv : poLay m b = ({ m with di := (blkWrite m.di at1 m.epoch b).1, al := m1 }, (blkWrite m.di at1 m.epoch b).2) := by rw [hlay, if_neg hc49p, if_neg hc67p]
              refine EC_rseq ?_
              refine EL_run rfl (R_lw (hs.at (i := 9) rfl) Try.isAgg30 Try.sizeOf30 rfl (Ptr.size _)) ?_
              refine EL_run rfl (R_move rfl) ?_
              refine EL_op rfl (O_storeW hs (i := 8) rfl sz_30 rfl rfl rfl (Ptr.size _) (Ptr.oneA _) (fun w hs => ?_))
              refine EL_run rfl (R_assign rfl) ?_
              refine EL_nil ?_
              refine EC_ret ?_
              exact ⟨[_, _], ⟨res_cell hs (i := 8) rfl Try.sizeOf30 Try.isAgg30 rfl (Ptr.size _), rfl, trivial⟩, _, _, ⟨{ g with ag := { g.ag with fo := fo, fc := fc } }, by rw [hgv]; rfl, by rw [hgv]; exact hgo1, rfl, rfl⟩, (hs.fin [true, true, true, true, true, true, true, true] [2]).as (by rw [hgv]; rfl) (by rw [hgv]; rfl)⟩
          exact EP_end
end Go.Proofs.Ytpcojkbljgpecaa
