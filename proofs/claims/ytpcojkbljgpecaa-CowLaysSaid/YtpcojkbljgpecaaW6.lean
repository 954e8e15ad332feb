/- Walks, part 6: which sectors are free. -/
import Derived.Test.YtpcojkbljgpecaaW5
import Derived.Test.YtpcojkbljgpecaaM5
namespace Go.Proofs.Ytpcojkbljgpecaa
open Go
set_option maxRecDepth 100000 in
theorem alNone_spec (a : Nat) (g : AlG) (m : AlM) {w0 : World} : Spec Try.prog 36 #[.pointer (some ⟨a, 0, none⟩)] w0 [blk a (alCells g m) 71] [] (fun v es1 ds1 => v = .bool false ∧ es1 = [blk a (alCells g m) 71] ∧ ds1 = []) := by
  refine Spec.intro (fun F D hs => ?_)
  refine Calls_of_EC (args := [.pointer (some ⟨a, 0, none⟩)]) Try.func36 rfl rfl rfl ?_
  refine EC_rseq ?_
  refine EL_run rfl (R_assign rfl) ?_
  refine EL_nil ?_
  refine EC_rseq ?_
  refine EL_run rfl (R_move rfl) ?_
  refine EL_run rfl (R_eqlPtrNil Try.underlying38 rfl rfl) ?_
  refine EL_run rfl (R_move rfl) ?_
  refine EL_split 5 rfl (fun hg2 => ?_) (fun hg2 => ?_)
  · exact Bool.noConfusion hg2
  · (first | have hg2p := of_decide_eq_true hg2 | have hg2p := of_decide_eq_false hg2 | have hg2p := of_decide_eq_false (bnt hg2) | have hg2p := of_decide_eq_true (bnf hg2) | have hg2p := bnt hg2 | have hg2p := bnf hg2 | have hg2p := hg2); try dsimp only at hg2p
    refine EL_want rfl rfl hg2 ?_
    refine EL_run rfl (R_move rfl) ?_
    refine EL_want rfl rfl hg2 ?_
    refine EL_run rfl (R_nilCheck rfl) ?_
    refine EL_want rfl rfl hg2 ?_
    refine EL_run rfl (R_field fo_71_1 rfl) ?_
    refine EL_want rfl rfl hg2 ?_
    refine EL_run rfl (R_lb (hs.at (i := 0) rfl) Try.isAgg4 rfl rfl) ?_
    refine EL_want rfl rfl hg2 ?_
    refine EL_run rfl (R_not rfl) ?_
    refine EL_run rfl (R_pickF rfl hg2 rfl) ?_
    refine EL_run rfl (R_assign rfl) ?_
    refine EL_nil ?_
    refine EC_ret ?_
    exact ⟨[_], ⟨rfl, trivial⟩, _, _, ⟨rfl, rfl, rfl⟩, (hs.fin [true] []).as rfl rfl⟩

set_option maxRecDepth 100000 in
theorem alWaiting_spec (a : Nat) (g : AlG) (m : AlM) {w0 : World} (hg : g.ok m) (hl : m.waits.length ≤ 100000) : Spec Try.prog 52 #[.pointer (some ⟨a, 0, none⟩)] w0 (alE a g m) [] (fun v es1 ds1 => ∃ vo vc, v = .slice vo (alWaiting m).length vc ∧ es1 = alE a g m ∧ ds1 = [dS vo vc (alWaiting m)]) := by
  refine Spec.intro (fun F D hs => ?_)
  refine Calls_of_EC (args := [.pointer (some ⟨a, 0, none⟩)]) Try.func52 rfl rfl rfl ?_
  refine EC_rseq ?_
  refine EL_run rfl (R_assign rfl) ?_
  refine EL_nil ?_
  refine EC_rseq ?_
  refine EL_run rfl (R_assign rfl) ?_
  refine EL_nil ?_
  refine EC_seq ?_
  refine EC_rseq ?_
  refine EL_run rfl (R_move rfl) ?_
  refine EL_run rfl (R_nilCheck rfl) ?_
  refine EL_run rfl (R_field fo_71_4 rfl) ?_
  refine EL_run rfl (R_lb (hs.at (i := 0) rfl) Try.isAgg69 rfl rfl) ?_
  refine EL_op rfl (O_range hs (i := 1) rfl rfl Try.underlying69 rfl (fun b12 w hb12 hs => ?_))
  have hs := hs.nilD 2
  have hw : ∀ (pre : List Sp), (pre.foldl spAdd []).length ≤ pre.length := fun pre => by have := spFold_len' pre []; simpa using this
  refine EL_nil ?_
  refine EC_block ?_
  refine EC_loop (fun mm ρ w => ∃ (rest : List (Int × Value)) (cur : Option (Int × Value)) (out : List Sp) (oo : Option Addr) (oc : Nat), mm = rest.length ∧ (rest = alMap g m ∧ out = [] ∨ rest = [] ∧ out = alWaiting m) ∧ Slots ρ [(3, .slice oo out.length oc), (12, .pointer (some ⟨b12, 0, none⟩))] ∧ St w0 F D [blk a (alCells g m) 71, rngA b12 g.mb (alMap g m) rest cur, oSl (alW g m) 49 2 m.waits.length (m.waits.flatMap Sp.l)] [dS oo oc out] w) ((alMap g m).length) (⟨alMap g m, none, [], none, 0, rfl, .inl ⟨rfl, rfl⟩, ⟨rfl, rfl, trivial⟩, hs⟩) ?_
  rintro mm ρ w ⟨rest, cur, out, oo, oc, rfl, hro, hsl, hs⟩
  refine EC_slots _ hsl ?_
  refine EC_rseq ?_
  refine EL_op rfl (O_next hs (i := 1) rfl rfl rfl (fun hrest w hs => ?_) (fun p rest2 w hperm hs => ?_))
  · skip
    refine EL_run rfl (R_extract rfl rfl) ?_
    refine EL_nil ?_
    refine EC_seq ?_
    refine EC_cond rfl (fun hcx => ?_) (fun hcx => ?_)
    · exact Bool.noConfusion hcx
    · skip
      refine EC_exit ?_
      refine Then_e ?_
      refine Then_e ?_
      refine InBlock_hit rfl ?_
      refine Then_n ?_
      have hout : out = alWaiting m := by
        rcases hro with ⟨h1, h2⟩ | ⟨_, h2⟩
        · rw [hrest] at h1
          have hh : g.has = false := by
            cases hb : g.has
            · rfl
            · unfold alMap at h1; rw [hb] at h1; cases h1
          have h3 := (hg hh).1
          rw [h2, alWaiting, h3]; rfl
        · exact h2
      subst hout
      have hs := hs.unrange (i := 1) rfl
      refine EC_rseq ?_
      refine EL_run rfl (R_move rfl) ?_
      refine EL_run rfl (R_assign rfl) ?_
      refine EL_nil ?_
      refine EC_ret ?_
      exact ⟨[_], ⟨rfl, trivial⟩, _, _, ⟨_, _, rfl, rfl, rfl⟩, (hs.fin [true, true, true] [0]).as rfl rfl⟩
  · skip
    have hr2 : rest = alMap g m ∧ out = [] := hro.resolve_right (fun h => by rw [h.1] at hperm; have := hperm.length_eq; simp at this)
    have hout := hr2.2
    subst hout
    have hmap : p = (1, alW g m) ∧ rest2 = [] := by
      have h1 := hr2.1 ▸ hperm
      unfold alMap at h1
      split at h1
      · have hl1 := h1.length_eq
        have : rest2 = [] := List.eq_nil_of_length_eq_zero (by simpa using hl1.symm)
        subst this
        exact ⟨(List.singleton_perm_singleton.1 h1).symm, rfl⟩
      · have := h1.length_eq; simp at this
    obtain ⟨hp, hr0⟩ := hmap
    subst hr0
    subst hp
    refine EL_run rfl (R_extract rfl rfl) ?_
    refine EL_nil ?_
    refine EC_seq ?_
    refine EC_cond rfl (fun hcx => ?_) (fun hcx => ?_)
    · skip
      refine EC_skip ?_
      refine Then_n ?_
      refine EC_block ?_
      refine EC_rseq ?_
      refine EL_run rfl (R_entry (hs.at (i := 1) rfl) rfl) ?_
      refine EL_run rfl (R_extract rfl rfl) ?_
      refine EL_run rfl (R_assign rfl) ?_
      refine EL_nil ?_
      refine EC_rseq ?_
      refine EL_run rfl (R_move rfl) ?_
      refine EL_run rfl (R_lenS Try.underlying68 rfl) ?_
      refine EL_run rfl (R_move rfl) ?_
      refine EL_nil ?_
      refine EC_block ?_
      refine EC_loop (fun mm ρ w => ∃ (i : Nat) (oo : Option Addr) (oc : Nat), mm = m.waits.length - i ∧ i ≤ m.waits.length ∧ Slots ρ [(3, .slice oo ((m.waits.take i).foldl spAdd []).length oc), (12, .pointer (some ⟨b12, 0, none⟩)), (17, .slice g.vo m.waits.length g.vc), (18, .int .i64 (m.waits.length : Int)), (19, .int .i64 (i : Int))] ∧ St w0 F D [blk a (alCells g m) 71, rngA b12 g.mb (alMap g m) [] (some (1, alW g m)), oSl (.slice g.vo m.waits.length g.vc) 49 2 m.waits.length (m.waits.flatMap Sp.l)] [dS oo oc ((m.waits.take i).foldl spAdd [])] w) (m.waits.length) (⟨0, oo, oc, by omega, by omega, ⟨rfl, rfl, rfl, rfl, rfl, trivial⟩, hs⟩) ?_
      rintro mm ρ w ⟨i, oo1, oc1, rfl, hi, hsl, hs⟩
      refine EC_slots _ hsl ?_
      have hwi := hw (m.waits.take i)
      rw [List.length_take] at hwi
      refine EC_rseq ?_
      refine EL_run rfl (R_lss rfl rfl) ?_
      refine EL_nil ?_
      refine EC_seq ?_
      refine EC_cond rfl (fun hc20 => ?_) (fun hc20 => ?_)
      · (first | have hc20p := of_decide_eq_true hc20 | have hc20p := of_decide_eq_false hc20 | have hc20p := of_decide_eq_false (bnt hc20) | have hc20p := of_decide_eq_true (bnf hc20) | have hc20p := bnt hc20 | have hc20p := bnf hc20 | have hc20p := hc20); try dsimp only at hc20p
        have hib : i < m.waits.length := by omega
        obtain ⟨bb, oo9, hvo⟩ := dSlsomeF (oSl.toD (hs.at (i := 2) rfl)) Sp.len (by decide) hib
        rw [hvo] at hs
        refine EC_skip ?_
        refine Then_n ?_
        refine EC_seq ?_
        refine EC_block ?_
        refine EC_rseq ?_
        refine EL_run rfl (R_idx es_68 rfl hvo rfl (by omega) (by omega)) ?_
        refine EL_run rfl (R_ldE (oSl.toD (hs.at (i := 2) rfl)) Sp.len Try.isAgg49 Try.sizeOf49 rfl (by simp <;> omega) (List.getElem?_eq_getElem hib) (by decide)) ?_
        refine EL_op rfl (O_alloc hs rfl Try.zeroValue49 (fun b7 w hb7 hs => ?_))
        refine EL_op rfl (O_storeW hs (i := 3) rfl sz_49 rfl rfl rfl rfl (Sp.oneA _) (fun w hs => ?_))
        refine EL_nil ?_
        refine EC_region ?_
        refine EL_run rfl (R_move rfl) ?_
        refine EL_run rfl (R_lw (hs.at (i := 3) rfl) Try.isAgg49 Try.sizeOf49 rfl rfl) ?_
        refine EL_op rfl (O_call hs [] [0] rfl rfl rfl Try.call43 (spAdd_spec oo1 oc1 _ m.waits[i] (by omega)) (fun v es1 ds1 w hPhi hs => ?_))
        obtain ⟨rfl, rfl⟩ := hPhi
        refine EL_run rfl (R_assign rfl) ?_
        obtain ⟨ao9, c9, rfl, hs⟩ := hs.freezeSl (i := 4) rfl
        rw [← hvo] at hs
        refine EL_nil ?_
        refine InBlock_n ?_
        refine Then_n ?_
        refine EC_region ?_
        refine EL_run rfl (R_addI rfl rfl (by omega)) ?_
        refine EL_run rfl (R_move rfl) ?_
        refine EL_nil ?_
        refine Then_n ?_
        exact ⟨m.waits.length - (i + 1), by omega, i + 1, ao9, c9, rfl, by omega, ⟨by rw [List.take_succ_eq_append_getElem hib, List.foldl_append]; rfl, rfl, rfl, rfl, rfl, trivial⟩, (hs.fin [true, true, true] [1]).as rfl (by rw [List.take_succ_eq_append_getElem hib, List.foldl_append]; rfl)⟩
      · (first | have hc20p := of_decide_eq_true hc20 | have hc20p := of_decide_eq_false hc20 | have hc20p := of_decide_eq_false (bnt hc20) | have hc20p := of_decide_eq_true (bnf hc20) | have hc20p := bnt hc20 | have hc20p := bnf hc20 | have hc20p := hc20); try dsimp only at hc20p
        obtain rfl : i = m.waits.length := by omega
        rw [List.take_length] at hs
        obtain ⟨oo2, hoo2⟩ : ∃ z, z = oo1 := ⟨_, rfl⟩
        obtain ⟨oc2, hoc2⟩ : ∃ z, z = oc1 := ⟨_, rfl⟩
        rw [List.take_length]
        subst hoo2
        subst hoc2
        refine EC_exit ?_
        refine Then_e ?_
        refine Then_e ?_
        refine InBlock_hit rfl ?_
        refine InBlock_n ?_
        refine Then_n ?_
        exact ⟨0, by rw [hperm.length_eq]; simp, [], some (1, alW g m), alWaiting m, oo2, oc2, rfl, .inr ⟨rfl, rfl⟩, ⟨rfl, rfl, trivial⟩, hs⟩
    · exact Bool.noConfusion hcx

set_option maxRecDepth 100000 in
theorem alFree_spec (a : Nat) (g : AlG) (m : AlM) {w0 : World} (hm : m.ok) : Spec Try.prog 37 #[.pointer (some ⟨a, 0, none⟩)] w0 [blk a (alCells g m) 71] [dS g.fo g.fc m.free] (fun v es1 ds1 => v = .int .i64 (total m.free) ∧ es1 = [blk a (alCells g m) 71] ∧ ds1 = []) := by
  refine Spec.intro (fun F D hs => ?_)
  refine Calls_of_EC (args := [.pointer (some ⟨a, 0, none⟩)]) Try.func37 rfl rfl rfl ?_
  refine EC_rseq ?_
  refine EL_run rfl (R_assign rfl) ?_
  refine EL_nil ?_
  refine EC_seq ?_
  refine EC_rseq ?_
  refine EL_run rfl (R_move rfl) ?_
  refine EL_op rfl (O_call hs [true] [] rfl rfl rfl Try.call36 (alNone_spec a g m) (fun v es1 ds1 w hPhi hs => ?_))
  obtain ⟨rfl, rfl, rfl⟩ := hPhi
  refine EL_nil ?_
  refine EC_cond rfl (fun hc4 => ?_) (fun hc4 => ?_)
  · exact Bool.noConfusion hc4
  · (first | have hc4p := of_decide_eq_true hc4 | have hc4p := of_decide_eq_false hc4 | have hc4p := of_decide_eq_false (bnt hc4) | have hc4p := of_decide_eq_true (bnf hc4) | have hc4p := bnt hc4 | have hc4p := bnf hc4 | have hc4p := hc4); try dsimp only at hc4p
    refine EC_skip ?_
    refine Then_n ?_
    refine EC_rseq ?_
    refine EL_run rfl (R_move rfl) ?_
    refine EL_run rfl (R_nilCheck rfl) ?_
    refine EL_run rfl (R_field fo_71_3 rfl) ?_
    refine EL_run rfl (R_lb (hs.at (i := 0) rfl) Try.isAgg68 rfl rfl) ?_
    refine EL_op rfl (O_call hs [] [0] rfl rfl rfl Try.call47 (total_spec g.fo g.fc m.free (by have := hm.lf; omega)) (fun v es1 ds1 w hPhi hs => ?_))
    obtain ⟨rfl, rfl, rfl⟩ := hPhi
    refine EL_run rfl (R_assign rfl) ?_
    refine EL_nil ?_
    refine EC_ret ?_
    exact ⟨[_], ⟨rfl, trivial⟩, _, _, ⟨rfl, rfl, rfl⟩, (hs.fin [true] []).as rfl rfl⟩

set_option maxRecDepth 100000 in
theorem alWait_spec (a : Nat) (g : AlG) (m : AlM) {w0 : World} (hg : g.ok m) (hm : m.ok) : Spec Try.prog 38 #[.pointer (some ⟨a, 0, none⟩)] w0 (alE a g m) [] (fun v es1 ds1 => v = .int .i64 (total (alWaiting m)) ∧ es1 = alE a g m ∧ ds1 = []) := by
  refine Spec.intro (fun F D hs => ?_)
  refine Calls_of_EC (args := [.pointer (some ⟨a, 0, none⟩)]) Try.func38 rfl rfl rfl ?_
  refine EC_rseq ?_
  refine EL_run rfl (R_assign rfl) ?_
  refine EL_nil ?_
  refine EC_seq ?_
  refine EC_rseq ?_
  refine EL_run rfl (R_move rfl) ?_
  refine EL_op rfl (O_call hs [true] [] rfl rfl rfl Try.call36 (alNone_spec a g m) (fun v es1 ds1 w hPhi hs => ?_))
  obtain ⟨rfl, rfl, rfl⟩ := hPhi
  refine EL_nil ?_
  refine EC_cond rfl (fun hc4 => ?_) (fun hc4 => ?_)
  · exact Bool.noConfusion hc4
  · (first | have hc4p := of_decide_eq_true hc4 | have hc4p := of_decide_eq_false hc4 | have hc4p := of_decide_eq_false (bnt hc4) | have hc4p := of_decide_eq_true (bnf hc4) | have hc4p := bnt hc4 | have hc4p := bnf hc4 | have hc4p := hc4); try dsimp only at hc4p
    refine EC_skip ?_
    refine Then_n ?_
    refine EC_rseq ?_
    refine EL_run rfl (R_move rfl) ?_
    refine EL_op rfl (O_call hs [true, true, true] [] rfl rfl rfl Try.call52 (alWaiting_spec a g m hg hm.lw) (fun v es1 ds1 w hPhi hs => ?_))
    obtain ⟨vo, vc, rfl, rfl, rfl⟩ := hPhi
    refine EL_op rfl (O_call hs [] [0] rfl rfl rfl Try.call47 (total_spec vo vc (alWaiting m) (by have := hm.lw; have := spFold_len m.waits; unfold alWaiting; omega)) (fun v es1 ds1 w hPhi hs => ?_))
    obtain ⟨rfl, rfl, rfl⟩ := hPhi
    refine EL_run rfl (R_assign rfl) ?_
    refine EL_nil ?_
    refine EC_ret ?_
    exact ⟨[_], ⟨rfl, trivial⟩, _, _, ⟨rfl, rfl, rfl⟩, (hs.fin [true, true, true] []).as rfl rfl⟩

set_option maxRecDepth 100000 in
theorem alUse_spec (a : Nat) (g : AlG) (m : AlM) {w0 : World} (hg : g.ok m) (hm : m.ok) : Spec Try.prog 16 #[.pointer (some ⟨a, 0, none⟩)] w0 (alE a g m) [dS g.fo g.fc m.free] (fun v es1 ds1 => v = .int .i64 (alUse m) ∧ es1 = alE a g m ∧ ds1 = []) := by
  refine Spec.intro (fun F D hs => ?_)
  have hr1 := total_range m.free
  have hr2 := total_range (alWaiting m)
  have hlf := hm.lf
  have hlw := hm.lw
  have hfl := spFold_len m.waits
  have hwl : (alWaiting m).length ≤ m.waits.length := hfl
  have hlo := hm.lo
  refine Calls_of_EC (args := [.pointer (some ⟨a, 0, none⟩)]) Try.func16 rfl rfl rfl ?_
  refine EC_rseq ?_
  refine EL_run rfl (R_assign rfl) ?_
  refine EL_nil ?_
  refine EC_seq ?_
  refine EC_rseq ?_
  refine EL_run rfl (R_move rfl) ?_
  refine EL_op rfl (O_call hs [true] [] rfl rfl rfl Try.call36 (alNone_spec a g m) (fun v es1 ds1 w hPhi hs => ?_))
  obtain ⟨rfl, rfl, rfl⟩ := hPhi
  refine EL_nil ?_
  refine EC_cond rfl (fun hc4 => ?_) (fun hc4 => ?_)
  · exact Bool.noConfusion hc4
  · (first | have hc4p := of_decide_eq_true hc4 | have hc4p := of_decide_eq_false hc4 | have hc4p := of_decide_eq_false (bnt hc4) | have hc4p := of_decide_eq_true (bnf hc4) | have hc4p := bnt hc4 | have hc4p := bnf hc4 | have hc4p := hc4); try dsimp only at hc4p
    refine EC_skip ?_
    refine Then_n ?_
    refine EC_dseqS hs [12, 15] [4, 9] [0] [] (.take 0 (.take 1 (.take 2 (.take 3 (.take 4 (.take 5 (.take 6 (.take 7 (.take 8 (.take 9 (.take 10 (.take 11 (.take 14 (.fork 12 (.take 13 (.fork 15 (.take 16 (.take 17 .done)) (.done))) (.done))))))))))))))) mix_ok (by kernel_rfl) (fun w hs _ => ?_)
    refine EP_take rfl rfl rfl (fun _ => R_move rfl) ?_
    refine EP_take rfl rfl rfl (fun _ => R_nilCheck rfl) ?_
    refine EP_take rfl rfl rfl (fun _ => R_field fo_71_0 rfl) ?_
    refine EP_take rfl rfl rfl (fun _ => R_field fo_49_1 rfl) ?_
    refine EP_read rfl rfl rfl (RdS.of hs rfl rfl) (fun _ hR => R_lb (hR.e 0 rfl rfl) Try.isAgg3 rfl rfl) ?_
    refine EP_take rfl rfl rfl (fun _ => R_move rfl) ?_
    refine EP_take rfl rfl rfl (fun _ => R_nilCheck rfl) ?_
    refine EP_take rfl rfl rfl (fun _ => R_field fo_71_0 rfl) ?_
    refine EP_take rfl rfl rfl (fun _ => R_field fo_49_0 rfl) ?_
    refine EP_read rfl rfl rfl (RdS.of hs rfl rfl) (fun _ hR => R_lb (hR.e 0 rfl rfl) Try.isAgg3 rfl rfl) ?_
    refine EP_take rfl rfl rfl (fun _ => R_subI rfl rfl (by omega)) ?_
    refine EP_take rfl rfl rfl (fun _ => R_move rfl) ?_
    refine EP_take rfl rfl rfl (fun _ => R_move rfl) ?_
    refine EP_act rfl rfl (O_call hs [true] [0] rfl rfl rfl Try.call37 (alFree_spec a g m hm) (fun v es1 ds1 w hPhi hs => ?_))
    obtain ⟨rfl, rfl, rfl⟩ := hPhi
    refine ⟨(fun _ => RdS.of hs rfl rfl), ?_⟩
    refine EP_take rfl rfl rfl (fun _ => R_subI rfl rfl (by omega)) ?_
    refine EP_act rfl rfl (O_call hs [true, true, true] [] rfl rfl rfl Try.call38 (alWait_spec a g m hg hm) (fun v es1 ds1 w hPhi hs => ?_))
    obtain ⟨rfl, rfl, rfl⟩ := hPhi
    refine ⟨(fun _ => RdS.of hs rfl rfl), ?_⟩
    refine EP_take rfl rfl rfl (fun _ => R_subI rfl rfl (by omega)) ?_
    refine EP_take rfl rfl rfl (fun _ => R_assign rfl) ?_
    refine EP_done ?_
    refine EC_ret ?_
    exact ⟨[_], ⟨rfl, trivial⟩, _, _, ⟨rfl, rfl, rfl⟩, (hs.fin [true, true, true] []).as rfl rfl⟩

set_option maxRecDepth 100000 in
theorem alCheck_spec (a : Nat) (g : AlG) (m : AlM) (s : Sp) {w0 : World} : Spec Try.prog 53 #[.pointer (some ⟨a, 0, none⟩), s.val] w0 [blk a (alCells g m) 71] [] (fun v es1 ds1 => v = .int .i64 (alCheck m s) ∧ es1 = [blk a (alCells g m) 71] ∧ ds1 = []) := by
  refine Spec.intro (fun F D hs => ?_)
  refine Calls_of_EC (args := [.pointer (some ⟨a, 0, none⟩), s.val]) Try.func53 rfl rfl rfl ?_
  refine EC_rseq ?_
  refine EL_op rfl (O_box hs rfl rfl (fun b3 w hb3 hs => ?_))
  refine EL_run rfl (R_assign rfl) ?_
  refine EL_nil ?_
  refine EC_seq ?_
  refine EC_block ?_
  refine EC_rseq ?_
  refine EL_run rfl (R_move rfl) ?_
  refine EL_op rfl (O_call hs [true] [] rfl rfl rfl Try.call36 (alNone_spec a g m) (fun v es1 ds1 w hPhi hs => ?_))
  obtain ⟨rfl, rfl, rfl⟩ := hPhi
  refine EL_run rfl (R_assign rfl) ?_
  refine EL_nil ?_
  refine EC_cond rfl (fun hc5 => ?_) (fun hc5 => ?_)
  · exact Bool.noConfusion hc5
  · (first | have hc5p := of_decide_eq_true hc5 | have hc5p := of_decide_eq_false hc5 | have hc5p := of_decide_eq_false (bnt hc5) | have hc5p := of_decide_eq_true (bnf hc5) | have hc5p := bnt hc5 | have hc5p := bnf hc5 | have hc5p := hc5); try dsimp only at hc5p
    refine EC_dseqS hs [] [1, 6, 10, 12, 17, 22] [0, 1] [] (.take 0 (.take 1 (.take 2 (.take 3 (.take 4 (.take 5 (.take 6 (.take 7 (.take 8 (.take 9 (.take 10 (.take 11 (.take 12 (.take 13 (.take 14 (.take 15 (.take 16 (.take 17 (.take 18 (.take 19 (.take 20 (.take 21 (.take 22 (.take 23 (.take 24 (.take 25 .done)))))))))))))))))))))))))) mix_ok (by kernel_rfl) (fun w hs _ => ?_)
    refine EP_take rfl rfl rfl (fun _ => R_field fo_49_0 rfl) ?_
    refine EP_read rfl rfl rfl (RdS.of hs rfl rfl) (fun _ hR => R_lb (hR.e 1 rfl rfl) Try.isAgg3 rfl rfl) ?_
    refine EP_take rfl rfl rfl (fun _ => R_move rfl) ?_
    refine EP_take rfl rfl rfl (fun _ => R_nilCheck rfl) ?_
    refine EP_take rfl rfl rfl (fun _ => R_field fo_71_0 rfl) ?_
    refine EP_take rfl rfl rfl (fun _ => R_field fo_49_0 rfl) ?_
    refine EP_read rfl rfl rfl (RdS.of hs rfl rfl) (fun _ hR => R_lb (hR.e 0 rfl rfl) Try.isAgg3 rfl rfl) ?_
    refine EP_take rfl rfl rfl (fun _ => R_lss rfl rfl) ?_
    refine EP_take rfl rfl rfl (fun _ => R_move rfl) ?_
    refine EP_split 17 rfl (fun hg8 => ?_) (fun hg8 => ?_)
    · (first | have hg8p := of_decide_eq_true hg8 | have hg8p := of_decide_eq_false hg8 | have hg8p := of_decide_eq_false (bnt hg8) | have hg8p := of_decide_eq_true (bnf hg8) | have hg8p := bnt hg8 | have hg8p := bnf hg8 | have hg8p := hg8); try dsimp only at hg8p
      refine EP_passT rfl rfl rfl hg8 rfl (fun _ => RdS.of hs rfl rfl) ?_
      refine EP_passT rfl rfl rfl hg8 rfl (fun _ => RdS.of hs rfl rfl) ?_
      refine EP_passT rfl rfl rfl hg8 rfl (fun _ => RdS.of hs rfl rfl) ?_
      refine EP_passT rfl rfl rfl hg8 rfl (fun _ => RdS.of hs rfl rfl) ?_
      refine EP_passT rfl rfl rfl hg8 rfl (fun _ => RdS.of hs rfl rfl) ?_
      refine EP_take rfl rfl rfl (fun _ => R_pickT rfl hg8 rfl) ?_
      refine EP_take rfl rfl rfl (fun _ => R_move rfl) ?_
      refine EP_passT rfl rfl rfl rfl rfl (fun _ => RdS.of hs rfl rfl) ?_
      refine EP_passT rfl rfl rfl rfl rfl (fun _ => RdS.of hs rfl rfl) ?_
      refine EP_passT rfl rfl rfl rfl rfl (fun _ => RdS.of hs rfl rfl) ?_
      refine EP_passT rfl rfl rfl rfl rfl (fun _ => RdS.of hs rfl rfl) ?_
      refine EP_passT rfl rfl rfl rfl rfl (fun _ => RdS.of hs rfl rfl) ?_
      refine EP_passT rfl rfl rfl rfl rfl (fun _ => RdS.of hs rfl rfl) ?_
      refine EP_passT rfl rfl rfl rfl rfl (fun _ => RdS.of hs rfl rfl) ?_
      refine EP_passT rfl rfl rfl rfl rfl (fun _ => RdS.of hs rfl rfl) ?_
      refine EP_take rfl rfl rfl (fun _ => R_pickT rfl rfl rfl) ?_
      refine EP_take rfl rfl rfl (fun _ => R_assign rfl) ?_
      refine EP_done ?_
      refine EC_cond rfl (fun hcx => ?_) (fun hcx => ?_)
      · skip
        refine EC_rseq ?_
        refine EL_run rfl (R_assign rfl) ?_
        refine EL_nil ?_
        refine EC_ret ?_
        refine InBlock_r ?_
        refine Then_r ?_
        exact ⟨[_], ⟨rfl, trivial⟩, _, _, ⟨by simp only [tupleOf, alCheck]; rw [if_pos (by omega)], rfl, rfl⟩, (hs.fin [true] []).as rfl rfl⟩
      · exact Bool.noConfusion hcx
    · (first | have hg8p := of_decide_eq_true hg8 | have hg8p := of_decide_eq_false hg8 | have hg8p := of_decide_eq_false (bnt hg8) | have hg8p := of_decide_eq_true (bnf hg8) | have hg8p := bnt hg8 | have hg8p := bnf hg8 | have hg8p := hg8); try dsimp only at hg8p
      refine EP_takeG rfl rfl rfl hg8 rfl rfl (fun _ => R_field fo_49_0 rfl) ?_
      refine EP_readG rfl rfl rfl hg8 rfl rfl (RdS.of hs rfl rfl) (fun _ hR => R_lb (hR.e 1 rfl rfl) Try.isAgg3 rfl rfl) ?_
      refine EP_takeG rfl rfl rfl hg8 rfl rfl (fun _ => R_field fo_49_1 rfl) ?_
      refine EP_readG rfl rfl rfl hg8 rfl rfl (RdS.of hs rfl rfl) (fun _ hR => R_lb (hR.e 1 rfl rfl) Try.isAgg3 rfl rfl) ?_
      refine EP_takeG rfl rfl rfl hg8 rfl rfl (fun _ => R_geq rfl rfl) ?_
      refine EP_take rfl rfl rfl (fun _ => R_pickF rfl hg8 rfl) ?_
      refine EP_take rfl rfl rfl (fun _ => R_move rfl) ?_
      refine EP_split 24 rfl (fun hg15 => ?_) (fun hg15 => ?_)
      · (first | have hg15p := of_decide_eq_true hg15 | have hg15p := of_decide_eq_false hg15 | have hg15p := of_decide_eq_false (bnt hg15) | have hg15p := of_decide_eq_true (bnf hg15) | have hg15p := bnt hg15 | have hg15p := bnf hg15 | have hg15p := hg15); try dsimp only at hg15p
        refine EP_passT rfl rfl rfl hg15 rfl (fun _ => RdS.of hs rfl rfl) ?_
        refine EP_passT rfl rfl rfl hg15 rfl (fun _ => RdS.of hs rfl rfl) ?_
        refine EP_passT rfl rfl rfl hg15 rfl (fun _ => RdS.of hs rfl rfl) ?_
        refine EP_passT rfl rfl rfl hg15 rfl (fun _ => RdS.of hs rfl rfl) ?_
        refine EP_passT rfl rfl rfl hg15 rfl (fun _ => RdS.of hs rfl rfl) ?_
        refine EP_passT rfl rfl rfl hg15 rfl (fun _ => RdS.of hs rfl rfl) ?_
        refine EP_passT rfl rfl rfl hg15 rfl (fun _ => RdS.of hs rfl rfl) ?_
        refine EP_passT rfl rfl rfl hg15 rfl (fun _ => RdS.of hs rfl rfl) ?_
        refine EP_take rfl rfl rfl (fun _ => R_pickT rfl hg15 rfl) ?_
        refine EP_take rfl rfl rfl (fun _ => R_assign rfl) ?_
        refine EP_done ?_
        refine EC_cond rfl (fun hcx => ?_) (fun hcx => ?_)
        · skip
          refine EC_rseq ?_
          refine EL_run rfl (R_assign rfl) ?_
          refine EL_nil ?_
          refine EC_ret ?_
          refine InBlock_r ?_
          refine Then_r ?_
          exact ⟨[_], ⟨rfl, trivial⟩, _, _, ⟨by simp only [tupleOf, alCheck]; rw [if_pos (by omega)], rfl, rfl⟩, (hs.fin [true] []).as rfl rfl⟩
        · exact Bool.noConfusion hcx
      · (first | have hg15p := of_decide_eq_true hg15 | have hg15p := of_decide_eq_false hg15 | have hg15p := of_decide_eq_false (bnt hg15) | have hg15p := of_decide_eq_true (bnf hg15) | have hg15p := bnt hg15 | have hg15p := bnf hg15 | have hg15p := hg15); try dsimp only at hg15p
        refine EP_takeG rfl rfl rfl hg15 rfl rfl (fun _ => R_field fo_49_1 rfl) ?_
        refine EP_readG rfl rfl rfl hg15 rfl rfl (RdS.of hs rfl rfl) (fun _ hR => R_lb (hR.e 1 rfl rfl) Try.isAgg3 rfl rfl) ?_
        refine EP_takeG rfl rfl rfl hg15 rfl rfl (fun _ => R_move rfl) ?_
        refine EP_takeG rfl rfl rfl hg15 rfl rfl (fun _ => R_nilCheck rfl) ?_
        refine EP_takeG rfl rfl rfl hg15 rfl rfl (fun _ => R_field fo_71_0 rfl) ?_
        refine EP_takeG rfl rfl rfl hg15 rfl rfl (fun _ => R_field fo_49_1 rfl) ?_
        refine EP_readG rfl rfl rfl hg15 rfl rfl (RdS.of hs rfl rfl) (fun _ hR => R_lb (hR.e 0 rfl rfl) Try.isAgg3 rfl rfl) ?_
        refine EP_takeG rfl rfl rfl hg15 rfl rfl (fun _ => R_gtr rfl rfl) ?_
        refine EP_take rfl rfl rfl (fun _ => R_pickF rfl hg15 rfl) ?_
        refine EP_take rfl rfl rfl (fun _ => R_assign rfl) ?_
        refine EP_done ?_
        refine EC_cond rfl (fun hc8 => ?_) (fun hc8 => ?_)
        · (first | have hc8p := of_decide_eq_true hc8 | have hc8p := of_decide_eq_false hc8 | have hc8p := of_decide_eq_false (bnt hc8) | have hc8p := of_decide_eq_true (bnf hc8) | have hc8p := bnt hc8 | have hc8p := bnf hc8 | have hc8p := hc8); try dsimp only at hc8p
          refine EC_rseq ?_
          refine EL_run rfl (R_assign rfl) ?_
          refine EL_nil ?_
          refine EC_ret ?_
          refine InBlock_r ?_
          refine Then_r ?_
          exact ⟨[_], ⟨rfl, trivial⟩, _, _, ⟨by simp only [tupleOf, alCheck]; rw [if_pos (by omega)], rfl, rfl⟩, (hs.fin [true] []).as rfl rfl⟩
        · (first | have hc8p := of_decide_eq_true hc8 | have hc8p := of_decide_eq_false hc8 | have hc8p := of_decide_eq_false (bnt hc8) | have hc8p := of_decide_eq_true (bnf hc8) | have hc8p := bnt hc8 | have hc8p := bnf hc8 | have hc8p := hc8); try dsimp only at hc8p
          refine EC_skip ?_
          refine InBlock_n ?_
          refine Then_n ?_
          refine EC_rseq ?_
          refine EL_run rfl (R_assign rfl) ?_
          refine EL_nil ?_
          refine EC_ret ?_
          exact ⟨[_], ⟨rfl, trivial⟩, _, _, ⟨by simp only [tupleOf, alCheck]; rw [if_neg (by omega)], rfl, rfl⟩, (hs.fin [true] []).as rfl rfl⟩

set_option maxRecDepth 100000 in
theorem alUsed_spec (a : Nat) (g : AlG) (m : AlM) (s : Sp) {w0 : World} (hg : g.ok m) (hm : m.ok) : Spec Try.prog 40 #[.pointer (some ⟨a, 0, none⟩), s.val] w0 (alE a g m) [dS g.fo g.fc m.free] (fun v es1 ds1 => v = .int .i64 (alUsed m s) ∧ es1 = alE a g m ∧ ds1 = []) := by
  refine Spec.intro (fun F D hs => ?_)
  refine Calls_of_EC (args := [.pointer (some ⟨a, 0, none⟩), s.val]) Try.func40 rfl rfl rfl ?_
  refine EC_rseq ?_
  refine EL_op rfl (O_box hs rfl rfl (fun b3 w hb3 hs => ?_))
  refine EL_run rfl (R_assign rfl) ?_
  refine EL_nil ?_
  refine EC_rseq ?_
  refine EL_run rfl (R_move rfl) ?_
  refine EL_run rfl (R_lw (hs.at (i := 3) rfl) Try.isAgg49 Try.sizeOf49 rfl rfl) ?_
  refine EL_op rfl (O_call hs [true] [] rfl rfl rfl Try.call53 (alCheck_spec a g m s) (fun v es1 ds1 w hPhi hs => ?_))
  obtain ⟨rfl, rfl, rfl⟩ := hPhi
  refine EL_run rfl (R_assign rfl) ?_
  refine EL_nil ?_
  refine EC_seq ?_
  refine EC_dseqS hs [8, 11, 13] [6, 7, 12] [0, 3] [] (.take 0 (.take 1 (.take 2 (.take 3 (.take 4 (.take 5 (.take 6 (.take 7 (.fork 8 (.take 9 (.take 10 (.take 12 (.fork 11 (.fork 13 (.take 14 (.take 15 .done)) (.done)) (.done))))) (.done)))))))))) mix_ok (by kernel_rfl) (fun w hs _ => ?_)
  refine EP_take rfl rfl rfl (fun _ => R_move rfl) ?_
  refine EP_take rfl rfl rfl (fun _ => R_eql rfl rfl) ?_
  refine EP_take rfl rfl rfl (fun _ => R_move rfl) ?_
  refine EP_split 11 rfl (fun hg2 => ?_) (fun hg2 => ?_)
  · (first | have hg2p := of_decide_eq_true hg2 | have hg2p := of_decide_eq_false hg2 | have hg2p := of_decide_eq_false (bnt hg2) | have hg2p := of_decide_eq_true (bnf hg2) | have hg2p := bnt hg2 | have hg2p := bnf hg2 | have hg2p := hg2); try dsimp only at hg2p
    refine EP_takeG rfl rfl rfl hg2 rfl rfl (fun _ => R_move rfl) ?_
    refine EP_takeG rfl rfl rfl hg2 rfl rfl (fun _ => R_nilCheck rfl) ?_
    refine EP_takeG rfl rfl rfl hg2 rfl rfl (fun _ => R_field fo_71_3 rfl) ?_
    refine EP_readG rfl rfl rfl hg2 rfl rfl (RdS.of hs rfl rfl) (fun _ hR => R_lb (hR.e 0 rfl rfl) Try.isAgg68 rfl rfl) ?_
    refine EP_readG rfl rfl rfl hg2 rfl rfl (RdS.of hs rfl rfl) (fun _ hR => R_lw (hR.e 3 rfl rfl) Try.isAgg49 Try.sizeOf49 rfl rfl) ?_
    refine EP_actG rfl rfl rfl hg2 rfl (O_call hs [] [0] rfl rfl rfl Try.call54 (spMeets_spec g.fo g.fc m.free s (by have := hm.lf; omega)) (fun v es1 ds1 w hPhi hs => ?_))
    obtain ⟨rfl, rfl, rfl⟩ := hPhi
    refine ⟨(fun _ => RdS.of hs rfl rfl), ?_⟩
    refine EP_takeG rfl rfl rfl hg2 rfl rfl (fun _ => R_move rfl) ?_
    refine EP_split 18 rfl (fun hg9 => ?_) (fun hg9 => ?_)
    · (first | have hg9p := of_decide_eq_true hg9 | have hg9p := of_decide_eq_false hg9 | have hg9p := of_decide_eq_false (bnt hg9) | have hg9p := of_decide_eq_true (bnf hg9) | have hg9p := bnt hg9 | have hg9p := bnf hg9 | have hg9p := hg9); try dsimp only at hg9p
      refine EP_passT rfl rfl rfl hg9 rfl (fun _ => RdS.of hs rfl rfl) ?_
      refine EP_passT rfl rfl rfl hg9 rfl (fun _ => RdS.of hs rfl rfl) ?_
      refine EP_passF rfl rfl rfl hg9 rfl (fun _ => RdS.of hs rfl rfl) ?_
      refine EP_passF rfl rfl rfl hg9 rfl (fun _ => RdS.of hs rfl rfl) ?_
      refine EP_takeG rfl rfl rfl hg2 rfl rfl (fun _ => R_pickT rfl hg9 rfl) ?_
      refine EP_take rfl rfl rfl (fun _ => R_pickT rfl hg2 rfl) ?_
      refine EP_done ?_
      refine EC_cond rfl (fun hcx => ?_) (fun hcx => ?_)
      · skip
        have hres : alUsed m s = 13 := by
          unfold alUsed
          rw [if_pos hg2p, if_pos (by first | exact .inl hg9p | exact .inr hc24p)]
        refine EC_region ?_
        refine EL_run rfl (R_assign rfl) ?_
        refine EL_nil ?_
        refine Then_n ?_
        first
          | (have hres : alUsed m s = alCheck m s := by
              unfold alUsed
              rw [if_neg hg2p])
          | (have hres : alUsed m s = alCheck m s := by
              unfold alUsed
              rw [if_pos hg2p, if_neg (fun h => h.elim (fun h => Bool.noConfusion (hg9p.symm.trans h)) (fun h => Bool.noConfusion (hc24p.symm.trans h))), hg2p])
          | skip
        refine EC_rseq ?_
        refine EL_run rfl (R_move rfl) ?_
        refine EL_run rfl (R_assign rfl) ?_
        refine EL_nil ?_
        refine EC_ret ?_
        exact ⟨[_], ⟨rfl, trivial⟩, _, _, ⟨by rw [hres]; rfl, rfl, rfl⟩, (hs.fin [true, true, true] []).as rfl rfl⟩
      · exact Bool.noConfusion hcx
    · (first | have hg9p := of_decide_eq_true hg9 | have hg9p := of_decide_eq_false hg9 | have hg9p := of_decide_eq_false (bnt hg9) | have hg9p := of_decide_eq_true (bnf hg9) | have hg9p := bnt hg9 | have hg9p := bnf hg9 | have hg9p := hg9); try dsimp only at hg9p
      refine EP_takeG rfl rfl rfl hg9 rfl rfl (fun _ => R_move rfl) ?_
      refine EP_readG rfl rfl rfl hg9 rfl rfl (RdS.of hs rfl rfl) (fun _ hR => R_lw (hR.e 3 rfl rfl) Try.isAgg49 Try.sizeOf49 rfl rfl) ?_
      refine EP_actG rfl rfl rfl hg9 rfl (O_call hs [true, true, true] [] rfl rfl rfl Try.call52 (alWaiting_spec a g m hg hm.lw) (fun v es1 ds1 w hPhi hs => ?_))
      obtain ⟨vo, vc, rfl, rfl, rfl⟩ := hPhi
      refine ⟨(fun _ => RdS.of hs rfl rfl), ?_⟩
      refine EP_actG rfl rfl rfl hg9 rfl (O_call hs [] [1] rfl rfl rfl Try.call54 (spMeets_spec vo vc (alWaiting m) s (by have := hm.lw; have := spFold_len m.waits; unfold alWaiting; omega)) (fun v es1 ds1 w hPhi hs => ?_))
      obtain ⟨rfl, rfl, rfl⟩ := hPhi
      refine ⟨(fun _ => RdS.of hs rfl rfl), ?_⟩
      refine EP_takeG rfl rfl rfl hg2 rfl rfl (fun _ => R_pickF rfl hg9 rfl) ?_
      refine EP_take rfl rfl rfl (fun _ => R_pickT rfl hg2 rfl) ?_
      refine EP_done ?_
      refine EC_cond rfl (fun hc24 => ?_) (fun hc24 => ?_)
      · (first | have hc24p := of_decide_eq_true hc24 | have hc24p := of_decide_eq_false hc24 | have hc24p := of_decide_eq_false (bnt hc24) | have hc24p := of_decide_eq_true (bnf hc24) | have hc24p := bnt hc24 | have hc24p := bnf hc24 | have hc24p := hc24); try dsimp only at hc24p
        have hres : alUsed m s = 13 := by
          unfold alUsed
          rw [if_pos hg2p, if_pos (by first | exact .inl hg9p | exact .inr hc24p)]
        refine EC_region ?_
        refine EL_run rfl (R_assign rfl) ?_
        refine EL_nil ?_
        refine Then_n ?_
        first
          | (have hres : alUsed m s = alCheck m s := by
              unfold alUsed
              rw [if_neg hg2p])
          | (have hres : alUsed m s = alCheck m s := by
              unfold alUsed
              rw [if_pos hg2p, if_neg (fun h => h.elim (fun h => Bool.noConfusion (hg9p.symm.trans h)) (fun h => Bool.noConfusion (hc24p.symm.trans h))), hg2p])
          | skip
        refine EC_rseq ?_
        refine EL_run rfl (R_move rfl) ?_
        refine EL_run rfl (R_assign rfl) ?_
        refine EL_nil ?_
        refine EC_ret ?_
        exact ⟨[_], ⟨rfl, trivial⟩, _, _, ⟨by rw [hres]; rfl, rfl, rfl⟩, (hs.fin [true, true, true] []).as rfl rfl⟩
      · (first | have hc24p := of_decide_eq_true hc24 | have hc24p := of_decide_eq_false hc24 | have hc24p := of_decide_eq_false (bnt hc24) | have hc24p := of_decide_eq_true (bnf hc24) | have hc24p := bnt hc24 | have hc24p := bnf hc24 | have hc24p := hc24); try dsimp only at hc24p
        refine EC_skip ?_
        refine Then_n ?_
        first
          | (have hres : alUsed m s = alCheck m s := by
              unfold alUsed
              rw [if_neg hg2p])
          | (have hres : alUsed m s = alCheck m s := by
              unfold alUsed
              rw [if_pos hg2p, if_neg (fun h => h.elim (fun h => Bool.noConfusion (hg9p.symm.trans h)) (fun h => Bool.noConfusion (hc24p.symm.trans h))), hg2p])
          | skip
        refine EC_rseq ?_
        refine EL_run rfl (R_move rfl) ?_
        refine EL_run rfl (R_assign rfl) ?_
        refine EL_nil ?_
        refine EC_ret ?_
        exact ⟨[_], ⟨rfl, trivial⟩, _, _, ⟨by rw [hres]; rfl, rfl, rfl⟩, (hs.fin [true, true, true] []).as rfl rfl⟩
  · (first | have hg2p := of_decide_eq_true hg2 | have hg2p := of_decide_eq_false hg2 | have hg2p := of_decide_eq_false (bnt hg2) | have hg2p := of_decide_eq_true (bnf hg2) | have hg2p := bnt hg2 | have hg2p := bnf hg2 | have hg2p := hg2); try dsimp only at hg2p
    refine EP_passT rfl rfl rfl hg2 rfl (fun _ => RdS.of hs rfl rfl) ?_
    refine EP_passT rfl rfl rfl hg2 rfl (fun _ => RdS.of hs rfl rfl) ?_
    refine EP_passT rfl rfl rfl hg2 rfl (fun _ => RdS.of hs rfl rfl) ?_
    refine EP_passT rfl rfl rfl hg2 rfl (fun _ => RdS.of hs rfl rfl) ?_
    refine EP_passT rfl rfl rfl hg2 rfl (fun _ => RdS.of hs rfl rfl) ?_
    refine EP_passF rfl rfl rfl hg2 rfl (fun _ => RdS.of hs rfl rfl) ?_
    refine EP_passT rfl rfl rfl hg2 rfl (fun _ => RdS.of hs rfl rfl) ?_
    refine EP_passTU rfl rfl rfl rfl (fun _ => RdS.of hs rfl rfl) ?_
    refine EP_passTU rfl rfl rfl rfl (fun _ => RdS.of hs rfl rfl) ?_
    refine EP_passFU rfl rfl rfl rfl (fun _ => RdS.of hs rfl rfl) ?_
    refine EP_passFU rfl rfl rfl rfl (fun _ => RdS.of hs rfl rfl) ?_
    refine EP_passT rfl rfl rfl hg2 rfl (fun _ => RdS.of hs rfl rfl) ?_
    refine EP_take rfl rfl rfl (fun _ => R_pickF rfl hg2 rfl) ?_
    refine EP_done ?_
    refine EC_cond rfl (fun hcx => ?_) (fun hcx => ?_)
    · exact Bool.noConfusion hcx
    · skip
      refine EC_skip ?_
      refine Then_n ?_
      first
        | (have hres : alUsed m s = alCheck m s := by
            unfold alUsed
            rw [if_neg hg2p])
        | (have hres : alUsed m s = alCheck m s := by
            unfold alUsed
            rw [if_pos hg2p, if_neg (fun h => h.elim (fun h => Bool.noConfusion (hg9p.symm.trans h)) (fun h => Bool.noConfusion (hc24p.symm.trans h))), hg2p])
        | skip
      refine EC_rseq ?_
      refine EL_run rfl (R_move rfl) ?_
      refine EL_run rfl (R_assign rfl) ?_
      refine EL_nil ?_
      refine EC_ret ?_
      exact ⟨[_], ⟨rfl, trivial⟩, _, _, ⟨by rw [hres]; rfl, rfl, rfl⟩, (hs.fin [true, true, true] []).as rfl rfl⟩

set_option maxRecDepth 100000 in
theorem alGive_spec (a : Nat) (g : AlG) (m : AlM) (s : Sp) {w0 : World} (hg : g.ok m) (hm : m.ok) : Spec Try.prog 35 #[.pointer (some ⟨a, 0, none⟩), s.val] w0 (alE a g m) [dS g.fo g.fc m.free] (fun v es1 ds1 => ∃ fo fc, v = .int .i64 (alGive m s).2 ∧ es1 = alE a { g with fo := fo, fc := fc } (alGive m s).1 ∧ ds1 = [dS fo fc (alGive m s).1.free]) := by
  refine Spec.intro (fun F D hs => ?_)
  refine Calls_of_EC (args := [.pointer (some ⟨a, 0, none⟩), s.val]) Try.func35 rfl rfl rfl ?_
  refine EC_rseq ?_
  refine EL_op rfl (O_box hs rfl rfl (fun b3 w hb3 hs => ?_))
  refine EL_run rfl (R_assign rfl) ?_
  refine EL_nil ?_
  refine EC_rseq ?_
  refine EL_run rfl (R_move rfl) ?_
  refine EL_run rfl (R_lw (hs.at (i := 3) rfl) Try.isAgg49 Try.sizeOf49 rfl rfl) ?_
  refine EL_op rfl (O_call hs [true, true, true] [0] rfl rfl rfl Try.call40 (alUsed_spec a g m s hg hm) (fun v es1 ds1 w hPhi hs => ?_))
  obtain ⟨rfl, rfl, rfl⟩ := hPhi
  refine EL_run rfl (R_assign rfl) ?_
  refine EL_nil ?_
  refine EC_seq ?_
  refine EC_rseq ?_
  refine EL_run rfl (R_move rfl) ?_
  refine EL_run rfl (R_eql rfl rfl) ?_
  refine EL_nil ?_
  refine EC_cond rfl (fun hc10 => ?_) (fun hc10 => ?_)
  · (first | have hc10p := of_decide_eq_true hc10 | have hc10p := of_decide_eq_false hc10 | have hc10p := of_decide_eq_false (bnt hc10) | have hc10p := of_decide_eq_true (bnf hc10) | have hc10p := bnt hc10 | have hc10p := bnf hc10 | have hc10p := hc10); try dsimp only at hc10p
    refine EC_drawS hs [6, 9] [4, 5] [0, 3] [] (.take 0 (.take 1 (.take 2 (.take 3 (.take 4 (.take 5 (.fork 6 (.take 7 (.take 8 (.fork 9 .done (.done)))) (.done)))))))) mix_ok (by kernel_rfl) (fun w hs _ => ?_)
    refine EP_take rfl rfl rfl (fun _ => R_move rfl) ?_
    refine EP_take rfl rfl rfl (fun _ => R_move rfl) ?_
    refine EP_take rfl rfl rfl (fun _ => R_nilCheck rfl) ?_
    refine EP_take rfl rfl rfl (fun _ => R_field fo_71_3 rfl) ?_
    refine EP_read rfl rfl rfl (RdS.of hs rfl rfl) (fun _ hR => R_lb (hR.e 0 rfl rfl) Try.isAgg68 rfl rfl) ?_
    refine EP_read rfl rfl rfl (RdS.of hs rfl rfl) (fun _ hR => R_lw (hR.e 3 rfl rfl) Try.isAgg49 Try.sizeOf49 rfl rfl) ?_
    refine EP_act rfl rfl (O_call hs [] [0] rfl rfl rfl Try.call43 (spAdd_spec g.fo g.fc m.free s (by have := hm.lf; omega)) (fun v es1 ds1 w hPhi hs => ?_))
    obtain ⟨rfl, rfl⟩ := hPhi
    obtain ⟨ao9, c9, rfl, hs⟩ := hs.freezeSl (i := 4) rfl
    refine ⟨(rq_no (by kernel_rfl)), ?_⟩
    refine EP_take rfl rfl rfl (fun _ => R_nilCheck rfl) ?_
    refine EP_take rfl rfl rfl (fun _ => R_field fo_71_3 rfl) ?_
    refine EP_act rfl rfl (O_store hs (i := 0) rfl Try.sizeOf68 rfl rfl rfl rfl (fun w hs => ⟨(rq_no (by kernel_rfl)), ?_⟩))
    refine EP_done ?_
    refine Then_n ?_
    first
      | (have hgv : alGive m s = ({ m with free := spAdd m.free s }, 0) := by rw [alGive, if_pos hc10p])
      | (have hgv : alGive m s = (m, alUsed m s) := by rw [alGive, if_neg hc10p])
    refine EC_rseq ?_
    refine EL_run rfl (R_move rfl) ?_
    refine EL_run rfl (R_assign rfl) ?_
    refine EL_nil ?_
    refine EC_ret ?_
    first
      | exact ⟨[_], ⟨rfl, trivial⟩, _, _, ⟨ao9, c9, by rw [hgv, hc10p]; rfl, rfl, rfl⟩, (hs.fin [true, true, true] [1]).as (by rw [hgv]; rfl) (by rw [hgv]; rfl)⟩
      | exact ⟨[_], ⟨rfl, trivial⟩, _, _, ⟨g.fo, g.fc, by rw [hgv]; rfl, rfl, rfl⟩, (hs.fin [true, true, true] [0]).as (by rw [hgv]; rfl) (by rw [hgv]; rfl)⟩
  · (first | have hc10p := of_decide_eq_true hc10 | have hc10p := of_decide_eq_false hc10 | have hc10p := of_decide_eq_false (bnt hc10) | have hc10p := of_decide_eq_true (bnf hc10) | have hc10p := bnt hc10 | have hc10p := bnf hc10 | have hc10p := hc10); try dsimp only at hc10p
    refine EC_skip ?_
    refine Then_n ?_
    first
      | (have hgv : alGive m s = ({ m with free := spAdd m.free s }, 0) := by rw [alGive, if_pos hc10p])
      | (have hgv : alGive m s = (m, alUsed m s) := by rw [alGive, if_neg hc10p])
    refine EC_rseq ?_
    refine EL_run rfl (R_move rfl) ?_
    refine EL_run rfl (R_assign rfl) ?_
    refine EL_nil ?_
    refine EC_ret ?_
    first
      | exact ⟨[_], ⟨rfl, trivial⟩, _, _, ⟨ao9, c9, by rw [hgv, hc10p]; rfl, rfl, rfl⟩, (hs.fin [true, true, true] [1]).as (by rw [hgv]; rfl) (by rw [hgv]; rfl)⟩
      | exact ⟨[_], ⟨rfl, trivial⟩, _, _, ⟨g.fo, g.fc, by rw [hgv]; rfl, rfl, rfl⟩, (hs.fin [true, true, true] [0]).as (by rw [hgv]; rfl) (by rw [hgv]; rfl)⟩

set_option maxRecDepth 100000 in
theorem alLater_spec (a : Nat) (g : AlG) (m : AlM) (s : Sp) {w0 : World} (hg : g.ok m) (hm : m.ok) : Spec Try.prog 19 #[.pointer (some ⟨a, 0, none⟩), s.val] w0 (alE a g m) [dS g.fo g.fc m.free] (fun v es1 ds1 => ∃ g2 : AlG, v = .int .i64 (alLater m s).2 ∧ g2.ok (alLater m s).1 ∧ (g2.fo = g.fo ∧ g2.fc = g.fc ∧ g2.wo = g.wo ∧ g2.wc = g.wc) ∧ es1 = alE a g2 (alLater m s).1 ∧ ds1 = []) := by
  refine Spec.intro (fun F D hs => ?_)
  refine Calls_of_EC (args := [.pointer (some ⟨a, 0, none⟩), s.val]) Try.func19 rfl rfl rfl ?_
  refine EC_rseq ?_
  refine EL_op rfl (O_box hs rfl rfl (fun b3 w hb3 hs => ?_))
  refine EL_run rfl (R_assign rfl) ?_
  refine EL_nil ?_
  refine EC_rseq ?_
  refine EL_run rfl (R_move rfl) ?_
  refine EL_run rfl (R_lw (hs.at (i := 3) rfl) Try.isAgg49 Try.sizeOf49 rfl rfl) ?_
  refine EL_op rfl (O_call hs [true, true, true] [0] rfl rfl rfl Try.call40 (alUsed_spec a g m s hg hm) (fun v es1 ds1 w hPhi hs => ?_))
  obtain ⟨rfl, rfl, rfl⟩ := hPhi
  refine EL_run rfl (R_assign rfl) ?_
  refine EL_nil ?_
  refine EC_seq ?_
  refine EC_rseq ?_
  refine EL_run rfl (R_move rfl) ?_
  refine EL_run rfl (R_eql rfl rfl) ?_
  refine EL_nil ?_
  refine EC_cond rfl (fun hc10 => ?_) (fun hc10 => ?_)
  · (first | have hc10p := of_decide_eq_true hc10 | have hc10p := of_decide_eq_false hc10 | have hc10p := of_decide_eq_false (bnt hc10) | have hc10p := of_decide_eq_true (bnf hc10) | have hc10p := bnt hc10 | have hc10p := bnf hc10 | have hc10p := hc10); try dsimp only at hc10p
    refine EC_drawS hs [10, 11, 12] [3, 7, 8, 9] [0, 1, 3] [] (.take 0 (.take 1 (.take 2 (.take 3 (.take 4 (.take 5 (.take 6 (.take 7 (.take 8 (.take 9 (.fork 10 (.fork 11 (.fork 12 .done (.done)) (.done)) (.done)))))))))))) mix_ok (by kernel_rfl) (fun w hs _ => ?_)
    refine EP_take rfl rfl rfl (fun _ => R_move rfl) ?_
    refine EP_take rfl rfl rfl (fun _ => R_nilCheck rfl) ?_
    refine EP_take rfl rfl rfl (fun _ => R_field fo_71_4 rfl) ?_
    refine EP_read rfl rfl rfl (RdS.of hs rfl rfl) (fun _ hR => R_lb (hR.e 0 rfl rfl) Try.isAgg69 rfl rfl) ?_
    refine EP_take rfl rfl rfl (fun _ => R_move rfl) ?_
    refine EP_take rfl rfl rfl (fun _ => R_nilCheck rfl) ?_
    refine EP_take rfl rfl rfl (fun _ => R_field fo_71_4 rfl) ?_
    refine EP_read rfl rfl rfl (RdS.of hs rfl rfl) (fun _ hR => R_lb (hR.e 0 rfl rfl) Try.isAgg69 rfl rfl) ?_
    refine EP_read rfl rfl rfl (RdS.of hs rfl rfl) (fun _ hR => R_lookup (hR.e 1 rfl rfl) Try.underlying69 Try.underlying3 Try.zeroValue68 rfl rfl) ?_
    rw [alMap_get hg]
    refine EP_read rfl rfl rfl (RdS.of hs rfl rfl) (fun _ hR => R_lw (hR.e 3 rfl rfl) Try.isAgg49 Try.sizeOf49 rfl rfl) ?_
    refine EP_act rfl rfl (O_buildSlice [.tmp 20] hs rfl ei_68 rfl rfl rfl (sizeN rfl) (by decide) (fun b21 w hb21 hs => ⟨(fun _ => RdS.of hs rfl rfl), ?_⟩))
    refine EP_act rfl rfl (O_append hs (i := 2) rfl rfl ei_68 rfl rfl (Src.own (hs.at (i := 4) rfl)) (by intro u hu; exact Sp.one [s] u (by simpa [Value.cells, Sp.val] using hu)) (by have := hm.lw; omega) (by have := hm.lw; omega) (fun v22 w hs => ?_))
    have hs := hs.asSl (i := 2) rfl (m.waits ++ [s]).length ((m.waits ++ [s]).flatMap Sp.l) (by simp) (by simp [Value.cells, Sp.val])
    obtain ⟨ao9, c9, hv9⟩ := oSl.val (hs.at (i := 2) rfl)
    subst hv9
    refine ⟨(fun _ => RdS.of hs rfl rfl), ?_⟩
    refine EP_act rfl rfl (O_mapUpdate hs (i := 1) rfl Try.underlying69 Try.underlying3 rfl rfl rfl (fun w hs => ⟨(rq_no (by kernel_rfl)), ?_⟩))
    rw [alMap_put] at hs
    refine EP_done ?_
    refine Then_n ?_
    have hgv : alLater m s = ({ m with waits := m.waits ++ [s] }, 0) := by rw [alLater, if_pos hc10p]
    refine EC_rseq ?_
    refine EL_run rfl (R_move rfl) ?_
    refine EL_run rfl (R_assign rfl) ?_
    refine EL_nil ?_
    refine EC_ret ?_
    exact ⟨[_], ⟨rfl, trivial⟩, _, _, ⟨{ g with vo := ao9, vc := c9, has := true }, by rw [hgv]; show Value.int .i64 _ = Value.int .i64 0; rw [hc10p], (by intro h; cases h), ⟨rfl, rfl, rfl, rfl⟩, rfl, rfl⟩, (hs.fin [true, true, true] []).as (by rw [hgv]; rfl) rfl⟩
  · (first | have hc10p := of_decide_eq_true hc10 | have hc10p := of_decide_eq_false hc10 | have hc10p := of_decide_eq_false (bnt hc10) | have hc10p := of_decide_eq_true (bnf hc10) | have hc10p := bnt hc10 | have hc10p := bnf hc10 | have hc10p := hc10); try dsimp only at hc10p
    refine EC_skip ?_
    refine Then_n ?_
    have hgv : alLater m s = (m, alUsed m s) := by rw [alLater, if_neg hc10p]
    refine EC_rseq ?_
    refine EL_run rfl (R_move rfl) ?_
    refine EL_run rfl (R_assign rfl) ?_
    refine EL_nil ?_
    refine EC_ret ?_
    exact ⟨[_], ⟨rfl, trivial⟩, _, _, ⟨g, by rw [hgv]; rfl, by rw [hgv]; exact hg, ⟨rfl, rfl, rfl, rfl⟩, rfl, rfl⟩, (hs.fin [true, true, true] []).as (by rw [hgv]; rfl) rfl⟩

set_option maxRecDepth 100000 in
theorem alTake_spec (a : Nat) (g : AlG) (m : AlM) (n : Int) (sp : Bool) {w0 : World} (hm : m.ok) (hn : -1 ≤ n ∧ n ≤ 1000000) : Spec Try.prog 33 #[.pointer (some ⟨a, 0, none⟩), .int .i64 n, .bool sp] w0 [blk a (alCells g m) 71] [dS g.fo g.fc m.free] (fun v es1 ds1 => ∃ fo fc, v = .tuple #[.int .i64 (alTake m n sp).2.1, .int .i64 (alTake m n sp).2.2] ∧ es1 = [blk a (alCells { g with fo := fo, fc := fc } (alTake m n sp).1) 71] ∧ ds1 = [dS fo fc (alTake m n sp).1.free]) := by
  refine Spec.intro (fun F D hs => ?_)
  refine Calls_of_EC (args := [.pointer (some ⟨a, 0, none⟩), .int .i64 n, .bool sp]) Try.func33 rfl rfl rfl ?_
  refine EC_rseq ?_
  refine EL_run rfl (R_assign rfl) ?_
  refine EL_run rfl (R_assign rfl) ?_
  refine EL_nil ?_
  refine EC_seq ?_
  refine EC_block ?_
  refine EC_rseq ?_
  refine EL_run rfl (R_move rfl) ?_
  refine EL_op rfl (O_call hs [true] [] rfl rfl rfl Try.call36 (alNone_spec a g m) (fun v es1 ds1 w hPhi hs => ?_))
  obtain ⟨rfl, rfl, rfl⟩ := hPhi
  refine EL_run rfl (R_assign rfl) ?_
  refine EL_nil ?_
  refine EC_cond rfl (fun hc9 => ?_) (fun hc9 => ?_)
  · exact Bool.noConfusion hc9
  · (first | have hc9p := of_decide_eq_true hc9 | have hc9p := of_decide_eq_false hc9 | have hc9p := of_decide_eq_false (bnt hc9) | have hc9p := of_decide_eq_true (bnf hc9) | have hc9p := bnt hc9 | have hc9p := bnf hc9 | have hc9p := hc9); try dsimp only at hc9p
    refine EC_rseq ?_
    refine EL_run rfl (R_move rfl) ?_
    refine EL_run rfl (R_lss rfl rfl) ?_
    refine EL_run rfl (R_assign rfl) ?_
    refine EL_nil ?_
    refine EC_cond rfl (fun hc12 => ?_) (fun hc12 => ?_)
    · (first | have hc12p := of_decide_eq_true hc12 | have hc12p := of_decide_eq_false hc12 | have hc12p := of_decide_eq_false (bnt hc12) | have hc12p := of_decide_eq_true (bnf hc12) | have hc12p := bnt hc12 | have hc12p := bnf hc12 | have hc12p := hc12); try dsimp only at hc12p
      have hgv : alTake m n sp = (m, 0, 2) := by rw [alTake, if_pos hc12p]
      refine EC_rseq ?_
      refine EL_run rfl (R_assign rfl) ?_
      refine EL_run rfl (R_assign rfl) ?_
      refine EL_nil ?_
      refine EC_ret ?_
      refine InBlock_r ?_
      refine Then_r ?_
      exact ⟨[_, _], ⟨rfl, rfl, trivial⟩, _, _, ⟨g.fo, g.fc, by rw [hgv]; rfl, rfl, rfl⟩, (hs.fin [true] [0]).as (by rw [hgv]; rfl) (by rw [hgv]; rfl)⟩
    · (first | have hc12p := of_decide_eq_true hc12 | have hc12p := of_decide_eq_false hc12 | have hc12p := of_decide_eq_false (bnt hc12) | have hc12p := of_decide_eq_true (bnf hc12) | have hc12p := bnt hc12 | have hc12p := bnf hc12 | have hc12p := hc12); try dsimp only at hc12p
      refine EC_skip ?_
      refine InBlock_n ?_
      refine Then_n ?_
      refine EC_rseq ?_
      refine EL_run rfl (R_move rfl) ?_
      refine EL_run rfl (R_nilCheck rfl) ?_
      refine EL_run rfl (R_field fo_71_3 rfl) ?_
      refine EL_run rfl (R_lb (hs.at (i := 0) rfl) Try.isAgg68 rfl rfl) ?_
      refine EL_run rfl (R_move rfl) ?_
      refine EL_op rfl (O_call hs [] [0] rfl rfl rfl Try.call46 (spFind_spec g.fo g.fc m.free n (by have := hm.lf; omega) hm.vf) (fun v es1 ds1 w hPhi hs => ?_))
      obtain ⟨rfl, rfl, rfl⟩ := hPhi
      refine EL_run rfl (R_assign rfl) ?_
      refine EL_nil ?_
      refine EC_seq ?_
      have hfr := spFind_le (n := n) hm.vf
      have hr1 := total_range m.free
      have hlf := hm.lf
      generalize hat : spFind m.free n = at_ at *
      generalize htt : total m.free = tt at *
      refine EC_dseqS hs [10] [9, 16] [0] [] (.take 0 (.take 1 (.take 2 (.take 3 (.take 4 (.take 5 (.take 6 (.take 7 (.take 8 (.take 9 (.take 11 (.take 13 (.take 14 (.take 15 (.take 16 (.fork 10 (.take 12 (.take 17 (.take 18 (.take 19 .done)))) (.done))))))))))))))))) mix_ok (by kernel_rfl) (fun w hs _ => ?_)
      refine EP_take rfl rfl rfl (fun _ => R_move rfl) ?_
      refine EP_take rfl rfl rfl (fun _ => R_lss rfl rfl) ?_
      refine EP_take rfl rfl rfl (fun _ => R_move rfl) ?_
      refine EP_split 23 rfl (fun hg2 => ?_) (fun hg2 => ?_)
      · (first | have hg2p := of_decide_eq_true hg2 | have hg2p := of_decide_eq_false hg2 | have hg2p := of_decide_eq_false (bnt hg2) | have hg2p := of_decide_eq_true (bnf hg2) | have hg2p := bnt hg2 | have hg2p := bnf hg2 | have hg2p := hg2); try dsimp only at hg2p
        refine EP_passT rfl rfl rfl hg2 rfl (fun _ => RdS.of hs rfl rfl) ?_
        refine EP_passT rfl rfl rfl hg2 rfl (fun _ => RdS.of hs rfl rfl) ?_
        refine EP_passT rfl rfl rfl hg2 rfl (fun _ => RdS.of hs rfl rfl) ?_
        refine EP_passTU rfl rfl rfl rfl (fun _ => RdS.of hs rfl rfl) ?_
        refine EP_passTU rfl rfl rfl rfl (fun _ => RdS.of hs rfl rfl) ?_
        refine EP_passTU rfl rfl rfl rfl (fun _ => RdS.of hs rfl rfl) ?_
        refine EP_passTU rfl rfl rfl rfl (fun _ => RdS.of hs rfl rfl) ?_
        refine EP_passTU rfl rfl rfl rfl (fun _ => RdS.of hs rfl rfl) ?_
        refine EP_passTU rfl rfl rfl rfl (fun _ => RdS.of hs rfl rfl) ?_
        refine EP_passTU rfl rfl rfl rfl (fun _ => RdS.of hs rfl rfl) ?_
        refine EP_passTU rfl rfl rfl rfl (fun _ => RdS.of hs rfl rfl) ?_
        refine EP_passTU rfl rfl rfl rfl (fun _ => RdS.of hs rfl rfl) ?_
        refine EP_passFU rfl rfl rfl rfl (fun _ => RdS.of hs rfl rfl) ?_
        refine EP_passTU rfl rfl rfl rfl (fun _ => RdS.of hs rfl rfl) ?_
        refine EP_passTU rfl rfl rfl rfl (fun _ => RdS.of hs rfl rfl) ?_
        refine EP_passT rfl rfl rfl hg2 rfl (fun _ => RdS.of hs rfl rfl) ?_
        refine EP_take rfl rfl rfl (fun _ => R_pickT rfl hg2 rfl) ?_
        refine EP_done ?_
        refine EC_cond rfl (fun hcx => ?_) (fun hcx => ?_)
        · skip
          have hgv : alTake m n sp = (m, 0, 15) := by
            rw [alTake, if_neg hc12p, hat, htt, if_pos (by first | exact .inl hg2p | exact .inr ⟨hg5p, hc40p⟩)]
          refine EC_rseq ?_
          refine EL_run rfl (R_assign rfl) ?_
          refine EL_run rfl (R_assign rfl) ?_
          refine EL_nil ?_
          refine EC_ret ?_
          refine Then_r ?_
          exact ⟨[_, _], ⟨rfl, rfl, trivial⟩, _, _, ⟨g.fo, g.fc, by rw [hgv]; rfl, rfl, rfl⟩, (hs.fin [true] [0]).as (by rw [hgv]; rfl) (by rw [hgv]; rfl)⟩
        · exact Bool.noConfusion hcx
      · (first | have hg2p := of_decide_eq_true hg2 | have hg2p := of_decide_eq_false hg2 | have hg2p := of_decide_eq_false (bnt hg2) | have hg2p := of_decide_eq_true (bnf hg2) | have hg2p := bnt hg2 | have hg2p := bnf hg2 | have hg2p := hg2); try dsimp only at hg2p
        refine EP_takeG rfl rfl rfl hg2 rfl rfl (fun _ => R_move rfl) ?_
        refine EP_takeG rfl rfl rfl hg2 rfl rfl (fun _ => R_not rfl) ?_
        refine EP_takeG rfl rfl rfl hg2 rfl rfl (fun _ => R_move rfl) ?_
        refine EP_split 26 rfl (fun hg5 => ?_) (fun hg5 => ?_)
        · (first | have hg5p := of_decide_eq_true hg5 | have hg5p := of_decide_eq_false hg5 | have hg5p := of_decide_eq_false (bnt hg5) | have hg5p := of_decide_eq_true (bnf hg5) | have hg5p := bnt hg5 | have hg5p := bnf hg5 | have hg5p := hg5); try dsimp only at hg5p
          refine EP_takeG rfl rfl rfl hg5 rfl rfl (fun _ => R_move rfl) ?_
          refine EP_takeG rfl rfl rfl hg5 rfl rfl (fun _ => R_nilCheck rfl) ?_
          refine EP_takeG rfl rfl rfl hg5 rfl rfl (fun _ => R_field fo_71_3 rfl) ?_
          refine EP_readG rfl rfl rfl hg5 rfl rfl (RdS.of hs rfl rfl) (fun _ hR => R_lb (hR.e 0 rfl rfl) Try.isAgg68 rfl rfl) ?_
          refine EP_takeG rfl rfl rfl hg5 rfl rfl (fun _ => R_move rfl) ?_
          refine EP_takeG rfl rfl rfl hg5 rfl rfl (fun _ => R_move rfl) ?_
          refine EP_takeG rfl rfl rfl hg5 rfl rfl (fun _ => R_nilCheck rfl) ?_
          refine EP_takeG rfl rfl rfl hg5 rfl rfl (fun _ => R_field fo_71_2 rfl) ?_
          refine EP_readG rfl rfl rfl hg5 rfl rfl (RdS.of hs rfl rfl) (fun _ hR => R_lb (hR.e 0 rfl rfl) Try.isAgg3 rfl rfl) ?_
          refine EP_actG rfl rfl rfl hg5 rfl (O_call hs [] [0] rfl rfl rfl Try.call47 ((htt ▸ total_spec g.fo g.fc m.free (by omega))) (fun v es1 ds1 w hPhi hs => ?_))
          obtain ⟨rfl, rfl, rfl⟩ := hPhi
          refine ⟨(fun _ => RdS.of hs rfl rfl), ?_⟩
          refine EP_takeG rfl rfl rfl hg5 rfl rfl (fun _ => R_subI rfl rfl (by omega)) ?_
          refine EP_takeG rfl rfl rfl hg5 rfl rfl (fun _ => R_lss rfl rfl) ?_
          refine EP_takeG rfl rfl rfl hg2 rfl rfl (fun _ => R_pickT rfl hg5 rfl) ?_
          refine EP_take rfl rfl rfl (fun _ => R_pickF rfl hg2 rfl) ?_
          refine EP_done ?_
          refine EC_cond rfl (fun hc40 => ?_) (fun hc40 => ?_)
          · (first | have hc40p := of_decide_eq_true hc40 | have hc40p := of_decide_eq_false hc40 | have hc40p := of_decide_eq_false (bnt hc40) | have hc40p := of_decide_eq_true (bnf hc40) | have hc40p := bnt hc40 | have hc40p := bnf hc40 | have hc40p := hc40); try dsimp only at hc40p
            have hgv : alTake m n sp = (m, 0, 15) := by
              rw [alTake, if_neg hc12p, hat, htt, if_pos (by first | exact .inl hg2p | exact .inr ⟨hg5p, hc40p⟩)]
            refine EC_rseq ?_
            refine EL_run rfl (R_assign rfl) ?_
            refine EL_run rfl (R_assign rfl) ?_
            refine EL_nil ?_
            refine EC_ret ?_
            refine Then_r ?_
            exact ⟨[_, _], ⟨rfl, rfl, trivial⟩, _, _, ⟨g.fo, g.fc, by rw [hgv]; rfl, rfl, rfl⟩, (hs.fin [true] [0]).as (by rw [hgv]; rfl) (by rw [hgv]; rfl)⟩
          · (first | have hc40p := of_decide_eq_true hc40 | have hc40p := of_decide_eq_false hc40 | have hc40p := of_decide_eq_false (bnt hc40) | have hc40p := of_decide_eq_true (bnf hc40) | have hc40p := bnt hc40 | have hc40p := bnf hc40 | have hc40p := hc40); try dsimp only at hc40p
            refine EC_skip ?_
            refine Then_n ?_
            have hgv : alTake m n sp = ({ m with free := spRemove m.free ⟨at_, at_ + n⟩ }, at_, 0) := by
              rw [alTake, if_neg hc12p, hat, htt, if_neg (by rintro (h | ⟨h1, h2⟩); exact hg2p h; first | exact hc40p h2 | exact Bool.noConfusion (h1.symm.trans hg5p))]
            refine EC_rseq ?_
            refine EL_run rfl (R_move rfl) ?_
            refine EL_run rfl (R_move rfl) ?_
            refine EL_run rfl (R_nilCheck rfl) ?_
            refine EL_run rfl (R_field fo_71_3 rfl) ?_
            refine EL_run rfl (R_lb (hs.at (i := 0) rfl) Try.isAgg68 rfl rfl) ?_
            refine EL_run rfl (R_move rfl) ?_
            refine EL_run rfl (R_move rfl) ?_
            refine EL_run rfl (R_move rfl) ?_
            refine EL_run rfl (R_addI rfl rfl (by omega)) ?_
            refine EL_run rfl (R_buildS (cs := (Sp.mk at_ (at_ + n)).l.toArray) [(0, .tmp 46), (1, .tmp 49)] pl_49 Try.zeroValue49 rfl rfl rfl) ?_
            refine EL_op rfl (O_call hs [] [0] rfl rfl rfl Try.call48 (spRemove_spec g.fo g.fc m.free ⟨at_, at_ + n⟩ (by omega)) (fun v es1 ds1 w hPhi hs => ?_))
            obtain ⟨rfl, rfl⟩ := hPhi
            obtain ⟨ao9, c9, rfl, hs⟩ := hs.freezeSl (i := 1) rfl
            refine EL_run rfl (R_nilCheck rfl) ?_
            refine EL_run rfl (R_field fo_71_3 rfl) ?_
            refine EL_op rfl (O_store hs (i := 0) rfl Try.sizeOf68 rfl rfl rfl rfl (fun w hs => ?_))
            refine EL_nil ?_
            refine EC_rseq ?_
            refine EL_run rfl (R_move rfl) ?_
            refine EL_run rfl (R_assign rfl) ?_
            refine EL_run rfl (R_assign rfl) ?_
            refine EL_nil ?_
            refine EC_ret ?_
            exact ⟨[_, _], ⟨rfl, rfl, trivial⟩, _, _, ⟨ao9, c9, by rw [hgv]; rfl, rfl, rfl⟩, (hs.fin [true] [1]).as (by rw [hgv]; rfl) (by rw [hgv]; rfl)⟩
        · (first | have hg5p := of_decide_eq_true hg5 | have hg5p := of_decide_eq_false hg5 | have hg5p := of_decide_eq_false (bnt hg5) | have hg5p := of_decide_eq_true (bnf hg5) | have hg5p := bnt hg5 | have hg5p := bnf hg5 | have hg5p := hg5); try dsimp only at hg5p
          refine EP_passT rfl rfl rfl hg5 rfl (fun _ => RdS.of hs rfl rfl) ?_
          refine EP_passT rfl rfl rfl hg5 rfl (fun _ => RdS.of hs rfl rfl) ?_
          refine EP_passT rfl rfl rfl hg5 rfl (fun _ => RdS.of hs rfl rfl) ?_
          refine EP_passT rfl rfl rfl hg5 rfl (fun _ => RdS.of hs rfl rfl) ?_
          refine EP_passT rfl rfl rfl hg5 rfl (fun _ => RdS.of hs rfl rfl) ?_
          refine EP_passT rfl rfl rfl hg5 rfl (fun _ => RdS.of hs rfl rfl) ?_
          refine EP_passT rfl rfl rfl hg5 rfl (fun _ => RdS.of hs rfl rfl) ?_
          refine EP_passT rfl rfl rfl hg5 rfl (fun _ => RdS.of hs rfl rfl) ?_
          refine EP_passT rfl rfl rfl hg5 rfl (fun _ => RdS.of hs rfl rfl) ?_
          refine EP_passF rfl rfl rfl hg5 rfl (fun _ => RdS.of hs rfl rfl) ?_
          refine EP_passT rfl rfl rfl hg5 rfl (fun _ => RdS.of hs rfl rfl) ?_
          refine EP_passT rfl rfl rfl hg5 rfl (fun _ => RdS.of hs rfl rfl) ?_
          refine EP_takeG rfl rfl rfl hg2 rfl rfl (fun _ => R_pickF rfl hg5 rfl) ?_
          refine EP_take rfl rfl rfl (fun _ => R_pickF rfl hg2 rfl) ?_
          refine EP_done ?_
          refine EC_cond rfl (fun hcx => ?_) (fun hcx => ?_)
          · exact Bool.noConfusion hcx
          · skip
            refine EC_skip ?_
            refine Then_n ?_
            have hgv : alTake m n sp = ({ m with free := spRemove m.free ⟨at_, at_ + n⟩ }, at_, 0) := by
              rw [alTake, if_neg hc12p, hat, htt, if_neg (by rintro (h | ⟨h1, h2⟩); exact hg2p h; first | exact hc40p h2 | exact Bool.noConfusion (h1.symm.trans hg5p))]
            refine EC_rseq ?_
            refine EL_run rfl (R_move rfl) ?_
            refine EL_run rfl (R_move rfl) ?_
            refine EL_run rfl (R_nilCheck rfl) ?_
            refine EL_run rfl (R_field fo_71_3 rfl) ?_
            refine EL_run rfl (R_lb (hs.at (i := 0) rfl) Try.isAgg68 rfl rfl) ?_
            refine EL_run rfl (R_move rfl) ?_
            refine EL_run rfl (R_move rfl) ?_
            refine EL_run rfl (R_move rfl) ?_
            refine EL_run rfl (R_addI rfl rfl (by omega)) ?_
            refine EL_run rfl (R_buildS (cs := (Sp.mk at_ (at_ + n)).l.toArray) [(0, .tmp 46), (1, .tmp 49)] pl_49 Try.zeroValue49 rfl rfl rfl) ?_
            refine EL_op rfl (O_call hs [] [0] rfl rfl rfl Try.call48 (spRemove_spec g.fo g.fc m.free ⟨at_, at_ + n⟩ (by omega)) (fun v es1 ds1 w hPhi hs => ?_))
            obtain ⟨rfl, rfl⟩ := hPhi
            obtain ⟨ao9, c9, rfl, hs⟩ := hs.freezeSl (i := 1) rfl
            refine EL_run rfl (R_nilCheck rfl) ?_
            refine EL_run rfl (R_field fo_71_3 rfl) ?_
            refine EL_op rfl (O_store hs (i := 0) rfl Try.sizeOf68 rfl rfl rfl rfl (fun w hs => ?_))
            refine EL_nil ?_
            refine EC_rseq ?_
            refine EL_run rfl (R_move rfl) ?_
            refine EL_run rfl (R_assign rfl) ?_
            refine EL_run rfl (R_assign rfl) ?_
            refine EL_nil ?_
            refine EC_ret ?_
            exact ⟨[_, _], ⟨rfl, rfl, trivial⟩, _, _, ⟨ao9, c9, by rw [hgv]; rfl, rfl, rfl⟩, (hs.fin [true] [1]).as (by rw [hgv]; rfl) (by rw [hgv]; rfl)⟩

set_option maxRecDepth 100000 in
theorem alNew_spec (lo hi res : Int) {w0 : World} (h : 0 ≤ lo ∧ lo ≤ hi ∧ hi ≤ 8192 ∧ 0 ≤ res ∧ res ≤ hi - lo) : Spec Try.prog 30 #[.int .i64 lo, .int .i64 hi, .int .i64 res] w0 [] [] (fun v es1 ds1 => ∃ a g, v = .tuple #[.pointer (some ⟨a, 0, none⟩), .int .i64 0] ∧ g.ok ⟨lo, hi, res, spAdd [] ⟨lo, hi⟩, [], spAdd [] ⟨lo, hi⟩⟩ ∧ es1 = alE a g ⟨lo, hi, res, spAdd [] ⟨lo, hi⟩, [], spAdd [] ⟨lo, hi⟩⟩ ∧ ds1 = alD g ⟨lo, hi, res, spAdd [] ⟨lo, hi⟩, [], spAdd [] ⟨lo, hi⟩⟩) := by
  refine Spec.intro (fun F D hs => ?_)
  refine Calls_of_EC (args := [.int .i64 lo, .int .i64 hi, .int .i64 res]) Try.func30 rfl rfl rfl ?_
  refine EC_rseq ?_
  refine EL_run rfl (R_assign rfl) ?_
  refine EL_run rfl (R_assign rfl) ?_
  refine EL_nil ?_
  refine EC_seq ?_
  refine EC_rseq ?_
  refine EL_run rfl (R_move rfl) ?_
  refine EL_run rfl (R_lss rfl rfl) ?_
  refine EL_run rfl (R_move rfl) ?_
  refine EL_split 12 rfl (fun hg2 => ?_) (fun hg2 => ?_)
  · exact absurd (of_decide_eq_true hg2) (by omega)
  · (first | have hg2p := of_decide_eq_true hg2 | have hg2p := of_decide_eq_false hg2 | have hg2p := of_decide_eq_false (bnt hg2) | have hg2p := of_decide_eq_true (bnf hg2) | have hg2p := bnt hg2 | have hg2p := bnf hg2 | have hg2p := hg2); try dsimp only at hg2p
    refine EL_want rfl rfl hg2 ?_
    refine EL_run rfl (R_move rfl) ?_
    refine EL_want rfl rfl hg2 ?_
    refine EL_run rfl (R_move rfl) ?_
    refine EL_want rfl rfl hg2 ?_
    refine EL_run rfl (R_lss rfl rfl) ?_
    refine EL_run rfl (R_pickF rfl hg2 rfl) ?_
    refine EL_run rfl (R_move rfl) ?_
    refine EL_split 17 rfl (fun hg7 => ?_) (fun hg7 => ?_)
    · exact absurd (of_decide_eq_true hg7) (by omega)
    · (first | have hg7p := of_decide_eq_true hg7 | have hg7p := of_decide_eq_false hg7 | have hg7p := of_decide_eq_false (bnt hg7) | have hg7p := of_decide_eq_true (bnf hg7) | have hg7p := bnt hg7 | have hg7p := bnf hg7 | have hg7p := hg7); try dsimp only at hg7p
      refine EL_want rfl rfl hg7 ?_
      refine EL_run rfl (R_move rfl) ?_
      refine EL_want rfl rfl hg7 ?_
      refine EL_run rfl (R_gtr rfl rfl) ?_
      refine EL_run rfl (R_pickF rfl hg7 rfl) ?_
      refine EL_run rfl (R_move rfl) ?_
      refine EL_split 21 rfl (fun hg11 => ?_) (fun hg11 => ?_)
      · exact absurd (of_decide_eq_true hg11) (by omega)
      · (first | have hg11p := of_decide_eq_true hg11 | have hg11p := of_decide_eq_false hg11 | have hg11p := of_decide_eq_false (bnt hg11) | have hg11p := of_decide_eq_true (bnf hg11) | have hg11p := bnt hg11 | have hg11p := bnf hg11 | have hg11p := hg11); try dsimp only at hg11p
        refine EL_want rfl rfl hg11 ?_
        refine EL_run rfl (R_move rfl) ?_
        refine EL_want rfl rfl hg11 ?_
        refine EL_run rfl (R_lss rfl rfl) ?_
        refine EL_run rfl (R_pickF rfl hg11 rfl) ?_
        refine EL_run rfl (R_move rfl) ?_
        refine EL_split 25 rfl (fun hg15 => ?_) (fun hg15 => ?_)
        · exact absurd (of_decide_eq_true hg15) (by omega)
        · (first | have hg15p := of_decide_eq_true hg15 | have hg15p := of_decide_eq_false hg15 | have hg15p := of_decide_eq_false (bnt hg15) | have hg15p := of_decide_eq_true (bnf hg15) | have hg15p := bnt hg15 | have hg15p := bnf hg15 | have hg15p := hg15); try dsimp only at hg15p
          refine EL_want rfl rfl hg15 ?_
          refine EL_run rfl (R_move rfl) ?_
          refine EL_want rfl rfl hg15 ?_
          refine EL_run rfl (R_move rfl) ?_
          refine EL_want rfl rfl hg15 ?_
          refine EL_run rfl (R_move rfl) ?_
          refine EL_want rfl rfl hg15 ?_
          refine EL_run rfl (R_subI rfl rfl (by omega)) ?_
          refine EL_want rfl rfl hg15 ?_
          refine EL_run rfl (R_gtr rfl rfl) ?_
          refine EL_run rfl (R_pickF rfl hg15 rfl) ?_
          refine EL_nil ?_
          refine EC_cond rfl (fun hc31 => ?_) (fun hc31 => ?_)
          · exact absurd (of_decide_eq_true hc31) (by omega)
          · (first | have hc31p := of_decide_eq_true hc31 | have hc31p := of_decide_eq_false hc31 | have hc31p := of_decide_eq_false (bnt hc31) | have hc31p := of_decide_eq_true (bnf hc31) | have hc31p := bnt hc31 | have hc31p := bnf hc31 | have hc31p := hc31); try dsimp only at hc31p
            refine EC_skip ?_
            refine Then_n ?_
            refine EC_rseq ?_
            refine EL_run rfl (R_move rfl) ?_
            refine EL_run rfl (R_move rfl) ?_
            refine EL_run rfl (R_buildS (cs := (Sp.mk lo hi).l.toArray) [(0, .tmp 32), (1, .tmp 33)] pl_49 Try.zeroValue49 rfl rfl rfl) ?_
            refine EL_op rfl (O_alloc hs rfl Try.zeroValue49 (fun b8 w hb8 hs => ?_))
            refine EL_op rfl (O_storeW hs (i := 0) rfl sz_49 rfl rfl rfl rfl (Sp.oneA _) (fun w hs => ?_))
            refine EL_nil ?_
            have hs := hs.nilD 2
            refine EC_rseq ?_
            refine EL_run rfl (R_lw (hs.at (i := 0) rfl) Try.isAgg49 Try.sizeOf49 rfl rfl) ?_
            refine EL_op rfl (O_call hs [] [0] rfl rfl rfl Try.call43 (spAdd_spec none 0 [] ⟨lo, hi⟩ (by simp)) (fun v es1 ds1 w hPhi hs => ?_))
            obtain ⟨rfl, rfl⟩ := hPhi
            obtain ⟨ao9, c9, rfl, hs⟩ := hs.freezeSl (i := 1) rfl
            generalize spAdd [] ⟨lo, hi⟩ = fr at *
            refine EL_run rfl (R_assign rfl) ?_
            refine EL_nil ?_
            refine EC_rseq ?_
            refine EL_run rfl (R_lw (hs.at (i := 0) rfl) Try.isAgg49 Try.sizeOf49 rfl rfl) ?_
            refine EL_run rfl (R_move rfl) ?_
            refine EL_run rfl (R_move rfl) ?_
            refine EL_op rfl (O_makeMap hs rfl (fun b40 w hb40 hs => ?_))
            refine EL_run rfl (R_move rfl) ?_
            refine EL_run rfl (R_buildS (cs := (alCells ⟨b40, none, 0, false, ao9, c9, ao9, c9⟩ ⟨lo, hi, res, fr, [], fr⟩)) [(0, .tmp 37), (1, .const (.bool true)), (2, .tmp 38), (3, .tmp 39), (4, .tmp 40), (5, .tmp 41)] pl_71 Try.zeroValue71 rfl rfl (by kernel_rfl)) ?_
            refine EL_op rfl (O_box hs rfl rfl (fun b43 w hb43 hs => ?_))
            refine EL_run rfl (R_assign rfl) ?_
            have hs := ((hs.nilSl 49 2).fin [false, true, true, true] [1]).swap01
            refine EL_run rfl (R_assign rfl) ?_
            refine EL_nil ?_
            refine EC_ret ?_
            exact ⟨[_, _], ⟨rfl, rfl, trivial⟩, _, _, ⟨b43, ⟨b40, none, 0, false, ao9, c9, ao9, c9⟩, rfl, (fun _ => ⟨rfl, rfl, rfl⟩), rfl, rfl⟩, (hs.fin [true, true, true] [0, 0]).as rfl rfl⟩
end Go.Proofs.Ytpcojkbljgpecaa
