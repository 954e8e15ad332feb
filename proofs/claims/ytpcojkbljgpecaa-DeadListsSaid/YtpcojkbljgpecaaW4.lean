/- Walks, part 4: pointers to blocks. -/
import Derived.Test.YtpcojkbljgpecaaW2
import Derived.Test.YtpcojkbljgpecaaW3
import Derived.Test.YtpcojkbljgpecaaM3
namespace Go.Proofs.Ytpcojkbljgpecaa
open Go
theorem of_fill (pos birth : Int) (b : BL) : Instr.fill (fun i => [(0, 1), (1, 1), (2, 1), (3, 1), (4, 32)][i]?) Ptr.none.cells [(0, .int .i64 pos), (1, .int .i64 birth), (2, .int .i64 (b.length : Int)), (3, V32 (crcSum b)), (4, .agg (u8s (shaSum b)).toArray)] = some (Ptr.of pos birth b).cells := by
  have h := fill_consec (fun i => [(0, 1), (1, 1), (2, 1), (3, 1), (4, 32)][i]?) [.int .i64 pos, .int .i64 birth, .int .i64 (b.length : Int), V32 (crcSum b), .agg (u8s (shaSum b)).toArray] 0 0 Ptr.none.cells (fun j v hj => by
    match j with
    | 0 => cases hj; rfl
    | 1 => cases hj; rfl
    | 2 => cases hj; rfl
    | 3 => cases hj; rfl
    | 4 =>
      cases hj
      simp [Value.cells, V32, u8s, shaSum_len]
    | j + 5 => simp at hj) (by
    simp [Value.cells, V32, u8s, shaSum_len]; rfl)
  exact h.trans (by congr 1; simp [Ptr.of, Ptr.cells, Ptr.l, Value.cells, V32])

set_option maxRecDepth 100000 in
theorem sectors_spec (p : Ptr) {w0 : World} : Spec Try.prog 17 #[p.val] w0 [] [] (fun v es1 ds1 => v = .int .i64 (sectors p.len) ∧ es1 = [] ∧ ds1 = []) := by
 refine Spec.intro (fun F D hs => ?_)
 refine Calls_of_EC (args := [p.val]) Try.func17 rfl rfl rfl ?_
 refine EC_rseq ?_
 refine EL_op rfl (O_box hs rfl rfl (fun b1 w hb1 hs => ?_))
 refine EL_run rfl (R_assign rfl) ?_
 refine EL_nil ?_
 refine EC_seq ?_
 refine EC_rseq ?_
 refine EL_run rfl (R_field fo_30_2 rfl) ?_
 refine EL_run rfl (R_lb (hs.at (i := 0) rfl) Try.isAgg3 rfl rfl) ?_
 refine EL_run rfl (R_lss rfl rfl) ?_
 refine EL_run rfl (R_move rfl) ?_
 refine EL_split 6 rfl (fun hg3 => ?_) (fun hg3 => ?_)
 ·have hg3p := cvt hg3; try dsimp only at hg3p
  refine EL_pass rfl rfl rfl hg3 ?_
  refine EL_pass rfl rfl rfl hg3 ?_
  refine EL_pass rfl rfl rfl hg3 ?_
  refine EL_run rfl (R_pickT rfl hg3 rfl) ?_
  refine EL_nil ?_
  refine EC_cond rfl (fun hcx => ?_) (fun hcx => ?_)
  ·skip
   refine EC_rseq ?_
   refine EL_run rfl (R_assign rfl) ?_
   refine EL_nil ?_
   refine EC_ret ?_
   refine Then_r ?_
   exact ⟨[_], ⟨rfl, trivial⟩, _, _, ⟨by simp only [tupleOf, sectors]; congr 1; split <;> omega, rfl, rfl⟩, (hs.fin [] []).as rfl rfl⟩
  ·exact Bool.noConfusion hcx
 ·have hg3p := cvt hg3; try dsimp only at hg3p
  refine EL_want rfl rfl hg3 ?_
  refine EL_run rfl (R_field fo_30_2 rfl) ?_
  refine EL_want rfl rfl hg3 ?_
  refine EL_run rfl (R_lb (hs.at (i := 0) rfl) Try.isAgg3 rfl rfl) ?_
  refine EL_want rfl rfl hg3 ?_
  refine EL_run rfl (R_gtr rfl rfl) ?_
  refine EL_run rfl (R_pickF rfl hg3 rfl) ?_
  refine EL_nil ?_
  refine EC_cond rfl (fun hc10 => ?_) (fun hc10 => ?_)
  ·have hc10p := cvt hc10; try dsimp only at hc10p
   refine EC_rseq ?_
   refine EL_run rfl (R_assign rfl) ?_
   refine EL_nil ?_
   refine EC_ret ?_
   refine Then_r ?_
   exact ⟨[_], ⟨rfl, trivial⟩, _, _, ⟨by simp only [tupleOf, sectors]; congr 1; split <;> omega, rfl, rfl⟩, (hs.fin [] []).as rfl rfl⟩
  ·have hc10p := cvt hc10; try dsimp only at hc10p
   refine EC_skip ?_
   refine Then_n ?_
   refine EC_rseq ?_
   refine EL_run rfl (R_field fo_30_2 rfl) ?_
   refine EL_run rfl (R_lb (hs.at (i := 0) rfl) Try.isAgg3 rfl rfl) ?_
   refine EL_run rfl (R_addI rfl rfl (by omega)) ?_
   refine EL_run rfl (R_subI rfl rfl (by omega)) ?_
   refine EL_run rfl (R_quoI rfl rfl (by omega) (by omega) (by omega)) ?_
   refine EL_run rfl (R_assign rfl) ?_
   refine EL_nil ?_
   refine EC_ret ?_
   exact ⟨[_], ⟨rfl, trivial⟩, _, _, ⟨by simp only [tupleOf, sectors]; congr 1; split <;> omega, rfl, rfl⟩, (hs.fin [] []).as rfl rfl⟩

set_option maxRecDepth 100000 in
theorem rightIn_spec (a b c : Int) {w0 : World} : Spec Try.prog 45 #[.int .i64 a, .int .i64 b, .int .i64 c] w0 [] [] (fun v es1 ds1 => v = .bool (decide (b ≤ a ∧ a ≤ c)) ∧ es1 = [] ∧ ds1 = []) := by
 refine Spec.intro (fun F D hs => ?_)
 refine Calls_of_EC (args := [.int .i64 a, .int .i64 b, .int .i64 c]) Try.func45 rfl rfl rfl ?_
 refine EC_rseq ?_
 refine EL_run rfl (R_assign rfl) ?_
 refine EL_nil ?_
 refine EC_rseq ?_
 refine EL_run rfl (R_move rfl) ?_
 refine EL_run rfl (R_move rfl) ?_
 refine EL_run rfl (R_geq rfl rfl) ?_
 refine EL_run rfl (R_move rfl) ?_
 refine EL_split 10 rfl (fun hg3 => ?_) (fun hg3 => ?_)
 ·have hg3p := cvt hg3; try dsimp only at hg3p
  refine EL_want rfl rfl hg3 ?_
  refine EL_run rfl (R_move rfl) ?_
  refine EL_want rfl rfl hg3 ?_
  refine EL_run rfl (R_move rfl) ?_
  refine EL_want rfl rfl hg3 ?_
  refine EL_run rfl (R_leq rfl rfl) ?_
  refine EL_run rfl (R_pickT rfl hg3 rfl) ?_
  refine EL_run rfl (R_assign rfl) ?_
  refine EL_nil ?_
  refine EC_ret ?_
  exact ⟨[_], ⟨rfl, trivial⟩, _, _, ⟨by simp only [tupleOf]; congr 1; simp; omega, rfl, rfl⟩, (hs.fin [] []).as rfl rfl⟩
 ·have hg3p := cvt hg3; try dsimp only at hg3p
  refine EL_pass rfl rfl rfl hg3 ?_
  refine EL_pass rfl rfl rfl hg3 ?_
  refine EL_pass rfl rfl rfl hg3 ?_
  refine EL_run rfl (R_pickF rfl hg3 rfl) ?_
  refine EL_run rfl (R_assign rfl) ?_
  refine EL_nil ?_
  refine EC_ret ?_
  exact ⟨[_], ⟨rfl, trivial⟩, _, _, ⟨by simp only [tupleOf]; congr 1; simp; omega, rfl, rfl⟩, (hs.fin [] []).as rfl rfl⟩

set_option maxRecDepth 100000 in
theorem right_spec (p : Ptr) {w0 : World} : Spec Try.prog 32 #[p.val] w0 [] [] (fun v es1 ds1 => v = .bool p.right ∧ es1 = [] ∧ ds1 = []) := by
 refine Spec.intro (fun F D hs => ?_)
 refine Calls_of_EC (args := [p.val]) Try.func32 rfl rfl rfl ?_
 refine EC_rseq ?_
 refine EL_op rfl (O_box hs rfl rfl (fun b1 w hb1 hs => ?_))
 refine EL_run rfl (R_assign rfl) ?_
 refine EL_nil ?_
 refine EC_rseq ?_
 refine EL_run rfl (R_assign rfl) ?_
 refine EL_nil ?_
 refine EC_dseqS hs [3, 6, 14, 16] [2, 5, 12, 13] [0] [] (.take 0 (.take 1 (.take 2 (.fork 3 (.take 4 (.take 5 (.fork 6 (.take 7 (.take 8 (.take 9 (.take 10 (.take 11 (.take 12 (.take 13 (.fork 14 (.take 15 (.fork 16 (.take 17 (.take 18 .done)) (.done))) (.done))))))))) (.done)))) (.done))))) mix_ok (by kernel_rfl) (fun w hs _ => ?_)
 refine EP_take rfl rfl rfl (fun _ => R_move rfl) ?_
 refine EP_take rfl rfl rfl (fun _ => R_field fo_30_1 rfl) ?_
 refine EP_read rfl rfl rfl (RdS.of hs rfl rfl) (fun _ hR => R_lb (hR.e 0 rfl rfl) Try.isAgg3 rfl rfl) ?_
 refine EP_act rfl rfl (O_call hs [] [] rfl rfl rfl Try.call45 (rightIn_spec p.birth 1 1152921504606846976) (fun v es1 ds1 w hPhi hs => ?_))
 obtain ⟨rfl, rfl, rfl⟩ := hPhi
 refine ⟨(fun _ => RdS.of hs rfl rfl), ?_⟩
 refine EP_take rfl rfl rfl (fun _ => R_move rfl) ?_
 refine EP_split 8 rfl (fun hg4 => ?_) (fun hg4 => ?_)
 ·have hg4p := cvt hg4; try dsimp only at hg4p
  refine EP_readG rfl rfl rfl hg4 rfl rfl (RdS.of hs rfl rfl) (fun _ hR => R_lw (hR.e 0 rfl rfl) Try.isAgg30 Try.sizeOf30 rfl (Ptr.size p)) ?_
  refine EP_actG rfl rfl rfl hg4 rfl (O_call hs [] [] rfl rfl rfl Try.call17 (sectors_spec p) (fun v es1 ds1 w hPhi hs => ?_))
  obtain ⟨rfl, rfl, rfl⟩ := hPhi
  refine ⟨(fun _ => RdS.of hs rfl rfl), ?_⟩
  refine EP_takeG rfl rfl rfl hg4 rfl rfl (fun _ => R_gtr rfl rfl) ?_
  refine EP_take rfl rfl rfl (fun _ => R_pickT rfl hg4 rfl) ?_
  refine EP_take rfl rfl rfl (fun _ => R_move rfl) ?_
  refine EP_split 13 rfl (fun hg9 => ?_) (fun hg9 => ?_)
  ·have hg9p := cvt hg9; try dsimp only at hg9p
   refine EP_takeG rfl rfl rfl hg9 rfl rfl (fun _ => R_move rfl) ?_
   refine EP_takeG rfl rfl rfl hg9 rfl rfl (fun _ => R_field fo_30_0 rfl) ?_
   refine EP_readG rfl rfl rfl hg9 rfl rfl (RdS.of hs rfl rfl) (fun _ hR => R_lb (hR.e 0 rfl rfl) Try.isAgg3 rfl rfl) ?_
   refine EP_readG rfl rfl rfl hg9 rfl rfl (RdS.of hs rfl rfl) (fun _ hR => R_lw (hR.e 0 rfl rfl) Try.isAgg30 Try.sizeOf30 rfl (Ptr.size p)) ?_
   refine EP_actG rfl rfl rfl hg9 rfl (O_call hs [] [] rfl rfl rfl Try.call17 (sectors_spec p) (fun v es1 ds1 w hPhi hs => ?_))
   obtain ⟨rfl, rfl, rfl⟩ := hPhi
   have hsr := sectors_range p.len
   refine ⟨(fun _ => RdS.of hs rfl rfl), ?_⟩
   refine EP_takeG rfl rfl rfl hg9 rfl rfl (fun _ => R_subI rfl rfl (by omega)) ?_
   refine EP_actG rfl rfl rfl hg9 rfl (O_call hs [] [] rfl rfl rfl Try.call45 (rightIn_spec p.pos 2 (8192 - sectors p.len)) (fun v es1 ds1 w hPhi hs => ?_))
   obtain ⟨rfl, rfl, rfl⟩ := hPhi
   refine ⟨(fun _ => RdS.of hs rfl rfl), ?_⟩
   refine EP_take rfl rfl rfl (fun _ => R_pickT rfl hg9 rfl) ?_
   refine EP_take rfl rfl rfl (fun _ => R_assign rfl) ?_
   refine EP_done ?_
   refine EC_ret ?_
   exact ⟨[_], ⟨rfl, trivial⟩, _, _, ⟨by simp only [tupleOf, Ptr.right]; congr 1; simp_all <;> omega, rfl, rfl⟩, (hs.fin [] []).as rfl rfl⟩
  ·have hg9p := cvt hg9; try dsimp only at hg9p
   refine EP_passT rfl rfl rfl hg9 rfl (fun _ => RdS.of hs rfl rfl) ?_
   refine EP_passT rfl rfl rfl hg9 rfl (fun _ => RdS.of hs rfl rfl) ?_
   refine EP_passT rfl rfl rfl hg9 rfl (fun _ => RdS.of hs rfl rfl) ?_
   refine EP_passT rfl rfl rfl hg9 rfl (fun _ => RdS.of hs rfl rfl) ?_
   refine EP_passF rfl rfl rfl hg9 rfl (fun _ => RdS.of hs rfl rfl) ?_
   refine EP_passT rfl rfl rfl hg9 rfl (fun _ => RdS.of hs rfl rfl) ?_
   refine EP_passF rfl rfl rfl hg9 rfl (fun _ => RdS.of hs rfl rfl) ?_
   refine EP_take rfl rfl rfl (fun _ => R_pickF rfl hg9 rfl) ?_
   refine EP_take rfl rfl rfl (fun _ => R_assign rfl) ?_
   refine EP_done ?_
   refine EC_ret ?_
   exact ⟨[_], ⟨rfl, trivial⟩, _, _, ⟨by simp only [tupleOf, Ptr.right]; congr 1; simp_all <;> omega, rfl, rfl⟩, (hs.fin [] []).as rfl rfl⟩
 ·have hg4p := cvt hg4; try dsimp only at hg4p
  refine EP_passT rfl rfl rfl hg4 rfl (fun _ => RdS.of hs rfl rfl) ?_
  refine EP_passF rfl rfl rfl hg4 rfl (fun _ => RdS.of hs rfl rfl) ?_
  refine EP_passT rfl rfl rfl hg4 rfl (fun _ => RdS.of hs rfl rfl) ?_
  refine EP_take rfl rfl rfl (fun _ => R_pickF rfl hg4 rfl) ?_
  refine EP_take rfl rfl rfl (fun _ => R_move rfl) ?_
  refine EP_passT rfl rfl rfl rfl rfl (fun _ => RdS.of hs rfl rfl) ?_
  refine EP_passT rfl rfl rfl rfl rfl (fun _ => RdS.of hs rfl rfl) ?_
  refine EP_passT rfl rfl rfl rfl rfl (fun _ => RdS.of hs rfl rfl) ?_
  refine EP_passT rfl rfl rfl rfl rfl (fun _ => RdS.of hs rfl rfl) ?_
  refine EP_passF rfl rfl rfl rfl rfl (fun _ => RdS.of hs rfl rfl) ?_
  refine EP_passT rfl rfl rfl rfl rfl (fun _ => RdS.of hs rfl rfl) ?_
  refine EP_passF rfl rfl rfl rfl rfl (fun _ => RdS.of hs rfl rfl) ?_
  refine EP_take rfl rfl rfl (fun _ => R_pickF rfl rfl rfl) ?_
  refine EP_take rfl rfl rfl (fun _ => R_assign rfl) ?_
  refine EP_done ?_
  refine EC_ret ?_
  exact ⟨[_], ⟨rfl, trivial⟩, _, _, ⟨by simp only [tupleOf, Ptr.right]; congr 1; simp_all <;> omega, rfl, rfl⟩, (hs.fin [] []).as rfl rfl⟩

set_option maxRecDepth 100000 in
theorem of_spec (pos birth : Int) (ao : Option Addr) (c : Nat) (b : BL) {w0 : World} (hb : b.length ≤ 1000000000) : Spec Try.prog 51 #[.int .i64 pos, .int .i64 birth, .slice ao b.length c] w0 [] [dB ao c b] (fun v es1 ds1 => v = (Ptr.of pos birth b).val ∧ es1 = [] ∧ ds1 = []) := by
 refine Spec.intro (fun F D hs => ?_)
 refine Calls_of_EC (args := [.int .i64 pos, .int .i64 birth, .slice ao b.length c]) Try.func51 rfl rfl rfl ?_
 refine EC_rseq ?_
 refine EL_op rfl (O_alloc hs rfl Try.zeroValue30 (fun b6 w hb6 hs => ?_))
 refine EL_nil ?_
 refine EC_rseq ?_
 refine EL_run rfl (R_move rfl) ?_
 refine EL_run rfl (R_move rfl) ?_
 refine EL_run rfl (R_move rfl) ?_
 refine EL_run rfl (R_lenS Try.underlying25 rfl) ?_
 refine EL_run rfl (R_move rfl) ?_
 refine EL_op rfl (O_call hs [] [0] rfl rfl rfl Try.call68 (crcSum_spec ao c b hb) (fun v es1 ds1 w hPhi hs => ?_))
 obtain ⟨rfl, rfl, rfl⟩ := hPhi
 refine EL_run rfl (R_move rfl) ?_
 refine EL_op rfl (O_call hs [] [0] rfl rfl rfl Try.call69 (shaSum_spec ao c b hb) (fun v es1 ds1 w hPhi hs => ?_))
 obtain ⟨rfl, rfl, rfl⟩ := hPhi
 refine EL_run rfl (R_buildS (cs := (Ptr.of pos birth b).cells) [(0, .tmp 7), (1, .tmp 8), (2, .tmp 10), (3, .tmp 12), (4, .tmp 14)] pl_30 Try.zeroValue30 rfl rfl (of_fill pos birth b)) ?_
 refine EL_op rfl (O_storeW hs (i := 0) rfl sz_30 rfl rfl rfl (Ptr.size _) (Ptr.oneA _) (fun w hs => ?_))
 refine EL_nil ?_
 refine EC_ret ?_
 exact ⟨[_], ⟨res_cell hs (i := 0) rfl Try.sizeOf30 Try.isAgg30 rfl (Ptr.size _), trivial⟩, _, _, ⟨rfl, rfl, rfl⟩, (hs.fin [] []).as rfl rfl⟩

end Go.Proofs.Ytpcojkbljgpecaa
