/- Walks, part 2: crc. -/
import Derived.Test.YtpcojkbljgpecaaF
import Derived.Test.YtpcojkbljgpecaaM2
namespace Go.Proofs.Ytpcojkbljgpecaa
open Go
set_option maxRecDepth 100000 in
theorem crcHalf_spec (b0 b1 : Nat) (s : UInt32) {w0 : World} : Spec Try.prog 79 #[.pointer (some ⟨b0, 0, none⟩), .pointer (some ⟨b1, 0, none⟩)] w0 [blk b0 #[V32 s] 27, blk b1 (u32s crcTab).toArray 112] [] (fun v es1 ds1 => v = .tuple #[] ∧ es1 = [blk b0 #[V32 (crcHalf s)] 27, blk b1 (u32s crcTab).toArray 112] ∧ ds1 = []) := by
 refine Spec.intro (fun F D hs => ?_)
 have h15 := low15 s
 refine Calls_of_EC (args := [.pointer (some ⟨b0, 0, none⟩), .pointer (some ⟨b1, 0, none⟩)]) Try.func79 rfl rfl rfl ?_
 refine EC_drawS hs [7] [0, 2, 5] [0, 1] [] (.take 0 (.take 1 (.take 2 (.take 3 (.take 4 (.take 5 (.take 6 (.fork 7 .done (.done))))))))) mix_ok (by kernel_rfl) (fun w hs _ => ?_)
 refine EP_read rfl rfl rfl (RdS.of hs rfl rfl) (fun _ hR => R_lb (hR.e 0 rfl rfl) Try.isAgg27 rfl rfl) ?_
 refine EP_take rfl rfl rfl (fun _ => R_shr32 4 rfl rfl rfl) ?_
 refine EP_read rfl rfl rfl (RdS.of hs rfl rfl) (fun _ hR => R_lb (hR.e 0 rfl rfl) Try.isAgg27 rfl rfl) ?_
 refine EP_take rfl rfl rfl (fun _ => R_and32 (b := 15) rfl rfl) ?_
 refine EP_take rfl rfl rfl (fun _ => R_idxA as_112 rfl rfl (by omega) (by omega)) ?_
 refine EP_read rfl rfl rfl (RdS.of hs rfl rfl) (fun _ hR => R_lb (hR.e 1 rfl rfl) Try.isAgg27 rfl (u32s_getD (i := (s &&& 15).toNat) (by simp) (low15 s))) ?_
 refine EP_take rfl rfl rfl (fun _ => R_xor32 rfl rfl) ?_
 refine EP_act rfl rfl (O_store hs (i := 0) rfl Try.sizeOf27 rfl rfl rfl rfl (fun w hs => ⟨(rq_no (by kernel_rfl)), ?_⟩))
 refine EP_done ?_
 exact ⟨[], trivial, _, _, ⟨rfl, rfl, rfl⟩, (hs.fin [true, true] []).as rfl rfl⟩

set_option maxRecDepth 100000 in
theorem crcHalves_spec {w0 : World} : Spec Try.prog 78 #[] w0 [] [] (fun v es1 ds1 => v = .agg (u32s crcTab).toArray ∧ es1 = [] ∧ ds1 = []) := by
 refine Spec.intro (fun F D hs => ?_)
 refine Calls_of_EC (args := []) Try.func78 rfl rfl rfl ?_
 refine EC_rseq ?_
 refine EL_op rfl (O_alloc hs rfl Try.zeroValue112 (fun b0 w hb0 hs => ?_))
 refine EL_nil ?_
 refine EC_rseq ?_
 refine EL_run rfl (R_buildA (cs := (u32s crcTab).toArray) [.const (.int .u32 0), .const (.int .u32 274646895), .const (.int .u32 549293790), .const (.int .u32 820201905), .const (.int .u32 1098587580), .const (.int .u32 1361435347), .const (.int .u32 1640403810), .const (.int .u32 1905808397), .const (.int .u32 2197175160), .const (.int .u32 2460548119), .const (.int .u32 2722870694), .const (.int .u32 2987750089), .const (.int .u32 3280807620), .const (.int .u32 3553878443), .const (.int .u32 3811616794), .const (.int .u32 4084100981)] Try.underlying112 Try.zeroValue112 Try.sizeOf27 rfl rfl (by simp [Value.cells, V32, V8]) rfl rfl) ?_
 refine EL_op rfl (O_storeW hs (i := 0) rfl sz_112 rfl rfl rfl rfl (u32s_one _) (fun w hs => ?_))
 refine EL_nil ?_
 refine EC_ret ?_
 exact ⟨[_], ⟨res_cell hs (i := 0) rfl Try.sizeOf112 Try.isAgg112 rfl rfl, trivial⟩, _, _, ⟨rfl, rfl, rfl⟩, (hs.fin [] []).as rfl rfl⟩

set_option maxRecDepth 100000 in
theorem crcGo_spec (s0 : UInt32) (ao : Option Addr) (c : Nat) (b : BL) {w0 : World} (hb : b.length ≤ 1000000000) : Spec Try.prog 73 #[V32 s0, .slice ao b.length c] w0 [] [dB ao c b] (fun v es1 ds1 => v = V32 (crcGo s0 b) ∧ es1 = [] ∧ ds1 = []) := by
 refine Spec.intro (fun F D hs => ?_)
 refine Calls_of_EC (args := [V32 s0, .slice ao b.length c]) Try.func73 rfl rfl rfl ?_
 refine EC_rseq ?_
 refine EL_run rfl (R_assign rfl) ?_
 refine EL_nil ?_
 refine EC_rseq ?_
 refine EL_op rfl (O_call hs [] [] rfl rfl rfl Try.call78 (crcHalves_spec) (fun v es1 ds1 w hPhi hs => ?_))
 obtain ⟨rfl, rfl, rfl⟩ := hPhi
 refine EL_op rfl (O_alloc hs rfl Try.zeroValue112 (fun b5 w hb5 hs => ?_))
 refine EL_op rfl (O_storeW hs (i := 0) rfl sz_112 rfl rfl rfl rfl (u32s_one _) (fun w hs => ?_))
 refine EL_nil ?_
 refine EC_rseq ?_
 refine EL_run rfl (R_move rfl) ?_
 refine EL_run rfl (R_not32 rfl) ?_
 refine EL_op rfl (O_alloc hs rfl Try.zeroValue27 (fun b6 w hb6 hs => ?_))
 refine EL_op rfl (O_store hs (i := 1) rfl Try.sizeOf27 rfl rfl rfl rfl (fun w hs => ?_))
 refine EL_nil ?_
 refine EC_rseq ?_
 refine EL_run rfl (R_makeFunc rfl rfl) ?_
 refine EL_run rfl (R_assign rfl) ?_
 refine EL_nil ?_
 refine EC_seq ?_
 refine EC_rseq ?_
 refine EL_run rfl (R_move rfl) ?_
 refine EL_run rfl (R_lenS Try.underlying25 rfl) ?_
 refine EL_run rfl (R_move rfl) ?_
 refine EL_nil ?_
 refine EC_block ?_
 refine EC_loop (fun m ρ w => ∃ (i : Nat), m = b.length - i ∧ i ≤ b.length ∧ Slots ρ [(5, .pointer (some ⟨b5, 0, none⟩)), (6, .pointer (some ⟨b6, 0, none⟩)), (7, .func (.func 79) #[] #[.pointer (some ⟨b6, 0, none⟩), .pointer (some ⟨b5, 0, none⟩)]), (14, .slice ao b.length c), (15, .int .i64 (b.length : Int)), (16, .int .i64 (i : Int))] ∧ St w0 F D [blk b5 (u32s crcTab).toArray 112, blk b6 #[V32 ((b.take i).foldl crcByte (~~~ s0))] 27] [dB ao c b] w) (b.length) (⟨0, by omega, by omega, ⟨rfl, rfl, rfl, rfl, rfl, rfl, trivial⟩, hs⟩) ?_
 rintro m ρ w ⟨i, rfl, hi, hsl, hs⟩
 refine EC_slots _ hsl ?_
 refine EC_rseq ?_
 refine EL_run rfl (R_lss rfl rfl) ?_
 refine EL_nil ?_
 refine EC_seq ?_
 refine EC_cond rfl (fun hc17 => ?_) (fun hc17 => ?_)
 ·have hc17p := cvt hc17; try dsimp only at hc17p
  have hib : i < b.length := by omega
  obtain ⟨bb, oo, rfl⟩ := dSl.some (hs.rd (i := 0) rfl) (u8s_nil hib)
  refine EC_skip ?_
  refine Then_n ?_
  refine EC_seq ?_
  refine EC_block ?_
  refine EC_rseq ?_
  refine EL_run rfl (R_idx es_25 rfl (by rfl) rfl (by omega) (by omega)) ?_
  refine EL_run rfl (R_ld (i := i) (hs.rd (i := 0) rfl) Try.isAgg5 rfl (by simp) (u8s_get (List.getElem?_eq_getElem hib))) ?_
  refine EL_run rfl (R_assign rfl) ?_
  refine EL_nil ?_
  refine EC_rseq ?_
  refine EL_run rfl (R_lb (hs.at (i := 1) rfl) Try.isAgg27 rfl rfl) ?_
  refine EL_run rfl (R_move rfl) ?_
  refine EL_run rfl (R_conv8to32 Try.underlying5 Try.underlying27 rfl) ?_
  refine EL_run rfl (R_xor32 rfl rfl) ?_
  refine EL_op rfl (O_store hs (i := 1) rfl Try.sizeOf27 rfl rfl rfl rfl (fun w hs => ?_))
  have hs := hs.swap01
  refine EL_nil ?_
  refine EC_rseq ?_
  refine EL_run rfl (R_move rfl) ?_
  refine EL_op rfl (O_call hs [true, true] [] rfl rfl rfl Try.call79 (crcHalf_spec b6 b5 _) (fun v es1 ds1 w hPhi hs => ?_))
  obtain ⟨rfl, rfl, rfl⟩ := hPhi
  refine EL_nil ?_
  refine EC_region ?_
  refine EL_run rfl (R_move rfl) ?_
  refine EL_op rfl (O_call hs [true, true] [] rfl rfl rfl Try.call79 (crcHalf_spec b6 b5 _) (fun v es1 ds1 w hPhi hs => ?_))
  obtain ⟨rfl, rfl, rfl⟩ := hPhi
  have hs := hs.swap01
  refine EL_nil ?_
  refine InBlock_n ?_
  refine Then_n ?_
  refine EC_region ?_
  refine EL_run rfl (R_addI rfl rfl (by omega)) ?_
  refine EL_run rfl (R_move rfl) ?_
  refine EL_nil ?_
  refine Then_n ?_
  exact ⟨b.length - (i + 1), by omega, i + 1, rfl, by omega, ⟨rfl, rfl, rfl, rfl, rfl, rfl, trivial⟩, hs.as (by rw [List.take_succ_eq_append_getElem hib, List.foldl_append]; rfl) rfl⟩
 ·have hc17p := cvt hc17; try dsimp only at hc17p
  refine EC_exit ?_
  refine Then_e ?_
  refine Then_e ?_
  refine InBlock_hit rfl ?_
  refine Then_n ?_
  obtain rfl : i = b.length := by omega
  rw [List.take_length] at hs
  refine EC_rseq ?_
  refine EL_run rfl (R_lb (hs.at (i := 1) rfl) Try.isAgg27 rfl rfl) ?_
  refine EL_run rfl (R_not32 rfl) ?_
  refine EL_run rfl (R_assign rfl) ?_
  refine EL_nil ?_
  refine EC_ret ?_
  exact ⟨[_], ⟨rfl, trivial⟩, _, _, ⟨rfl, rfl, rfl⟩, (hs.fin [] []).as rfl rfl⟩

set_option maxRecDepth 100000 in
theorem crcSum_spec (ao : Option Addr) (c : Nat) (b : BL) {w0 : World} (hb : b.length ≤ 1000000000) : Spec Try.prog 68 #[.slice ao b.length c] w0 [] [dB ao c b] (fun v es1 ds1 => v = V32 (crcSum b) ∧ es1 = [] ∧ ds1 = []) := by
 refine Spec.intro (fun F D hs => ?_)
 refine Calls_of_EC (args := [.slice ao b.length c]) Try.func68 rfl rfl rfl ?_
 refine EC_rseq ?_
 refine EL_run rfl (R_assign rfl) ?_
 refine EL_nil ?_
 refine EC_rseq ?_
 refine EL_run rfl (R_move rfl) ?_
 refine EL_op rfl (O_call hs [] [0] rfl rfl rfl Try.call73 (crcGo_spec 0 ao c b hb) (fun v es1 ds1 w hPhi hs => ?_))
 obtain ⟨rfl, rfl, rfl⟩ := hPhi
 refine EL_run rfl (R_assign rfl) ?_
 refine EL_nil ?_
 refine EC_ret ?_
 exact ⟨[_], ⟨rfl, trivial⟩, _, _, ⟨rfl, rfl, rfl⟩, (hs.fin [] []).as rfl rfl⟩
end Go.Proofs.Ytpcojkbljgpecaa
