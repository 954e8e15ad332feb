/- Walks, part 3: sha. -/
import Derived.Test.YtpcojkbljgpecaaF
import Derived.Test.YtpcojkbljgpecaaM2
namespace Go.Proofs.Ytpcojkbljgpecaa
open Go
theorem u8s_take_get {q : BL} {j k : Nat} {u : Value} (h : (u8s (q.take k))[j]? = some u) : (u8s q)[j]? = some u := by
  simp only [u8s, List.getElem?_map, List.getElem?_take] at h ⊢
  split at h
  · exact h
  · cases h
def shaZero : ShaSt := ⟨List.replicate 8 0, 0⟩
theorem rot_wrap (n : Nat) (hn : 1 ≤ n ∧ n ≤ 31) : IntKind.u64.wrap (-(n : Int)) = ((2 ^ 64 - n : Nat) : Int) := by
  have : (-(n : Int)) % (2 ^ 64) = ((2 ^ 64 - n : Nat) : Int) := by omega
  simp [IntKind.wrap, IntKind.bits, IntKind.signed]
  omega
theorem rot_and (n : Nat) (hn : 1 ≤ n ∧ n ≤ 31) : (2 ^ 64 - n) &&& 31 = 32 - n := by
  have := Nat.and_two_pow_sub_one_eq_mod (2 ^ 64 - n) 5
  rw [show 2 ^ 5 - 1 = 31 from rfl] at this
  rw [this]; omega
set_option maxRecDepth 100000 in
theorem rotl_spec (x : UInt32) (n : Nat) {w0 : World} (hn : 1 ≤ n ∧ n ≤ 31) : Spec Try.prog 83 #[V32 x, .int .i64 (-(n : Int))] w0 [] [] (fun v es1 ds1 => v = V32 (rotl x (32 - n)) ∧ es1 = [] ∧ ds1 = []) := by
 refine Spec.intro (fun F D hs => ?_)
 refine Calls_of_EC (args := [V32 x, .int .i64 (-(n : Int))]) Try.func83 rfl rfl rfl ?_
 refine EC_rseq ?_
 refine EL_run rfl (R_assign rfl) ?_
 refine EL_nil ?_
 refine EC_rseq ?_
 refine EL_run rfl (R_move rfl) ?_
 refine EL_run rfl (R_convI Try.underlying3 Try.underlying54 rfl) ?_
 rw [show IntKind.u64.wrap (-(n : Int)) = ((2 ^ 64 - n : Nat) : Int) from rot_wrap n hn]
 refine EL_run rfl (R_andU (b := 31) rfl rfl rfl (by simp [IntKind.bits])) ?_
 rw [show (2 ^ 64 - n) &&& 31 = 32 - n from rot_and n hn]
 refine EL_run rfl (R_assign rfl) ?_
 refine EL_nil ?_
 refine EC_rseq ?_
 refine EL_run rfl (R_move rfl) ?_
 refine EL_run rfl (R_move rfl) ?_
 refine EL_run rfl (R_shl32 (32 - n) rfl rfl rfl) ?_
 refine EL_run rfl (R_move rfl) ?_
 refine EL_run rfl (R_move rfl) ?_
 refine EL_run rfl (R_subU (p := 32) rfl rfl rfl (by omega) (by simp [IntKind.bits])) ?_
 refine EL_run rfl (R_shr32 (32 - (32 - n)) rfl rfl rfl) ?_
 refine EL_run rfl (R_or32 rfl rfl) ?_
 refine EL_run rfl (R_assign rfl) ?_
 refine EL_nil ?_
 refine EC_ret ?_
 exact ⟨[_], ⟨rfl, trivial⟩, _, _, ⟨rfl, rfl, rfl⟩, (hs.fin [] []).as rfl rfl⟩

set_option maxRecDepth 100000 in
theorem down_spec (x : UInt32) (n : Nat) {w0 : World} (hn : 1 ≤ n ∧ n ≤ 31) : Spec Try.prog 82 #[V32 x, .int .i64 (n : Int)] w0 [] [] (fun v es1 ds1 => v = V32 (down x n) ∧ es1 = [] ∧ ds1 = []) := by
 refine Spec.intro (fun F D hs => ?_)
 refine Calls_of_EC (args := [V32 x, .int .i64 (n : Int)]) Try.func82 rfl rfl rfl ?_
 refine EC_rseq ?_
 refine EL_run rfl (R_assign rfl) ?_
 refine EL_nil ?_
 refine EC_rseq ?_
 refine EL_run rfl (R_move rfl) ?_
 refine EL_run rfl (R_move rfl) ?_
 refine EL_run rfl (R_negI rfl (by omega)) ?_
 refine EL_op rfl (O_call hs [] [] rfl rfl rfl Try.call83 (rotl_spec x n hn) (fun v es1 ds1 w hPhi hs => ?_))
 obtain ⟨rfl, rfl, rfl⟩ := hPhi
 refine EL_run rfl (R_assign rfl) ?_
 refine EL_nil ?_
 refine EC_ret ?_
 exact ⟨[_], ⟨rfl, trivial⟩, _, _, ⟨rfl, rfl, rfl⟩, (hs.fin [] []).as rfl rfl⟩

set_option maxRecDepth 100000 in
theorem shaBegin_spec {w0 : World} : Spec Try.prog 74 #[] w0 [] [] (fun v es1 ds1 => v = .agg shaBegin.cells ∧ es1 = [] ∧ ds1 = []) := by
 refine Spec.intro (fun F D hs => ?_)
 refine Calls_of_EC (args := []) Try.func74 rfl rfl rfl ?_
 refine EC_rseq ?_
 refine EL_op rfl (O_alloc hs rfl Try.zeroValue108 (fun b0 w hb0 hs => ?_))
 refine EL_nil ?_
 refine EC_rseq ?_
 refine EL_run rfl (R_buildA (cs := (u32s shaBegin.h).toArray) [.const (.int .u32 1779033703), .const (.int .u32 3144134277), .const (.int .u32 1013904242), .const (.int .u32 2773480762), .const (.int .u32 1359893119), .const (.int .u32 2600822924), .const (.int .u32 528734635), .const (.int .u32 1541459225)] Try.underlying105 Try.zeroValue105 Try.sizeOf27 rfl rfl (by simp [Value.cells, V32, V8]) rfl rfl) ?_
 refine EL_run rfl (R_buildS (cs := shaBegin.cells) [(0, .tmp 1)] pl_108 Try.zeroValue108 rfl rfl rfl) ?_
 refine EL_op rfl (O_storeW hs (i := 0) rfl sz_108 rfl rfl rfl rfl (ShaSt.oneA _) (fun w hs => ?_))
 refine EL_nil ?_
 refine EC_ret ?_
 exact ⟨[_], ⟨res_cell hs (i := 0) rfl Try.sizeOf108 Try.isAgg108 rfl rfl, trivial⟩, _, _, ⟨rfl, rfl, rfl⟩, (hs.fin [] []).as rfl rfl⟩

set_option maxRecDepth 100000 in
theorem shaKeys_spec {w0 : World} : Spec Try.prog 81 #[] w0 [] [] (fun v es1 ds1 => v = .agg (u32s shaKeys).toArray ∧ es1 = [] ∧ ds1 = []) := by
 refine Spec.intro (fun F D hs => ?_)
 refine Calls_of_EC (args := []) Try.func81 rfl rfl rfl ?_
 refine EC_rseq ?_
 refine EL_op rfl (O_alloc hs rfl Try.zeroValue114 (fun b0 w hb0 hs => ?_))
 refine EL_nil ?_
 refine EC_rseq ?_
 refine EL_run rfl (R_buildA (cs := (u32s shaKeys).toArray) [.const (.int .u32 1116352408), .const (.int .u32 1899447441), .const (.int .u32 3049323471), .const (.int .u32 3921009573), .const (.int .u32 961987163), .const (.int .u32 1508970993), .const (.int .u32 2453635748), .const (.int .u32 2870763221), .const (.int .u32 3624381080), .const (.int .u32 310598401), .const (.int .u32 607225278), .const (.int .u32 1426881987), .const (.int .u32 1925078388), .const (.int .u32 2162078206), .const (.int .u32 2614888103), .const (.int .u32 3248222580), .const (.int .u32 3835390401), .const (.int .u32 4022224774), .const (.int .u32 264347078), .const (.int .u32 604807628), .const (.int .u32 770255983), .const (.int .u32 1249150122), .const (.int .u32 1555081692), .const (.int .u32 1996064986), .const (.int .u32 2554220882), .const (.int .u32 2821834349), .const (.int .u32 2952996808), .const (.int .u32 3210313671), .const (.int .u32 3336571891), .const (.int .u32 3584528711), .const (.int .u32 113926993), .const (.int .u32 338241895), .const (.int .u32 666307205), .const (.int .u32 773529912), .const (.int .u32 1294757372), .const (.int .u32 1396182291), .const (.int .u32 1695183700), .const (.int .u32 1986661051), .const (.int .u32 2177026350), .const (.int .u32 2456956037), .const (.int .u32 2730485921), .const (.int .u32 2820302411), .const (.int .u32 3259730800), .const (.int .u32 3345764771), .const (.int .u32 3516065817), .const (.int .u32 3600352804), .const (.int .u32 4094571909), .const (.int .u32 275423344), .const (.int .u32 430227734), .const (.int .u32 506948616), .const (.int .u32 659060556), .const (.int .u32 883997877), .const (.int .u32 958139571), .const (.int .u32 1322822218), .const (.int .u32 1537002063), .const (.int .u32 1747873779), .const (.int .u32 1955562222), .const (.int .u32 2024104815), .const (.int .u32 2227730452), .const (.int .u32 2361852424), .const (.int .u32 2428436474), .const (.int .u32 2756734187), .const (.int .u32 3204031479), .const (.int .u32 3329325298)] Try.underlying114 Try.zeroValue114 Try.sizeOf27 rfl rfl (by simp [Value.cells, V32, V8]) rfl rfl) ?_
 refine EL_op rfl (O_storeW hs (i := 0) rfl sz_114 rfl rfl rfl rfl (u32s_one _) (fun w hs => ?_))
 refine EL_nil ?_
 refine EC_ret ?_
 exact ⟨[_], ⟨res_cell hs (i := 0) rfl Try.sizeOf114 Try.isAgg114 rfl rfl, trivial⟩, _, _, ⟨rfl, rfl, rfl⟩, (hs.fin [] []).as rfl rfl⟩

set_option maxRecDepth 100000 in
theorem spread_spec (b : BL) {w0 : World} (hb : b.length = 64) : Spec Try.prog 80 #[.agg (u8s b).toArray] w0 [] [] (fun v es1 ds1 => v = .agg (u32s (spread b)).toArray ∧ es1 = [] ∧ ds1 = []) := by
 refine Spec.intro (fun F D hs => ?_)
 refine Calls_of_EC (args := [.agg (u8s b).toArray]) Try.func80 rfl rfl rfl ?_
 refine EC_rseq ?_
 refine EL_op rfl (O_box hs rfl rfl (fun b1 w hb1 hs => ?_))
 refine EL_op rfl (O_alloc hs rfl Try.zeroValue114 (fun b2 w hb2 hs => ?_))
 refine EL_nil ?_
 refine EC_rseq ?_
 refine EL_op rfl (O_alloc hs rfl Try.zeroValue114 (fun b3 w hb3 hs => ?_))
 refine EL_nil ?_
 refine EC_seq ?_
 refine EC_rseq ?_
 refine EL_run rfl (R_lw (hs.at (i := 0) rfl) Try.isAgg111 Try.sizeOf111 rfl (by simp [u8s, Value.cells, hb])) ?_
 refine EL_run rfl (R_move rfl) ?_
 refine EL_nil ?_
 refine EC_block ?_
 refine EC_loop (fun m ρ w => ∃ (i : Nat), m = 64 - i ∧ i ≤ 64 ∧ Slots ρ [(2, .pointer (some ⟨b2, 0, none⟩)), (3, .pointer (some ⟨b3, 0, none⟩)), (9, .agg (u8s b).toArray), (10, .int .i64 (i : Int))] ∧ St w0 F D [blk b1 (u8s b).toArray 111, blk b2 (u32s (spread1 b 0)).toArray 114, blk b3 (u32s (spread1 b i)).toArray 114] [] w) (64) (⟨0, by omega, by omega, ⟨rfl, rfl, rfl, rfl, trivial⟩, hs⟩) ?_
 rintro m ρ w ⟨i, rfl, hi, hsl, hs⟩
 refine EC_slots _ hsl ?_
 refine EC_rseq ?_
 refine EL_run rfl (R_lss rfl rfl) ?_
 refine EL_nil ?_
 refine EC_seq ?_
 refine EC_cond rfl (fun hc11 => ?_) (fun hc11 => ?_)
 ·have hc11p := cvt hc11; try dsimp only at hc11p
  refine EC_skip ?_
  refine Then_n ?_
  refine EC_seq ?_
  refine EC_block ?_
  refine EC_rseq ?_
  refine EL_run rfl (R_move rfl) ?_
  refine EL_run rfl (R_indexV Try.underlying111 Try.sizeOf5 Try.isAgg5 rfl rfl (by omega) (by omega) (u8s_getD (i := i) (by simp) (by omega))) ?_
  refine EL_run rfl (R_assign rfl) ?_
  refine EL_run rfl (R_assign rfl) ?_
  refine EL_nil ?_
  refine EC_region ?_
  refine EL_run rfl (R_move rfl) ?_
  refine EL_run rfl (R_quoI rfl rfl (by omega) (by omega) (by omega)) ?_
  refine EL_run rfl (R_move rfl) ?_
  refine EL_run rfl (R_quoI rfl rfl (by omega) (by omega) (by omega)) ?_
  refine EL_run rfl (R_idxA as_114 rfl rfl (by omega) (by omega)) ?_
  refine EL_run rfl (R_lb (hs.at (i := 2) rfl) Try.isAgg27 rfl (u32s_getD (i := i / 4) (by omega) (by rw [spread1_len]; omega))) ?_
  refine EL_run rfl (R_shl32 8 rfl rfl rfl) ?_
  refine EL_run rfl (R_move rfl) ?_
  refine EL_run rfl (R_conv8to32 Try.underlying5 Try.underlying27 rfl) ?_
  refine EL_run rfl (R_or32 rfl rfl) ?_
  refine EL_run rfl (R_idxA as_114 rfl rfl (by omega) (by omega)) ?_
  refine EL_op rfl (O_store hs (i := 2) rfl Try.sizeOf27 rfl rfl rfl (by simp [u32s, spread1_len]; omega) (fun w hs => ?_))
  refine EL_nil ?_
  refine InBlock_n ?_
  refine Then_n ?_
  refine EC_region ?_
  refine EL_run rfl (R_addI rfl rfl (by omega)) ?_
  refine EL_run rfl (R_move rfl) ?_
  refine EL_nil ?_
  refine Then_n ?_
  exact ⟨64 - (i + 1), by omega, i + 1, rfl, by omega, ⟨rfl, rfl, rfl, rfl, trivial⟩, hs.as (by rw [u32s_set _ (i / 4) _ (by omega)]; rfl) rfl⟩
 ·have hc11p := cvt hc11; try dsimp only at hc11p
  refine EC_exit ?_
  refine Then_e ?_
  refine Then_e ?_
  refine InBlock_hit rfl ?_
  refine Then_n ?_
  refine EC_seq ?_
  obtain rfl : i = 64 := by omega
  refine EC_rseq ?_
  refine EL_run rfl (R_assign rfl) ?_
  refine EL_nil ?_
  refine EC_block ?_
  refine EC_loop (fun m ρ w => ∃ (i : Nat), m = 48 - i ∧ i ≤ 48 ∧ Slots ρ [(2, .pointer (some ⟨b2, 0, none⟩)), (3, .pointer (some ⟨b3, 0, none⟩)), (6, .int .i64 (((i + 16 : Nat) : Int)))] ∧ St w0 F D [blk b1 (u8s b).toArray 111, blk b2 (u32s (spread1 b 0)).toArray 114, blk b3 (u32s (spread2 b i)).toArray 114] [] w) (48) (⟨0, by omega, by omega, ⟨rfl, rfl, rfl, trivial⟩, hs⟩) ?_
  rintro m ρ w ⟨i, rfl, hi, hsl, hs⟩
  refine EC_slots _ hsl ?_
  refine EC_seq ?_
  refine EC_rseq ?_
  refine EL_run rfl (R_move rfl) ?_
  refine EL_run rfl (R_lss rfl rfl) ?_
  refine EL_nil ?_
  refine EC_cond rfl (fun hc27 => ?_) (fun hc27 => ?_)
  ·have hc27p := cvt hc27; try dsimp only at hc27p
   refine EC_skip ?_
   refine Then_n ?_
   refine EC_seq ?_
   refine EC_block ?_
   refine EC_dseqS hs [] [3, 7] [2] [] (.take 0 (.take 1 (.take 2 (.take 3 (.take 4 (.take 5 (.take 6 (.take 7 (.take 8 (.take 9 .done)))))))))) mix_ok (by kernel_rfl) (fun w hs _ => ?_)
   refine EP_take rfl rfl rfl (fun _ => R_move rfl) ?_
   refine EP_take rfl rfl rfl (fun _ => R_subI rfl rfl (by omega)) ?_
   refine EP_take rfl rfl rfl (fun _ => R_idxA as_114 rfl rfl (by omega) (by omega)) ?_
   refine EP_read rfl rfl rfl (RdS.of hs rfl rfl) (fun _ hR => R_lb (hR.e 2 rfl rfl) Try.isAgg27 rfl (u32s_getD (i := i + 16 - 2) (by omega) (by rw [spread2_len]; omega))) ?_
   refine EP_take rfl rfl rfl (fun _ => R_move rfl) ?_
   refine EP_take rfl rfl rfl (fun _ => R_subI rfl rfl (by omega)) ?_
   refine EP_take rfl rfl rfl (fun _ => R_idxA as_114 rfl rfl (by omega) (by omega)) ?_
   refine EP_read rfl rfl rfl (RdS.of hs rfl rfl) (fun _ hR => R_lb (hR.e 2 rfl rfl) Try.isAgg27 rfl (u32s_getD (i := i + 16 - 15) (by omega) (by rw [spread2_len]; omega))) ?_
   refine EP_take rfl rfl rfl (fun _ => R_assign rfl) ?_
   refine EP_take rfl rfl rfl (fun _ => R_assign rfl) ?_
   refine EP_done ?_
   refine EC_drawS hs [2, 4, 15, 17, 29] [12, 26] [2] [] (.take 0 (.take 1 (.take 3 (.take 6 (.take 7 (.take 9 (.take 10 (.take 11 (.take 12 (.take 14 (.take 16 (.take 19 (.take 20 (.take 23 (.take 24 (.take 25 (.take 26 (.fork 2 (.fork 4 (.take 5 (.take 8 (.take 13 (.fork 15 (.fork 17 (.take 18 (.take 21 (.take 22 (.take 27 (.take 28 (.fork 29 .done (.done))))))) (.done)) (.done))))) (.done)) (.done))))))))))))))))))) mix_ok (by kernel_rfl) (fun w hs _ => ?_)
   refine EP_take rfl rfl rfl (fun _ => R_move rfl) ?_
   refine EP_take rfl rfl rfl (fun _ => R_move rfl) ?_
   refine EP_take rfl rfl rfl (fun _ => R_move rfl) ?_
   refine EP_take rfl rfl rfl (fun _ => R_move rfl) ?_
   refine EP_take rfl rfl rfl (fun _ => R_shr32 10 rfl rfl rfl) ?_
   refine EP_take rfl rfl rfl (fun _ => R_move rfl) ?_
   refine EP_take rfl rfl rfl (fun _ => R_subI rfl rfl (by omega)) ?_
   refine EP_take rfl rfl rfl (fun _ => R_idxA as_114 rfl rfl (by omega) (by omega)) ?_
   refine EP_read rfl rfl rfl (RdS.of hs rfl rfl) (fun _ hR => R_lb (hR.e 2 rfl rfl) Try.isAgg27 rfl (u32s_getD (i := i + 16 - 7) (by omega) (by rw [spread2_len]; omega))) ?_
   refine EP_take rfl rfl rfl (fun _ => R_move rfl) ?_
   refine EP_take rfl rfl rfl (fun _ => R_move rfl) ?_
   refine EP_take rfl rfl rfl (fun _ => R_move rfl) ?_
   refine EP_take rfl rfl rfl (fun _ => R_shr32 3 rfl rfl rfl) ?_
   refine EP_take rfl rfl rfl (fun _ => R_move rfl) ?_
   refine EP_take rfl rfl rfl (fun _ => R_subI rfl rfl (by omega)) ?_
   refine EP_take rfl rfl rfl (fun _ => R_idxA as_114 rfl rfl (by omega) (by omega)) ?_
   refine EP_read rfl rfl rfl (RdS.of hs rfl rfl) (fun _ hR => R_lb (hR.e 2 rfl rfl) Try.isAgg27 rfl (u32s_getD (i := i + 16 - 16) (by omega) (by rw [spread2_len]; omega))) ?_
   refine EP_act rfl rfl (O_call hs [] [] rfl rfl rfl Try.call82 (down_spec _ 17 (by omega)) (fun v es1 ds1 w hPhi hs => ?_))
   obtain ⟨rfl, rfl, rfl⟩ := hPhi
   refine ⟨(fun _ => RdS.of hs rfl rfl), ?_⟩
   refine EP_act rfl rfl (O_call hs [] [] rfl rfl rfl Try.call82 (down_spec _ 19 (by omega)) (fun v es1 ds1 w hPhi hs => ?_))
   obtain ⟨rfl, rfl, rfl⟩ := hPhi
   refine ⟨(fun _ => RdS.of hs rfl rfl), ?_⟩
   refine EP_take rfl rfl rfl (fun _ => R_xor32 rfl rfl) ?_
   refine EP_take rfl rfl rfl (fun _ => R_xor32 rfl rfl) ?_
   refine EP_take rfl rfl rfl (fun _ => R_add32 rfl rfl) ?_
   refine EP_act rfl rfl (O_call hs [] [] rfl rfl rfl Try.call82 (down_spec _ 7 (by omega)) (fun v es1 ds1 w hPhi hs => ?_))
   obtain ⟨rfl, rfl, rfl⟩ := hPhi
   refine ⟨(fun _ => RdS.of hs rfl rfl), ?_⟩
   refine EP_act rfl rfl (O_call hs [] [] rfl rfl rfl Try.call82 (down_spec _ 18 (by omega)) (fun v es1 ds1 w hPhi hs => ?_))
   obtain ⟨rfl, rfl, rfl⟩ := hPhi
   refine ⟨(fun _ => RdS.of hs rfl rfl), ?_⟩
   refine EP_take rfl rfl rfl (fun _ => R_xor32 rfl rfl) ?_
   refine EP_take rfl rfl rfl (fun _ => R_xor32 rfl rfl) ?_
   refine EP_take rfl rfl rfl (fun _ => R_add32 rfl rfl) ?_
   refine EP_take rfl rfl rfl (fun _ => R_add32 rfl rfl) ?_
   refine EP_take rfl rfl rfl (fun _ => R_idxA as_114 rfl rfl (by omega) (by omega)) ?_
   refine EP_act rfl rfl (O_store hs (i := 2) rfl Try.sizeOf27 rfl rfl rfl (by simp [u32s, spread2_len]; omega) (fun w hs => ⟨(rq_no (by kernel_rfl)), ?_⟩))
   refine EP_done ?_
   refine InBlock_n ?_
   refine Then_n ?_
   refine EC_region ?_
   refine EL_run rfl (R_move rfl) ?_
   refine EL_run rfl (R_addI rfl rfl (by omega)) ?_
   refine EL_run rfl (R_assign rfl) ?_
   refine EL_nil ?_
   refine Then_n ?_
   exact ⟨48 - (i + 1), by omega, i + 1, rfl, by omega, ⟨rfl, rfl, sI (by omega), trivial⟩, hs.as (by rw [u32s_set _ (i + 16) _ (by omega)]; rfl) rfl⟩
  ·have hc27p := cvt hc27; try dsimp only at hc27p
   refine EC_exit ?_
   refine Then_e ?_
   refine Then_e ?_
   refine InBlock_hit rfl ?_
   refine Then_n ?_
   obtain rfl : i = 48 := by omega
   refine EC_rseq ?_
   refine EL_run rfl (R_lw (hs.at (i := 2) rfl) Try.isAgg114 Try.sizeOf114 rfl (by simp [u32s, spread2_len])) ?_
   refine EL_op rfl (O_storeW hs (i := 1) rfl sz_114 rfl rfl rfl (by simp [u32s, spread2_len]) (u32s_one _) (fun w hs => ?_))
   refine EL_nil ?_
   refine EC_ret ?_
   exact ⟨[_], ⟨res_cell hs (i := 1) rfl Try.sizeOf114 Try.isAgg114 rfl (by simp [u32s, spread2_len]), trivial⟩, _, _, ⟨rfl, rfl, rfl⟩, (hs.fin [] []).as rfl rfl⟩

set_option maxRecDepth 100000 in
theorem shaBlock_spec (s : ShaSt) (b : BL) {w0 : World} (h8 : s.h.length = 8) (hb : b.length = 64) : Spec Try.prog 75 #[.agg s.cells, .agg (u8s b).toArray] w0 [] [] (fun v es1 ds1 => v = .agg (shaBlock s b).cells ∧ es1 = [] ∧ ds1 = []) := by
 refine Spec.intro (fun F D hs => ?_)
 refine Calls_of_EC (args := [.agg s.cells, .agg (u8s b).toArray]) Try.func75 rfl rfl rfl ?_
 refine EC_rseq ?_
 refine EL_op rfl (O_box hs rfl rfl (fun b2 w hb2 hs => ?_))
 refine EL_op rfl (O_box hs rfl rfl (fun b3 w hb3 hs => ?_))
 refine EL_op rfl (O_alloc hs rfl Try.zeroValue108 (fun b4 w hb4 hs => ?_))
 refine EL_nil ?_
 refine EC_rseq ?_
 refine EL_run rfl (R_lw (hs.at (i := 1) rfl) Try.isAgg111 Try.sizeOf111 rfl (by simp [u8s, Value.cells, hb])) ?_
 refine EL_op rfl (O_call hs [] [] rfl rfl rfl Try.call80 (spread_spec b hb) (fun v es1 ds1 w hPhi hs => ?_))
 obtain ⟨rfl, rfl, rfl⟩ := hPhi
 refine EL_op rfl (O_call hs [] [] rfl rfl rfl Try.call81 (shaKeys_spec) (fun v es1 ds1 w hPhi hs => ?_))
 obtain ⟨rfl, rfl, rfl⟩ := hPhi
 refine EL_op rfl (O_alloc hs rfl Try.zeroValue114 (fun b5 w hb5 hs => ?_))
 refine EL_op rfl (O_alloc hs rfl Try.zeroValue114 (fun b6 w hb6 hs => ?_))
 refine EL_op rfl (O_storeW hs (i := 3) rfl sz_114 rfl rfl rfl (by simp [u32s, spread, spread2_len]) (u32s_one _) (fun w hs => ?_))
 refine EL_op rfl (O_storeW hs (i := 4) rfl sz_114 rfl rfl rfl rfl (u32s_one _) (fun w hs => ?_))
 refine EL_nil ?_
 refine EC_dseqS hs [] [2, 5, 8, 11, 14, 17, 20, 23] [0] [] (.take 0 (.take 1 (.take 2 (.take 3 (.take 4 (.take 5 (.take 6 (.take 7 (.take 8 (.take 9 (.take 10 (.take 11 (.take 12 (.take 13 (.take 14 (.take 15 (.take 16 (.take 17 (.take 18 (.take 19 (.take 20 (.take 21 (.take 22 (.take 23 (.take 24 (.take 25 (.take 26 (.take 27 (.take 28 (.take 29 (.take 30 (.take 31 .done)))))))))))))))))))))))))))))))) mix_ok (by kernel_rfl) (fun w hs _ => ?_)
 refine EP_take rfl rfl rfl (fun _ => R_field fo_108_0 rfl) ?_
 refine EP_take rfl rfl rfl (fun _ => R_idxA as_105 rfl rfl (by omega) (by omega)) ?_
 refine EP_read rfl rfl rfl (RdS.of hs rfl rfl) (fun _ hR => R_lb (hR.e 0 rfl rfl) Try.isAgg27 rfl (ShaSt.cell h8 0 rfl (by omega))) ?_
 refine EP_take rfl rfl rfl (fun _ => R_field fo_108_0 rfl) ?_
 refine EP_take rfl rfl rfl (fun _ => R_idxA as_105 rfl rfl (by omega) (by omega)) ?_
 refine EP_read rfl rfl rfl (RdS.of hs rfl rfl) (fun _ hR => R_lb (hR.e 0 rfl rfl) Try.isAgg27 rfl (ShaSt.cell h8 1 rfl (by omega))) ?_
 refine EP_take rfl rfl rfl (fun _ => R_field fo_108_0 rfl) ?_
 refine EP_take rfl rfl rfl (fun _ => R_idxA as_105 rfl rfl (by omega) (by omega)) ?_
 refine EP_read rfl rfl rfl (RdS.of hs rfl rfl) (fun _ hR => R_lb (hR.e 0 rfl rfl) Try.isAgg27 rfl (ShaSt.cell h8 2 rfl (by omega))) ?_
 refine EP_take rfl rfl rfl (fun _ => R_field fo_108_0 rfl) ?_
 refine EP_take rfl rfl rfl (fun _ => R_idxA as_105 rfl rfl (by omega) (by omega)) ?_
 refine EP_read rfl rfl rfl (RdS.of hs rfl rfl) (fun _ hR => R_lb (hR.e 0 rfl rfl) Try.isAgg27 rfl (ShaSt.cell h8 3 rfl (by omega))) ?_
 refine EP_take rfl rfl rfl (fun _ => R_field fo_108_0 rfl) ?_
 refine EP_take rfl rfl rfl (fun _ => R_idxA as_105 rfl rfl (by omega) (by omega)) ?_
 refine EP_read rfl rfl rfl (RdS.of hs rfl rfl) (fun _ hR => R_lb (hR.e 0 rfl rfl) Try.isAgg27 rfl (ShaSt.cell h8 4 rfl (by omega))) ?_
 refine EP_take rfl rfl rfl (fun _ => R_field fo_108_0 rfl) ?_
 refine EP_take rfl rfl rfl (fun _ => R_idxA as_105 rfl rfl (by omega) (by omega)) ?_
 refine EP_read rfl rfl rfl (RdS.of hs rfl rfl) (fun _ hR => R_lb (hR.e 0 rfl rfl) Try.isAgg27 rfl (ShaSt.cell h8 5 rfl (by omega))) ?_
 refine EP_take rfl rfl rfl (fun _ => R_field fo_108_0 rfl) ?_
 refine EP_take rfl rfl rfl (fun _ => R_idxA as_105 rfl rfl (by omega) (by omega)) ?_
 refine EP_read rfl rfl rfl (RdS.of hs rfl rfl) (fun _ hR => R_lb (hR.e 0 rfl rfl) Try.isAgg27 rfl (ShaSt.cell h8 6 rfl (by omega))) ?_
 refine EP_take rfl rfl rfl (fun _ => R_field fo_108_0 rfl) ?_
 refine EP_take rfl rfl rfl (fun _ => R_idxA as_105 rfl rfl (by omega) (by omega)) ?_
 refine EP_read rfl rfl rfl (RdS.of hs rfl rfl) (fun _ hR => R_lb (hR.e 0 rfl rfl) Try.isAgg27 rfl (ShaSt.cell h8 7 rfl (by omega))) ?_
 refine EP_take rfl rfl rfl (fun _ => R_assign rfl) ?_
 refine EP_take rfl rfl rfl (fun _ => R_assign rfl) ?_
 refine EP_take rfl rfl rfl (fun _ => R_assign rfl) ?_
 refine EP_take rfl rfl rfl (fun _ => R_assign rfl) ?_
 refine EP_take rfl rfl rfl (fun _ => R_assign rfl) ?_
 refine EP_take rfl rfl rfl (fun _ => R_assign rfl) ?_
 refine EP_take rfl rfl rfl (fun _ => R_assign rfl) ?_
 refine EP_take rfl rfl rfl (fun _ => R_assign rfl) ?_
 refine EP_done ?_
 refine EC_seq ?_
 refine EC_rseq ?_
 refine EL_run rfl (R_move rfl) ?_
 refine EL_nil ?_
 refine EC_block ?_
 refine EC_loop (fun m ρ w => ∃ (i : Nat) (q : Eight), m = 64 - i ∧ i ≤ 64 ∧ q = shaRounds (spread b) (eightOf s.h) i ∧ Slots ρ [(2, .pointer (some ⟨b2, 0, none⟩)), (4, .pointer (some ⟨b4, 0, none⟩)), (5, .pointer (some ⟨b5, 0, none⟩)), (6, .pointer (some ⟨b6, 0, none⟩)), (7, V32 q.a), (8, V32 q.b), (9, V32 q.c), (10, V32 q.d), (11, V32 q.e), (12, V32 q.f), (13, V32 q.g), (14, V32 q.h), (49, .int .i64 (i : Int))] ∧ St w0 F D [blk b2 s.cells 108, blk b3 (u8s b).toArray 111, blk b4 shaZero.cells 108, blk b5 (u32s (spread b)).toArray 114, blk b6 (u32s shaKeys).toArray 114] [] w) (64) (⟨0, eightOf s.h, by omega, by omega, rfl, ⟨rfl, rfl, rfl, rfl, rfl, rfl, rfl, rfl, rfl, rfl, rfl, rfl, rfl, trivial⟩, hs⟩) ?_
 rintro m ρ w ⟨i, q, rfl, hi, hq, hsl, hs⟩
 refine EC_slots _ hsl ?_
 refine EC_rseq ?_
 refine EL_run rfl (R_lss rfl rfl) ?_
 refine EL_nil ?_
 refine EC_seq ?_
 refine EC_cond rfl (fun hc50 => ?_) (fun hc50 => ?_)
 ·have hc50p := cvt hc50; try dsimp only at hc50p
  refine EC_skip ?_
  refine Then_n ?_
  refine EC_seq ?_
  refine EC_block ?_
  refine EC_rseq ?_
  refine EL_run rfl (R_move rfl) ?_
  refine EL_run rfl (R_assign rfl) ?_
  refine EL_nil ?_
  refine EC_rseq ?_
  refine EL_run rfl (R_move rfl) ?_
  refine EL_run rfl (R_move rfl) ?_
  refine EL_run rfl (R_and32 rfl rfl) ?_
  refine EL_run rfl (R_move rfl) ?_
  refine EL_run rfl (R_not32 rfl) ?_
  refine EL_run rfl (R_move rfl) ?_
  refine EL_run rfl (R_and32 rfl rfl) ?_
  refine EL_run rfl (R_xor32 rfl rfl) ?_
  refine EL_run rfl (R_assign rfl) ?_
  refine EL_nil ?_
  refine EC_rseq ?_
  refine EL_run rfl (R_move rfl) ?_
  refine EL_run rfl (R_move rfl) ?_
  refine EL_run rfl (R_and32 rfl rfl) ?_
  refine EL_run rfl (R_move rfl) ?_
  refine EL_run rfl (R_move rfl) ?_
  refine EL_run rfl (R_and32 rfl rfl) ?_
  refine EL_run rfl (R_xor32 rfl rfl) ?_
  refine EL_run rfl (R_move rfl) ?_
  refine EL_run rfl (R_move rfl) ?_
  refine EL_run rfl (R_and32 rfl rfl) ?_
  refine EL_run rfl (R_xor32 rfl rfl) ?_
  refine EL_run rfl (R_assign rfl) ?_
  refine EL_nil ?_
  refine EC_dseqS hs [2, 4, 7] [14, 18] [3, 4] [] (.take 0 (.take 1 (.take 3 (.take 6 (.take 10 (.take 12 (.take 13 (.take 14 (.take 16 (.take 17 (.take 18 (.fork 2 (.fork 4 (.take 5 (.fork 7 (.take 8 (.take 9 (.take 11 (.take 15 (.take 19 (.take 20 .done)))))) (.done))) (.done)) (.done))))))))))))) mix_ok (by kernel_rfl) (fun w hs _ => ?_)
  refine EP_take rfl rfl rfl (fun _ => R_move rfl) ?_
  refine EP_take rfl rfl rfl (fun _ => R_move rfl) ?_
  refine EP_take rfl rfl rfl (fun _ => R_move rfl) ?_
  refine EP_take rfl rfl rfl (fun _ => R_move rfl) ?_
  refine EP_take rfl rfl rfl (fun _ => R_move rfl) ?_
  refine EP_take rfl rfl rfl (fun _ => R_move rfl) ?_
  refine EP_take rfl rfl rfl (fun _ => R_idxA as_114 rfl rfl (by omega) (by omega)) ?_
  refine EP_read rfl rfl rfl (RdS.of hs rfl rfl) (fun _ hR => R_lb (hR.e 4 rfl rfl) Try.isAgg27 rfl (u32s_getD (l := shaKeys) (i := i) (by simp) (show i < 64 by omega))) ?_
  refine EP_take rfl rfl rfl (fun _ => R_move rfl) ?_
  refine EP_take rfl rfl rfl (fun _ => R_idxA as_114 rfl rfl (by omega) (by omega)) ?_
  refine EP_read rfl rfl rfl (RdS.of hs rfl rfl) (fun _ hR => R_lb (hR.e 3 rfl rfl) Try.isAgg27 rfl (u32s_getD (i := i) (by simp) (by rw [spread, spread2_len]; omega))) ?_
  refine EP_act rfl rfl (O_call hs [] [] rfl rfl rfl Try.call82 (down_spec _ 6 (by omega)) (fun v es1 ds1 w hPhi hs => ?_))
  obtain ⟨rfl, rfl, rfl⟩ := hPhi
  refine ⟨(fun _ => RdS.of hs rfl rfl), ?_⟩
  refine EP_act rfl rfl (O_call hs [] [] rfl rfl rfl Try.call82 (down_spec _ 11 (by omega)) (fun v es1 ds1 w hPhi hs => ?_))
  obtain ⟨rfl, rfl, rfl⟩ := hPhi
  refine ⟨(fun _ => RdS.of hs rfl rfl), ?_⟩
  refine EP_take rfl rfl rfl (fun _ => R_xor32 rfl rfl) ?_
  refine EP_act rfl rfl (O_call hs [] [] rfl rfl rfl Try.call82 (down_spec _ 25 (by omega)) (fun v es1 ds1 w hPhi hs => ?_))
  obtain ⟨rfl, rfl, rfl⟩ := hPhi
  refine ⟨(fun _ => RdS.of hs rfl rfl), ?_⟩
  refine EP_take rfl rfl rfl (fun _ => R_xor32 rfl rfl) ?_
  refine EP_take rfl rfl rfl (fun _ => R_add32 rfl rfl) ?_
  refine EP_take rfl rfl rfl (fun _ => R_add32 rfl rfl) ?_
  refine EP_take rfl rfl rfl (fun _ => R_add32 rfl rfl) ?_
  refine EP_take rfl rfl rfl (fun _ => R_add32 rfl rfl) ?_
  refine EP_take rfl rfl rfl (fun _ => R_assign rfl) ?_
  refine EP_done ?_
  refine EC_rseq ?_
  refine EL_run rfl (R_move rfl) ?_
  refine EL_op rfl (O_call hs [] [] rfl rfl rfl Try.call82 (down_spec _ 2 (by omega)) (fun v es1 ds1 w hPhi hs => ?_))
  obtain ⟨rfl, rfl, rfl⟩ := hPhi
  refine EL_run rfl (R_move rfl) ?_
  refine EL_op rfl (O_call hs [] [] rfl rfl rfl Try.call82 (down_spec _ 13 (by omega)) (fun v es1 ds1 w hPhi hs => ?_))
  obtain ⟨rfl, rfl, rfl⟩ := hPhi
  refine EL_run rfl (R_xor32 rfl rfl) ?_
  refine EL_run rfl (R_move rfl) ?_
  refine EL_op rfl (O_call hs [] [] rfl rfl rfl Try.call82 (down_spec _ 22 (by omega)) (fun v es1 ds1 w hPhi hs => ?_))
  obtain ⟨rfl, rfl, rfl⟩ := hPhi
  refine EL_run rfl (R_xor32 rfl rfl) ?_
  refine EL_run rfl (R_move rfl) ?_
  refine EL_run rfl (R_add32 rfl rfl) ?_
  refine EL_run rfl (R_assign rfl) ?_
  refine EL_nil ?_
  refine EC_rseq ?_
  refine EL_run rfl (R_move rfl) ?_
  refine EL_run rfl (R_move rfl) ?_
  refine EL_run rfl (R_move rfl) ?_
  refine EL_run rfl (R_move rfl) ?_
  refine EL_run rfl (R_move rfl) ?_
  refine EL_run rfl (R_add32 rfl rfl) ?_
  refine EL_run rfl (R_assign rfl) ?_
  refine EL_run rfl (R_assign rfl) ?_
  refine EL_run rfl (R_assign rfl) ?_
  refine EL_run rfl (R_assign rfl) ?_
  refine EL_nil ?_
  refine EC_region ?_
  refine EL_run rfl (R_move rfl) ?_
  refine EL_run rfl (R_move rfl) ?_
  refine EL_run rfl (R_move rfl) ?_
  refine EL_run rfl (R_move rfl) ?_
  refine EL_run rfl (R_move rfl) ?_
  refine EL_run rfl (R_add32 rfl rfl) ?_
  refine EL_run rfl (R_assign rfl) ?_
  refine EL_run rfl (R_assign rfl) ?_
  refine EL_run rfl (R_assign rfl) ?_
  refine EL_run rfl (R_assign rfl) ?_
  refine EL_nil ?_
  refine InBlock_n ?_
  refine Then_n ?_
  refine EC_region ?_
  refine EL_run rfl (R_addI rfl rfl (by omega)) ?_
  refine EL_run rfl (R_move rfl) ?_
  refine EL_nil ?_
  refine Then_n ?_
  exact ⟨64 - (i + 1), by omega, i + 1, shaRound (spread b) i q, rfl, by omega, by rw [hq]; rfl, ⟨rfl, rfl, rfl, rfl, rfl, rfl, rfl, rfl, rfl, rfl, rfl, rfl, rfl, trivial⟩, hs⟩
 ·have hc50p := cvt hc50; try dsimp only at hc50p
  refine EC_exit ?_
  refine Then_e ?_
  refine Then_e ?_
  refine InBlock_hit rfl ?_
  refine Then_n ?_
  refine EC_seq ?_
  obtain rfl : i = 64 := by omega
  refine EC_rseq ?_
  refine EL_run rfl (R_move rfl) ?_
  refine EL_run rfl (R_move rfl) ?_
  refine EL_run rfl (R_move rfl) ?_
  refine EL_run rfl (R_move rfl) ?_
  refine EL_run rfl (R_move rfl) ?_
  refine EL_run rfl (R_move rfl) ?_
  refine EL_run rfl (R_move rfl) ?_
  refine EL_run rfl (R_move rfl) ?_
  refine EL_run rfl (R_buildA (cs := (u32s q.l).toArray) [.tmp 114, .tmp 115, .tmp 116, .tmp 117, .tmp 118, .tmp 119, .tmp 120, .tmp 121] Try.underlying105 Try.zeroValue105 Try.sizeOf27 rfl rfl (by simp [Value.cells, V32, V8]) rfl rfl) ?_
  refine EL_run rfl (R_move rfl) ?_
  refine EL_nil ?_
  refine EC_block ?_
  refine EC_loop (fun m ρ w => ∃ (i : Nat), m = 8 - i ∧ i ≤ 8 ∧ Slots ρ [(2, .pointer (some ⟨b2, 0, none⟩)), (4, .pointer (some ⟨b4, 0, none⟩)), (122, .agg (u32s q.l).toArray), (123, .int .i64 (i : Int))] ∧ St w0 F D [blk b2 (ShaSt.mk (addTo s.h q.l i) s.n).cells 108, blk b3 (u8s b).toArray 111, blk b4 shaZero.cells 108] [] w) (8) (⟨0, by omega, by omega, ⟨rfl, rfl, rfl, rfl, trivial⟩, (hs.fin [true, true, true] []).as rfl rfl⟩) ?_
  rintro m ρ w ⟨i, rfl, hi, hsl, hs⟩
  refine EC_slots _ hsl ?_
  refine EC_rseq ?_
  refine EL_run rfl (R_lss rfl rfl) ?_
  refine EL_nil ?_
  refine EC_seq ?_
  refine EC_cond rfl (fun hc124 => ?_) (fun hc124 => ?_)
  ·have hc124p := cvt hc124; try dsimp only at hc124p
   refine EC_skip ?_
   refine Then_n ?_
   refine EC_seq ?_
   refine EC_block ?_
   refine EC_rseq ?_
   refine EL_run rfl (R_move rfl) ?_
   refine EL_run rfl (R_indexV Try.underlying105 Try.sizeOf27 Try.isAgg27 rfl rfl (by omega) (by omega) (u32s_getD (i := i) (by simp) (show i < 8 by omega))) ?_
   refine EL_run rfl (R_assign rfl) ?_
   refine EL_run rfl (R_assign rfl) ?_
   refine EL_nil ?_
   refine EC_region ?_
   refine EL_run rfl (R_move rfl) ?_
   refine EL_run rfl (R_field fo_108_0 rfl) ?_
   refine EL_run rfl (R_idxA as_105 rfl rfl (by omega) (by omega)) ?_
   refine EL_run rfl (R_lb (hs.at (i := 0) rfl) Try.isAgg27 rfl (ShaSt.cell (by rw [addTo_len]; exact h8) i (by simp) (by omega))) ?_
   refine EL_run rfl (R_move rfl) ?_
   refine EL_run rfl (R_add32 rfl rfl) ?_
   refine EL_run rfl (R_field fo_108_0 rfl) ?_
   refine EL_run rfl (R_idxA as_105 rfl rfl (by omega) (by omega)) ?_
   refine EL_op rfl (O_store hs (i := 0) rfl Try.sizeOf27 rfl rfl rfl (by rw [ShaSt.size _ (by rw [addTo_len]; exact h8)]; simp; omega) (fun w hs => ?_))
   refine EL_nil ?_
   refine InBlock_n ?_
   refine Then_n ?_
   refine EC_region ?_
   refine EL_run rfl (R_addI rfl rfl (by omega)) ?_
   refine EL_run rfl (R_move rfl) ?_
   refine EL_nil ?_
   refine Then_n ?_
   exact ⟨8 - (i + 1), by omega, i + 1, rfl, by omega, ⟨rfl, rfl, rfl, rfl, trivial⟩, hs.as (by rw [ShaSt.set (by rw [addTo_len]; exact h8) i (by simp) (by omega)]; rfl) rfl⟩
  ·have hc124p := cvt hc124; try dsimp only at hc124p
   refine EC_exit ?_
   refine Then_e ?_
   refine Then_e ?_
   refine InBlock_hit rfl ?_
   refine Then_n ?_
   obtain rfl : i = 8 := by omega
   refine EC_rseq ?_
   refine EL_run rfl (R_field fo_108_1 rfl) ?_
   refine EL_run rfl (R_lb (hs.at (i := 0) rfl) Try.isAgg106 rfl (ShaSt.cell_n (by rw [addTo_len]; exact h8) rfl)) ?_
   refine EL_run rfl (R_addU (q := 64) rfl rfl rfl) ?_
   refine EL_run rfl (R_field fo_108_1 rfl) ?_
   refine EL_op rfl (O_store hs (i := 0) rfl Try.sizeOf106 rfl rfl rfl (by rw [ShaSt.size _ (by rw [addTo_len]; exact h8)]; rfl) (fun w hs => ?_))
   have hs : St w0 F D [blk b2 (shaBlock s b).cells 108, blk b3 (u8s b).toArray 111, blk b4 shaZero.cells 108] [] w := hs.as (by rw [ShaSt.set_n (by rw [addTo_len]; exact h8) rfl]; rw [hq]; rfl) rfl
   refine EL_nil ?_
   refine EC_rseq ?_
   refine EL_run rfl (R_lw (hs.at (i := 0) rfl) Try.isAgg108 Try.sizeOf108 rfl (ShaSt.size _ (by rw [shaBlock, shaH_len]; exact h8))) ?_
   refine EL_op rfl (O_storeW hs (i := 2) rfl sz_108 rfl rfl rfl (ShaSt.size _ (by rw [shaBlock, shaH_len]; exact h8)) (ShaSt.oneA _) (fun w hs => ?_))
   refine EL_nil ?_
   refine EC_ret ?_
   exact ⟨[_], ⟨res_cell hs (i := 2) rfl Try.sizeOf108 Try.isAgg108 rfl (ShaSt.size _ (by rw [shaBlock, shaH_len]; exact h8)), trivial⟩, _, _, ⟨rfl, rfl, rfl⟩, (hs.fin [] []).as rfl rfl⟩

set_option maxRecDepth 100000 in
theorem shaEnd_spec (s : ShaSt) (ao : Option Addr) (c : Nat) (b : BL) {w0 : World} (h8 : s.h.length = 8) (hn8 : s.n < 2 ^ 64) (hb : b.length ≤ 1000000000) : Spec Try.prog 76 #[.agg s.cells, .slice ao b.length c] w0 [] [dB ao c b] (fun v es1 ds1 => v = .agg (u8s (shaEnd s b)).toArray ∧ es1 = [] ∧ ds1 = []) := by
 refine Spec.intro (fun F D hs => ?_)
 refine Calls_of_EC (args := [.agg s.cells, .slice ao b.length c]) Try.func76 rfl rfl rfl ?_
 refine EC_rseq ?_
 refine EL_op rfl (O_box hs rfl rfl (fun b2 w hb2 hs => ?_))
 refine EL_op rfl (O_alloc hs rfl Try.zeroValue28 (fun b4 w hb4 hs => ?_))
 refine EL_nil ?_
 refine EC_rseq ?_
 refine EL_run rfl (R_move rfl) ?_
 refine EL_run rfl (R_move rfl) ?_
 refine EL_run rfl (R_lenS Try.underlying25 rfl) ?_
 refine EL_run rfl (R_min rfl rfl) ?_
 refine EL_run rfl (R_sliceHi es_25 rfl rfl (by omega) (by have := (hs.rd (i := 0) rfl).1.1; omega)) ?_
 have hs := hs.dBtake (j := 0) rfl 63
 obtain ⟨r, hr⟩ : ∃ r, r = b.take 63 := ⟨_, rfl⟩
 have hrl : r.length = min b.length 63 := by rw [hr, List.length_take, Nat.min_comm]
 rw [show (min (b.length : Int) 63).toNat = r.length by omega]
 rw [← hr] at hs
 refine EL_run rfl (R_assign rfl) ?_
 refine EL_nil ?_
 refine EC_rseq ?_
 refine EL_run rfl (R_field fo_108_1 rfl) ?_
 refine EL_run rfl (R_lb (hs.at (i := 0) rfl) Try.isAgg106 rfl (ShaSt.cell_n h8 rfl)) ?_
 refine EL_run rfl (R_move rfl) ?_
 refine EL_run rfl (R_lenS Try.underlying25 rfl) ?_
 refine EL_run rfl (R_convN rfl Try.underlying3 Try.underlying106 rfl (by simp [IntKind.bits]; omega)) ?_
 refine EL_run rfl (R_addU rfl rfl rfl) ?_
 refine EL_run rfl (R_mulU (p := 8) rfl rfl rfl) ?_
 refine EL_run rfl (R_assign rfl) ?_
 obtain ⟨n, hn⟩ : ∃ n, n = 8 * ((s.n + r.length) % 2 ^ IntKind.u64.bits) % 2 ^ IntKind.u64.bits := ⟨_, rfl⟩
 rw [← hn]
 have hn64 : n < 2 ^ 64 := by rw [hn]; exact Nat.mod_lt _ (by decide)
 refine EL_nil ?_
 refine EC_rseq ?_
 refine EL_op rfl (O_alloc hs rfl Try.zeroValue111 (fun b6 w hb6 hs => ?_))
 refine EL_nil ?_
 refine EC_rseq ?_
 refine EL_run rfl (R_sliceArr Try.underlying111 Try.sizeOf5 rfl) ?_
 refine EL_run rfl (R_move rfl) ?_
 refine EL_op rfl (O_copy hs (i := 2) rfl rfl Try.underlying25 sz_5 rfl rfl (Src.data (hs.rd (i := 1) rfl)) (by decide) (u8s_one _) (fun w hs => ?_))
 have hs := hs.as (es' := [blk b2 s.cells 108, blk b4 (u8s (List.replicate 32 0)).toArray 28, blk b6 (u8s (r ++ List.replicate (64 - r.length) 0)).toArray 111]) (by rw [← copy0 r (by omega)]; rfl) rfl
 refine EL_run rfl (R_idxA as_111 rfl rfl (by omega) (by omega)) ?_
 refine EL_op rfl (O_store hs (i := 2) rfl Try.sizeOf5 rfl rfl rfl (by simp [u8s]; omega) (fun w hs => ?_))
 have hs := hs.as (es' := [blk b2 s.cells 108, blk b4 (u8s (List.replicate 32 0)).toArray 28, blk b6 (u8s (shaB0 r)).toArray 111]) (by rw [shaB0, ← u8s_set _ r.length (0 + (min r.length 64 : Nat) * 1) (by omega)]; rfl) rfl
 refine EL_nil ?_
 refine EC_cut (fun ρ w => Slots ρ [(2, .pointer (some ⟨b2, 0, none⟩)), (4, .pointer (some ⟨b4, 0, none⟩)), (5, .int .u64 (n : Int)), (6, .pointer (some ⟨b6, 0, none⟩))] ∧ St w0 F D [blk b2 (shaPad s r).1.cells 108, blk b4 (u8s (List.replicate 32 0)).toArray 28, blk b6 (u8s (shaPad s r).2).toArray 111] [dB ao c b, dB ao c r] w) ?_ ?_
 ·skip
  refine EC_rseq ?_
  refine EL_run rfl (R_move rfl) ?_
  refine EL_run rfl (R_lenS Try.underlying25 rfl) ?_
  refine EL_run rfl (R_geq rfl rfl) ?_
  refine EL_nil ?_
  refine EC_cond rfl (fun hc28 => ?_) (fun hc28 => ?_)
  ·have hc28p := cvt hc28; try dsimp only at hc28p
   refine EC_rseq ?_
   refine EL_run rfl (R_lw (hs.at (i := 0) rfl) Try.isAgg108 Try.sizeOf108 rfl (ShaSt.size _ (by first | exact h8 | exact hp8))) ?_
   refine EL_run rfl (R_lw (hs.at (i := 2) rfl) Try.isAgg111 Try.sizeOf111 rfl (by simp [u8s, shaB0_len r (by omega)])) ?_
   refine EL_op rfl (O_call hs [] [] rfl rfl rfl Try.call75 (shaBlock_spec s (shaB0 r) h8 (shaB0_len r (by omega))) (fun v es1 ds1 w hPhi hs => ?_))
   obtain ⟨rfl, rfl, rfl⟩ := hPhi
   refine EL_op rfl (O_storeW hs (i := 0) rfl sz_108 rfl rfl (ShaSt.size _ h8) (ShaSt.size _ (by simp [shaBlock, shaH_len, h8])) (ShaSt.oneA _) (fun w hs => ?_))
   refine EL_nil ?_
   refine EC_region ?_
   refine EL_run rfl (R_build0A Try.underlying111 Try.zeroValue111 Try.sizeOf5) ?_
   refine EL_op rfl (O_storeW hs (i := 2) rfl sz_111 rfl rfl (by simp [u8s, shaB0_len r (by omega)]) rfl (u8s_oneA (List.replicate 64 0)) (fun w hs => ?_))
   refine EL_nil ?_
   refine Then_n ?_
   exact ⟨⟨rfl, rfl, rfl, rfl, trivial⟩, hs.as (by rw [shaPad, if_pos (by omega)]; rfl) rfl⟩
  ·have hc28p := cvt hc28; try dsimp only at hc28p
   refine EC_skip ?_
   refine Then_n ?_
   exact ⟨⟨rfl, rfl, rfl, rfl, trivial⟩, hs.as (by rw [shaPad, if_neg (by omega)]) rfl⟩
 ·rintro ρ w ⟨hsl, hs⟩
  refine EC_slots _ hsl ?_
  have hp8 : (shaPad s r).1.h.length = 8 := by unfold shaPad; split <;> simp [shaBlock, shaH_len, h8]
  have hp64 : (shaPad s r).2.length = 64 := by unfold shaPad; split <;> simp [shaB0_len r (by omega)]
  have hend : shaEnd s b = shaOut (shaBlock (shaPad s r).1 (shaLens n (shaPad s r).2 8)).h 32 := by rw [shaEnd, ← hr, hn]; rfl
  generalize (shaPad s r).1 = s2 at *
  generalize (shaPad s r).2 = q2 at *
  refine EC_seq ?_
  refine EC_rseq ?_
  refine EL_run rfl (R_move rfl) ?_
  refine EL_nil ?_
  refine EC_block ?_
  refine EC_loop (fun m ρ w => ∃ (i : Nat), m = 8 - i ∧ i ≤ 8 ∧ Slots ρ [(2, .pointer (some ⟨b2, 0, none⟩)), (4, .pointer (some ⟨b4, 0, none⟩)), (5, .int .u64 (n : Int)), (6, .pointer (some ⟨b6, 0, none⟩)), (33, .int .i64 (i : Int))] ∧ St w0 F D [blk b2 s2.cells 108, blk b4 (u8s (List.replicate 32 0)).toArray 28, blk b6 (u8s (shaLens n q2 i)).toArray 111] [dB ao c b, dB ao c r] w) (8) (⟨0, by omega, by omega, ⟨rfl, rfl, rfl, rfl, rfl, trivial⟩, hs⟩) ?_
  rintro m ρ w ⟨i, rfl, hi, hsl, hs⟩
  refine EC_slots _ hsl ?_
  refine EC_rseq ?_
  refine EL_run rfl (R_lss rfl rfl) ?_
  refine EL_nil ?_
  refine EC_seq ?_
  refine EC_cond rfl (fun hc34 => ?_) (fun hc34 => ?_)
  ·have hc34p := cvt hc34; try dsimp only at hc34p
   refine EC_skip ?_
   refine Then_n ?_
   refine EC_seq ?_
   refine EC_block ?_
   refine EC_rseq ?_
   refine EL_run rfl (R_move rfl) ?_
   refine EL_run rfl (R_assign rfl) ?_
   refine EL_nil ?_
   refine EC_region ?_
   refine EL_run rfl (R_move rfl) ?_
   refine EL_run rfl (R_subI rfl rfl (by omega)) ?_
   refine EL_run rfl (R_move rfl) ?_
   refine EL_run rfl (R_move rfl) ?_
   refine EL_run rfl (R_mulI rfl rfl (by omega)) ?_
   refine EL_run rfl (R_shrU (8 * i) rfl rfl (by omega) hn64) ?_
   refine EL_run rfl (R_convU8 Try.underlying106 Try.underlying5 rfl) ?_
   refine EL_run rfl (R_idxA as_111 rfl rfl (by omega) (by omega)) ?_
   refine EL_op rfl (O_store hs (i := 2) rfl Try.sizeOf5 rfl rfl rfl (by simp [u8s, shaLens_len, hp64]; omega) (fun w hs => ?_))
   refine EL_nil ?_
   refine InBlock_n ?_
   refine Then_n ?_
   refine EC_region ?_
   refine EL_run rfl (R_addI rfl rfl (by omega)) ?_
   refine EL_run rfl (R_move rfl) ?_
   refine EL_nil ?_
   refine Then_n ?_
   exact ⟨8 - (i + 1), by omega, i + 1, rfl, by omega, ⟨rfl, rfl, rfl, rfl, rfl, trivial⟩, hs.as (by rw [u8s_set _ (63 - i) _ (by omega)]; rfl) rfl⟩
  ·have hc34p := cvt hc34; try dsimp only at hc34p
   refine EC_exit ?_
   refine Then_e ?_
   refine Then_e ?_
   refine InBlock_hit rfl ?_
   refine Then_n ?_
   obtain rfl : i = 8 := by omega
   refine EC_rseq ?_
   refine EL_run rfl (R_lw (hs.at (i := 0) rfl) Try.isAgg108 Try.sizeOf108 rfl (ShaSt.size _ (by first | exact h8 | exact hp8))) ?_
   refine EL_run rfl (R_lw (hs.at (i := 2) rfl) Try.isAgg111 Try.sizeOf111 rfl (by simp [u8s, shaLens_len, hp64])) ?_
   refine EL_op rfl (O_call hs [] [] rfl rfl rfl Try.call75 (shaBlock_spec s2 (shaLens n q2 8) hp8 (by rw [shaLens_len]; exact hp64)) (fun v es1 ds1 w hPhi hs => ?_))
   obtain ⟨rfl, rfl, rfl⟩ := hPhi
   refine EL_op rfl (O_storeW hs (i := 0) rfl sz_108 rfl rfl (ShaSt.size _ hp8) (ShaSt.size _ (by simp [shaBlock, shaH_len, hp8])) (ShaSt.oneA _) (fun w hs => ?_))
   refine EL_nil ?_
   refine EC_rseq ?_
   refine EL_op rfl (O_alloc hs rfl Try.zeroValue28 (fun b8 w hb8 hs => ?_))
   refine EL_nil ?_
   refine EC_seq ?_
   refine EC_rseq ?_
   refine EL_run rfl (R_move rfl) ?_
   refine EL_nil ?_
   refine EC_block ?_
   refine EC_loop (fun m ρ w => ∃ (i : Nat), m = 32 - i ∧ i ≤ 32 ∧ Slots ρ [(2, .pointer (some ⟨b2, 0, none⟩)), (4, .pointer (some ⟨b4, 0, none⟩)), (8, .pointer (some ⟨b8, 0, none⟩)), (48, .int .i64 (i : Int))] ∧ St w0 F D [blk b2 (shaBlock s2 (shaLens n q2 8)).cells 108, blk b4 (u8s (List.replicate 32 0)).toArray 28, blk b6 (u8s (shaLens n q2 8)).toArray 111, blk b8 (u8s (shaOut (shaBlock s2 (shaLens n q2 8)).h i)).toArray 28] [dB ao c b, dB ao c r] w) (32) (⟨0, by omega, by omega, ⟨rfl, rfl, rfl, rfl, trivial⟩, hs⟩) ?_
   rintro m ρ w ⟨i, rfl, hi, hsl, hs⟩
   refine EC_slots _ hsl ?_
   refine EC_rseq ?_
   refine EL_run rfl (R_lss rfl rfl) ?_
   refine EL_nil ?_
   refine EC_seq ?_
   refine EC_cond rfl (fun hc49 => ?_) (fun hc49 => ?_)
   ·have hc49p := cvt hc49; try dsimp only at hc49p
    refine EC_skip ?_
    refine Then_n ?_
    refine EC_seq ?_
    refine EC_block ?_
    refine EC_rseq ?_
    refine EL_run rfl (R_move rfl) ?_
    refine EL_run rfl (R_assign rfl) ?_
    refine EL_nil ?_
    refine EC_region ?_
    refine EL_run rfl (R_move rfl) ?_
    refine EL_run rfl (R_move rfl) ?_
    refine EL_run rfl (R_quoI rfl rfl (by omega) (by omega) (by omega)) ?_
    refine EL_run rfl (R_field fo_108_0 rfl) ?_
    refine EL_run rfl (R_idxA as_105 rfl rfl (by omega) (by omega)) ?_
    refine EL_run rfl (R_lb (hs.at (i := 0) rfl) Try.isAgg27 rfl (ShaSt.cell (by simp [shaBlock, shaH_len, hp8]) (i / 4) (by omega) (by omega))) ?_
    refine EL_run rfl (R_move rfl) ?_
    refine EL_run rfl (R_remI rfl rfl (by omega) (by omega) (by omega)) ?_
    refine EL_run rfl (R_subI rfl rfl (by omega)) ?_
    refine EL_run rfl (R_mulI rfl rfl (by omega)) ?_
    refine EL_run rfl (R_shr32 (8 * (3 - i % 4)) rfl rfl (by omega)) ?_
    refine EL_run rfl (R_conv32to8 Try.underlying27 Try.underlying5 rfl) ?_
    refine EL_run rfl (R_idxA as_28 rfl rfl (by omega) (by omega)) ?_
    refine EL_op rfl (O_store hs (i := 3) rfl Try.sizeOf5 rfl rfl rfl (by simp [u8s, shaOut_len]; omega) (fun w hs => ?_))
    refine EL_nil ?_
    refine InBlock_n ?_
    refine Then_n ?_
    refine EC_region ?_
    refine EL_run rfl (R_addI rfl rfl (by omega)) ?_
    refine EL_run rfl (R_move rfl) ?_
    refine EL_nil ?_
    refine Then_n ?_
    exact ⟨32 - (i + 1), by omega, i + 1, rfl, by omega, ⟨rfl, rfl, rfl, rfl, trivial⟩, hs.as (by rw [u8s_set _ i _ (by omega)]; rfl) rfl⟩
   ·have hc49p := cvt hc49; try dsimp only at hc49p
    refine EC_exit ?_
    refine Then_e ?_
    refine Then_e ?_
    refine InBlock_hit rfl ?_
    refine Then_n ?_
    obtain rfl : i = 32 := by omega
    refine EC_rseq ?_
    refine EL_run rfl (R_lw (hs.at (i := 3) rfl) Try.isAgg28 Try.sizeOf28 rfl (by simp [u8s, shaOut_len])) ?_
    refine EL_op rfl (O_storeW hs (i := 1) rfl sz_28 rfl rfl (by simp [u8s]) (by simp [u8s, shaOut_len]) (u8s_oneA _) (fun w hs => ?_))
    refine EL_nil ?_
    refine EC_ret ?_
    exact ⟨[_], ⟨res_cell hs (i := 1) rfl Try.sizeOf28 Try.isAgg28 rfl (by simp [u8s, shaOut_len]), trivial⟩, _, _, ⟨by rw [hend]; rfl, rfl, rfl⟩, (hs.fin [] []).as rfl rfl⟩

set_option maxRecDepth 100000 in
theorem shaSum_spec (ao : Option Addr) (c : Nat) (b : BL) {w0 : World} (hb : b.length ≤ 1000000000) : Spec Try.prog 69 #[.slice ao b.length c] w0 [] [dB ao c b] (fun v es1 ds1 => v = .agg (u8s (shaSum b)).toArray ∧ es1 = [] ∧ ds1 = []) := by
 refine Spec.intro (fun F D hs => ?_)
 refine Calls_of_EC (args := [.slice ao b.length c]) Try.func69 rfl rfl rfl ?_
 refine EC_rseq ?_
 refine EL_op rfl (O_alloc hs rfl Try.zeroValue28 (fun b2 w hb2 hs => ?_))
 refine EL_nil ?_
 refine EC_rseq ?_
 refine EL_op rfl (O_call hs [] [] rfl rfl rfl Try.call74 (shaBegin_spec) (fun v es1 ds1 w hPhi hs => ?_))
 obtain ⟨rfl, rfl, rfl⟩ := hPhi
 refine EL_op rfl (O_alloc hs rfl Try.zeroValue108 (fun b3 w hb3 hs => ?_))
 refine EL_op rfl (O_storeW hs (i := 1) rfl sz_108 rfl rfl rfl rfl (ShaSt.oneA _) (fun w hs => ?_))
 refine EL_nil ?_
 refine EC_seq ?_
 refine EC_block ?_
 refine EC_loop (fun m ρ w => ∃ (s : ShaSt) (q : BL) (qo : Option Addr) (qc : Nat), m = q.length ∧ q.length ≤ b.length ∧ s.h.length = 8 ∧ s.n < 2 ^ 64 ∧ shaGo s q = shaSum b ∧ Slots ρ [(0, .slice qo q.length qc), (2, .pointer (some ⟨b2, 0, none⟩)), (3, .pointer (some ⟨b3, 0, none⟩))] ∧ St w0 F D [blk b2 (u8s (List.replicate 32 0)).toArray 28, blk b3 s.cells 108] [dB qo qc q] w) (b.length) (⟨shaBegin, b, ao, c, rfl, Nat.le_refl _, rfl, by decide, rfl, ⟨rfl, rfl, rfl, trivial⟩, hs⟩) ?_
 rintro m ρ w ⟨s, q, qo, qc, rfl, hql, h8, hn8, hgo, hsl, hs⟩
 refine EC_slots _ hsl ?_
 refine EC_seq ?_
 refine EC_rseq ?_
 refine EL_run rfl (R_move rfl) ?_
 refine EL_run rfl (R_lenS Try.underlying25 rfl) ?_
 refine EL_run rfl (R_geq rfl rfl) ?_
 refine EL_nil ?_
 refine EC_cond rfl (fun hc7 => ?_) (fun hc7 => ?_)
 ·have hc7p := cvt hc7; try dsimp only at hc7p
  obtain ⟨bb, oo, rfl⟩ := dSl.some (hs.rd (i := 0) rfl) (u8s_nil (i := 0) (by omega))
  refine EC_skip ?_
  refine Then_n ?_
  refine EC_seq ?_
  refine EC_block ?_
  refine EC_drawS hs [4, 5] [0, 3] [1] [0] (.take 0 (.take 1 (.take 2 (.take 3 (.fork 4 (.fork 5 .done (.done)) (.done)))))) mix_ok (by kernel_rfl) (fun w hs _ => ?_)
  refine EP_read rfl rfl rfl (RdS.of hs rfl rfl) (fun _ hR => R_lw (hR.e 1 rfl rfl) Try.isAgg108 Try.sizeOf108 rfl (ShaSt.size _ h8)) ?_
  refine EP_take rfl rfl rfl (fun _ => R_move rfl) ?_
  refine EP_take rfl rfl rfl (fun _ => R_arrPtr Try.underlying111 rfl (by omega)) ?_
  refine EP_read rfl rfl rfl (RdS.of hs rfl rfl) (fun _ hR => R_ldR (i := 0) (vs := u8s (q.take 64)) (hR.d 0 rfl rfl) Try.isAgg111 Try.sizeOf111 rfl rfl (by simp [u8s]; omega) (u8s_nil (i := 0) (by omega)) (fun j u hu => by rw [Nat.zero_add]; exact u8s_take_get hu)) ?_
  refine EP_act rfl rfl (O_call hs [] [] rfl rfl rfl Try.call75 (shaBlock_spec s (q.take 64) h8 (by rw [List.length_take]; omega)) (fun v es1 ds1 w hPhi hs => ?_))
  obtain ⟨rfl, rfl, rfl⟩ := hPhi
  refine ⟨(rq_no (by kernel_rfl)), ?_⟩
  refine EP_act rfl rfl (O_storeW hs (i := 1) rfl sz_108 rfl rfl (ShaSt.size _ h8) (ShaSt.size _ (by simp [shaBlock, shaH_len, h8])) (ShaSt.oneA _) (fun w hs => ⟨(rq_no (by kernel_rfl)), ?_⟩))
  refine EP_done ?_
  refine InBlock_n ?_
  refine Then_n ?_
  have hs := hs.dBdrop (j := 0) rfl 64 (by omega)
  refine EC_region ?_
  refine EL_run rfl (R_move rfl) ?_
  refine EL_run rfl (R_sliceLo es_25 rfl rfl (by omega) (by omega)) ?_
  refine EL_run rfl (R_assign rfl) ?_
  refine EL_nil ?_
  refine Then_n ?_
  exact ⟨(q.drop 64).length, by rw [List.length_drop]; omega, shaBlock s (q.take 64), q.drop 64, _, _, rfl, by rw [List.length_drop]; omega, by simp [shaBlock, shaH_len, h8], Nat.mod_lt _ (by decide), by rw [← hgo]; conv => rhs; rw [shaGo, dif_pos (by omega)], ⟨by rw [List.length_drop]; rfl, rfl, rfl, trivial⟩, (hs.fin [true, true] [1]).as rfl rfl⟩
 ·have hc7p := cvt hc7; try dsimp only at hc7p
  refine EC_exit ?_
  refine Then_e ?_
  refine Then_e ?_
  refine InBlock_hit rfl ?_
  refine Then_n ?_
  refine EC_rseq ?_
  refine EL_run rfl (R_lw (hs.at (i := 1) rfl) Try.isAgg108 Try.sizeOf108 rfl (ShaSt.size _ h8)) ?_
  refine EL_run rfl (R_move rfl) ?_
  refine EL_op rfl (O_call hs [] [0] rfl rfl rfl Try.call76 (shaEnd_spec s qo qc q h8 hn8 (by omega)) (fun v es1 ds1 w hPhi hs => ?_))
  obtain ⟨rfl, rfl, rfl⟩ := hPhi
  refine EL_op rfl (O_storeW hs (i := 0) rfl sz_28 rfl rfl (by simp [u8s]) (by simp [u8s, shaEnd_len]) (u8s_oneA _) (fun w hs => ?_))
  have hgo2 : shaEnd s q = shaSum b := by rw [← hgo, shaGo, dif_neg (by omega)]
  rw [hgo2] at hs
  refine EL_nil ?_
  refine EC_ret ?_
  exact ⟨[_], ⟨res_cell hs (i := 0) rfl Try.sizeOf28 Try.isAgg28 rfl (by simp [u8s, shaSum_len]), trivial⟩, _, _, ⟨rfl, rfl, rfl⟩, (hs.fin [] []).as rfl rfl⟩
end Go.Proofs.Ytpcojkbljgpecaa
