/- Walks, part 11: keys of blocks, and their order. -/
import Derived.Test.YtpcojkbljgpecaaW4
import Derived.Test.YtpcojkbljgpecaaM8
namespace Go.Proofs.Ytpcojkbljgpecaa
open Go
set_option maxRecDepth 100000 in
theorem keyLay_spec (b : Nat) (v : Value) (out : BL) (n : Int) (k : Nat) {w0 : World} (hk : k ≤ 8) (ho : out.length ≤ 1000) : Spec Try.prog 22 #[.int .i64 n, .int .i64 (k : Int), .pointer (some ⟨b, 0, none⟩)] w0 [blk b #[v] 25, oSl v 5 1 out.length (u8s out)] [] (fun r es1 ds1 => r = .tuple #[] ∧ ∃ v', es1 = [blk b #[v'] 25, oSl v' 5 1 (out ++ beB n k).length (u8s (out ++ beB n k))] ∧ ds1 = []) := by
 refine Spec.intro (fun F D hs => ?_)
 refine Calls_of_EC (args := [.int .i64 n, .int .i64 (k : Int), .pointer (some ⟨b, 0, none⟩)]) Try.func22 rfl rfl rfl ?_
 refine EC_rseq ?_
 refine EL_run rfl (R_move rfl) ?_
 refine EL_run rfl (R_subI rfl rfl (by omega)) ?_
 refine EL_run rfl (R_assign rfl) ?_
 refine EL_nil ?_
 refine EC_block ?_
 refine EC_loop (fun mm ρ w => ∃ (j : Nat) (v : Value) (o2 : BL), mm = j ∧ j ≤ k ∧ o2 ++ beB n j = out ++ beB n k ∧ o2.length + j = out.length + k ∧ Slots ρ [(0, .int .i64 n), (2, .pointer (some ⟨b, 0, none⟩)), (5, .int .i64 ((j : Int) - 1))] ∧ St w0 F D [blk b #[v] 25, oSl v 5 1 o2.length (u8s o2)] [] w) (k) (⟨k, v, out, rfl, Nat.le_refl _, rfl, rfl, ⟨rfl, rfl, rfl, trivial⟩, hs⟩) ?_
 rintro j ρ w ⟨_, v, o2, rfl, hj, ho2, hol, hsl, hs⟩
 refine EC_slots _ hsl ?_
 refine EC_seq ?_
 refine EC_rseq ?_
 refine EL_run rfl (R_move rfl) ?_
 refine EL_run rfl (R_geq rfl rfl) ?_
 refine EL_nil ?_
 refine EC_cond rfl (fun hc9 => ?_) (fun hc9 => ?_)
 ·have hc9p := cvt hc9; try dsimp only at hc9p
  obtain ⟨j, rfl⟩ : ∃ q, j = q + 1 := ⟨j - 1, by omega⟩
  refine EC_skip ?_
  refine Then_n ?_
  refine EC_seq ?_
  refine EC_block ?_
  refine EC_drawS hs [6, 7, 8] [0] [0] [] (.take 0 (.take 1 (.take 2 (.take 3 (.take 4 (.take 5 (.fork 6 (.fork 7 (.fork 8 .done (.done)) (.done)) (.done)))))))) mix_ok (by kernel_rfl) (fun w hs _ => ?_)
  refine EP_read rfl rfl rfl (RdS.of hs rfl rfl) (fun _ hR => R_lb (hR.e 0 rfl rfl) Try.isAgg25 rfl rfl) ?_
  refine EP_take rfl rfl rfl (fun _ => R_move rfl) ?_
  refine EP_take rfl rfl rfl (fun _ => R_move rfl) ?_
  refine EP_take rfl rfl rfl (fun _ => R_mulI rfl rfl (by omega)) ?_
  refine EP_take rfl rfl rfl (fun _ => R_shrI (8 * j) rfl rfl (by push_cast; omega) (by omega)) ?_
  refine EP_take rfl rfl rfl (fun _ => R_convB Try.underlying3 Try.underlying5 rfl) ?_
  refine EP_act rfl rfl (O_buildSlice [.tmp 17] hs rfl ei_25 rfl rfl rfl (size1 rfl) (by decide) (fun b18 w hb18 hs => ⟨(fun _ => RdS.of hs rfl rfl), ?_⟩))
  refine EP_act rfl rfl (O_append hs (i := 1) rfl rfl ei_25 rfl rfl (Src.own (hs.at (i := 2) rfl)) (one_flat1 rfl) (by omega) (by omega) (fun v19 w hs => ?_))
  obtain ⟨ao9, c9, hv9⟩ := oSl.val (hs.at (i := 1) rfl)
  subst hv9
  refine ⟨(rq_no (by kernel_rfl)), ?_⟩
  refine EP_act rfl rfl (O_store hs (i := 0) rfl Try.sizeOf25 rfl rfl rfl rfl (fun w hs => ⟨(rq_no (by kernel_rfl)), ?_⟩))
  have hs := (hs.fin [true, true] []).asSl (i := 1) rfl (o2 ++ [byteOf (n / 2 ^ (8 * j))]).length (u8s (o2 ++ [byteOf (n / 2 ^ (8 * j))])) (by simp) (u8s_snoc o2 _ rfl)
  refine EP_done ?_
  refine InBlock_n ?_
  refine Then_n ?_
  refine EC_region ?_
  refine EL_run rfl (R_move rfl) ?_
  refine EL_run rfl (R_subI rfl rfl (by omega)) ?_
  refine EL_run rfl (R_assign rfl) ?_
  refine EL_nil ?_
  refine Then_n ?_
  exact ⟨j, by omega, j, _, o2 ++ [byteOf (n / 2 ^ (8 * j))], rfl, by omega, by rw [← ho2, beB_succ]; simp, by simp; omega, ⟨rfl, rfl, sI (by push_cast; omega), trivial⟩, hs⟩
 ·have hc9p := cvt hc9; try dsimp only at hc9p
  obtain rfl : j = 0 := by omega
  rw [beB_zero, List.append_nil] at ho2
  subst ho2
  refine EC_exit ?_
  refine Then_e ?_
  refine Then_e ?_
  refine InBlock_hit rfl ?_
  exact ⟨[], trivial, _, _, ⟨rfl, v, rfl, rfl⟩, (hs.fin [true, true] []).as rfl rfl⟩

set_option maxRecDepth 100000 in
theorem key_spec (p : Ptr) {w0 : World} : Spec Try.prog 7 #[p.val] w0 [] [] (fun v es1 ds1 => es1 = [oSl v 5 1 (keyP p).length (u8s (keyP p))] ∧ ds1 = []) := by
 refine Spec.intro (fun F D hs => ?_)
 refine Calls_of_EC (args := [p.val]) Try.func7 rfl rfl rfl ?_
 refine EC_rseq ?_
 refine EL_op rfl (O_box hs rfl rfl (fun b1 w hb1 hs => ?_))
 refine EL_run rfl (R_assign rfl) ?_
 refine EL_nil ?_
 refine EC_rseq ?_
 refine EL_op rfl (O_alloc hs rfl Try.zeroValue25 (fun b3 w hb3 hs => ?_))
 have hs := hs.nilSl 5 1
 refine EL_nil ?_
 refine EC_rseq ?_
 refine EL_run rfl (R_makeFunc rfl rfl) ?_
 refine EL_run rfl (R_assign rfl) ?_
 refine EL_nil ?_
 refine EC_rseq ?_
 refine EL_run rfl (R_move rfl) ?_
 refine EL_run rfl (R_field fo_30_1 rfl) ?_
 refine EL_run rfl (R_lb (hs.at (i := 0) rfl) Try.isAgg3 rfl rfl) ?_
 refine EL_op rfl (O_call hs [false, true, true] [] rfl rfl rfl Try.call22 (keyLay_spec b3 (.slice none 0 0) [] p.birth 8 (by omega) (by simp)) (fun v es1 ds1 w hPhi hs => ?_))
 obtain ⟨rfl, v2, rfl, rfl⟩ := hPhi
 refine EL_nil ?_
 refine EC_rseq ?_
 refine EL_run rfl (R_move rfl) ?_
 refine EL_run rfl (R_field fo_30_0 rfl) ?_
 refine EL_run rfl (R_lb (hs.at (i := 0) rfl) Try.isAgg3 rfl rfl) ?_
 refine EL_op rfl (O_call hs [false, true, true] [] rfl rfl rfl Try.call22 (keyLay_spec b3 v2 ([] ++ beB p.birth 8) p.pos 4 (by omega) (by simp [beB_len])) (fun v es1 ds1 w hPhi hs => ?_))
 obtain ⟨rfl, v3, rfl, rfl⟩ := hPhi
 refine EL_nil ?_
 refine EC_rseq ?_
 refine EL_run rfl (R_lb (hs.at (i := 1) rfl) Try.isAgg25 rfl rfl) ?_
 refine EL_run rfl (R_assign rfl) ?_
 refine EL_nil ?_
 refine EC_ret ?_
 exact ⟨[_], ⟨rfl, trivial⟩, _, _, ⟨rfl, rfl⟩, (hs.fin [false, false, true] []).as (by simp [keyP]; rfl) rfl⟩

set_option maxRecDepth 100000 in
theorem refKey_spec (p : Ptr) {w0 : World} : Spec Try.prog 8 #[p.val] w0 [] [] (fun v es1 ds1 => es1 = [oSl v 5 1 (keyP p).length (u8s (keyP p))] ∧ ds1 = []) := by
 refine Spec.intro (fun F D hs => ?_)
 refine Calls_of_EC (args := [p.val]) Try.func8 rfl rfl rfl ?_
 refine EC_rseq ?_
 refine EL_op rfl (O_box hs rfl rfl (fun b1 w hb1 hs => ?_))
 refine EL_run rfl (R_assign rfl) ?_
 refine EL_nil ?_
 refine EC_rseq ?_
 refine EL_run rfl (R_assign rfl) ?_
 have hs := hs.nilSl 5 1
 refine EL_nil ?_
 refine EC_seq ?_
 refine EC_rseq ?_
 refine EL_run rfl (R_assign rfl) ?_
 refine EL_nil ?_
 refine EC_block ?_
 refine EC_loop (fun mm ρ w => ∃ (j : Nat) (v : Value) (o2 : BL), mm = j ∧ j ≤ 8 ∧ o2 ++ beB p.birth j = beB p.birth 8 ∧ o2.length + j = 8 ∧ Slots ρ [(1, .pointer (some ⟨b1, 0, none⟩)), (3, v), (4, .int .i64 ((j : Int) - 1))] ∧ St w0 F D [blk b1 p.cells 30, oSl v 5 1 o2.length (u8s o2)] [] w) (8) (⟨8, _, [], rfl, Nat.le_refl _, rfl, rfl, ⟨rfl, rfl, rfl, trivial⟩, hs⟩) ?_
 rintro j ρ w ⟨_, v, o2, rfl, hj, ho2, hol, hsl, hs⟩
 refine EC_slots _ hsl ?_
 refine EC_seq ?_
 refine EC_rseq ?_
 refine EL_run rfl (R_move rfl) ?_
 refine EL_run rfl (R_geq rfl rfl) ?_
 refine EL_nil ?_
 refine EC_cond rfl (fun hc7 => ?_) (fun hc7 => ?_)
 ·have hc7p := cvt hc7; try dsimp only at hc7p
  obtain ⟨j, rfl⟩ : ∃ q, j = q + 1 := ⟨j - 1, by omega⟩
  refine EC_skip ?_
  refine Then_n ?_
  refine EC_seq ?_
  refine EC_block ?_
  refine EC_region ?_
  refine EL_run rfl (R_move rfl) ?_
  refine EL_run rfl (R_field fo_30_1 rfl) ?_
  refine EL_run rfl (R_lb (hs.at (i := 0) rfl) Try.isAgg3 rfl rfl) ?_
  refine EL_run rfl (R_move rfl) ?_
  refine EL_run rfl (R_mulI rfl rfl (by omega)) ?_
  refine EL_run rfl (R_convIU Try.underlying3 Try.underlying54 rfl (by push_cast; omega) (by push_cast; omega)) ?_
  refine EL_run rfl (R_shrI (8 * j) rfl rfl (by push_cast; omega) (by omega)) ?_
  refine EL_run rfl (R_convB Try.underlying3 Try.underlying5 rfl) ?_
  refine EL_op rfl (O_buildSlice [.tmp 17] hs rfl ei_25 rfl rfl rfl (size1 rfl) (by decide) (fun b18 w hb18 hs => ?_))
  refine EL_op rfl (O_append hs (i := 1) rfl rfl ei_25 rfl rfl (Src.own (hs.at (i := 2) rfl)) (one_flat1 rfl) (by omega) (by omega) (fun v19 w hs => ?_))
  refine EL_run rfl (R_assign rfl) ?_
  have hs := (hs.fin [true, true] []).asSl (i := 1) rfl (o2 ++ [byteOf (p.birth / 2 ^ (8 * j))]).length (u8s (o2 ++ [byteOf (p.birth / 2 ^ (8 * j))])) (by simp) (u8s_snoc o2 _ rfl)
  refine EL_nil ?_
  refine InBlock_n ?_
  refine Then_n ?_
  refine EC_region ?_
  refine EL_run rfl (R_move rfl) ?_
  refine EL_run rfl (R_subI rfl rfl (by omega)) ?_
  refine EL_run rfl (R_assign rfl) ?_
  refine EL_nil ?_
  refine Then_n ?_
  exact ⟨j, by omega, j, v19, o2 ++ [byteOf (p.birth / 2 ^ (8 * j))], rfl, by omega, by rw [← ho2, beB_succ]; simp, by simp; omega, ⟨rfl, rfl, sI (by push_cast; omega), trivial⟩, hs⟩
 ·have hc7p := cvt hc7; try dsimp only at hc7p
  obtain rfl : j = 0 := by omega
  rw [beB_zero, List.append_nil] at ho2
  subst ho2
  refine EC_exit ?_
  refine Then_e ?_
  refine Then_e ?_
  refine InBlock_hit rfl ?_
  refine Then_n ?_
  refine EC_seq ?_
  refine EC_rseq ?_
  refine EL_run rfl (R_assign rfl) ?_
  refine EL_nil ?_
  refine EC_block ?_
  refine EC_loop (fun mm ρ w => ∃ (j : Nat) (v : Value) (o2 : BL), mm = j ∧ j ≤ 4 ∧ o2 ++ beB p.pos j = keyP p ∧ o2.length + j = 12 ∧ Slots ρ [(1, .pointer (some ⟨b1, 0, none⟩)), (3, v), (5, .int .i64 ((j : Int) - 1))] ∧ St w0 F D [blk b1 p.cells 30, oSl v 5 1 o2.length (u8s o2)] [] w) (4) (⟨4, _, beB p.birth 8, rfl, Nat.le_refl _, rfl, rfl, ⟨rfl, rfl, rfl, trivial⟩, hs⟩) ?_
  rintro j ρ w ⟨_, v, o2, rfl, hj, ho2, hol, hsl, hs⟩
  refine EC_slots _ hsl ?_
  refine EC_seq ?_
  refine EC_rseq ?_
  refine EL_run rfl (R_move rfl) ?_
  refine EL_run rfl (R_geq rfl rfl) ?_
  refine EL_nil ?_
  refine EC_cond rfl (fun hc21 => ?_) (fun hc21 => ?_)
  ·have hc21p := cvt hc21; try dsimp only at hc21p
   obtain ⟨j, rfl⟩ : ∃ q, j = q + 1 := ⟨j - 1, by omega⟩
   refine EC_skip ?_
   refine Then_n ?_
   refine EC_seq ?_
   refine EC_block ?_
   refine EC_region ?_
   refine EL_run rfl (R_move rfl) ?_
   refine EL_run rfl (R_field fo_30_0 rfl) ?_
   refine EL_run rfl (R_lb (hs.at (i := 0) rfl) Try.isAgg3 rfl rfl) ?_
   refine EL_run rfl (R_move rfl) ?_
   refine EL_run rfl (R_mulI rfl rfl (by omega)) ?_
   refine EL_run rfl (R_convIU Try.underlying3 Try.underlying54 rfl (by push_cast; omega) (by push_cast; omega)) ?_
   refine EL_run rfl (R_shrI (8 * j) rfl rfl (by push_cast; omega) (by omega)) ?_
   refine EL_run rfl (R_convB Try.underlying3 Try.underlying5 rfl) ?_
   refine EL_op rfl (O_buildSlice [.tmp 31] hs rfl ei_25 rfl rfl rfl (size1 rfl) (by decide) (fun b32 w hb32 hs => ?_))
   refine EL_op rfl (O_append hs (i := 1) rfl rfl ei_25 rfl rfl (Src.own (hs.at (i := 2) rfl)) (one_flat1 rfl) (by omega) (by omega) (fun v33 w hs => ?_))
   refine EL_run rfl (R_assign rfl) ?_
   have hs := (hs.fin [true, true] []).asSl (i := 1) rfl (o2 ++ [byteOf (p.pos / 2 ^ (8 * j))]).length (u8s (o2 ++ [byteOf (p.pos / 2 ^ (8 * j))])) (by simp) (u8s_snoc o2 _ rfl)
   refine EL_nil ?_
   refine InBlock_n ?_
   refine Then_n ?_
   refine EC_region ?_
   refine EL_run rfl (R_move rfl) ?_
   refine EL_run rfl (R_subI rfl rfl (by omega)) ?_
   refine EL_run rfl (R_assign rfl) ?_
   refine EL_nil ?_
   refine Then_n ?_
   exact ⟨j, by omega, j, v33, o2 ++ [byteOf (p.pos / 2 ^ (8 * j))], rfl, by omega, by rw [← ho2, beB_succ]; simp, by simp; omega, ⟨rfl, rfl, sI (by push_cast; omega), trivial⟩, hs⟩
  ·have hc21p := cvt hc21; try dsimp only at hc21p
   obtain rfl : j = 0 := by omega
   rw [beB_zero, List.append_nil] at ho2
   subst ho2
   refine EC_exit ?_
   refine Then_e ?_
   refine Then_e ?_
   refine InBlock_hit rfl ?_
   refine Then_n ?_
   refine EC_rseq ?_
   refine EL_run rfl (R_move rfl) ?_
   refine EL_run rfl (R_assign rfl) ?_
   refine EL_nil ?_
   refine EC_ret ?_
   exact ⟨[_], ⟨rfl, trivial⟩, _, _, ⟨rfl, rfl⟩, (hs.fin [false, true] []).as rfl rfl⟩

set_option maxRecDepth 100000 in
theorem bcmp_spec (a1 a2 : Option Addr) (c1 c2 : Nat) (l1 l2 : BL) {w0 : World} : Spec Try.prog 42 #[.slice a1 l1.length c1, .slice a2 l2.length c2] w0 [] [dB a1 c1 l1, dB a2 c2 l2] (fun v es1 ds1 => v = .int .i64 (cmpB l1 l2) ∧ es1 = [] ∧ ds1 = []) := by
 refine Spec.intro (fun F D hs => ?_)
 refine Calls_of_EC (args := [.slice a1 l1.length c1, .slice a2 l2.length c2]) Try.func42 rfl rfl rfl ?_
 refine EC_rseq ?_
 refine EL_run rfl (R_assign rfl) ?_
 refine EL_nil ?_
 refine EC_rseq ?_
 refine EL_run rfl (R_move rfl) ?_
 refine EL_run rfl (R_move rfl) ?_
 refine EL_run rfl (R_cmpB Try.func57 (by kernel_rfl) (by kernel_rfl) (by kernel_rfl) (by kernel_rfl) rfl rfl (hs.rd (i := 0) rfl) (hs.rd (i := 1) rfl)) ?_
 refine EL_run rfl (R_assign rfl) ?_
 refine EL_nil ?_
 refine EC_ret ?_
 exact ⟨[_], ⟨rfl, trivial⟩, _, _, ⟨rfl, rfl, rfl⟩, (hs.fin [] []).as rfl rfl⟩

set_option maxRecDepth 100000 in
theorem dcmp_spec (p q : Ptr) {w0 : World} : Spec Try.prog 25 #[p.val, q.val] w0 [] [] (fun v es1 ds1 => v = .int .i64 (cmpB (keyP p) (keyP q)) ∧ es1 = [] ∧ ds1 = []) := by
 refine Spec.intro (fun F D hs => ?_)
 refine Calls_of_EC (args := [p.val, q.val]) Try.func25 rfl rfl rfl ?_
 refine EC_rseq ?_
 refine EL_op rfl (O_box hs rfl rfl (fun b2 w hb2 hs => ?_))
 refine EL_op rfl (O_box hs rfl rfl (fun b3 w hb3 hs => ?_))
 refine EL_run rfl (R_assign rfl) ?_
 refine EL_nil ?_
 refine EC_dseqS hs [1, 3, 4] [0, 2] [0, 1] [] (.take 0 (.take 2 (.fork 1 (.fork 3 (.fork 4 (.take 5 .done) (.done)) (.done)) (.done)))) mix_ok (by kernel_rfl) (fun w hs _ => ?_)
 refine EP_read rfl rfl rfl (RdS.of hs rfl rfl) (fun _ hR => R_lw (hR.e 0 rfl rfl) Try.isAgg30 Try.sizeOf30 rfl (Ptr.size _)) ?_
 refine EP_read rfl rfl rfl (RdS.of hs rfl rfl) (fun _ hR => R_lw (hR.e 1 rfl rfl) Try.isAgg30 Try.sizeOf30 rfl (Ptr.size _)) ?_
 refine EP_act rfl rfl (O_call hs [] [] rfl rfl rfl Try.call7 (key_spec p) (fun v es1 ds1 w hPhi hs => ?_))
 obtain ⟨rfl, rfl⟩ := hPhi
 obtain ⟨ao6, c6, rfl, hs⟩ := hs.freezeSl (i := 2) rfl
 refine ⟨(fun _ => RdS.of hs rfl rfl), ?_⟩
 refine EP_act rfl rfl (O_call hs [] [] rfl rfl rfl Try.call7 (key_spec q) (fun v es1 ds1 w hPhi hs => ?_))
 obtain ⟨rfl, rfl⟩ := hPhi
 obtain ⟨ao8, c8, rfl, hs⟩ := hs.freezeSl (i := 2) rfl
 refine ⟨(fun _ => RdS.of hs rfl rfl), ?_⟩
 refine EP_act rfl rfl (O_call hs [] [0, 1] rfl rfl rfl Try.call42 (bcmp_spec ao6 ao8 c6 c8 (keyP p) (keyP q)) (fun v es1 ds1 w hPhi hs => ?_))
 obtain ⟨rfl, rfl, rfl⟩ := hPhi
 refine ⟨(fun _ => RdS.of hs rfl rfl), ?_⟩
 refine EP_take rfl rfl rfl (fun _ => R_assign rfl) ?_
 refine EP_done ?_
 refine EC_ret ?_
 exact ⟨[_], ⟨rfl, trivial⟩, _, _, ⟨rfl, rfl, rfl⟩, (hs.fin [] []).as rfl rfl⟩

set_option maxRecDepth 100000 in
theorem dsame_spec (p q : Ptr) {w0 : World} : Spec Try.prog 27 #[p.val, q.val] w0 [] [] (fun v es1 ds1 => v = .bool (decide (keyP p = keyP q)) ∧ es1 = [] ∧ ds1 = []) := by
 refine Spec.intro (fun F D hs => ?_)
 refine Calls_of_EC (args := [p.val, q.val]) Try.func27 rfl rfl rfl ?_
 refine EC_rseq ?_
 refine EL_op rfl (O_box hs rfl rfl (fun b2 w hb2 hs => ?_))
 refine EL_op rfl (O_box hs rfl rfl (fun b3 w hb3 hs => ?_))
 refine EL_run rfl (R_assign rfl) ?_
 refine EL_nil ?_
 refine EC_rseq ?_
 refine EL_run rfl (R_lw (hs.at (i := 0) rfl) Try.isAgg30 Try.sizeOf30 rfl (Ptr.size _)) ?_
 refine EL_run rfl (R_lw (hs.at (i := 1) rfl) Try.isAgg30 Try.sizeOf30 rfl (Ptr.size _)) ?_
 refine EL_op rfl (O_call hs [] [] rfl rfl rfl Try.call25 (dcmp_spec p q) (fun v es1 ds1 w hPhi hs => ?_))
 obtain ⟨rfl, rfl, rfl⟩ := hPhi
 refine EL_run rfl (R_eql rfl rfl) ?_
 refine EL_run rfl (R_assign rfl) ?_
 refine EL_nil ?_
 refine EC_ret ?_
 exact ⟨[_], ⟨rfl, trivial⟩, _, _, ⟨by simp only [tupleOf]; congr 1; exact decide_eq_decide.2 cmpB_eq, rfl, rfl⟩, (hs.fin [] []).as rfl rfl⟩

set_option maxRecDepth 100000 in
theorem splitIs_spec (b : Nat) (ep : Int) (p : Ptr) {w0 : World} : Spec Try.prog 21 #[p.val, .pointer (some ⟨b, 0, none⟩)] w0 [blk b #[.int .i64 ep] 3] [] (fun v es1 ds1 => v = .bool (decide (p.birth ≤ ep)) ∧ es1 = [blk b #[.int .i64 ep] 3] ∧ ds1 = []) := by
 refine Spec.intro (fun F D hs => ?_)
 refine Calls_of_EC (args := [p.val, .pointer (some ⟨b, 0, none⟩)]) Try.func21 rfl rfl rfl ?_
 refine EC_rseq ?_
 refine EL_op rfl (O_box hs rfl rfl (fun b2 w hb2 hs => ?_))
 refine EL_run rfl (R_assign rfl) ?_
 refine EL_nil ?_
 refine EC_rseq ?_
 refine EL_run rfl (R_field fo_30_1 rfl) ?_
 refine EL_run rfl (R_lb (hs.at (i := 1) rfl) Try.isAgg3 rfl rfl) ?_
 refine EL_run rfl (R_lb (hs.at (i := 0) rfl) Try.isAgg3 rfl rfl) ?_
 refine EL_run rfl (R_leq rfl rfl) ?_
 refine EL_run rfl (R_assign rfl) ?_
 refine EL_nil ?_
 refine EC_ret ?_
 exact ⟨[_], ⟨rfl, trivial⟩, _, _, ⟨rfl, rfl, rfl⟩, (hs.fin [true] []).as rfl rfl⟩

set_option maxRecDepth 100000 in
theorem refSectors_spec (p : Ptr) {w0 : World} : Spec Try.prog 28 #[p.val] w0 [] [] (fun v es1 ds1 => v = .int .i64 (sectors p.len) ∧ es1 = [] ∧ ds1 = []) := by
 refine Spec.intro (fun F D hs => ?_)
 refine Calls_of_EC (args := [p.val]) Try.func28 rfl rfl rfl ?_
 refine EC_rseq ?_
 refine EL_op rfl (O_box hs rfl rfl (fun b1 w hb1 hs => ?_))
 refine EL_run rfl (R_assign rfl) ?_
 refine EL_nil ?_
 refine EC_seq ?_
 refine EC_rseq ?_
 refine EL_run rfl (R_field fo_30_2 rfl) ?_
 refine EL_run rfl (R_lb (hs.at (i := 0) rfl) Try.isAgg3 rfl rfl) ?_
 refine EL_run rfl (R_lss rfl rfl) ?_
 refine EL_run rfl (R_move rfl) ?_
 refine EL_split 6 rfl (fun hg3 => ?_) (fun hg3 => ?_)
 ·have hg3p := cvt hg3; try dsimp only at hg3p
  refine EL_pass rfl rfl rfl hg3 ?_
  refine EL_pass rfl rfl rfl hg3 ?_
  refine EL_pass rfl rfl rfl hg3 ?_
  refine EL_run rfl (R_pickT rfl hg3 rfl) ?_
  refine EL_nil ?_
  refine EC_cond rfl (fun hcx => ?_) (fun hcx => ?_)
  ·skip
   refine EC_rseq ?_
   refine EL_run rfl (R_assign rfl) ?_
   refine EL_nil ?_
   refine EC_ret ?_
   refine Then_r ?_
   exact ⟨[_], ⟨rfl, trivial⟩, _, _, ⟨by simp only [tupleOf, sectors]; congr 1; rw [if_pos (by first | exact .inl hg3p | exact .inr hc10p)], rfl, rfl⟩, (hs.fin [] []).as rfl rfl⟩
  ·exact Bool.noConfusion hcx
 ·have hg3p := cvt hg3; try dsimp only at hg3p
  refine EL_want rfl rfl hg3 ?_
  refine EL_run rfl (R_field fo_30_2 rfl) ?_
  refine EL_want rfl rfl hg3 ?_
  refine EL_run rfl (R_lb (hs.at (i := 0) rfl) Try.isAgg3 rfl rfl) ?_
  refine EL_want rfl rfl hg3 ?_
  refine EL_run rfl (R_gtr rfl rfl) ?_
  refine EL_run rfl (R_pickF rfl hg3 rfl) ?_
  refine EL_nil ?_
  refine EC_cond rfl (fun hc10 => ?_) (fun hc10 => ?_)
  ·have hc10p := cvt hc10; try dsimp only at hc10p
   refine EC_rseq ?_
   refine EL_run rfl (R_assign rfl) ?_
   refine EL_nil ?_
   refine EC_ret ?_
   refine Then_r ?_
   exact ⟨[_], ⟨rfl, trivial⟩, _, _, ⟨by simp only [tupleOf, sectors]; congr 1; rw [if_pos (by first | exact .inl hg3p | exact .inr hc10p)], rfl, rfl⟩, (hs.fin [] []).as rfl rfl⟩
  ·have hc10p := cvt hc10; try dsimp only at hc10p
   refine EC_skip ?_
   refine Then_n ?_
   refine EC_rseq ?_
   refine EL_run rfl (R_field fo_30_2 rfl) ?_
   refine EL_run rfl (R_lb (hs.at (i := 0) rfl) Try.isAgg3 rfl rfl) ?_
   refine EL_run rfl (R_addI rfl rfl (by omega)) ?_
   refine EL_run rfl (R_quoI rfl rfl (by omega) (by omega) (by omega)) ?_
   refine EL_run rfl (R_assign rfl) ?_
   refine EL_nil ?_
   refine EC_ret ?_
   exact ⟨[_], ⟨rfl, trivial⟩, _, _, ⟨by simp only [tupleOf, sectors]; congr 1; rw [if_neg (by omega)], rfl, rfl⟩, (hs.fin [] []).as rfl rfl⟩
end Go.Proofs.Ytpcojkbljgpecaa
