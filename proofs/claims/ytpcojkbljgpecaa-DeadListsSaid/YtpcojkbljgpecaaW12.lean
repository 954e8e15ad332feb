/- Walks, part 12: lists of blocks: parts, sectors, alike. -/
import Derived.Test.YtpcojkbljgpecaaW11
namespace Go.Proofs.Ytpcojkbljgpecaa
open Go
def secSum (l : List Ptr) : Int := (l.map fun p => sectors p.len).sum
theorem secSum_succ {l : List Ptr} {i : Nat} (hi : i < l.length) : secSum (l.take (i + 1)) = secSum (l.take i) + sectors l[i].len := by
  rw [List.take_succ_eq_append_getElem hi]
  unfold secSum
  rw [List.map_append, List.sum_append]
  simp
theorem secSum_range : ∀ l : List Ptr, 0 ≤ secSum l ∧ secSum l ≤ 128 * (l.length : Int)
  | [] => by simp [secSum]
  | p :: l => by
    have h1 := secSum_range l
    have h2 := sectors_range p.len
    simp only [secSum, List.map_cons, List.sum_cons, List.length_cons] at h1 ⊢
    push_cast
    omega
set_option maxRecDepth 100000 in
theorem cloneP_spec (ao : Option Addr) (c : Nat) (l : List Ptr) {w0 : World} (hl : l.length ≤ 1000000) : Spec Try.prog 23 #[.slice ao l.length c] w0 [] [dP ao c l] (fun v es1 ds1 => es1 = [oP v l.length l] ∧ ds1 = []) := by
 refine Spec.intro (fun F D hs => ?_)
 refine Calls_of_EC (args := [.slice ao l.length c]) Try.func23 rfl rfl rfl ?_
 refine EC_rseq ?_
 refine EL_run rfl (R_assign rfl) ?_
 refine EL_nil ?_
 refine EC_seq ?_
 refine EC_rseq ?_
 refine EL_run rfl (R_move rfl) ?_
 refine EL_run rfl (R_eqlSlNil Try.underlying22 rfl rfl) ?_
 refine EL_nil ?_
 refine EC_cond rfl (fun hc4 => ?_) (fun hc4 => ?_)
 ·have hc4p := cvt hc4; try dsimp only at hc4p
  have hnil : ao = none := by simpa using hc4p
  subst hnil
  obtain rfl : l = [] := by
    have h := (hs.rd (i := 0) rfl).1
    have h1 := h.2.1 rfl
    have h2 := h.1
    exact List.eq_nil_of_length_eq_zero (by omega)
  have hs := hs.nilSl 30 36
  refine EC_rseq ?_
  refine EL_run rfl (R_assign rfl) ?_
  refine EL_nil ?_
  refine EC_ret ?_
  refine Then_r ?_
  exact ⟨[_], ⟨rfl, trivial⟩, _, _, ⟨rfl, rfl⟩, (hs.fin [true] []).as rfl rfl⟩
 ·have hc4p := cvt hc4; try dsimp only at hc4p
  refine EC_skip ?_
  refine Then_n ?_
  refine EC_rseq ?_
  refine EL_op rfl (O_buildSlice [] hs rfl ei_22 rfl rfl rfl (by simp) (by decide) (fun b5 w hb5 hs => ?_))
  refine EL_run rfl (R_move rfl) ?_
  refine EL_op rfl (O_append hs (i := 0) rfl rfl ei_22 rfl rfl (Src.data (hs.rd (i := 0) rfl)) (Ptr.oneL l) (by omega) (by omega) (fun v7 w hs => ?_))
  have hs := hs.asSl (i := 0) rfl l.length (l.flatMap Ptr.l) (by omega) (by simp)
  refine EL_run rfl (R_assign rfl) ?_
  refine EL_nil ?_
  refine EC_ret ?_
  exact ⟨[_], ⟨rfl, trivial⟩, _, _, ⟨rfl, rfl⟩, (hs.fin [true] []).as rfl rfl⟩

set_option maxRecDepth 100000 in
theorem kept_spec (b : Nat) (ep : Int) (ao : Option Addr) (c : Nat) (l : List Ptr) {w0 : World} (hl : l.length ≤ 1000000) : Spec Try.prog 20 #[.slice ao l.length c, .func (.func 21) #[] #[.pointer (some ⟨b, 0, none⟩)]] w0 [blk b #[.int .i64 ep] 3] [dP ao c l] (fun v es1 ds1 => ∃ v1 v2, v = .tuple #[v1, v2] ∧ es1 = [blk b #[.int .i64 ep] 3, oP v1 (l.filter (elder ep)).length (l.filter (elder ep)), oP v2 (l.filter (young ep)).length (l.filter (young ep))] ∧ ds1 = []) := by
 refine Spec.intro (fun F D hs => ?_)
 refine Calls_of_EC (args := [.slice ao l.length c, .func (.func 21) #[] #[.pointer (some ⟨b, 0, none⟩)]]) Try.func20 rfl rfl rfl ?_
 refine EC_rseq ?_
 refine EL_run rfl (R_assign rfl) ?_
 refine EL_run rfl (R_assign rfl) ?_
 refine EL_nil ?_
 refine EC_seq ?_
 have hs := (hs.nilSl 30 36).nilSl 30 36
 refine EC_rseq ?_
 refine EL_run rfl (R_move rfl) ?_
 refine EL_run rfl (R_lenS Try.underlying22 rfl) ?_
 refine EL_run rfl (R_move rfl) ?_
 refine EL_nil ?_
 refine EC_block ?_
 refine EC_loop (fun mm ρ w => ∃ (i : Nat) (v1 v2 : Value), mm = l.length - i ∧ i ≤ l.length ∧ Slots ρ [(1, .func (.func 21) #[] #[.pointer (some ⟨b, 0, none⟩)]), (4, v1), (5, v2), (8, .slice ao l.length c), (9, .int .i64 (l.length : Int)), (10, .int .i64 (i : Int))] ∧ St w0 F D [blk b #[.int .i64 ep] 3, oP v1 ((l.take i).filter (elder ep)).length ((l.take i).filter (elder ep)), oP v2 ((l.take i).filter (young ep)).length ((l.take i).filter (young ep))] [dP ao c l] w) (l.length) (⟨0, _, _, by omega, by omega, ⟨rfl, rfl, rfl, rfl, rfl, rfl, trivial⟩, hs⟩) ?_
 rintro mm ρ w ⟨i, v1, v2, rfl, hi, hsl, hs⟩
 refine EC_slots _ hsl ?_
 refine EC_rseq ?_
 refine EL_run rfl (R_lss rfl rfl) ?_
 refine EL_nil ?_
 refine EC_seq ?_
 refine EC_cond rfl (fun hc11 => ?_) (fun hc11 => ?_)
 ·have hc11p := cvt hc11; try dsimp only at hc11p
  have hib : i < l.length := by omega
  obtain ⟨bb, oo, rfl⟩ := dSlsomeF (hs.rd (i := 0) rfl) Ptr.len_l (by decide) hib
  refine EC_skip ?_
  refine Then_n ?_
  refine EC_seq ?_
  refine EC_block ?_
  refine EC_rseq ?_
  refine EL_run rfl (R_idx es_22 rfl (by rfl) rfl (by omega) (by omega)) ?_
  refine EL_run rfl (R_ldE (hs.rd (i := 0) rfl) Ptr.len_l Try.isAgg30 Try.sizeOf30 rfl (by simp <;> omega) (List.getElem?_eq_getElem hib) (by decide)) ?_
  refine EL_op rfl (O_alloc hs rfl Try.zeroValue30 (fun b7 w hb7 hs => ?_))
  refine EL_op rfl (O_storeW hs (i := 3) rfl sz_30 rfl rfl rfl (Ptr.size _) (Ptr.oneA _) (fun w hs => ?_))
  refine EL_nil ?_
  refine EC_rseq ?_
  refine EL_run rfl (R_move rfl) ?_
  refine EL_run rfl (R_lw (hs.at (i := 3) rfl) Try.isAgg30 Try.sizeOf30 rfl (Ptr.size _)) ?_
  refine EL_op rfl (O_call hs [true] [] rfl rfl rfl Try.call21 (splitIs_spec b ep l[i]) (fun v es1 ds1 w hPhi hs => ?_))
  obtain ⟨rfl, rfl, rfl⟩ := hPhi
  refine EL_nil ?_
  refine EC_cond rfl (fun hc16 => ?_) (fun hc16 => ?_)
  ·have hc16p := cvt hc16; try dsimp only at hc16p
   refine EC_region ?_
   refine EL_run rfl (R_move rfl) ?_
   refine EL_run rfl (R_lw (hs.at (i := 3) rfl) Try.isAgg30 Try.sizeOf30 rfl (Ptr.size _)) ?_
   refine EL_op rfl (O_buildSlice [.tmp 18] hs rfl ei_22 rfl rfl rfl (sizeN (Ptr.size _)) (by decide) (fun b19 w hb19 hs => ?_))
   refine EL_op rfl (O_append hs (i := 1) rfl rfl ei_22 rfl rfl (Src.own (hs.at (i := 4) rfl)) (ptr_oneF _) (by have := filter_le (elder ep) l i; have := filter_le (young ep) l i; omega) (by have := filter_le (elder ep) l i; have := filter_le (young ep) l i; omega) (fun v20 w hs => ?_))
   have hs := hs.pushed (i := 1) rfl _ rfl
   refine EL_run rfl (R_assign rfl) ?_
   refine EL_nil ?_
   refine InBlock_n ?_
   refine Then_n ?_
   refine EC_region ?_
   refine EL_run rfl (R_addI rfl rfl (by omega)) ?_
   refine EL_run rfl (R_move rfl) ?_
   refine EL_nil ?_
   refine Then_n ?_
   first
     | exact ⟨l.length - (i + 1), by omega, i + 1, _, _, rfl, by omega, ⟨rfl, rfl, rfl, rfl, rfl, rfl, trivial⟩, (hs.fin [true, true, true] [0]).as (by rw [filter_yes hib (show elder ep l[i] = true by simpa [elder] using hc16p), filter_no hib (show young ep l[i] = false by simp [young, elder]; omega)]; rfl) rfl⟩
     | exact ⟨l.length - (i + 1), by omega, i + 1, _, _, rfl, by omega, ⟨rfl, rfl, rfl, rfl, rfl, rfl, trivial⟩, (hs.fin [true, true, true] [0]).as (by rw [filter_no hib (show elder ep l[i] = false by simp [elder]; omega), filter_yes hib (show young ep l[i] = true by simp [young, elder]; omega)]; rfl) rfl⟩
  ·have hc16p := cvt hc16; try dsimp only at hc16p
   refine EC_region ?_
   refine EL_run rfl (R_move rfl) ?_
   refine EL_run rfl (R_lw (hs.at (i := 3) rfl) Try.isAgg30 Try.sizeOf30 rfl (Ptr.size _)) ?_
   refine EL_op rfl (O_buildSlice [.tmp 22] hs rfl ei_22 rfl rfl rfl (sizeN (Ptr.size _)) (by decide) (fun b23 w hb23 hs => ?_))
   refine EL_op rfl (O_append hs (i := 2) rfl rfl ei_22 rfl rfl (Src.own (hs.at (i := 4) rfl)) (ptr_oneF _) (by have := filter_le (elder ep) l i; have := filter_le (young ep) l i; omega) (by have := filter_le (elder ep) l i; have := filter_le (young ep) l i; omega) (fun v24 w hs => ?_))
   have hs := hs.pushed (i := 2) rfl _ rfl
   refine EL_run rfl (R_assign rfl) ?_
   refine EL_nil ?_
   refine InBlock_n ?_
   refine Then_n ?_
   refine EC_region ?_
   refine EL_run rfl (R_addI rfl rfl (by omega)) ?_
   refine EL_run rfl (R_move rfl) ?_
   refine EL_nil ?_
   refine Then_n ?_
   first
     | exact ⟨l.length - (i + 1), by omega, i + 1, _, _, rfl, by omega, ⟨rfl, rfl, rfl, rfl, rfl, rfl, trivial⟩, (hs.fin [true, true, true] [0]).as (by rw [filter_yes hib (show elder ep l[i] = true by simpa [elder] using hc16p), filter_no hib (show young ep l[i] = false by simp [young, elder]; omega)]; rfl) rfl⟩
     | exact ⟨l.length - (i + 1), by omega, i + 1, _, _, rfl, by omega, ⟨rfl, rfl, rfl, rfl, rfl, rfl, trivial⟩, (hs.fin [true, true, true] [0]).as (by rw [filter_no hib (show elder ep l[i] = false by simp [elder]; omega), filter_yes hib (show young ep l[i] = true by simp [young, elder]; omega)]; rfl) rfl⟩
 ·have hc11p := cvt hc11; try dsimp only at hc11p
  obtain rfl : i = l.length := by omega
  rw [List.take_length] at hs
  refine EC_exit ?_
  refine Then_e ?_
  refine Then_e ?_
  refine InBlock_hit rfl ?_
  refine Then_n ?_
  refine EC_rseq ?_
  refine EL_run rfl (R_move rfl) ?_
  refine EL_run rfl (R_move rfl) ?_
  refine EL_run rfl (R_assign rfl) ?_
  refine EL_run rfl (R_assign rfl) ?_
  refine EL_nil ?_
  refine EC_ret ?_
  exact ⟨[_, _], ⟨rfl, rfl, trivial⟩, _, _, ⟨_, _, rfl, rfl, rfl⟩, (hs.fin [true, true, true] []).as rfl rfl⟩

set_option maxRecDepth 100000 in
theorem split_spec (ep : Int) (ao : Option Addr) (c : Nat) (l : List Ptr) {w0 : World} (hl : l.length ≤ 1000000) : Spec Try.prog 5 #[.slice ao l.length c, .int .i64 ep] w0 [] [dP ao c l] (fun v es1 ds1 => ∃ v1 v2, v = .tuple #[v1, v2] ∧ es1 = [oP v1 (l.filter (elder ep)).length (l.filter (elder ep)), oP v2 (l.filter (young ep)).length (l.filter (young ep))] ∧ ds1 = []) := by
 refine Spec.intro (fun F D hs => ?_)
 refine Calls_of_EC (args := [.slice ao l.length c, .int .i64 ep]) Try.func5 rfl rfl rfl ?_
 refine EC_rseq ?_
 refine EL_op rfl (O_box hs rfl rfl (fun b3 w hb3 hs => ?_))
 refine EL_run rfl (R_assign rfl) ?_
 refine EL_run rfl (R_assign rfl) ?_
 refine EL_nil ?_
 refine EC_rseq ?_
 refine EL_run rfl (R_move rfl) ?_
 refine EL_run rfl (R_makeFunc rfl rfl) ?_
 refine EL_op rfl (O_call hs [true] [0] rfl rfl rfl Try.call20 (kept_spec b3 ep ao c l hl) (fun v es1 ds1 w hPhi hs => ?_))
 obtain ⟨v1, v2, rfl, rfl, rfl⟩ := hPhi
 refine EL_run rfl (R_extract rfl rfl) ?_
 refine EL_run rfl (R_extract rfl rfl) ?_
 refine EL_run rfl (R_assign rfl) ?_
 refine EL_run rfl (R_assign rfl) ?_
 refine EL_nil ?_
 refine EC_ret ?_
 exact ⟨[_, _], ⟨rfl, rfl, trivial⟩, _, _, ⟨_, _, rfl, rfl, rfl⟩, (hs.fin [false, true, true] []).as rfl rfl⟩

set_option maxRecDepth 100000 in
theorem refSplit_spec (ep : Int) (ao : Option Addr) (c : Nat) (l : List Ptr) {w0 : World} (hl : l.length ≤ 1000000) : Spec Try.prog 6 #[.slice ao l.length c, .int .i64 ep] w0 [] [dP ao c l] (fun v es1 ds1 => ∃ v1 v2, v = .tuple #[v1, v2] ∧ es1 = [oP v1 (l.filter (elder ep)).length (l.filter (elder ep)), oP v2 (l.filter (young ep)).length (l.filter (young ep))] ∧ ds1 = []) := by
 refine Spec.intro (fun F D hs => ?_)
 refine Calls_of_EC (args := [.slice ao l.length c, .int .i64 ep]) Try.func6 rfl rfl rfl ?_
 refine EC_rseq ?_
 refine EL_run rfl (R_assign rfl) ?_
 refine EL_run rfl (R_assign rfl) ?_
 refine EL_nil ?_
 have hs := (hs.nilSl 30 36).nilSl 30 36
 refine EC_rseq ?_
 refine EL_run rfl (R_assign rfl) ?_
 refine EL_run rfl (R_assign rfl) ?_
 refine EL_nil ?_
 refine EC_seq ?_
 refine EC_rseq ?_
 refine EL_run rfl (R_assign rfl) ?_
 refine EL_nil ?_
 refine EC_block ?_
 refine EC_loop (fun mm ρ w => ∃ (i : Nat) (v1 v2 : Value), mm = l.length - i ∧ i ≤ l.length ∧ Slots ρ [(0, .slice ao l.length c), (1, .int .i64 ep), (6, v1), (7, v2), (8, .int .i64 (i : Int))] ∧ St w0 F D [oP v1 ((l.take i).filter (elder ep)).length ((l.take i).filter (elder ep)), oP v2 ((l.take i).filter (young ep)).length ((l.take i).filter (young ep))] [dP ao c l] w) (l.length) (⟨0, _, _, by omega, by omega, ⟨rfl, rfl, rfl, rfl, rfl, trivial⟩, hs⟩) ?_
 rintro mm ρ w ⟨i, v1, v2, rfl, hi, hsl, hs⟩
 refine EC_slots _ hsl ?_
 refine EC_seq ?_
 refine EC_rseq ?_
 refine EL_run rfl (R_move rfl) ?_
 refine EL_run rfl (R_move rfl) ?_
 refine EL_run rfl (R_lenS Try.underlying22 rfl) ?_
 refine EL_run rfl (R_lss rfl rfl) ?_
 refine EL_nil ?_
 refine EC_cond rfl (fun hc12 => ?_) (fun hc12 => ?_)
 ·have hc12p := cvt hc12; try dsimp only at hc12p
  have hib : i < l.length := by omega
  obtain ⟨bb, oo, rfl⟩ := dSlsomeF (hs.rd (i := 0) rfl) Ptr.len_l (by decide) hib
  refine EC_skip ?_
  refine Then_n ?_
  refine EC_seq ?_
  refine EC_block ?_
  refine EC_rseq ?_
  refine EL_run rfl (R_move rfl) ?_
  refine EL_run rfl (R_move rfl) ?_
  refine EL_run rfl (R_idx es_22 rfl (by rfl) rfl (by omega) (by omega)) ?_
  refine EL_run rfl (R_field fo_30_1 rfl) ?_
  refine EL_run rfl (R_ldF (j := 1) (hs.rd (i := 0) rfl) Ptr.len_l Try.isAgg3 rfl (by simp <;> omega) (List.getElem?_eq_getElem hib) rfl) ?_
  refine EL_run rfl (R_move rfl) ?_
  refine EL_run rfl (R_leq rfl rfl) ?_
  refine EL_nil ?_
  refine EC_cond rfl (fun hc21 => ?_) (fun hc21 => ?_)
  ·have hc21p := cvt hc21; try dsimp only at hc21p
   refine EC_region ?_
   refine EL_run rfl (R_move rfl) ?_
   refine EL_run rfl (R_move rfl) ?_
   refine EL_run rfl (R_move rfl) ?_
   refine EL_run rfl (R_idx es_22 rfl (by rfl) rfl (by omega) (by omega)) ?_
   refine EL_run rfl (R_ldE (hs.rd (i := 0) rfl) Ptr.len_l Try.isAgg30 Try.sizeOf30 rfl (by simp <;> omega) (List.getElem?_eq_getElem hib) (by decide)) ?_
   refine EL_op rfl (O_buildSlice [.tmp 26] hs rfl ei_22 rfl rfl rfl (sizeN (Ptr.size _)) (by decide) (fun b27 w hb27 hs => ?_))
   refine EL_op rfl (O_append hs (i := 0) rfl rfl ei_22 rfl rfl (Src.own (hs.at (i := 2) rfl)) (ptr_oneF _) (by have := filter_le (elder ep) l i; have := filter_le (young ep) l i; omega) (by have := filter_le (elder ep) l i; have := filter_le (young ep) l i; omega) (fun v28 w hs => ?_))
   have hs := hs.pushed (i := 0) rfl _ rfl
   refine EL_run rfl (R_assign rfl) ?_
   refine EL_nil ?_
   refine InBlock_n ?_
   refine Then_n ?_
   refine EC_region ?_
   refine EL_run rfl (R_move rfl) ?_
   refine EL_run rfl (R_addI rfl rfl (by omega)) ?_
   refine EL_run rfl (R_assign rfl) ?_
   refine EL_nil ?_
   refine Then_n ?_
   first
     | exact ⟨l.length - (i + 1), by omega, i + 1, _, _, rfl, by omega, ⟨rfl, rfl, rfl, rfl, rfl, trivial⟩, (hs.fin [true, true] [0]).as (by rw [filter_yes hib (show elder ep l[i] = true by simpa [elder] using hc21p), filter_no hib (show young ep l[i] = false by simp [young, elder]; omega)]; rfl) rfl⟩
     | exact ⟨l.length - (i + 1), by omega, i + 1, _, _, rfl, by omega, ⟨rfl, rfl, rfl, rfl, rfl, trivial⟩, (hs.fin [true, true] [0]).as (by rw [filter_no hib (show elder ep l[i] = false by simp [elder]; omega), filter_yes hib (show young ep l[i] = true by simp [young, elder]; omega)]; rfl) rfl⟩
  ·have hc21p := cvt hc21; try dsimp only at hc21p
   refine EC_region ?_
   refine EL_run rfl (R_move rfl) ?_
   refine EL_run rfl (R_move rfl) ?_
   refine EL_run rfl (R_move rfl) ?_
   refine EL_run rfl (R_idx es_22 rfl (by rfl) rfl (by omega) (by omega)) ?_
   refine EL_run rfl (R_ldE (hs.rd (i := 0) rfl) Ptr.len_l Try.isAgg30 Try.sizeOf30 rfl (by simp <;> omega) (List.getElem?_eq_getElem hib) (by decide)) ?_
   refine EL_op rfl (O_buildSlice [.tmp 33] hs rfl ei_22 rfl rfl rfl (sizeN (Ptr.size _)) (by decide) (fun b34 w hb34 hs => ?_))
   refine EL_op rfl (O_append hs (i := 1) rfl rfl ei_22 rfl rfl (Src.own (hs.at (i := 2) rfl)) (ptr_oneF _) (by have := filter_le (elder ep) l i; have := filter_le (young ep) l i; omega) (by have := filter_le (elder ep) l i; have := filter_le (young ep) l i; omega) (fun v35 w hs => ?_))
   have hs := hs.pushed (i := 1) rfl _ rfl
   refine EL_run rfl (R_assign rfl) ?_
   refine EL_nil ?_
   refine InBlock_n ?_
   refine Then_n ?_
   refine EC_region ?_
   refine EL_run rfl (R_move rfl) ?_
   refine EL_run rfl (R_addI rfl rfl (by omega)) ?_
   refine EL_run rfl (R_assign rfl) ?_
   refine EL_nil ?_
   refine Then_n ?_
   first
     | exact ⟨l.length - (i + 1), by omega, i + 1, _, _, rfl, by omega, ⟨rfl, rfl, rfl, rfl, rfl, trivial⟩, (hs.fin [true, true] [0]).as (by rw [filter_yes hib (show elder ep l[i] = true by simpa [elder] using hc21p), filter_no hib (show young ep l[i] = false by simp [young, elder]; omega)]; rfl) rfl⟩
     | exact ⟨l.length - (i + 1), by omega, i + 1, _, _, rfl, by omega, ⟨rfl, rfl, rfl, rfl, rfl, trivial⟩, (hs.fin [true, true] [0]).as (by rw [filter_no hib (show elder ep l[i] = false by simp [elder]; omega), filter_yes hib (show young ep l[i] = true by simp [young, elder]; omega)]; rfl) rfl⟩
 ·have hc12p := cvt hc12; try dsimp only at hc12p
  obtain rfl : i = l.length := by omega
  rw [List.take_length] at hs
  refine EC_exit ?_
  refine Then_e ?_
  refine Then_e ?_
  refine InBlock_hit rfl ?_
  refine Then_n ?_
  refine EC_rseq ?_
  refine EL_run rfl (R_move rfl) ?_
  refine EL_run rfl (R_move rfl) ?_
  refine EL_run rfl (R_assign rfl) ?_
  refine EL_run rfl (R_assign rfl) ?_
  refine EL_nil ?_
  refine EC_ret ?_
  exact ⟨[_, _], ⟨rfl, rfl, trivial⟩, _, _, ⟨_, _, rfl, rfl, rfl⟩, (hs.fin [true, true] []).as rfl rfl⟩

set_option maxRecDepth 100000 in
theorem dsectors_spec (ao : Option Addr) (c : Nat) (l : List Ptr) {w0 : World} (hl : l.length ≤ 1000000) : Spec Try.prog 12 #[.slice ao l.length c] w0 [] [dP ao c l] (fun v es1 ds1 => v = .int .i64 (secSum l) ∧ es1 = [] ∧ ds1 = []) := by
 refine Spec.intro (fun F D hs => ?_)
 refine Calls_of_EC (args := [.slice ao l.length c]) Try.func12 rfl rfl rfl ?_
 refine EC_rseq ?_
 refine EL_run rfl (R_assign rfl) ?_
 refine EL_nil ?_
 refine EC_rseq ?_
 refine EL_run rfl (R_assign rfl) ?_
 refine EL_nil ?_
 refine EC_seq ?_
 refine EC_rseq ?_
 refine EL_run rfl (R_move rfl) ?_
 refine EL_run rfl (R_lenS Try.underlying22 rfl) ?_
 refine EL_run rfl (R_move rfl) ?_
 refine EL_nil ?_
 refine EC_block ?_
 refine EC_loop (fun mm ρ w => ∃ (i : Nat), mm = l.length - i ∧ i ≤ l.length ∧ Slots ρ [(3, .int .i64 (secSum (l.take i))), (6, .slice ao l.length c), (7, .int .i64 (l.length : Int)), (8, .int .i64 (i : Int))] ∧ St w0 F D [] [dP ao c l] w) (l.length) (⟨0, by omega, by omega, ⟨rfl, rfl, rfl, rfl, trivial⟩, hs⟩) ?_
 rintro mm ρ w ⟨i, rfl, hi, hsl, hs⟩
 refine EC_slots _ hsl ?_
 refine EC_rseq ?_
 refine EL_run rfl (R_lss rfl rfl) ?_
 refine EL_nil ?_
 refine EC_seq ?_
 refine EC_cond rfl (fun hc9 => ?_) (fun hc9 => ?_)
 ·have hc9p := cvt hc9; try dsimp only at hc9p
  have hib : i < l.length := by omega
  obtain ⟨bb, oo, rfl⟩ := dSlsomeF (hs.rd (i := 0) rfl) Ptr.len_l (by decide) hib
  have hr1 := secSum_range (l.take i)
  have hr2 := sectors_range l[i].len
  rw [List.length_take] at hr1
  refine EC_skip ?_
  refine Then_n ?_
  refine EC_seq ?_
  refine EC_block ?_
  refine EC_rseq ?_
  refine EL_run rfl (R_idx es_22 rfl (by rfl) rfl (by omega) (by omega)) ?_
  refine EL_run rfl (R_ldE (hs.rd (i := 0) rfl) Ptr.len_l Try.isAgg30 Try.sizeOf30 rfl (by simp <;> omega) (List.getElem?_eq_getElem hib) (by decide)) ?_
  refine EL_op rfl (O_alloc hs rfl Try.zeroValue30 (fun b5 w hb5 hs => ?_))
  refine EL_op rfl (O_storeW hs (i := 0) rfl sz_30 rfl rfl rfl (Ptr.size _) (Ptr.oneA _) (fun w hs => ?_))
  refine EL_nil ?_
  refine EC_region ?_
  refine EL_run rfl (R_move rfl) ?_
  refine EL_run rfl (R_lw (hs.at (i := 0) rfl) Try.isAgg30 Try.sizeOf30 rfl (Ptr.size _)) ?_
  refine EL_op rfl (O_call hs [] [] rfl rfl rfl Try.call17 (sectors_spec l[i]) (fun v es1 ds1 w hPhi hs => ?_))
  obtain ⟨rfl, rfl, rfl⟩ := hPhi
  refine EL_run rfl (R_addI rfl rfl (by omega)) ?_
  refine EL_run rfl (R_assign rfl) ?_
  refine EL_nil ?_
  refine InBlock_n ?_
  refine Then_n ?_
  refine EC_region ?_
  refine EL_run rfl (R_addI rfl rfl (by omega)) ?_
  refine EL_run rfl (R_move rfl) ?_
  refine EL_nil ?_
  refine Then_n ?_
  exact ⟨l.length - (i + 1), by omega, i + 1, rfl, by omega, ⟨sI (secSum_succ hib).symm, rfl, rfl, rfl, trivial⟩, (hs.fin [] [0]).as rfl rfl⟩
 ·have hc9p := cvt hc9; try dsimp only at hc9p
  obtain rfl : i = l.length := by omega
  refine EC_exit ?_
  refine Then_e ?_
  refine Then_e ?_
  refine InBlock_hit rfl ?_
  refine Then_n ?_
  refine EC_rseq ?_
  refine EL_run rfl (R_move rfl) ?_
  refine EL_run rfl (R_assign rfl) ?_
  refine EL_nil ?_
  refine EC_ret ?_
  exact ⟨[_], ⟨rfl, trivial⟩, _, _, ⟨by rw [List.take_length]; rfl, rfl, rfl⟩, (hs.fin [] []).as rfl rfl⟩

set_option maxRecDepth 100000 in
theorem refSectorsL_spec (ao : Option Addr) (c : Nat) (l : List Ptr) {w0 : World} (hl : l.length ≤ 1000000) : Spec Try.prog 13 #[.slice ao l.length c] w0 [] [dP ao c l] (fun v es1 ds1 => v = .int .i64 (secSum l) ∧ es1 = [] ∧ ds1 = []) := by
 refine Spec.intro (fun F D hs => ?_)
 refine Calls_of_EC (args := [.slice ao l.length c]) Try.func13 rfl rfl rfl ?_
 refine EC_rseq ?_
 refine EL_run rfl (R_assign rfl) ?_
 refine EL_nil ?_
 refine EC_rseq ?_
 refine EL_run rfl (R_assign rfl) ?_
 refine EL_nil ?_
 refine EC_seq ?_
 refine EC_rseq ?_
 refine EL_run rfl (R_assign rfl) ?_
 refine EL_nil ?_
 refine EC_block ?_
 refine EC_loop (fun mm ρ w => ∃ (i : Nat), mm = l.length - i ∧ i ≤ l.length ∧ Slots ρ [(0, .slice ao l.length c), (3, .int .i64 (secSum (l.take i))), (4, .int .i64 (i : Int))] ∧ St w0 F D [] [dP ao c l] w) (l.length) (⟨0, by omega, by omega, ⟨rfl, rfl, rfl, trivial⟩, hs⟩) ?_
 rintro mm ρ w ⟨i, rfl, hi, hsl, hs⟩
 refine EC_slots _ hsl ?_
 refine EC_seq ?_
 refine EC_rseq ?_
 refine EL_run rfl (R_move rfl) ?_
 refine EL_run rfl (R_move rfl) ?_
 refine EL_run rfl (R_lenS Try.underlying22 rfl) ?_
 refine EL_run rfl (R_lss rfl rfl) ?_
 refine EL_nil ?_
 refine EC_cond rfl (fun hc8 => ?_) (fun hc8 => ?_)
 ·have hc8p := cvt hc8; try dsimp only at hc8p
  have hib : i < l.length := by omega
  obtain ⟨bb, oo, rfl⟩ := dSlsomeF (hs.rd (i := 0) rfl) Ptr.len_l (by decide) hib
  have hr1 := secSum_range (l.take i)
  have hr2 := sectors_range l[i].len
  rw [List.length_take] at hr1
  refine EC_skip ?_
  refine Then_n ?_
  refine EC_seq ?_
  refine EC_block ?_
  refine EC_region ?_
  refine EL_run rfl (R_move rfl) ?_
  refine EL_run rfl (R_move rfl) ?_
  refine EL_run rfl (R_move rfl) ?_
  refine EL_run rfl (R_idx es_22 rfl (by rfl) rfl (by omega) (by omega)) ?_
  refine EL_run rfl (R_ldE (hs.rd (i := 0) rfl) Ptr.len_l Try.isAgg30 Try.sizeOf30 rfl (by simp <;> omega) (List.getElem?_eq_getElem hib) (by decide)) ?_
  refine EL_op rfl (O_call hs [] [] rfl rfl rfl Try.call28 (refSectors_spec l[i]) (fun v es1 ds1 w hPhi hs => ?_))
  obtain ⟨rfl, rfl, rfl⟩ := hPhi
  refine EL_run rfl (R_addI rfl rfl (by omega)) ?_
  refine EL_run rfl (R_assign rfl) ?_
  refine EL_nil ?_
  refine InBlock_n ?_
  refine Then_n ?_
  refine EC_region ?_
  refine EL_run rfl (R_move rfl) ?_
  refine EL_run rfl (R_addI rfl rfl (by omega)) ?_
  refine EL_run rfl (R_assign rfl) ?_
  refine EL_nil ?_
  refine Then_n ?_
  exact ⟨l.length - (i + 1), by omega, i + 1, rfl, by omega, ⟨rfl, sI (secSum_succ hib).symm, rfl, trivial⟩, (hs.fin [] [0]).as rfl rfl⟩
 ·have hc8p := cvt hc8; try dsimp only at hc8p
  obtain rfl : i = l.length := by omega
  refine EC_exit ?_
  refine Then_e ?_
  refine Then_e ?_
  refine InBlock_hit rfl ?_
  refine Then_n ?_
  refine EC_rseq ?_
  refine EL_run rfl (R_move rfl) ?_
  refine EL_run rfl (R_assign rfl) ?_
  refine EL_nil ?_
  refine EC_ret ?_
  exact ⟨[_], ⟨rfl, trivial⟩, _, _, ⟨by rw [List.take_length]; rfl, rfl, rfl⟩, (hs.fin [] []).as rfl rfl⟩

set_option maxRecDepth 100000 in
theorem samePs_spec (ao : Option Addr) (c : Nat) (l : List Ptr) (ao2 : Option Addr) (c2 : Nat) (l2 : List Ptr) {w0 : World} (hl : l.length ≤ 1000000) : Spec Try.prog 9 #[.slice ao l.length c, .slice ao2 l2.length c2] w0 [] [dP ao c l, dP ao2 c2 l2] (fun v es1 ds1 => v = .bool (decide (l = l2)) ∧ es1 = [] ∧ ds1 = []) := by
 refine Spec.intro (fun F D hs => ?_)
 refine Calls_of_EC (args := [.slice ao l.length c, .slice ao2 l2.length c2]) Try.func9 rfl rfl rfl ?_
 refine EC_rseq ?_
 refine EL_run rfl (R_assign rfl) ?_
 refine EL_nil ?_
 refine EC_seq ?_
 refine EC_rseq ?_
 refine EL_run rfl (R_move rfl) ?_
 refine EL_run rfl (R_lenS Try.underlying22 rfl) ?_
 refine EL_run rfl (R_move rfl) ?_
 refine EL_run rfl (R_lenS Try.underlying22 rfl) ?_
 refine EL_run rfl (R_neq rfl rfl) ?_
 refine EL_nil ?_
 refine EC_cond rfl (fun hc10 => ?_) (fun hc10 => ?_)
 ·have hc10p := cvt hc10; try dsimp only at hc10p
  refine EC_rseq ?_
  refine EL_run rfl (R_assign rfl) ?_
  refine EL_nil ?_
  refine EC_ret ?_
  refine Then_r ?_
  exact ⟨[_], ⟨rfl, trivial⟩, _, _, ⟨by simp only [tupleOf]; congr 1; exact (decide_eq_false (fun h => by subst h; exact hc10p rfl)).symm, rfl, rfl⟩, (hs.fin [] []).as rfl rfl⟩
 ·have hc10p := cvt hc10; try dsimp only at hc10p
  refine EC_skip ?_
  refine Then_n ?_
  refine EC_seq ?_
  have hll : l.length = l2.length := by omega
  refine EC_rseq ?_
  refine EL_run rfl (R_assign rfl) ?_
  refine EL_nil ?_
  refine EC_block ?_
  refine EC_loop (fun mm ρ w => ∃ (i : Nat), mm = l.length - i ∧ i ≤ l.length ∧ l.take i = l2.take i ∧ Slots ρ [(0, .slice ao l.length c), (1, .slice ao2 l2.length c2), (5, .int .i64 (i : Int))] ∧ St w0 F D [] [dP ao c l, dP ao2 c2 l2] w) (l.length) (⟨0, by omega, by omega, rfl, ⟨rfl, rfl, rfl, trivial⟩, hs⟩) ?_
  rintro mm ρ w ⟨i, rfl, hi, hte, hsl, hs⟩
  refine EC_slots _ hsl ?_
  refine EC_seq ?_
  refine EC_rseq ?_
  refine EL_run rfl (R_move rfl) ?_
  refine EL_run rfl (R_move rfl) ?_
  refine EL_run rfl (R_lenS Try.underlying22 rfl) ?_
  refine EL_run rfl (R_lss rfl rfl) ?_
  refine EL_nil ?_
  refine EC_cond rfl (fun hc14 => ?_) (fun hc14 => ?_)
  ·have hc14p := cvt hc14; try dsimp only at hc14p
   have hib : i < l.length := by omega
   obtain ⟨bb, oo, rfl⟩ := dSlsomeF (hs.rd (i := 0) rfl) Ptr.len_l (by decide) hib
   have hib2 : i < l2.length := by omega
   obtain ⟨bb2, oo2, rfl⟩ := dSlsomeF (hs.rd (i := 1) rfl) Ptr.len_l (by decide) hib2
   refine EC_skip ?_
   refine Then_n ?_
   refine EC_seq ?_
   refine EC_block ?_
   refine EC_dseqS hs [] [3, 7] [] [0, 1] (.take 0 (.take 1 (.take 2 (.take 3 (.take 4 (.take 5 (.take 6 (.take 7 (.take 8 .done))))))))) mix_ok (by kernel_rfl) (fun w hs _ => ?_)
   refine EP_take rfl rfl rfl (fun _ => R_move rfl) ?_
   refine EP_take rfl rfl rfl (fun _ => R_move rfl) ?_
   refine EP_take rfl rfl rfl (fun _ => R_idx es_22 rfl (by rfl) rfl (by omega) (by omega)) ?_
   refine EP_read rfl rfl rfl (RdS.of hs rfl rfl) (fun _ hR => R_ldE (hR.d 0 rfl rfl) Ptr.len_l Try.isAgg30 Try.sizeOf30 rfl (by simp <;> omega) (List.getElem?_eq_getElem hib) (by decide)) ?_
   refine EP_take rfl rfl rfl (fun _ => R_move rfl) ?_
   refine EP_take rfl rfl rfl (fun _ => R_move rfl) ?_
   refine EP_take rfl rfl rfl (fun _ => R_idx es_22 rfl (by rfl) rfl (by omega) (by omega)) ?_
   refine EP_read rfl rfl rfl (RdS.of hs rfl rfl) (fun _ hR => R_ldE (hR.d 1 rfl rfl) Ptr.len_l Try.isAgg30 Try.sizeOf30 rfl (by simp <;> omega) (List.getElem?_eq_getElem hib2) (by decide)) ?_
   refine EP_take rfl rfl rfl (fun _ => R_neqPtr ptrT rfl rfl) ?_
   refine EP_done ?_
   refine EC_cond rfl (fun hc25 => ?_) (fun hc25 => ?_)
   ·have hc25p := cvt hc25; try dsimp only at hc25p
    refine EC_rseq ?_
    refine EL_run rfl (R_assign rfl) ?_
    refine EL_nil ?_
    refine EC_ret ?_
    refine InBlock_r ?_
    refine Then_r ?_
    refine Then_r ?_
    refine InBlock_r ?_
    refine Then_r ?_
    exact ⟨[_], ⟨rfl, trivial⟩, _, _, ⟨by simp only [tupleOf]; congr 1; exact (decide_eq_false (ne_of_get hib hib2 hc25p)).symm, rfl, rfl⟩, (hs.fin [] []).as rfl rfl⟩
   ·have hc25p := cvt hc25; try dsimp only at hc25p
    refine EC_skip ?_
    refine InBlock_n ?_
    refine Then_n ?_
    refine EC_region ?_
    refine EL_run rfl (R_move rfl) ?_
    refine EL_run rfl (R_addI rfl rfl (by omega)) ?_
    refine EL_run rfl (R_assign rfl) ?_
    refine EL_nil ?_
    refine Then_n ?_
    exact ⟨l.length - (i + 1), by omega, i + 1, rfl, by omega, take_eq_succ hib hib2 hte (Decidable.not_not.1 hc25p), ⟨rfl, rfl, rfl, trivial⟩, (hs.fin [] [0, 1]).as rfl rfl⟩
  ·have hc14p := cvt hc14; try dsimp only at hc14p
   obtain rfl : i = l.length := by omega
   have heq : l = l2 := by rw [List.take_length, hll, List.take_length] at hte; exact hte
   refine EC_exit ?_
   refine Then_e ?_
   refine Then_e ?_
   refine InBlock_hit rfl ?_
   refine Then_n ?_
   refine EC_rseq ?_
   refine EL_run rfl (R_assign rfl) ?_
   refine EL_nil ?_
   refine EC_ret ?_
   exact ⟨[_], ⟨rfl, trivial⟩, _, _, ⟨by simp only [tupleOf]; congr 1; exact (decide_eq_true heq).symm, rfl, rfl⟩, (hs.fin [] []).as rfl rfl⟩
end Go.Proofs.Ytpcojkbljgpecaa
