/- Walks, part 13: sorting that keeps the order of equals. -/
import Derived.Test.YtpcojkbljgpecaaW12
namespace Go.Proofs.Ytpcojkbljgpecaa
open Go
set_option maxRecDepth 100000 in
theorem swapRange_spec (bb c n0 : Nat) (X A M B Y : List Ptr) (p2 : Nat) (ia ip ik : Int) {w0 : World} (hia : ia = (X.length : Int)) (hip : ip = (p2 : Int)) (hik : ik = (A.length : Int)) (hp2 : p2 = X.length + A.length + M.length) (hab : A.length = B.length) (hn : n0 = X.length + A.length + M.length + B.length + Y.length) (hn0 : n0 ≤ 1000000) : Spec Try.prog 77 #[.slice (some ⟨bb, 0, none⟩) n0 c, .int .i64 ia, .int .i64 ip, .int .i64 ik, .func (.func 25) #[] #[]] w0 [oP (.slice (some ⟨bb, 0, none⟩) n0 c) n0 (swR X A M B Y 0)] [] (fun v es1 ds1 => v = .tuple #[] ∧ es1 = [oP (.slice (some ⟨bb, 0, none⟩) n0 c) n0 (swR X A M B Y A.length)] ∧ ds1 = []) := by
 refine Spec.intro (fun F D hs => ?_)
 subst hia hip hik
 refine Calls_of_EC (args := [.slice (some ⟨bb, 0, none⟩) n0 c, .int .i64 (X.length : Int), .int .i64 (p2 : Int), .int .i64 (A.length : Int), .func (.func 25) #[] #[]]) Try.func77 rfl rfl rfl ?_
 refine EC_rseq ?_
 refine EL_run rfl (R_assign rfl) ?_
 refine EL_nil ?_
 refine EC_block ?_
 refine EC_loop (fun mm ρ w => ∃ i : Nat, mm = A.length - i ∧ i ≤ A.length ∧ Slots ρ [(0, .slice (some ⟨bb, 0, none⟩) n0 c), (1, .int .i64 (X.length : Int)), (2, .int .i64 (p2 : Int)), (3, .int .i64 (A.length : Int)), (10, .int .i64 (i : Int))] ∧ St w0 F D [oP (.slice (some ⟨bb, 0, none⟩) n0 c) n0 (swR X A M B Y i)] [] w) (A.length) (⟨0, by omega, by omega, ⟨rfl, rfl, rfl, rfl, rfl, trivial⟩, hs⟩) ?_
 rintro mm ρ w ⟨i, rfl, hi, hsl, hs⟩
 refine EC_slots _ hsl ?_
 have hLn := swR_len X A M B Y i
 refine EC_seq ?_
 refine EC_rseq ?_
 refine EL_run rfl (R_move rfl) ?_
 refine EL_run rfl (R_move rfl) ?_
 refine EL_run rfl (R_lss rfl rfl) ?_
 refine EL_nil ?_
 refine EC_cond rfl (fun hc13 => ?_) (fun hc13 => ?_)
 ·have hc13p := cvt hc13; try dsimp only at hc13p
  have hA : i < A.length := by omega
  have hB : i < B.length := by omega
  have hga := swR_a X A M B Y hA hB
  have hgb := swR_b X A M B Y hA hB hp2
  refine EC_skip ?_
  refine Then_n ?_
  refine EC_seq ?_
  refine EC_block ?_
  refine EC_drawS hs [21, 23] [13, 19] [0] [] (.take 0 (.take 1 (.take 2 (.take 3 (.take 4 (.take 5 (.take 6 (.take 7 (.take 8 (.take 9 (.take 10 (.take 11 (.take 12 (.take 13 (.take 14 (.take 15 (.take 16 (.take 17 (.take 18 (.take 19 (.take 20 (.fork 21 (.take 22 (.fork 23 .done (.done))) (.done))))))))))))))))))))))) mix_ok (by kernel_rfl) (fun w hs _ => ?_)
  refine EP_take rfl rfl rfl (fun _ => R_move rfl) ?_
  refine EP_take rfl rfl rfl (fun _ => R_move rfl) ?_
  refine EP_take rfl rfl rfl (fun _ => R_move rfl) ?_
  refine EP_take rfl rfl rfl (fun _ => R_addI rfl rfl (by omega)) ?_
  refine EP_take rfl rfl rfl (fun _ => R_move rfl) ?_
  refine EP_take rfl rfl rfl (fun _ => R_move rfl) ?_
  refine EP_take rfl rfl rfl (fun _ => R_move rfl) ?_
  refine EP_take rfl rfl rfl (fun _ => R_addI rfl rfl (by omega)) ?_
  refine EP_take rfl rfl rfl (fun _ => R_move rfl) ?_
  refine EP_take rfl rfl rfl (fun _ => R_move rfl) ?_
  refine EP_take rfl rfl rfl (fun _ => R_move rfl) ?_
  refine EP_take rfl rfl rfl (fun _ => R_addI rfl rfl (by omega)) ?_
  refine EP_take rfl rfl rfl (fun _ => R_idx es_22 rfl (by rfl) rfl (by omega) (by omega)) ?_
  refine EP_read rfl rfl rfl (RdS.of hs rfl rfl) (fun _ hR => R_ldE (oSl.toD (hR.e 0 rfl rfl)) Ptr.len_l Try.isAgg30 Try.sizeOf30 rfl (by simp <;> omega) hgb (by decide)) ?_
  refine EP_take rfl rfl rfl (fun _ => R_move rfl) ?_
  refine EP_take rfl rfl rfl (fun _ => R_move rfl) ?_
  refine EP_take rfl rfl rfl (fun _ => R_move rfl) ?_
  refine EP_take rfl rfl rfl (fun _ => R_addI rfl rfl (by omega)) ?_
  refine EP_take rfl rfl rfl (fun _ => R_idx es_22 rfl (by rfl) rfl (by omega) (by omega)) ?_
  refine EP_read rfl rfl rfl (RdS.of hs rfl rfl) (fun _ hR => R_ldE (oSl.toD (hR.e 0 rfl rfl)) Ptr.len_l Try.isAgg30 Try.sizeOf30 rfl (by simp <;> omega) hga (by decide)) ?_
  refine EP_take rfl rfl rfl (fun _ => R_idx es_22 rfl (by rfl) rfl (by omega) (by omega)) ?_
  refine EP_act rfl rfl (O_storeE (f := Ptr.l) (j := X.length + i) hs (i := 0) rfl Ptr.len_l Try.sizeOf30 rfl rfl rfl (Ptr.one_l _) (by simp <;> omega) (by omega) (fun w hs => ⟨(rq_no (by kernel_rfl)), ?_⟩))
  refine EP_take rfl rfl rfl (fun _ => R_idx es_22 rfl (by rfl) rfl (by omega) (by omega)) ?_
  refine EP_act rfl rfl (O_storeE (f := Ptr.l) (j := p2 + i) hs (i := 0) rfl Ptr.len_l Try.sizeOf30 rfl rfl rfl (Ptr.one_l _) (by simp <;> omega) (by rw [List.length_set]; omega) (fun w hs => ⟨(rq_no (by kernel_rfl)), ?_⟩))
  refine EP_done ?_
  refine InBlock_n ?_
  refine Then_n ?_
  refine EC_region ?_
  refine EL_run rfl (R_move rfl) ?_
  refine EL_run rfl (R_addI rfl rfl (by omega)) ?_
  refine EL_run rfl (R_assign rfl) ?_
  refine EL_nil ?_
  refine Then_n ?_
  exact ⟨A.length - (i + 1), by omega, i + 1, rfl, by omega, ⟨rfl, rfl, rfl, rfl, rfl, trivial⟩, (hs.fin [true] []).as (by rw [← swR_step X A M B Y hA hB hp2]; rfl) rfl⟩
 ·have hc13p := cvt hc13; try dsimp only at hc13p
  obtain rfl : i = A.length := by omega
  refine EC_exit ?_
  refine Then_e ?_
  refine Then_e ?_
  refine InBlock_hit rfl ?_
  exact ⟨[], trivial, _, _, ⟨rfl, rfl, rfl⟩, (hs.fin [true] []).as rfl rfl⟩

set_option maxRecDepth 100000 in
theorem rotate_spec (bb c n0 : Nat) (X A B Y : List Ptr) (ia im ib : Int) {w0 : World} (hia : ia = (X.length : Int)) (him : im = ((X.length + A.length : Nat) : Int)) (hib : ib = ((X.length + A.length + B.length : Nat) : Int)) (hA : 1 ≤ A.length) (hB : 1 ≤ B.length) (hn : n0 = X.length + A.length + B.length + Y.length) (hn0 : n0 ≤ 1000000) : Spec Try.prog 70 #[.slice (some ⟨bb, 0, none⟩) n0 c, .int .i64 ia, .int .i64 im, .int .i64 ib, .func (.func 25) #[] #[]] w0 [oP (.slice (some ⟨bb, 0, none⟩) n0 c) n0 (X ++ (A ++ (B ++ Y)))] [] (fun v es1 ds1 => v = .tuple #[] ∧ es1 = [oP (.slice (some ⟨bb, 0, none⟩) n0 c) n0 (X ++ (B ++ (A ++ Y)))] ∧ ds1 = []) := by
 refine Spec.intro (fun F D hs => ?_)
 subst hia him hib
 refine Calls_of_EC (args := [.slice (some ⟨bb, 0, none⟩) n0 c, .int .i64 (X.length : Int), .int .i64 ((X.length + A.length : Nat) : Int), .int .i64 ((X.length + A.length + B.length : Nat) : Int), .func (.func 25) #[] #[]]) Try.func70 rfl rfl rfl ?_
 refine EC_rseq ?_
 refine EL_run rfl (R_move rfl) ?_
 refine EL_run rfl (R_move rfl) ?_
 refine EL_run rfl (R_subI rfl rfl (by omega)) ?_
 refine EL_run rfl (R_assign rfl) ?_
 refine EL_nil ?_
 refine EC_rseq ?_
 refine EL_run rfl (R_move rfl) ?_
 refine EL_run rfl (R_move rfl) ?_
 refine EL_run rfl (R_subI rfl rfl (by omega)) ?_
 refine EL_run rfl (R_assign rfl) ?_
 refine EL_nil ?_
 refine EC_seq ?_
 refine EC_block ?_
 refine EC_loop (fun mm ρ w => ∃ (X1 U V Y1 : List Ptr), mm = U.length + V.length ∧ X1.length + U.length = X.length + A.length ∧ 1 ≤ U.length ∧ 1 ≤ V.length ∧ X1.length + U.length + V.length + Y1.length = n0 ∧ X1 ++ (V ++ (U ++ Y1)) = X ++ (B ++ (A ++ Y)) ∧ Slots ρ [(0, .slice (some ⟨bb, 0, none⟩) n0 c), (2, .int .i64 ((X.length + A.length : Nat) : Int)), (4, .func (.func 25) #[] #[]), (10, .int .i64 (U.length : Int)), (11, .int .i64 (V.length : Int))] ∧ St w0 F D [oP (.slice (some ⟨bb, 0, none⟩) n0 c) n0 (X1 ++ (U ++ (V ++ Y1)))] [] w) (A.length + B.length) (⟨X, A, B, Y, rfl, rfl, hA, hB, hn.symm, rfl, ⟨rfl, rfl, rfl, sI (by omega), sI (by omega), trivial⟩, hs⟩) ?_
 rintro mm ρ w ⟨X1, U, V, Y1, rfl, hm, hU, hV, hl, ht, hsl, hs⟩
 refine EC_slots _ hsl ?_
 refine EC_seq ?_
 refine EC_rseq ?_
 refine EL_run rfl (R_move rfl) ?_
 refine EL_run rfl (R_move rfl) ?_
 refine EL_run rfl (R_neq rfl rfl) ?_
 refine EL_nil ?_
 refine EC_cond rfl (fun hc20 => ?_) (fun hc20 => ?_)
 ·have hc20p := cvt hc20; try dsimp only at hc20p
  refine EC_skip ?_
  refine Then_n ?_
  refine EC_block ?_
  refine EC_rseq ?_
  refine EL_run rfl (R_move rfl) ?_
  refine EL_run rfl (R_move rfl) ?_
  refine EL_run rfl (R_gtr rfl rfl) ?_
  refine EL_nil ?_
  refine EC_cond rfl (fun hc23 => ?_) (fun hc23 => ?_)
  ·have hc23p := cvt hc23; try dsimp only at hc23p
   have e1 : X1 ++ (U ++ (V ++ Y1)) = swR X1 (U.take V.length) (U.drop V.length) V Y1 0 := by
     rw [swR]
     simp only [List.take_zero, List.drop_zero, List.nil_append]
     rw [← List.append_assoc (U.take V.length), List.take_append_drop]
   rw [e1] at hs
   refine EC_rseq ?_
   refine EL_run rfl (R_move rfl) ?_
   refine EL_run rfl (R_move rfl) ?_
   refine EL_run rfl (R_move rfl) ?_
   refine EL_run rfl (R_subI rfl rfl (by omega)) ?_
   refine EL_run rfl (R_move rfl) ?_
   refine EL_run rfl (R_move rfl) ?_
   refine EL_run rfl (R_move rfl) ?_
   refine EL_op rfl (O_call hs [true] [] rfl rfl rfl Try.call77 (swapRange_spec bb c n0 X1 (U.take V.length) (U.drop V.length) V Y1 (X.length + A.length) _ _ _ (by omega) (by omega) (by rw [List.length_take]; omega) (by rw [List.length_take, List.length_drop]; omega) (by rw [List.length_take]; omega) (by rw [List.length_take, List.length_drop]; omega) hn0) (fun v es1 ds1 w hPhi hs => ?_))
   obtain ⟨rfl, rfl, rfl⟩ := hPhi
   refine EL_nil ?_
   have e2 : swR X1 (U.take V.length) (U.drop V.length) V Y1 (U.take V.length).length = X1 ++ (V ++ (U.drop V.length ++ (U.take V.length ++ Y1))) := by
     rw [swR, List.take_length, List.drop_length, List.take_of_length_le (l := V) (by rw [List.length_take]; omega), List.drop_of_length_le (l := V) (by rw [List.length_take]; omega)]
     simp only [List.nil_append]
   rw [e2] at hs
   refine EC_region ?_
   refine EL_run rfl (R_move rfl) ?_
   refine EL_run rfl (R_move rfl) ?_
   refine EL_run rfl (R_subI rfl rfl (by omega)) ?_
   refine EL_run rfl (R_assign rfl) ?_
   refine EL_nil ?_
   refine InBlock_n ?_
   refine Then_n ?_
   exact ⟨(U.drop V.length).length + (U.take V.length).length, by rw [List.length_take, List.length_drop]; omega, X1 ++ V, U.drop V.length, U.take V.length, Y1, rfl, by rw [List.length_append, List.length_drop]; omega, by rw [List.length_drop]; omega, by rw [List.length_take]; omega, by rw [List.length_append, List.length_take, List.length_drop]; omega, by rw [← ht, ← List.append_assoc (U.take V.length), List.take_append_drop, List.append_assoc], ⟨rfl, rfl, rfl, sI (by rw [List.length_drop]; omega), sI (by rw [List.length_take]; omega), trivial⟩, (hs.fin [true] []).as (by rw [List.append_assoc]; rfl) rfl⟩
  ·have hc23p := cvt hc23; try dsimp only at hc23p
   have e1 : X1 ++ (U ++ (V ++ Y1)) = swR X1 U (V.take (V.length - U.length)) (V.drop (V.length - U.length)) Y1 0 := by
     rw [swR]
     simp only [List.take_zero, List.drop_zero, List.nil_append]
     rw [← List.append_assoc (V.take (V.length - U.length)), List.take_append_drop]
   rw [e1] at hs
   refine EC_rseq ?_
   refine EL_run rfl (R_move rfl) ?_
   refine EL_run rfl (R_move rfl) ?_
   refine EL_run rfl (R_move rfl) ?_
   refine EL_run rfl (R_subI rfl rfl (by omega)) ?_
   refine EL_run rfl (R_move rfl) ?_
   refine EL_run rfl (R_move rfl) ?_
   refine EL_run rfl (R_addI rfl rfl (by omega)) ?_
   refine EL_run rfl (R_move rfl) ?_
   refine EL_run rfl (R_subI rfl rfl (by omega)) ?_
   refine EL_run rfl (R_move rfl) ?_
   refine EL_run rfl (R_move rfl) ?_
   refine EL_op rfl (O_call hs [true] [] rfl rfl rfl Try.call77 (swapRange_spec bb c n0 X1 U (V.take (V.length - U.length)) (V.drop (V.length - U.length)) Y1 (X.length + A.length + (V.length - U.length)) _ _ _ (by omega) (by omega) (by omega) (by rw [List.length_take]; omega) (by rw [List.length_drop]; omega) (by rw [List.length_take, List.length_drop]; omega) hn0) (fun v es1 ds1 w hPhi hs => ?_))
   obtain ⟨rfl, rfl, rfl⟩ := hPhi
   refine EL_nil ?_
   have e2 : swR X1 U (V.take (V.length - U.length)) (V.drop (V.length - U.length)) Y1 U.length = X1 ++ (V.drop (V.length - U.length) ++ (V.take (V.length - U.length) ++ (U ++ Y1))) := by
     rw [swR, List.take_length, List.drop_length, List.take_of_length_le (l := V.drop (V.length - U.length)) (by rw [List.length_drop]; omega), List.drop_of_length_le (l := V.drop (V.length - U.length)) (by rw [List.length_drop]; omega)]
     simp only [List.nil_append]
   rw [e2] at hs
   refine EC_region ?_
   refine EL_run rfl (R_move rfl) ?_
   refine EL_run rfl (R_move rfl) ?_
   refine EL_run rfl (R_subI rfl rfl (by omega)) ?_
   refine EL_run rfl (R_assign rfl) ?_
   refine EL_nil ?_
   refine InBlock_n ?_
   refine Then_n ?_
   exact ⟨(V.drop (V.length - U.length)).length + (V.take (V.length - U.length)).length, by rw [List.length_take, List.length_drop]; omega, X1, V.drop (V.length - U.length), V.take (V.length - U.length), U ++ Y1, rfl, by rw [List.length_drop]; omega, by rw [List.length_drop]; omega, by rw [List.length_take]; omega, by rw [List.length_append, List.length_take, List.length_drop]; omega, by rw [← ht, ← List.append_assoc (V.take _), List.take_append_drop], ⟨rfl, rfl, rfl, sI (by rw [List.length_drop]; omega), sI (by rw [List.length_take]; omega), trivial⟩, (hs.fin [true] []).as rfl rfl⟩
 ·have hc20p := cvt hc20; try dsimp only at hc20p
  have hUV : U.length = V.length := by omega
  refine EC_exit ?_
  refine Then_e ?_
  refine Then_e ?_
  refine InBlock_hit rfl ?_
  refine Then_n ?_
  have e1 : X1 ++ (U ++ (V ++ Y1)) = swR X1 U [] V Y1 0 := by
    rw [swR]
    simp only [List.take_zero, List.drop_zero, List.nil_append]
  rw [e1] at hs
  refine EC_region ?_
  refine EL_run rfl (R_move rfl) ?_
  refine EL_run rfl (R_move rfl) ?_
  refine EL_run rfl (R_move rfl) ?_
  refine EL_run rfl (R_subI rfl rfl (by omega)) ?_
  refine EL_run rfl (R_move rfl) ?_
  refine EL_run rfl (R_move rfl) ?_
  refine EL_run rfl (R_move rfl) ?_
  refine EL_op rfl (O_call hs [true] [] rfl rfl rfl Try.call77 (swapRange_spec bb c n0 X1 U [] V Y1 (X.length + A.length) _ _ _ (by omega) (by omega) (by omega) (by simp; omega) hUV (by simp; omega) hn0) (fun v es1 ds1 w hPhi hs => ?_))
  obtain ⟨rfl, rfl, rfl⟩ := hPhi
  refine EL_nil ?_
  have e2 : swR X1 U [] V Y1 U.length = X ++ (B ++ (A ++ Y)) := by
    rw [swR, List.take_length, List.drop_length, List.take_of_length_le (by omega), List.drop_of_length_le (by omega)]
    simp only [List.nil_append]
    exact ht
  rw [e2] at hs
  exact ⟨[], trivial, _, _, ⟨rfl, rfl, rfl⟩, (hs.fin [true] []).as rfl rfl⟩

set_option maxRecDepth 100000 in
theorem insSort_spec (ao : Option Addr) (c n0 : Nat) (X S Y : List Ptr) (ia ib : Int) {w0 : World} (hia : ia = (X.length : Int)) (hib : ib = ((X.length + S.length : Nat) : Int)) (hn : n0 = X.length + S.length + Y.length) (hn0 : n0 ≤ 1000000) : Spec Try.prog 55 #[.slice ao n0 c, .int .i64 ia, .int .i64 ib, .func (.func 25) #[] #[]] w0 [oP (.slice ao n0 c) n0 (X ++ (S ++ Y))] [] (fun v es1 ds1 => v = .tuple #[] ∧ es1 = [oP (.slice ao n0 c) n0 (X ++ (sortK keyP S ++ Y))] ∧ ds1 = []) := by
 refine Spec.intro (fun F D hs => ?_)
 subst hia hib
 refine Calls_of_EC (args := [.slice ao n0 c, .int .i64 (X.length : Int), .int .i64 ((X.length + S.length : Nat) : Int), .func (.func 25) #[] #[]]) Try.func55 rfl rfl rfl ?_
 refine EC_rseq ?_
 refine EL_run rfl (R_move rfl) ?_
 refine EL_run rfl (R_addI rfl rfl (by omega)) ?_
 refine EL_run rfl (R_assign rfl) ?_
 refine EL_nil ?_
 refine EC_block ?_
 refine EC_loop (fun mm ρ w => ∃ k : Nat, mm = S.length + 1 - k ∧ 1 ≤ k ∧ (k ≤ S.length ∨ S.length = 0) ∧ Slots ρ [(0, .slice ao n0 c), (1, .int .i64 (X.length : Int)), (2, .int .i64 ((X.length + S.length : Nat) : Int)), (3, .func (.func 25) #[] #[]), (8, .int .i64 ((X.length + k : Nat) : Int))] ∧ St w0 F D [oP (.slice ao n0 c) n0 (X ++ (sortK keyP (S.take k) ++ (S.drop k ++ Y)))] [] w) (S.length) (⟨1, by omega, by omega, by omega, ⟨rfl, rfl, rfl, rfl, sI (by omega), trivial⟩, (hs.fin [true] []).as (by rw [sortK_self (srt_le1 (by rw [List.length_take]; omega)), ← List.append_assoc (S.take 1), List.take_append_drop]; rfl) rfl⟩) ?_
 rintro mm ρ w ⟨k, rfl, hk1, hk, hsl, hs⟩
 refine EC_slots _ hsl ?_
 refine EC_seq ?_
 refine EC_rseq ?_
 refine EL_run rfl (R_move rfl) ?_
 refine EL_run rfl (R_move rfl) ?_
 refine EL_run rfl (R_lss rfl rfl) ?_
 refine EL_nil ?_
 refine EC_cond rfl (fun hc14 => ?_) (fun hc14 => ?_)
 ·have hc14p := cvt hc14; try dsimp only at hc14p
  have hkS : k < S.length := by omega
  obtain ⟨T, hT⟩ : ∃ T, T = sortK keyP (S.take k) := ⟨_, rfl⟩
  have hTl : T.length = k := by rw [hT, sortK_len, List.length_take]; omega
  have hTs : Srt keyP T := by rw [hT]; exact sortK_srt _
  obtain ⟨bb, rfl⟩ := oSl.some (hs.at (i := 0) rfl) (show 0 < n0 by omega)
  refine EC_skip ?_
  refine Then_n ?_
  refine EC_seq ?_
  refine EC_block ?_
  refine EC_rseq ?_
  refine EL_run rfl (R_move rfl) ?_
  refine EL_run rfl (R_assign rfl) ?_
  refine EL_nil ?_
  refine EC_block ?_
  refine EC_loop (fun mm ρ w => ∃ j : Nat, mm = j ∧ j ≤ k ∧ (∀ y, y ∈ T.drop j → bl (keyP S[k]) (keyP y) = true) ∧ Slots ρ [(0, .slice (some ⟨bb, 0, none⟩) n0 c), (1, .int .i64 (X.length : Int)), (2, .int .i64 ((X.length + S.length : Nat) : Int)), (3, .func (.func 25) #[] #[]), (8, .int .i64 ((X.length + k : Nat) : Int)), (9, .int .i64 ((X.length + j : Nat) : Int))] ∧ St w0 F D [oP (.slice (some ⟨bb, 0, none⟩) n0 c) n0 (insR X T S[k] (S.drop (k + 1) ++ Y) j)] [] w) (k) (⟨k, rfl, Nat.le_refl _, fun y hy => (by rw [List.drop_of_length_le (by omega)] at hy; cases hy), ⟨rfl, rfl, rfl, rfl, rfl, rfl, trivial⟩, (hs.fin [true] []).as (by rw [← hT, insR, List.take_of_length_le (by omega), List.drop_of_length_le (l := T) (by omega), List.drop_eq_getElem_cons hkS]; rfl) rfl⟩) ?_
  rintro j ρ w ⟨_, rfl, hj, hhi, hsl, hs⟩
  refine EC_slots _ hsl ?_
  obtain ⟨j2, hj2⟩ : ∃ q, q = j := ⟨j, rfl⟩
  have hLn := insR_len X T (S.drop (k + 1) ++ Y) S[k] j
  rw [List.length_append, List.length_drop] at hLn
  refine EC_seq ?_
  refine EC_dseqS hs [14] [8, 13] [0] [] (.take 0 (.take 1 (.take 2 (.take 3 (.take 4 (.take 5 (.take 6 (.take 7 (.take 8 (.take 9 (.take 10 (.take 11 (.take 12 (.take 13 (.fork 14 (.take 15 (.take 16 .done)) (.done)))))))))))))))) mix_ok (by kernel_rfl) (fun w hs _ => ?_)
  refine EP_take rfl rfl rfl (fun _ => R_move rfl) ?_
  refine EP_take rfl rfl rfl (fun _ => R_move rfl) ?_
  refine EP_take rfl rfl rfl (fun _ => R_gtr rfl rfl) ?_
  refine EP_take rfl rfl rfl (fun _ => R_move rfl) ?_
  refine EP_split 21 rfl (fun hg3 => ?_) (fun hg3 => ?_)
  ·have hg3p := cvt hg3; try dsimp only at hg3p
   obtain ⟨j, rfl⟩ : ∃ q, j = q + 1 := ⟨j - 1, by omega⟩
   have hx := insR_get X T (S.drop (k + 1) ++ Y) S[k] (j := j + 1) (by omega)
   have hy := insR_low X T (S.drop (k + 1) ++ Y) S[k] (j := j) (by omega)
   refine EP_takeG rfl rfl rfl hg3 rfl rfl (fun _ => R_move rfl) ?_
   refine EP_takeG rfl rfl rfl hg3 rfl rfl (fun _ => R_move rfl) ?_
   refine EP_takeG rfl rfl rfl hg3 rfl rfl (fun _ => R_move rfl) ?_
   refine EP_takeG rfl rfl rfl hg3 rfl rfl (fun _ => R_idx es_22 rfl (by rfl) rfl (by omega) (by omega)) ?_
   refine EP_readG rfl rfl rfl hg3 rfl rfl (RdS.of hs rfl rfl) (fun _ hR => R_ldE (oSl.toD (hR.e 0 rfl rfl)) Ptr.len_l Try.isAgg30 Try.sizeOf30 rfl (by simp <;> omega) hx (by decide)) ?_
   refine EP_takeG rfl rfl rfl hg3 rfl rfl (fun _ => R_move rfl) ?_
   refine EP_takeG rfl rfl rfl hg3 rfl rfl (fun _ => R_move rfl) ?_
   refine EP_takeG rfl rfl rfl hg3 rfl rfl (fun _ => R_subI rfl rfl (by omega)) ?_
   refine EP_takeG rfl rfl rfl hg3 rfl rfl (fun _ => R_idx es_22 rfl (by rfl) rfl (by omega) (by omega)) ?_
   refine EP_readG rfl rfl rfl hg3 rfl rfl (RdS.of hs rfl rfl) (fun _ hR => R_ldE (oSl.toD (hR.e 0 rfl rfl)) Ptr.len_l Try.isAgg30 Try.sizeOf30 rfl (by simp <;> omega) hy (by decide)) ?_
   refine EP_actG rfl rfl rfl hg3 rfl (O_call hs [] [] rfl rfl rfl Try.call25 (dcmp_spec S[k] T[j]) (fun v es1 ds1 w hPhi hs => ?_))
   obtain ⟨rfl, rfl, rfl⟩ := hPhi
   refine ⟨(rq_no (by kernel_rfl)), ?_⟩
   refine EP_takeG rfl rfl rfl hg3 rfl rfl (fun _ => R_lss rfl rfl) ?_
   refine EP_take rfl rfl rfl (fun _ => R_pickT rfl hg3 rfl) ?_
   refine EP_done ?_
   refine EC_cond rfl (fun hc34 => ?_) (fun hc34 => ?_)
   ·have hc34p := cvt hc34; try dsimp only at hc34p
    refine EC_skip ?_
    refine Then_n ?_
    refine EC_seq ?_
    refine EC_block ?_
    refine EC_drawS hs [15, 17] [9, 13] [0] [] (.take 0 (.take 1 (.take 2 (.take 3 (.take 4 (.take 5 (.take 6 (.take 7 (.take 8 (.take 9 (.take 10 (.take 11 (.take 12 (.take 13 (.take 14 (.fork 15 (.take 16 (.fork 17 .done (.done))) (.done))))))))))))))))) mix_ok (by kernel_rfl) (fun w hs _ => ?_)
    refine EP_take rfl rfl rfl (fun _ => R_move rfl) ?_
    refine EP_take rfl rfl rfl (fun _ => R_move rfl) ?_
    refine EP_take rfl rfl rfl (fun _ => R_move rfl) ?_
    refine EP_take rfl rfl rfl (fun _ => R_move rfl) ?_
    refine EP_take rfl rfl rfl (fun _ => R_subI rfl rfl (by omega)) ?_
    refine EP_take rfl rfl rfl (fun _ => R_move rfl) ?_
    refine EP_take rfl rfl rfl (fun _ => R_move rfl) ?_
    refine EP_take rfl rfl rfl (fun _ => R_subI rfl rfl (by omega)) ?_
    refine EP_take rfl rfl rfl (fun _ => R_idx es_22 rfl (by rfl) rfl (by omega) (by omega)) ?_
    refine EP_read rfl rfl rfl (RdS.of hs rfl rfl) (fun _ hR => R_ldE (oSl.toD (hR.e 0 rfl rfl)) Ptr.len_l Try.isAgg30 Try.sizeOf30 rfl (by simp <;> omega) hy (by decide)) ?_
    refine EP_take rfl rfl rfl (fun _ => R_move rfl) ?_
    refine EP_take rfl rfl rfl (fun _ => R_move rfl) ?_
    refine EP_take rfl rfl rfl (fun _ => R_idx es_22 rfl (by rfl) rfl (by omega) (by omega)) ?_
    refine EP_read rfl rfl rfl (RdS.of hs rfl rfl) (fun _ hR => R_ldE (oSl.toD (hR.e 0 rfl rfl)) Ptr.len_l Try.isAgg30 Try.sizeOf30 rfl (by simp <;> omega) hx (by decide)) ?_
    refine EP_take rfl rfl rfl (fun _ => R_idx es_22 rfl (by rfl) rfl (by omega) (by omega)) ?_
    refine EP_act rfl rfl (O_storeE (f := Ptr.l) (j := X.length + (j + 1)) hs (i := 0) rfl Ptr.len_l Try.sizeOf30 rfl rfl rfl (Ptr.one_l _) (by simp <;> omega) (by omega) (fun w hs => ⟨(rq_no (by kernel_rfl)), ?_⟩))
    refine EP_take rfl rfl rfl (fun _ => R_idx es_22 rfl (by rfl) rfl (by omega) (by omega)) ?_
    refine EP_act rfl rfl (O_storeE (f := Ptr.l) (j := X.length + j) hs (i := 0) rfl Ptr.len_l Try.sizeOf30 rfl rfl rfl (Ptr.one_l _) (by simp <;> omega) (by rw [List.length_set]; omega) (fun w hs => ⟨(rq_no (by kernel_rfl)), ?_⟩))
    refine EP_done ?_
    refine InBlock_n ?_
    refine Then_n ?_
    refine EC_region ?_
    refine EL_run rfl (R_move rfl) ?_
    refine EL_run rfl (R_subI rfl rfl (by omega)) ?_
    refine EL_run rfl (R_assign rfl) ?_
    refine EL_nil ?_
    refine Then_n ?_
    exact ⟨j, by omega, j, rfl, by omega, fun y hy => by
      rw [List.drop_eq_getElem_cons (by omega)] at hy
      rcases List.mem_cons.1 hy with rfl | hy
      · exact cmpB_lt.1 (of_decide_eq_true hc34)
      · exact hhi y hy, ⟨rfl, rfl, rfl, rfl, rfl, sI (by omega), trivial⟩, (hs.fin [true] []).as (by rw [← insR_down X T (S.drop (k + 1) ++ Y) S[k] (j := j) (by omega)]; rfl) rfl⟩
   ·have hc34p := cvt hc34; try dsimp only at hc34p
    refine EC_exit ?_
    refine Then_e ?_
    refine Then_e ?_
    refine InBlock_hit rfl ?_
    refine InBlock_n ?_
    refine Then_n ?_
    rw [← hj2] at hs hhi
    have hlow : ∀ y, y ∈ T.take j2 → bl (keyP S[k]) (keyP y) = false := by
      intro y hy
      first
        | (rw [hj2, show j = 0 by omega] at hy; simp at hy; done)
        | (obtain ⟨q, hq, rfl⟩ := List.getElem_of_mem hy
           rw [List.length_take] at hq
           rw [List.getElem_take]
           have g1 : bl (keyP S[k]) (keyP T[j]) = false := by
             cases hb : bl (keyP S[k]) (keyP T[j])
             · rfl
             · exact absurd (cmpB_lt.2 hb) (of_decide_eq_false hc34)
           exact bl_ge_trans (srt_le hTs (show q ≤ j by omega) (by omega)) g1)
    have he : X ++ (sortK keyP (S.take (k + 1)) ++ (S.drop (k + 1) ++ Y)) = insR X T S[k] (S.drop (k + 1) ++ Y) j2 := by
      rw [List.take_succ_eq_append_getElem hkS, sortK_snoc, ← hT]
      have := insK_of (key := keyP) S[k] (T.take j2) (T.drop j2) hlow hhi
      rw [List.take_append_drop] at this
      rw [this, insR]
      simp only [List.append_assoc, List.cons_append]
    refine EC_region ?_
    refine EL_run rfl (R_move rfl) ?_
    refine EL_run rfl (R_addI rfl rfl (by omega)) ?_
    refine EL_run rfl (R_assign rfl) ?_
    refine EL_nil ?_
    refine Then_n ?_
    exact ⟨S.length + 1 - (k + 1), by omega, k + 1, rfl, by omega, by omega, ⟨rfl, rfl, rfl, rfl, sI (by omega), trivial⟩, (hs.fin [true] []).as (by rw [he]; rfl) rfl⟩
  ·have hg3p := cvt hg3; try dsimp only at hg3p
   refine EP_passT rfl rfl rfl hg3 rfl (fun _ => RdS.of hs rfl rfl) ?_
   refine EP_passT rfl rfl rfl hg3 rfl (fun _ => RdS.of hs rfl rfl) ?_
   refine EP_passT rfl rfl rfl hg3 rfl (fun _ => RdS.of hs rfl rfl) ?_
   refine EP_passT rfl rfl rfl hg3 rfl (fun _ => RdS.of hs rfl rfl) ?_
   refine EP_passT rfl rfl rfl hg3 rfl (fun _ => RdS.of hs rfl rfl) ?_
   refine EP_passT rfl rfl rfl hg3 rfl (fun _ => RdS.of hs rfl rfl) ?_
   refine EP_passT rfl rfl rfl hg3 rfl (fun _ => RdS.of hs rfl rfl) ?_
   refine EP_passT rfl rfl rfl hg3 rfl (fun _ => RdS.of hs rfl rfl) ?_
   refine EP_passT rfl rfl rfl hg3 rfl (fun _ => RdS.of hs rfl rfl) ?_
   refine EP_passT rfl rfl rfl hg3 rfl (fun _ => RdS.of hs rfl rfl) ?_
   refine EP_passF rfl rfl rfl hg3 rfl (fun _ => RdS.of hs rfl rfl) ?_
   refine EP_passT rfl rfl rfl hg3 rfl (fun _ => RdS.of hs rfl rfl) ?_
   refine EP_take rfl rfl rfl (fun _ => R_pickF rfl hg3 rfl) ?_
   refine EP_done ?_
   refine EC_cond rfl (fun hcx => ?_) (fun hcx => ?_)
   ·exact Bool.noConfusion hcx
   ·skip
    refine EC_exit ?_
    refine Then_e ?_
    refine Then_e ?_
    refine InBlock_hit rfl ?_
    refine InBlock_n ?_
    refine Then_n ?_
    rw [← hj2] at hs hhi
    have hlow : ∀ y, y ∈ T.take j2 → bl (keyP S[k]) (keyP y) = false := by
      intro y hy
      first
        | (rw [hj2, show j = 0 by omega] at hy; simp at hy; done)
        | (obtain ⟨q, hq, rfl⟩ := List.getElem_of_mem hy
           rw [List.length_take] at hq
           rw [List.getElem_take]
           have g1 : bl (keyP S[k]) (keyP T[j]) = false := by
             cases hb : bl (keyP S[k]) (keyP T[j])
             · rfl
             · exact absurd (cmpB_lt.2 hb) (of_decide_eq_false hc34)
           exact bl_ge_trans (srt_le hTs (show q ≤ j by omega) (by omega)) g1)
    have he : X ++ (sortK keyP (S.take (k + 1)) ++ (S.drop (k + 1) ++ Y)) = insR X T S[k] (S.drop (k + 1) ++ Y) j2 := by
      rw [List.take_succ_eq_append_getElem hkS, sortK_snoc, ← hT]
      have := insK_of (key := keyP) S[k] (T.take j2) (T.drop j2) hlow hhi
      rw [List.take_append_drop] at this
      rw [this, insR]
      simp only [List.append_assoc, List.cons_append]
    refine EC_region ?_
    refine EL_run rfl (R_move rfl) ?_
    refine EL_run rfl (R_addI rfl rfl (by omega)) ?_
    refine EL_run rfl (R_assign rfl) ?_
    refine EL_nil ?_
    refine Then_n ?_
    exact ⟨S.length + 1 - (k + 1), by omega, k + 1, rfl, by omega, by omega, ⟨rfl, rfl, rfl, rfl, sI (by omega), trivial⟩, (hs.fin [true] []).as (by rw [he]; rfl) rfl⟩
 ·have hc14p := cvt hc14; try dsimp only at hc14p
  have hend : sortK keyP (S.take k) ++ (S.drop k ++ Y) = sortK keyP S ++ Y := by rw [List.take_of_length_le (by omega), List.drop_of_length_le (by omega), List.nil_append]
  rw [hend] at hs
  refine EC_exit ?_
  refine Then_e ?_
  refine Then_e ?_
  refine InBlock_hit rfl ?_
  exact ⟨[], trivial, _, _, ⟨rfl, rfl, rfl⟩, (hs.fin [true] []).as rfl rfl⟩
end Go.Proofs.Ytpcojkbljgpecaa
