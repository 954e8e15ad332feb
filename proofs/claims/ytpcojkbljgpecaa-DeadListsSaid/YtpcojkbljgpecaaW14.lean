/- Walks, part 14: two sorted rows become one. -/
import Derived.Test.YtpcojkbljgpecaaW13
namespace Go.Proofs.Ytpcojkbljgpecaa
open Go
set_option maxRecDepth 100000 in
theorem symMerge_spec (bb c n0 : Nat) : ∀ (q : Nat) (X A B Y : List Ptr) (ia im ib : Int) {w0 : World}, q = A.length + B.length → ia = ((X.length : Nat) : Int) → im = ((X.length + A.length : Nat) : Int) → ib = ((X.length + A.length + B.length : Nat) : Int) → 1 ≤ A.length → 1 ≤ B.length → Srt keyP A → Srt keyP B → n0 = X.length + A.length + B.length + Y.length → n0 ≤ 1000000 → Spec Try.prog 56 #[.slice (some ⟨bb, 0, none⟩) n0 c, .int .i64 ia, .int .i64 im, .int .i64 ib, .func (.func 25) #[] #[]] w0 [oP (.slice (some ⟨bb, 0, none⟩) n0 c) n0 (X ++ (A ++ (B ++ Y)))] [] (fun v es1 ds1 => v = .tuple #[] ∧ es1 = [oP (.slice (some ⟨bb, 0, none⟩) n0 c) n0 (X ++ (sortK keyP (A ++ B) ++ Y))] ∧ ds1 = []) := by
 intro q
 induction q using Nat.strongRecOn
 rename_i q ih
 intro X A B Y ia im ib w0 hq hia him hib hA1 hB1 hAs hBs hn hn0
 subst hia him hib hq
 refine Spec.intro (fun F D hs => ?_)
 refine Calls_of_EC (args := [.slice (some ⟨bb, 0, none⟩) n0 c, .int .i64 ((X.length : Nat) : Int), .int .i64 ((X.length + A.length : Nat) : Int), .int .i64 ((X.length + A.length + B.length : Nat) : Int), .func (.func 25) #[] #[]]) Try.func56 rfl rfl rfl ?_
 refine EC_seq ?_
 refine EC_rseq ?_
 refine EL_run rfl (R_move rfl) ?_
 refine EL_run rfl (R_move rfl) ?_
 refine EL_run rfl (R_subI rfl rfl (by omega)) ?_
 refine EL_run rfl (R_eql rfl rfl) ?_
 refine EL_nil ?_
 refine EC_cond rfl (fun hc28 => ?_) (fun hc28 => ?_)
 ·have hc28p := cvt hc28; try dsimp only at hc28p
  obtain ⟨x, rfl⟩ : ∃ x, A = [x] := by
    match A, (show A.length = 1 by omega) with
    | [x], _ => exact ⟨x, rfl⟩
  have hl1 : [x].length = 1 := rfl
  have hLl : (X ++ ([x] ++ (B ++ Y))).length = n0 := by simp only [List.length_append]; omega
  refine EC_rseq ?_
  refine EL_run rfl (R_move rfl) ?_
  refine EL_run rfl (R_assign rfl) ?_
  refine EL_nil ?_
  refine EC_rseq ?_
  refine EL_run rfl (R_move rfl) ?_
  refine EL_run rfl (R_assign rfl) ?_
  refine EL_nil ?_
  refine EC_seq ?_
  refine EC_block ?_
  refine EC_loop (fun mm ρ w => ∃ i j : Nat, mm = j - i ∧ i ≤ j ∧ j ≤ B.length ∧ (∀ q (h : q < B.length), q + 1 = i → bl (keyP B[q]) (keyP x) = true) ∧ (∀ (h : j < B.length), bl (keyP B[j]) (keyP x) = false) ∧ Slots ρ [(0, .slice (some ⟨bb, 0, none⟩) n0 c), (1, .int .i64 ((X.length : Nat) : Int)), (2, .int .i64 ((X.length + [x].length : Nat) : Int)), (3, .int .i64 ((X.length + [x].length + B.length : Nat) : Int)), (4, .func (.func 25) #[] #[]), (10, .int .i64 ((X.length + 1 + i : Nat) : Int)), (11, .int .i64 ((X.length + 1 + j : Nat) : Int))] ∧ St w0 F D [oP (.slice (some ⟨bb, 0, none⟩) n0 c) n0 (X ++ ([x] ++ (B ++ Y)))] [] w) (B.length) (⟨0, B.length, by omega, by omega, Nat.le_refl _, fun q h h2 => absurd h2 (by omega), fun h => absurd h (Nat.lt_irrefl _), ⟨rfl, rfl, rfl, rfl, rfl, sI (by omega), sI (by omega), trivial⟩, hs⟩) ?_
  rintro mm ρ w ⟨i, j, rfl, hij, hj, hlo, hhi, hsl, hs⟩
  refine EC_slots _ hsl ?_
  refine EC_seq ?_
  refine EC_rseq ?_
  refine EL_run rfl (R_move rfl) ?_
  refine EL_run rfl (R_move rfl) ?_
  refine EL_run rfl (R_lss rfl rfl) ?_
  refine EL_nil ?_
  refine EC_cond rfl (fun hc33 => ?_) (fun hc33 => ?_)
  ·have hc33p := cvt hc33; try dsimp only at hc33p
   refine EC_skip ?_
   refine Then_n ?_
   refine EC_block ?_
   refine EC_rseq ?_
   refine EL_run rfl (R_move rfl) ?_
   refine EL_run rfl (R_move rfl) ?_
   refine EL_run rfl (R_addI rfl rfl (by omega)) ?_
   refine EL_run rfl (R_convIU Try.underlying3 Try.underlying54 rfl (by omega) (by omega)) ?_
   refine EL_run rfl (R_shrU 1 rfl rfl rfl (by simp [IntKind.bits]; omega)) ?_
   refine EL_run rfl (R_convS Try.underlying54 Try.underlying3 rfl (by omega) (by omega)) ?_
   refine EL_run rfl (R_assign rfl) ?_
   obtain ⟨h, hh⟩ : ∃ q, q = (i + j) / 2 := ⟨_, rfl⟩
   have hmid : (((X.length + 1 + i : Nat) : Int) + ((X.length + 1 + j : Nat) : Int)).toNat / 2 ^ 1 = X.length + 1 + h := by omega
   rw [hmid]
   have hhB : h < B.length := by omega
   have hgx := get_x1 X [x] (B ++ Y) (k := 0) (by simp)
   have hgy := get_x2 X [x] B Y hhB
   refine EL_nil ?_
   refine EC_dseqS hs [9] [4, 8] [0] [] (.take 0 (.take 1 (.take 2 (.take 3 (.take 4 (.take 5 (.take 6 (.take 7 (.take 8 (.fork 9 (.take 10 .done) (.done))))))))))) mix_ok (by kernel_rfl) (fun w hs _ => ?_)
   refine EP_take rfl rfl rfl (fun _ => R_move rfl) ?_
   refine EP_take rfl rfl rfl (fun _ => R_move rfl) ?_
   refine EP_take rfl rfl rfl (fun _ => R_move rfl) ?_
   refine EP_take rfl rfl rfl (fun _ => R_idx es_22 rfl (by rfl) rfl (by omega) (by omega)) ?_
   refine EP_read rfl rfl rfl (RdS.of hs rfl rfl) (fun _ hR => R_ldE (oSl.toD (hR.e 0 rfl rfl)) Ptr.len_l Try.isAgg30 Try.sizeOf30 rfl (by simp <;> omega) hgy (by decide)) ?_
   refine EP_take rfl rfl rfl (fun _ => R_move rfl) ?_
   refine EP_take rfl rfl rfl (fun _ => R_move rfl) ?_
   refine EP_take rfl rfl rfl (fun _ => R_idx es_22 rfl (by rfl) rfl (by omega) (by omega)) ?_
   refine EP_read rfl rfl rfl (RdS.of hs rfl rfl) (fun _ hR => R_ldE (oSl.toD (hR.e 0 rfl rfl)) Ptr.len_l Try.isAgg30 Try.sizeOf30 rfl (by simp <;> omega) hgx (by decide)) ?_
   refine EP_act rfl rfl (O_call hs [] [] rfl rfl rfl Try.call25 (dcmp_spec B[h] x) (fun v es1 ds1 w hPhi hs => ?_))
   obtain ⟨rfl, rfl, rfl⟩ := hPhi
   refine ⟨(rq_no (by kernel_rfl)), ?_⟩
   refine EP_take rfl rfl rfl (fun _ => R_lss rfl rfl) ?_
   refine EP_done ?_
   refine EC_cond rfl (fun hc50 => ?_) (fun hc50 => ?_)
   ·have hc50p := cvt hc50; try dsimp only at hc50p
    refine EC_region ?_
    refine EL_run rfl (R_move rfl) ?_
    refine EL_run rfl (R_addI rfl rfl (by omega)) ?_
    refine EL_run rfl (R_assign rfl) ?_
    refine EL_nil ?_
    refine InBlock_n ?_
    refine Then_n ?_
    have g1 : ∀ q (hq : q < B.length), q + 1 = h + 1 → bl (keyP B[q]) (keyP x) = true := fun q hq hqe => by
      obtain rfl : q = h := by omega
      exact cmpB_lt.1 hc50p
    exact ⟨j - (h + 1), by omega, h + 1, j, rfl, by omega, hj, g1, hhi, ⟨rfl, rfl, rfl, rfl, rfl, sI (by omega), rfl, trivial⟩, (hs.fin [true] []).as rfl rfl⟩
   ·have hc50p := cvt hc50; try dsimp only at hc50p
    refine EC_region ?_
    refine EL_run rfl (R_move rfl) ?_
    refine EL_run rfl (R_assign rfl) ?_
    refine EL_nil ?_
    refine InBlock_n ?_
    refine Then_n ?_
    have g1 : ∀ (_ : h < B.length), bl (keyP B[h]) (keyP x) = false := fun _ => by
      cases hb : bl (keyP B[h]) (keyP x)
      · rfl
      · exact absurd (cmpB_lt.2 hb) hc50p
    exact ⟨h - i, by omega, i, h, rfl, by omega, by omega, hlo, g1, ⟨rfl, rfl, rfl, rfl, rfl, rfl, sI (by omega), trivial⟩, (hs.fin [true] []).as rfl rfl⟩
  ·have hc33p := cvt hc33; try dsimp only at hc33p
   refine EC_exit ?_
   refine Then_e ?_
   refine Then_e ?_
   refine InBlock_hit rfl ?_
   refine Then_n ?_
   refine EC_seq ?_
   obtain rfl : i = j := by omega
   have hs := hs.as (es' := [oP (.slice (some ⟨bb, 0, none⟩) n0 c) n0 (insR X B x Y 0)]) (ds' := []) (by simp [insR]) rfl
   refine EC_rseq ?_
   refine EL_run rfl (R_move rfl) ?_
   refine EL_run rfl (R_assign rfl) ?_
   refine EL_nil ?_
   refine EC_block ?_
   refine EC_loop (fun mm ρ w => ∃ r : Nat, mm = i - r ∧ r ≤ i ∧ Slots ρ [(0, .slice (some ⟨bb, 0, none⟩) n0 c), (1, .int .i64 ((X.length : Nat) : Int)), (2, .int .i64 ((X.length + [x].length : Nat) : Int)), (3, .int .i64 ((X.length + [x].length + B.length : Nat) : Int)), (4, .func (.func 25) #[] #[]), (10, .int .i64 ((X.length + 1 + i : Nat) : Int)), (13, .int .i64 ((X.length + r : Nat) : Int))] ∧ St w0 F D [oP (.slice (some ⟨bb, 0, none⟩) n0 c) n0 (insR X B x Y r)] [] w) (i) (⟨0, by omega, by omega, ⟨rfl, rfl, rfl, rfl, rfl, rfl, rfl, trivial⟩, hs⟩) ?_
   rintro mm ρ w ⟨r, rfl, hr, hsl, hs⟩
   refine EC_slots _ hsl ?_
   have hLn := insR_len X B Y x r
   refine EC_seq ?_
   refine EC_rseq ?_
   refine EL_run rfl (R_move rfl) ?_
   refine EL_run rfl (R_move rfl) ?_
   refine EL_run rfl (R_subI rfl rfl (by omega)) ?_
   refine EL_run rfl (R_lss rfl rfl) ?_
   refine EL_nil ?_
   refine EC_cond rfl (fun hc58 => ?_) (fun hc58 => ?_)
   ·have hc58p := cvt hc58; try dsimp only at hc58p
    have hx := insR_get X B Y x (j := r) (by omega)
    have hy := insR_high X B Y x (j := r) (by omega)
    refine EC_skip ?_
    refine Then_n ?_
    refine EC_seq ?_
    refine EC_block ?_
    refine EC_drawS hs [15, 17] [9, 13] [0] [] (.take 0 (.take 1 (.take 2 (.take 3 (.take 4 (.take 5 (.take 6 (.take 7 (.take 8 (.take 9 (.take 10 (.take 11 (.take 12 (.take 13 (.take 14 (.fork 15 (.take 16 (.fork 17 .done (.done))) (.done))))))))))))))))) mix_ok (by kernel_rfl) (fun w hs _ => ?_)
    refine EP_take rfl rfl rfl (fun _ => R_move rfl) ?_
    refine EP_take rfl rfl rfl (fun _ => R_move rfl) ?_
    refine EP_take rfl rfl rfl (fun _ => R_move rfl) ?_
    refine EP_take rfl rfl rfl (fun _ => R_move rfl) ?_
    refine EP_take rfl rfl rfl (fun _ => R_addI rfl rfl (by omega)) ?_
    refine EP_take rfl rfl rfl (fun _ => R_move rfl) ?_
    refine EP_take rfl rfl rfl (fun _ => R_move rfl) ?_
    refine EP_take rfl rfl rfl (fun _ => R_addI rfl rfl (by omega)) ?_
    refine EP_take rfl rfl rfl (fun _ => R_idx es_22 rfl (by rfl) rfl (by omega) (by omega)) ?_
    refine EP_read rfl rfl rfl (RdS.of hs rfl rfl) (fun _ hR => R_ldE (oSl.toD (hR.e 0 rfl rfl)) Ptr.len_l Try.isAgg30 Try.sizeOf30 rfl (by simp <;> omega) hy (by decide)) ?_
    refine EP_take rfl rfl rfl (fun _ => R_move rfl) ?_
    refine EP_take rfl rfl rfl (fun _ => R_move rfl) ?_
    refine EP_take rfl rfl rfl (fun _ => R_idx es_22 rfl (by rfl) rfl (by omega) (by omega)) ?_
    refine EP_read rfl rfl rfl (RdS.of hs rfl rfl) (fun _ hR => R_ldE (oSl.toD (hR.e 0 rfl rfl)) Ptr.len_l Try.isAgg30 Try.sizeOf30 rfl (by simp <;> omega) hx (by decide)) ?_
    refine EP_take rfl rfl rfl (fun _ => R_idx es_22 rfl (by rfl) rfl (by omega) (by omega)) ?_
    refine EP_act rfl rfl (O_storeE (f := Ptr.l) (j := X.length + r) hs (i := 0) rfl Ptr.len_l Try.sizeOf30 rfl rfl rfl (Ptr.one_l _) (by simp <;> omega) (by omega) (fun w hs => ⟨(rq_no (by kernel_rfl)), ?_⟩))
    refine EP_take rfl rfl rfl (fun _ => R_idx es_22 rfl (by rfl) rfl (by omega) (by omega)) ?_
    refine EP_act rfl rfl (O_storeE (f := Ptr.l) (j := X.length + (r + 1)) hs (i := 0) rfl Ptr.len_l Try.sizeOf30 rfl rfl rfl (Ptr.one_l _) (by simp <;> omega) (by rw [List.length_set]; omega) (fun w hs => ⟨(rq_no (by kernel_rfl)), ?_⟩))
    refine EP_done ?_
    refine InBlock_n ?_
    refine Then_n ?_
    refine EC_region ?_
    refine EL_run rfl (R_move rfl) ?_
    refine EL_run rfl (R_addI rfl rfl (by omega)) ?_
    refine EL_run rfl (R_assign rfl) ?_
    refine EL_nil ?_
    refine Then_n ?_
    exact ⟨i - (r + 1), by omega, r + 1, rfl, by omega, ⟨rfl, rfl, rfl, rfl, rfl, rfl, sI (by omega), trivial⟩, (hs.fin [true] []).as (by rw [← insR_up X B Y x (j := r) (by omega)]; rfl) rfl⟩
   ·have hc58p := cvt hc58; try dsimp only at hc58p
    obtain rfl : r = i := by omega
    have hfin : insR X B x Y r = X ++ (sortK keyP ([x] ++ B) ++ Y) := by
      rw [insR, show ([x] ++ B) = x :: B from rfl, ← sortK_front x hBs hj (fun h => hlo (r - 1) (by omega) (by omega)) hhi]
      simp only [List.append_assoc, List.cons_append]
    rw [hfin] at hs
    refine EC_exit ?_
    refine Then_e ?_
    refine Then_e ?_
    refine InBlock_hit rfl ?_
    refine Then_n ?_
    refine EC_ret ?_
    refine Then_r ?_
    exact ⟨[], trivial, _, _, ⟨rfl, rfl, rfl⟩, (hs.fin [true] []).as rfl rfl⟩
 ·have hc28p := cvt hc28; try dsimp only at hc28p
  refine EC_skip ?_
  refine Then_n ?_
  refine EC_seq ?_
  refine EC_rseq ?_
  refine EL_run rfl (R_move rfl) ?_
  refine EL_run rfl (R_move rfl) ?_
  refine EL_run rfl (R_subI rfl rfl (by omega)) ?_
  refine EL_run rfl (R_eql rfl rfl) ?_
  refine EL_nil ?_
  refine EC_cond rfl (fun hc80 => ?_) (fun hc80 => ?_)
  ·have hc80p := cvt hc80; try dsimp only at hc80p
   obtain ⟨x, rfl⟩ : ∃ x, B = [x] := by
     match B, (show B.length = 1 by omega) with
     | [x], _ => exact ⟨x, rfl⟩
   have hl1 : [x].length = 1 := rfl
   have hLl : (X ++ (A ++ ([x] ++ Y))).length = n0 := by simp only [List.length_append]; omega
   refine EC_rseq ?_
   refine EL_run rfl (R_move rfl) ?_
   refine EL_run rfl (R_assign rfl) ?_
   refine EL_nil ?_
   refine EC_rseq ?_
   refine EL_run rfl (R_move rfl) ?_
   refine EL_run rfl (R_assign rfl) ?_
   refine EL_nil ?_
   refine EC_seq ?_
   refine EC_block ?_
   refine EC_loop (fun mm ρ w => ∃ i j : Nat, mm = j - i ∧ i ≤ j ∧ j ≤ A.length ∧ (∀ q (h : q < A.length), q + 1 = i → bl (keyP x) (keyP A[q]) = false) ∧ (∀ (h : j < A.length), bl (keyP x) (keyP A[j]) = true) ∧ Slots ρ [(0, .slice (some ⟨bb, 0, none⟩) n0 c), (1, .int .i64 ((X.length : Nat) : Int)), (2, .int .i64 ((X.length + A.length : Nat) : Int)), (3, .int .i64 ((X.length + A.length + [x].length : Nat) : Int)), (4, .func (.func 25) #[] #[]), (14, .int .i64 ((X.length + i : Nat) : Int)), (15, .int .i64 ((X.length + j : Nat) : Int))] ∧ St w0 F D [oP (.slice (some ⟨bb, 0, none⟩) n0 c) n0 (X ++ (A ++ ([x] ++ Y)))] [] w) (A.length) (⟨0, A.length, by omega, by omega, Nat.le_refl _, fun q h h2 => absurd h2 (by omega), fun h => absurd h (Nat.lt_irrefl _), ⟨rfl, rfl, rfl, rfl, rfl, sI (by omega), sI (by omega), trivial⟩, hs⟩) ?_
   rintro mm ρ w ⟨i, j, rfl, hij, hj, hlo, hhi, hsl, hs⟩
   refine EC_slots _ hsl ?_
   refine EC_seq ?_
   refine EC_rseq ?_
   refine EL_run rfl (R_move rfl) ?_
   refine EL_run rfl (R_move rfl) ?_
   refine EL_run rfl (R_lss rfl rfl) ?_
   refine EL_nil ?_
   refine EC_cond rfl (fun hc85 => ?_) (fun hc85 => ?_)
   ·have hc85p := cvt hc85; try dsimp only at hc85p
    refine EC_skip ?_
    refine Then_n ?_
    refine EC_block ?_
    refine EC_rseq ?_
    refine EL_run rfl (R_move rfl) ?_
    refine EL_run rfl (R_move rfl) ?_
    refine EL_run rfl (R_addI rfl rfl (by omega)) ?_
    refine EL_run rfl (R_convIU Try.underlying3 Try.underlying54 rfl (by omega) (by omega)) ?_
    refine EL_run rfl (R_shrU 1 rfl rfl rfl (by simp [IntKind.bits]; omega)) ?_
    refine EL_run rfl (R_convS Try.underlying54 Try.underlying3 rfl (by omega) (by omega)) ?_
    refine EL_run rfl (R_assign rfl) ?_
    obtain ⟨h, hh⟩ : ∃ q, q = (i + j) / 2 := ⟨_, rfl⟩
    have hmid : (((X.length + i : Nat) : Int) + ((X.length + j : Nat) : Int)).toNat / 2 ^ 1 = X.length + h := by omega
    rw [hmid]
    have hhA : h < A.length := by omega
    have hgx := get_x2 X A [x] Y (k := 0) (by simp)
    have hgy := get_x1 X A ([x] ++ Y) hhA
    refine EL_nil ?_
    refine EC_dseqS hs [9] [4, 8] [0] [] (.take 0 (.take 1 (.take 2 (.take 3 (.take 4 (.take 5 (.take 6 (.take 7 (.take 8 (.fork 9 (.take 10 (.take 11 .done)) (.done))))))))))) mix_ok (by kernel_rfl) (fun w hs _ => ?_)
    refine EP_take rfl rfl rfl (fun _ => R_move rfl) ?_
    refine EP_take rfl rfl rfl (fun _ => R_move rfl) ?_
    refine EP_take rfl rfl rfl (fun _ => R_move rfl) ?_
    refine EP_take rfl rfl rfl (fun _ => R_idx es_22 rfl (by rfl) rfl (by omega) (by omega)) ?_
    refine EP_read rfl rfl rfl (RdS.of hs rfl rfl) (fun _ hR => R_ldE (oSl.toD (hR.e 0 rfl rfl)) Ptr.len_l Try.isAgg30 Try.sizeOf30 rfl (by simp <;> omega) hgx (by decide)) ?_
    refine EP_take rfl rfl rfl (fun _ => R_move rfl) ?_
    refine EP_take rfl rfl rfl (fun _ => R_move rfl) ?_
    refine EP_take rfl rfl rfl (fun _ => R_idx es_22 rfl (by rfl) rfl (by omega) (by omega)) ?_
    refine EP_read rfl rfl rfl (RdS.of hs rfl rfl) (fun _ hR => R_ldE (oSl.toD (hR.e 0 rfl rfl)) Ptr.len_l Try.isAgg30 Try.sizeOf30 rfl (by simp <;> omega) hgy (by decide)) ?_
    refine EP_act rfl rfl (O_call hs [] [] rfl rfl rfl Try.call25 (dcmp_spec x A[h]) (fun v es1 ds1 w hPhi hs => ?_))
    obtain ⟨rfl, rfl, rfl⟩ := hPhi
    refine ⟨(rq_no (by kernel_rfl)), ?_⟩
    refine EP_take rfl rfl rfl (fun _ => R_lss rfl rfl) ?_
    refine EP_take rfl rfl rfl (fun _ => R_not rfl) ?_
    refine EP_done ?_
    refine EC_cond rfl (fun hc103 => ?_) (fun hc103 => ?_)
    ·have hc103p := cvt hc103; try dsimp only at hc103p
     refine EC_region ?_
     refine EL_run rfl (R_move rfl) ?_
     refine EL_run rfl (R_addI rfl rfl (by omega)) ?_
     refine EL_run rfl (R_assign rfl) ?_
     refine EL_nil ?_
     refine InBlock_n ?_
     refine Then_n ?_
     have g1 : ∀ q (hq : q < A.length), q + 1 = h + 1 → bl (keyP x) (keyP A[q]) = false := fun q hq hqe => by
       obtain rfl : q = h := by omega
       cases hb : bl (keyP x) (keyP A[q])
       · rfl
       · exact absurd (cmpB_lt.2 hb) hc103p
     exact ⟨j - (h + 1), by omega, h + 1, j, rfl, by omega, hj, g1, hhi, ⟨rfl, rfl, rfl, rfl, rfl, sI (by omega), rfl, trivial⟩, (hs.fin [true] []).as rfl rfl⟩
    ·have hc103p := cvt hc103; try dsimp only at hc103p
     refine EC_region ?_
     refine EL_run rfl (R_move rfl) ?_
     refine EL_run rfl (R_assign rfl) ?_
     refine EL_nil ?_
     refine InBlock_n ?_
     refine Then_n ?_
     exact ⟨h - i, by omega, i, h, rfl, by omega, by omega, hlo, (fun _ => cmpB_lt.1 hc103p), ⟨rfl, rfl, rfl, rfl, rfl, rfl, sI (by omega), trivial⟩, (hs.fin [true] []).as rfl rfl⟩
   ·have hc85p := cvt hc85; try dsimp only at hc85p
    refine EC_exit ?_
    refine Then_e ?_
    refine Then_e ?_
    refine InBlock_hit rfl ?_
    refine Then_n ?_
    refine EC_seq ?_
    obtain rfl : i = j := by omega
    have hs := hs.as (es' := [oP (.slice (some ⟨bb, 0, none⟩) n0 c) n0 (insR X A x Y A.length)]) (ds' := []) (by simp [insR]) rfl
    refine EC_rseq ?_
    refine EL_run rfl (R_move rfl) ?_
    refine EL_run rfl (R_assign rfl) ?_
    refine EL_nil ?_
    refine EC_block ?_
    refine EC_loop (fun mm ρ w => ∃ r : Nat, mm = r ∧ i ≤ r ∧ r ≤ A.length ∧ Slots ρ [(0, .slice (some ⟨bb, 0, none⟩) n0 c), (1, .int .i64 ((X.length : Nat) : Int)), (2, .int .i64 ((X.length + A.length : Nat) : Int)), (3, .int .i64 ((X.length + A.length + [x].length : Nat) : Int)), (4, .func (.func 25) #[] #[]), (14, .int .i64 ((X.length + i : Nat) : Int)), (17, .int .i64 ((X.length + r : Nat) : Int))] ∧ St w0 F D [oP (.slice (some ⟨bb, 0, none⟩) n0 c) n0 (insR X A x Y r)] [] w) (A.length) (⟨A.length, rfl, hj, Nat.le_refl _, ⟨rfl, rfl, rfl, rfl, rfl, rfl, rfl, trivial⟩, hs⟩) ?_
    rintro r ρ w ⟨_, rfl, hir, hr, hsl, hs⟩
    refine EC_slots _ hsl ?_
    have hLn := insR_len X A Y x r
    refine EC_seq ?_
    refine EC_rseq ?_
    refine EL_run rfl (R_move rfl) ?_
    refine EL_run rfl (R_move rfl) ?_
    refine EL_run rfl (R_gtr rfl rfl) ?_
    refine EL_nil ?_
    refine EC_cond rfl (fun hc110 => ?_) (fun hc110 => ?_)
    ·have hc110p := cvt hc110; try dsimp only at hc110p
     obtain ⟨r, rfl⟩ : ∃ q, r = q + 1 := ⟨r - 1, by omega⟩
     have hx := insR_get X A Y x (j := r + 1) (by omega)
     have hy := insR_low X A Y x (j := r) (by omega)
     refine EC_skip ?_
     refine Then_n ?_
     refine EC_seq ?_
     refine EC_block ?_
     refine EC_drawS hs [15, 17] [9, 13] [0] [] (.take 0 (.take 1 (.take 2 (.take 3 (.take 4 (.take 5 (.take 6 (.take 7 (.take 8 (.take 9 (.take 10 (.take 11 (.take 12 (.take 13 (.take 14 (.fork 15 (.take 16 (.fork 17 .done (.done))) (.done))))))))))))))))) mix_ok (by kernel_rfl) (fun w hs _ => ?_)
     refine EP_take rfl rfl rfl (fun _ => R_move rfl) ?_
     refine EP_take rfl rfl rfl (fun _ => R_move rfl) ?_
     refine EP_take rfl rfl rfl (fun _ => R_move rfl) ?_
     refine EP_take rfl rfl rfl (fun _ => R_move rfl) ?_
     refine EP_take rfl rfl rfl (fun _ => R_subI rfl rfl (by omega)) ?_
     refine EP_take rfl rfl rfl (fun _ => R_move rfl) ?_
     refine EP_take rfl rfl rfl (fun _ => R_move rfl) ?_
     refine EP_take rfl rfl rfl (fun _ => R_subI rfl rfl (by omega)) ?_
     refine EP_take rfl rfl rfl (fun _ => R_idx es_22 rfl (by rfl) rfl (by omega) (by omega)) ?_
     refine EP_read rfl rfl rfl (RdS.of hs rfl rfl) (fun _ hR => R_ldE (oSl.toD (hR.e 0 rfl rfl)) Ptr.len_l Try.isAgg30 Try.sizeOf30 rfl (by simp <;> omega) hy (by decide)) ?_
     refine EP_take rfl rfl rfl (fun _ => R_move rfl) ?_
     refine EP_take rfl rfl rfl (fun _ => R_move rfl) ?_
     refine EP_take rfl rfl rfl (fun _ => R_idx es_22 rfl (by rfl) rfl (by omega) (by omega)) ?_
     refine EP_read rfl rfl rfl (RdS.of hs rfl rfl) (fun _ hR => R_ldE (oSl.toD (hR.e 0 rfl rfl)) Ptr.len_l Try.isAgg30 Try.sizeOf30 rfl (by simp <;> omega) hx (by decide)) ?_
     refine EP_take rfl rfl rfl (fun _ => R_idx es_22 rfl (by rfl) rfl (by omega) (by omega)) ?_
     refine EP_act rfl rfl (O_storeE (f := Ptr.l) (j := X.length + (r + 1)) hs (i := 0) rfl Ptr.len_l Try.sizeOf30 rfl rfl rfl (Ptr.one_l _) (by simp <;> omega) (by omega) (fun w hs => ⟨(rq_no (by kernel_rfl)), ?_⟩))
     refine EP_take rfl rfl rfl (fun _ => R_idx es_22 rfl (by rfl) rfl (by omega) (by omega)) ?_
     refine EP_act rfl rfl (O_storeE (f := Ptr.l) (j := X.length + r) hs (i := 0) rfl Ptr.len_l Try.sizeOf30 rfl rfl rfl (Ptr.one_l _) (by simp <;> omega) (by rw [List.length_set]; omega) (fun w hs => ⟨(rq_no (by kernel_rfl)), ?_⟩))
     refine EP_done ?_
     refine InBlock_n ?_
     refine Then_n ?_
     refine EC_region ?_
     refine EL_run rfl (R_move rfl) ?_
     refine EL_run rfl (R_subI rfl rfl (by omega)) ?_
     refine EL_run rfl (R_assign rfl) ?_
     refine EL_nil ?_
     refine Then_n ?_
     exact ⟨r, by omega, r, rfl, by omega, by omega, ⟨rfl, rfl, rfl, rfl, rfl, rfl, sI (by omega), trivial⟩, (hs.fin [true] []).as (by rw [← insR_down X A Y x (j := r) (by omega)]; rfl) rfl⟩
    ·have hc110p := cvt hc110; try dsimp only at hc110p
     obtain rfl : r = i := by omega
     have hfin : insR X A x Y r = X ++ (sortK keyP (A ++ [x]) ++ Y) := by
       rw [insR, ← sortK_back x hAs hj (fun h => hlo (r - 1) (by omega) (by omega)) hhi]
       simp only [List.append_assoc, List.cons_append]
     rw [hfin] at hs
     refine EC_exit ?_
     refine Then_e ?_
     refine Then_e ?_
     refine InBlock_hit rfl ?_
     refine Then_n ?_
     refine EC_ret ?_
     refine Then_r ?_
     exact ⟨[], trivial, _, _, ⟨rfl, rfl, rfl⟩, (hs.fin [true] []).as rfl rfl⟩
  ·have hc80p := cvt hc80; try dsimp only at hc80p
   refine EC_skip ?_
   refine Then_n ?_
   refine EC_rseq ?_
   refine EL_run rfl (R_move rfl) ?_
   refine EL_run rfl (R_move rfl) ?_
   refine EL_run rfl (R_addI rfl rfl (by omega)) ?_
   refine EL_run rfl (R_convIU Try.underlying3 Try.underlying54 rfl (by omega) (by omega)) ?_
   refine EL_run rfl (R_shrU 1 rfl rfl rfl (by simp [IntKind.bits]; omega)) ?_
   refine EL_run rfl (R_convS Try.underlying54 Try.underlying3 rfl (by omega) (by omega)) ?_
   refine EL_run rfl (R_assign rfl) ?_
   obtain ⟨h, hh⟩ : ∃ q, q = (A.length + B.length) / 2 := ⟨_, rfl⟩
   have hmid : (((X.length : Nat) : Int) + ((X.length + A.length + B.length : Nat) : Int)).toNat / 2 ^ 1 = X.length + h := by omega
   rw [hmid]
   have hLl : (X ++ (A ++ (B ++ Y))).length = n0 := by simp only [List.length_append]; omega
   refine EL_nil ?_
   refine EC_rseq ?_
   refine EL_run rfl (R_move rfl) ?_
   refine EL_run rfl (R_move rfl) ?_
   refine EL_run rfl (R_addI rfl rfl (by omega)) ?_
   refine EL_run rfl (R_assign rfl) ?_
   refine EL_nil ?_
   refine EC_rseq ?_
   refine EL_run rfl (R_assign rfl) ?_
   refine EL_run rfl (R_assign rfl) ?_
   refine EL_nil ?_
   refine EC_cut (fun ρ w => ∃ s r : Nat, s ≤ r ∧ r ≤ A.length ∧ r ≤ h ∧ h ≤ s + B.length ∧ (s = 0 ∨ h = s + B.length) ∧ (r = A.length ∨ r = h) ∧ Slots ρ [(0, .slice (some ⟨bb, 0, none⟩) n0 c), (1, .int .i64 ((X.length : Nat) : Int)), (2, .int .i64 ((X.length + A.length : Nat) : Int)), (3, .int .i64 ((X.length + A.length + B.length : Nat) : Int)), (4, .func (.func 25) #[] #[]), (18, .int .i64 ((X.length + h : Nat) : Int)), (19, .int .i64 ((X.length + h + (X.length + A.length) : Nat) : Int)), (20, .int .i64 ((X.length + s : Nat) : Int)), (21, .int .i64 ((X.length + r : Nat) : Int))] ∧ St w0 F D [oP (.slice (some ⟨bb, 0, none⟩) n0 c) n0 (X ++ (A ++ (B ++ Y)))] [] w) ?_ ?_
   ·skip
    refine EC_rseq ?_
    refine EL_run rfl (R_move rfl) ?_
    refine EL_run rfl (R_move rfl) ?_
    refine EL_run rfl (R_gtr rfl rfl) ?_
    refine EL_nil ?_
    refine EC_cond rfl (fun hc140 => ?_) (fun hc140 => ?_)
    ·have hc140p := cvt hc140; try dsimp only at hc140p
     refine EC_rseq ?_
     refine EL_run rfl (R_move rfl) ?_
     refine EL_run rfl (R_move rfl) ?_
     refine EL_run rfl (R_subI rfl rfl (by omega)) ?_
     refine EL_run rfl (R_assign rfl) ?_
     refine EL_nil ?_
     refine EC_region ?_
     refine EL_run rfl (R_move rfl) ?_
     refine EL_run rfl (R_assign rfl) ?_
     refine EL_nil ?_
     refine Then_n ?_
     exact ⟨h - B.length, h, by omega, by omega, by omega, by omega, by omega, by omega, ⟨rfl, rfl, rfl, rfl, rfl, sI (by omega), sI (by omega), sI (by omega), sI (by omega), trivial⟩, hs⟩
    ·have hc140p := cvt hc140; try dsimp only at hc140p
     refine EC_rseq ?_
     refine EL_run rfl (R_move rfl) ?_
     refine EL_run rfl (R_assign rfl) ?_
     refine EL_nil ?_
     refine EC_region ?_
     refine EL_run rfl (R_move rfl) ?_
     refine EL_run rfl (R_assign rfl) ?_
     refine EL_nil ?_
     refine Then_n ?_
     exact ⟨0, A.length, by omega, by omega, by omega, by omega, by omega, by omega, ⟨rfl, rfl, rfl, rfl, rfl, sI (by omega), sI (by omega), sI (by omega), sI (by omega), trivial⟩, hs⟩
   ·rintro ρ w ⟨s0, r0, hs0, hr0, hrh0, hsb0, hsi, hri, hsl, hs⟩
    refine EC_slots _ hsl ?_
    refine EC_rseq ?_
    refine EL_run rfl (R_move rfl) ?_
    refine EL_run rfl (R_subI rfl rfl (by omega)) ?_
    refine EL_run rfl (R_assign rfl) ?_
    refine EL_nil ?_
    refine EC_seq ?_
    refine EC_block ?_
    refine EC_loop (fun mm ρ w => ∃ s r : Nat, mm = r - s ∧ s ≤ r ∧ r ≤ A.length ∧ r ≤ h ∧ h ≤ s + B.length ∧ (∀ (q : Nat) (h1 : q < A.length) (h2 : h - s < B.length), q + 1 = s → bl (keyP B[h - s]) (keyP A[q]) = false) ∧ (∀ (q : Nat) (h1 : r < A.length) (h2 : q < B.length), q + 1 + r = h → bl (keyP B[q]) (keyP A[r]) = true) ∧ Slots ρ [(0, .slice (some ⟨bb, 0, none⟩) n0 c), (1, .int .i64 ((X.length : Nat) : Int)), (2, .int .i64 ((X.length + A.length : Nat) : Int)), (3, .int .i64 ((X.length + A.length + B.length : Nat) : Int)), (4, .func (.func 25) #[] #[]), (18, .int .i64 ((X.length + h : Nat) : Int)), (19, .int .i64 ((X.length + h + (X.length + A.length) : Nat) : Int)), (20, .int .i64 ((X.length + s : Nat) : Int)), (21, .int .i64 ((X.length + r : Nat) : Int)), (22, .int .i64 ((X.length + h + (X.length + A.length) - 1 : Nat) : Int))] ∧ St w0 F D [oP (.slice (some ⟨bb, 0, none⟩) n0 c) n0 (X ++ (A ++ (B ++ Y)))] [] w) (r0 - s0) (⟨s0, r0, rfl, hs0, hr0, hrh0, hsb0, fun q h1 h2 he => absurd he (by omega), fun q h1 h2 he => absurd he (by omega), ⟨rfl, rfl, rfl, rfl, rfl, rfl, rfl, rfl, rfl, sI (by omega), trivial⟩, hs⟩) ?_
    rintro mm ρ w ⟨s, r, rfl, hsr, hrA, hrh, hsb, hlo, hhi, hsl, hs⟩
    refine EC_slots _ hsl ?_
    refine EC_seq ?_
    refine EC_rseq ?_
    refine EL_run rfl (R_move rfl) ?_
    refine EL_run rfl (R_move rfl) ?_
    refine EL_run rfl (R_lss rfl rfl) ?_
    refine EL_nil ?_
    refine EC_cond rfl (fun hc151 => ?_) (fun hc151 => ?_)
    ·have hc151p := cvt hc151; try dsimp only at hc151p
     refine EC_skip ?_
     refine Then_n ?_
     refine EC_block ?_
     refine EC_rseq ?_
     refine EL_run rfl (R_move rfl) ?_
     refine EL_run rfl (R_move rfl) ?_
     refine EL_run rfl (R_addI rfl rfl (by omega)) ?_
     refine EL_run rfl (R_convIU Try.underlying3 Try.underlying54 rfl (by omega) (by omega)) ?_
     refine EL_run rfl (R_shrU 1 rfl rfl rfl (by simp [IntKind.bits]; omega)) ?_
     refine EL_run rfl (R_convS Try.underlying54 Try.underlying3 rfl (by omega) (by omega)) ?_
     refine EL_run rfl (R_assign rfl) ?_
     obtain ⟨g, hg⟩ : ∃ q, q = (s + r) / 2 := ⟨_, rfl⟩
     have hmid2 : (((X.length + s : Nat) : Int) + ((X.length + r : Nat) : Int)).toNat / 2 ^ 1 = X.length + g := by omega
     rw [hmid2]
     have hgA : g < A.length := by omega
     have hgB : h - 1 - g < B.length := by omega
     have hgx := get_x1 X A (B ++ Y) hgA
     have hgy := get_x2 X A B Y hgB
     refine EL_nil ?_
     refine EC_dseqS hs [11] [6, 10] [0] [] (.take 0 (.take 1 (.take 2 (.take 3 (.take 4 (.take 5 (.take 6 (.take 7 (.take 8 (.take 9 (.take 10 (.fork 11 (.take 12 (.take 13 .done)) (.done))))))))))))) mix_ok (by kernel_rfl) (fun w hs _ => ?_)
     refine EP_take rfl rfl rfl (fun _ => R_move rfl) ?_
     refine EP_take rfl rfl rfl (fun _ => R_move rfl) ?_
     refine EP_take rfl rfl rfl (fun _ => R_move rfl) ?_
     refine EP_take rfl rfl rfl (fun _ => R_move rfl) ?_
     refine EP_take rfl rfl rfl (fun _ => R_subI rfl rfl (by omega)) ?_
     refine EP_take rfl rfl rfl (fun _ => R_idx es_22 rfl (by rfl) rfl (by omega) (by omega)) ?_
     refine EP_read rfl rfl rfl (RdS.of hs rfl rfl) (fun _ hR => R_ldE (oSl.toD (hR.e 0 rfl rfl)) Ptr.len_l Try.isAgg30 Try.sizeOf30 rfl (by simp <;> omega) hgy (by decide)) ?_
     refine EP_take rfl rfl rfl (fun _ => R_move rfl) ?_
     refine EP_take rfl rfl rfl (fun _ => R_move rfl) ?_
     refine EP_take rfl rfl rfl (fun _ => R_idx es_22 rfl (by rfl) rfl (by omega) (by omega)) ?_
     refine EP_read rfl rfl rfl (RdS.of hs rfl rfl) (fun _ hR => R_ldE (oSl.toD (hR.e 0 rfl rfl)) Ptr.len_l Try.isAgg30 Try.sizeOf30 rfl (by simp <;> omega) hgx (by decide)) ?_
     refine EP_act rfl rfl (O_call hs [] [] rfl rfl rfl Try.call25 (dcmp_spec B[h - 1 - g] A[g]) (fun v es1 ds1 w hPhi hs => ?_))
     obtain ⟨rfl, rfl, rfl⟩ := hPhi
     refine ⟨(rq_no (by kernel_rfl)), ?_⟩
     refine EP_take rfl rfl rfl (fun _ => R_lss rfl rfl) ?_
     refine EP_take rfl rfl rfl (fun _ => R_not rfl) ?_
     refine EP_done ?_
     refine EC_cond rfl (fun hc171 => ?_) (fun hc171 => ?_)
     ·have hc171p := cvt hc171; try dsimp only at hc171p
      refine EC_region ?_
      refine EL_run rfl (R_move rfl) ?_
      refine EL_run rfl (R_addI rfl rfl (by omega)) ?_
      refine EL_run rfl (R_assign rfl) ?_
      refine EL_nil ?_
      refine InBlock_n ?_
      refine Then_n ?_
      have g1 : ∀ (q : Nat) (h1 : q < A.length) (h2 : h - (g + 1) < B.length), q + 1 = g + 1 → bl (keyP B[h - (g + 1)]) (keyP A[q]) = false := fun q h1 h2 he => by
        obtain rfl : q = g := by omega
        have e : h - (q + 1) = h - 1 - q := by omega
        simp only [e]
        cases hb : bl (keyP B[h - 1 - q]) (keyP A[q])
        · rfl
        · exact absurd (cmpB_lt.2 hb) hc171p
      exact ⟨r - (g + 1), by omega, g + 1, r, rfl, by omega, hrA, hrh, by omega, g1, hhi, ⟨rfl, rfl, rfl, rfl, rfl, rfl, rfl, sI (by omega), rfl, rfl, trivial⟩, (hs.fin [true] []).as rfl rfl⟩
     ·have hc171p := cvt hc171; try dsimp only at hc171p
      refine EC_region ?_
      refine EL_run rfl (R_move rfl) ?_
      refine EL_run rfl (R_assign rfl) ?_
      refine EL_nil ?_
      refine InBlock_n ?_
      refine Then_n ?_
      have g1 : ∀ (q : Nat) (h1 : g < A.length) (h2 : q < B.length), q + 1 + g = h → bl (keyP B[q]) (keyP A[g]) = true := fun q h1 h2 he => by
        have e : q = h - 1 - g := by omega
        subst e
        exact cmpB_lt.1 hc171p
      exact ⟨g - s, by omega, s, g, rfl, by omega, by omega, by omega, hsb, hlo, g1, ⟨rfl, rfl, rfl, rfl, rfl, rfl, rfl, rfl, sI (by omega), rfl, trivial⟩, (hs.fin [true] []).as rfl rfl⟩
    ·have hc151p := cvt hc151; try dsimp only at hc151p
     refine EC_exit ?_
     refine Then_e ?_
     refine Then_e ?_
     refine InBlock_hit rfl ?_
     refine Then_n ?_
     obtain rfl : s = r := by omega
     obtain ⟨hek, hem⟩ := sortK_merge hAs hBs (i := s) (j := h - s) hrA (by omega) (fun h1 h2 => hlo (s - 1) (by omega) h2 (by omega)) (fun h1 h2 => hhi (h - s - 1) h1 (by omega) (by omega))
     obtain ⟨As, hAs1⟩ : ∃ q, q = A.take s := ⟨_, rfl⟩
     obtain ⟨Ad, hAd1⟩ : ∃ q, q = A.drop s := ⟨_, rfl⟩
     obtain ⟨Bs, hBs1⟩ : ∃ q, q = B.take (h - s) := ⟨_, rfl⟩
     obtain ⟨Bd, hBd1⟩ : ∃ q, q = B.drop (h - s) := ⟨_, rfl⟩
     have l1 : As.length = s := by rw [hAs1, List.length_take]; omega
     have l2 : Ad.length = A.length - s := by rw [hAd1, List.length_drop]
     have l3 : Bs.length = h - s := by rw [hBs1, List.length_take]; omega
     have l4 : Bd.length = B.length - (h - s) := by rw [hBd1, List.length_drop]
     have o1 : Srt keyP As := by rw [hAs1]; exact hAs.sublist (List.take_sublist _ _)
     have o2 : Srt keyP Ad := by rw [hAd1]; exact hAs.sublist (List.drop_sublist _ _)
     have o3 : Srt keyP Bs := by rw [hBs1]; exact hBs.sublist (List.take_sublist _ _)
     have o4 : Srt keyP Bd := by rw [hBd1]; exact hBs.sublist (List.drop_sublist _ _)
     have eA : A = As ++ Ad := by rw [hAs1, hAd1, List.take_append_drop]
     have eB : B = Bs ++ Bd := by rw [hBs1, hBd1, List.take_append_drop]
     rw [← hAs1, ← hAd1, ← hBs1, ← hBd1] at hem
     have hs := hs.as (es' := [oP (.slice (some ⟨bb, 0, none⟩) n0 c) n0 ((X ++ As) ++ (Ad ++ (Bs ++ (Bd ++ Y))))]) (ds' := []) (by rw [eA, eB]; simp only [List.append_assoc]) rfl
     refine EC_rseq ?_
     refine EL_run rfl (R_move rfl) ?_
     refine EL_run rfl (R_move rfl) ?_
     refine EL_run rfl (R_subI rfl rfl (by omega)) ?_
     refine EL_run rfl (R_assign rfl) ?_
     refine EL_nil ?_
     refine EC_cut (fun ρ w => Slots ρ [(0, .slice (some ⟨bb, 0, none⟩) n0 c), (1, .int .i64 ((X.length : Nat) : Int)), (2, .int .i64 ((X.length + A.length : Nat) : Int)), (3, .int .i64 ((X.length + A.length + B.length : Nat) : Int)), (4, .func (.func 25) #[] #[]), (18, .int .i64 ((X.length + h : Nat) : Int)), (20, .int .i64 ((X.length + s : Nat) : Int)), (24, .int .i64 ((X.length + A.length + (h - s) : Nat) : Int))] ∧ St w0 F D [oP (.slice (some ⟨bb, 0, none⟩) n0 c) n0 (X ++ (As ++ (Bs ++ (Ad ++ (Bd ++ Y)))))] [] w) ?_ ?_
     ·skip
      refine EC_rseq ?_
      refine EL_run rfl (R_move rfl) ?_
      refine EL_run rfl (R_move rfl) ?_
      refine EL_run rfl (R_lss rfl rfl) ?_
      refine EL_run rfl (R_move rfl) ?_
      refine EL_split 181 rfl (fun hg3 => ?_) (fun hg3 => ?_)
      ·have hg3p := cvt hg3; try dsimp only at hg3p
       refine EL_want rfl rfl hg3 ?_
       refine EL_run rfl (R_move rfl) ?_
       refine EL_want rfl rfl hg3 ?_
       refine EL_run rfl (R_move rfl) ?_
       refine EL_want rfl rfl hg3 ?_
       refine EL_run rfl (R_lss rfl rfl) ?_
       refine EL_run rfl (R_pickT rfl hg3 rfl) ?_
       refine EL_nil ?_
       refine EC_cond rfl (fun hc185 => ?_) (fun hc185 => ?_)
       ·have hc185p := cvt hc185; try dsimp only at hc185p
        refine EC_region ?_
        refine EL_run rfl (R_move rfl) ?_
        refine EL_run rfl (R_move rfl) ?_
        refine EL_run rfl (R_move rfl) ?_
        refine EL_run rfl (R_move rfl) ?_
        refine EL_run rfl (R_move rfl) ?_
        refine EL_op rfl (O_call hs [true] [] rfl rfl rfl Try.call70 (rotate_spec bb c n0 (X ++ As) Ad Bs (Bd ++ Y) _ _ _ (by rw [List.length_append]; omega) (by rw [List.length_append]; omega) (by rw [List.length_append]; omega) (by omega) (by omega) (by simp only [List.length_append]; omega) hn0) (fun v es1 ds1 w hPhi hs => ?_))
        obtain ⟨rfl, rfl, rfl⟩ := hPhi
        refine EL_nil ?_
        refine Then_n ?_
        exact ⟨⟨rfl, rfl, rfl, rfl, rfl, rfl, rfl, sI (by omega), trivial⟩, (hs.fin [true] []).as (by simp only [List.append_assoc] <;> rfl) rfl⟩
       ·have hc185p := cvt hc185; try dsimp only at hc185p
        refine EC_skip ?_
        refine Then_n ?_
        have hz : Ad = [] ∨ Bs = [] := by
          have : Ad.length = 0 ∨ Bs.length = 0 := by omega
          exact this.imp List.eq_nil_of_length_eq_zero List.eq_nil_of_length_eq_zero
        exact ⟨⟨rfl, rfl, rfl, rfl, rfl, rfl, rfl, sI (by omega), trivial⟩, (hs.fin [true] []).as (by rcases hz with hz | hz <;> rw [hz] <;> simp only [List.append_assoc, List.nil_append] <;> rfl) rfl⟩
      ·have hg3p := cvt hg3; try dsimp only at hg3p
       refine EL_pass rfl rfl rfl hg3 ?_
       refine EL_pass rfl rfl rfl hg3 ?_
       refine EL_pass rfl rfl rfl hg3 ?_
       refine EL_run rfl (R_pickF rfl hg3 rfl) ?_
       refine EL_nil ?_
       refine EC_cond rfl (fun hcx => ?_) (fun hcx => ?_)
       ·exact Bool.noConfusion hcx
       ·skip
        refine EC_skip ?_
        refine Then_n ?_
        have hz : Ad = [] ∨ Bs = [] := by
          have : Ad.length = 0 ∨ Bs.length = 0 := by omega
          exact this.imp List.eq_nil_of_length_eq_zero List.eq_nil_of_length_eq_zero
        exact ⟨⟨rfl, rfl, rfl, rfl, rfl, rfl, rfl, sI (by omega), trivial⟩, (hs.fin [true] []).as (by rcases hz with hz | hz <;> rw [hz] <;> simp only [List.append_assoc, List.nil_append] <;> rfl) rfl⟩
     ·rintro ρ w ⟨hsl, hs⟩
      refine EC_slots _ hsl ?_
      refine EC_cut (fun ρ w => Slots ρ [(0, .slice (some ⟨bb, 0, none⟩) n0 c), (1, .int .i64 ((X.length : Nat) : Int)), (2, .int .i64 ((X.length + A.length : Nat) : Int)), (3, .int .i64 ((X.length + A.length + B.length : Nat) : Int)), (4, .func (.func 25) #[] #[]), (18, .int .i64 ((X.length + h : Nat) : Int)), (20, .int .i64 ((X.length + s : Nat) : Int)), (24, .int .i64 ((X.length + A.length + (h - s) : Nat) : Int))] ∧ St w0 F D [oP (.slice (some ⟨bb, 0, none⟩) n0 c) n0 ((X ++ sortK keyP (As ++ Bs)) ++ (Ad ++ (Bd ++ Y)))] [] w) ?_ ?_
      ·skip
       refine EC_rseq ?_
       refine EL_run rfl (R_move rfl) ?_
       refine EL_run rfl (R_move rfl) ?_
       refine EL_run rfl (R_lss rfl rfl) ?_
       refine EL_run rfl (R_move rfl) ?_
       refine EL_split 195 rfl (fun hg3 => ?_) (fun hg3 => ?_)
       ·have hg3p := cvt hg3; try dsimp only at hg3p
        refine EL_want rfl rfl hg3 ?_
        refine EL_run rfl (R_move rfl) ?_
        refine EL_want rfl rfl hg3 ?_
        refine EL_run rfl (R_move rfl) ?_
        refine EL_want rfl rfl hg3 ?_
        refine EL_run rfl (R_lss rfl rfl) ?_
        refine EL_run rfl (R_pickT rfl hg3 rfl) ?_
        refine EL_nil ?_
        refine EC_cond rfl (fun hc199 => ?_) (fun hc199 => ?_)
        ·have hc199p := cvt hc199; try dsimp only at hc199p
         refine EC_region ?_
         refine EL_run rfl (R_move rfl) ?_
         refine EL_run rfl (R_move rfl) ?_
         refine EL_run rfl (R_move rfl) ?_
         refine EL_run rfl (R_move rfl) ?_
         refine EL_run rfl (R_move rfl) ?_
         refine EL_op rfl (O_call hs [true] [] rfl rfl rfl Try.call56 (ih (As ++ Bs).length (by rw [List.length_append]; omega) X As Bs (Ad ++ (Bd ++ Y)) _ _ _ (by rw [List.length_append]) rfl (by omega) (by omega) (by omega) (by omega) o1 o3 (by simp only [List.length_append]; omega) hn0) (fun v es1 ds1 w hPhi hs => ?_))
         obtain ⟨rfl, rfl, rfl⟩ := hPhi
         refine EL_nil ?_
         refine Then_n ?_
         exact ⟨⟨rfl, rfl, rfl, rfl, rfl, rfl, rfl, rfl, trivial⟩, (hs.fin [true] []).as (by rw [List.append_assoc]; rfl) rfl⟩
        ·have hc199p := cvt hc199; try dsimp only at hc199p
         refine EC_skip ?_
         refine Then_n ?_
         have hz : sortK keyP (As ++ Bs) = As ++ Bs := by
           have : As.length = 0 ∨ Bs.length = 0 := by omega
           rcases this with h1 | h1
           · obtain rfl := List.eq_nil_of_length_eq_zero h1
             exact sortK_self o3
           · rw [List.eq_nil_of_length_eq_zero h1, List.append_nil]
             exact sortK_self o1
         exact ⟨⟨rfl, rfl, rfl, rfl, rfl, rfl, rfl, rfl, trivial⟩, (hs.fin [true] []).as (by rw [hz]; simp only [List.append_assoc] <;> rfl) rfl⟩
       ·have hg3p := cvt hg3; try dsimp only at hg3p
        refine EL_pass rfl rfl rfl hg3 ?_
        refine EL_pass rfl rfl rfl hg3 ?_
        refine EL_pass rfl rfl rfl hg3 ?_
        refine EL_run rfl (R_pickF rfl hg3 rfl) ?_
        refine EL_nil ?_
        refine EC_cond rfl (fun hcx => ?_) (fun hcx => ?_)
        ·exact Bool.noConfusion hcx
        ·skip
         refine EC_skip ?_
         refine Then_n ?_
         have hz : sortK keyP (As ++ Bs) = As ++ Bs := by
           have : As.length = 0 ∨ Bs.length = 0 := by omega
           rcases this with h1 | h1
           · obtain rfl := List.eq_nil_of_length_eq_zero h1
             exact sortK_self o3
           · rw [List.eq_nil_of_length_eq_zero h1, List.append_nil]
             exact sortK_self o1
         exact ⟨⟨rfl, rfl, rfl, rfl, rfl, rfl, rfl, rfl, trivial⟩, (hs.fin [true] []).as (by rw [hz]; simp only [List.append_assoc] <;> rfl) rfl⟩
      ·rintro ρ w ⟨hsl, hs⟩
       refine EC_slots _ hsl ?_
       have l5 : (sortK keyP (As ++ Bs)).length = h := by rw [sortK_len, List.length_append]; omega
       refine EC_rseq ?_
       refine EL_run rfl (R_move rfl) ?_
       refine EL_run rfl (R_move rfl) ?_
       refine EL_run rfl (R_lss rfl rfl) ?_
       refine EL_run rfl (R_move rfl) ?_
       refine EL_split 209 rfl (fun hg3 => ?_) (fun hg3 => ?_)
       ·have hg3p := cvt hg3; try dsimp only at hg3p
        refine EL_want rfl rfl hg3 ?_
        refine EL_run rfl (R_move rfl) ?_
        refine EL_want rfl rfl hg3 ?_
        refine EL_run rfl (R_move rfl) ?_
        refine EL_want rfl rfl hg3 ?_
        refine EL_run rfl (R_lss rfl rfl) ?_
        refine EL_run rfl (R_pickT rfl hg3 rfl) ?_
        refine EL_nil ?_
        refine EC_cond rfl (fun hc213 => ?_) (fun hc213 => ?_)
        ·have hc213p := cvt hc213; try dsimp only at hc213p
         refine EC_region ?_
         refine EL_run rfl (R_move rfl) ?_
         refine EL_run rfl (R_move rfl) ?_
         refine EL_run rfl (R_move rfl) ?_
         refine EL_run rfl (R_move rfl) ?_
         refine EL_run rfl (R_move rfl) ?_
         refine EL_op rfl (O_call hs [true] [] rfl rfl rfl Try.call56 (ih (Ad ++ Bd).length (by rw [List.length_append]; omega) (X ++ sortK keyP (As ++ Bs)) Ad Bd Y _ _ _ (by rw [List.length_append]) (by rw [List.length_append]; omega) (by rw [List.length_append]; omega) (by rw [List.length_append]; omega) (by omega) (by omega) o2 o4 (by rw [List.length_append]; omega) hn0) (fun v es1 ds1 w hPhi hs => ?_))
         obtain ⟨rfl, rfl, rfl⟩ := hPhi
         refine EL_nil ?_
         have hs := hs.as (es' := [oP (.slice (some ⟨bb, 0, none⟩) n0 c) n0 (X ++ (sortK keyP (A ++ B) ++ Y))]) (ds' := []) (by rw [← hem]; simp only [List.append_assoc] <;> rfl) rfl
         exact ⟨[], trivial, _, _, ⟨rfl, rfl, rfl⟩, (hs.fin [true] []).as rfl rfl⟩
        ·have hc213p := cvt hc213; try dsimp only at hc213p
         refine EC_skip ?_
         have hz : sortK keyP (Ad ++ Bd) = Ad ++ Bd := by
           have : Ad.length = 0 ∨ Bd.length = 0 := by omega
           rcases this with h1 | h1
           · obtain rfl := List.eq_nil_of_length_eq_zero h1
             exact sortK_self o4
           · rw [List.eq_nil_of_length_eq_zero h1, List.append_nil]
             exact sortK_self o2
         have hs := hs.as (es' := [oP (.slice (some ⟨bb, 0, none⟩) n0 c) n0 (X ++ (sortK keyP (A ++ B) ++ Y))]) (ds' := []) (by rw [← hem, hz]; simp only [List.append_assoc] <;> rfl) rfl
         exact ⟨[], trivial, _, _, ⟨rfl, rfl, rfl⟩, (hs.fin [true] []).as rfl rfl⟩
       ·have hg3p := cvt hg3; try dsimp only at hg3p
        refine EL_pass rfl rfl rfl hg3 ?_
        refine EL_pass rfl rfl rfl hg3 ?_
        refine EL_pass rfl rfl rfl hg3 ?_
        refine EL_run rfl (R_pickF rfl hg3 rfl) ?_
        refine EL_nil ?_
        refine EC_cond rfl (fun hcx => ?_) (fun hcx => ?_)
        ·exact Bool.noConfusion hcx
        ·skip
         refine EC_skip ?_
         have hz : sortK keyP (Ad ++ Bd) = Ad ++ Bd := by
           have : Ad.length = 0 ∨ Bd.length = 0 := by omega
           rcases this with h1 | h1
           · obtain rfl := List.eq_nil_of_length_eq_zero h1
             exact sortK_self o4
           · rw [List.eq_nil_of_length_eq_zero h1, List.append_nil]
             exact sortK_self o2
         have hs := hs.as (es' := [oP (.slice (some ⟨bb, 0, none⟩) n0 c) n0 (X ++ (sortK keyP (A ++ B) ++ Y))]) (ds' := []) (by rw [← hem, hz]; simp only [List.append_assoc] <;> rfl) rfl
         exact ⟨[], trivial, _, _, ⟨rfl, rfl, rfl⟩, (hs.fin [true] []).as rfl rfl⟩
end Go.Proofs.Ytpcojkbljgpecaa
