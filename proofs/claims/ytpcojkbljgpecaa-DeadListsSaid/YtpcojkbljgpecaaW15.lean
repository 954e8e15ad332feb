/- Walks, part 15: the stable sort whole; neighbours of one key. -/
import Derived.Test.YtpcojkbljgpecaaW14
namespace Go.Proofs.Ytpcojkbljgpecaa
open Go
set_option maxRecDepth 100000 in
theorem stable_spec (ao : Option Addr) (c n0 : Nat) (L : List Ptr) {w0 : World} (hn : n0 = L.length) (hn0 : n0 ≤ 1000000) : Spec Try.prog 41 #[.slice ao n0 c, .int .i64 (n0 : Int), .func (.func 25) #[] #[]] w0 [oP (.slice ao n0 c) n0 L] [] (fun v es1 ds1 => v = .tuple #[] ∧ es1 = [oP (.slice ao n0 c) n0 (sortK keyP L)] ∧ ds1 = []) := by
  refine Spec.intro (fun F D hs => ?_)
  refine Calls_of_EC (args := [.slice ao n0 c, .int .i64 (n0 : Int), .func (.func 25) #[] #[]]) Try.func41 rfl rfl rfl ?_
  refine EC_rseq ?_
  refine EL_run rfl (R_assign rfl) ?_
  refine EL_nil ?_
  refine EC_rseq ?_
  refine EL_run rfl (R_move rfl) ?_
  refine EL_run rfl (R_assign rfl) ?_
  refine EL_run rfl (R_assign rfl) ?_
  refine EL_nil ?_
  refine EC_seq ?_
  refine EC_block ?_
  refine EC_loop (fun mm ρ w => ∃ (k : Nat) (D1 R : List Ptr), mm = n0 + 20 - D1.length ∧ D1.length = k * 20 ∧ D1.length ≤ n0 ∧ D1.length + R.length = n0 ∧ Rn keyP 20 D1 ∧ EqK keyP L (D1 ++ R) ∧ Slots ρ [(0, .slice ao n0 c), (1, .int .i64 (n0 : Int)), (2, .func (.func 25) #[] #[]), (6, .int .i64 20), (7, .int .i64 (D1.length : Int)), (8, .int .i64 ((D1.length + 20 : Nat) : Int))] ∧ St w0 F D [oP (.slice ao n0 c) n0 (D1 ++ R)] [] w) (n0 + 20) (⟨0, [], L, by simp, by simp, by simp, by simp [hn], (fun i => by simp [Srt]), EqK.refl _, ⟨rfl, rfl, rfl, rfl, rfl, rfl, trivial⟩, hs⟩) ?_
  rintro mm ρ w ⟨k, D1, R, rfl, hk, hD, hDR, hrn, heq, hsl, hs⟩
  refine EC_slots _ hsl ?_
  refine EC_seq ?_
  refine EC_rseq ?_
  refine EL_run rfl (R_move rfl) ?_
  refine EL_run rfl (R_move rfl) ?_
  refine EL_run rfl (R_leq rfl rfl) ?_
  refine EL_nil ?_
  refine EC_cond rfl (fun hc13 => ?_) (fun hc13 => ?_)
  · (first | have hc13p := of_decide_eq_true hc13 | have hc13p := of_decide_eq_false hc13 | have hc13p := of_decide_eq_false (bnt hc13) | have hc13p := of_decide_eq_true (bnf hc13) | have hc13p := bnt hc13 | have hc13p := bnf hc13 | have hc13p := hc13); try dsimp only at hc13p
    have eR : R = R.take 20 ++ R.drop 20 := (List.take_append_drop 20 R).symm
    have hs := hs.as (es' := [oP (.slice ao n0 c) n0 (D1 ++ (R.take 20 ++ R.drop 20))]) (ds' := []) (by rw [← eR]) rfl
    have heq2 : EqK keyP L ((D1 ++ sortK keyP (R.take 20)) ++ R.drop 20) := by
      rw [List.append_assoc]
      refine heq.trans ((EqK.refl D1).app ?_)
      conv => lhs; rw [eR]
      exact (sortK_eqk _).app (EqK.refl _)
    refine EC_skip ?_
    refine Then_n ?_
    refine EC_block ?_
    refine EC_rseq ?_
    refine EL_run rfl (R_move rfl) ?_
    refine EL_run rfl (R_move rfl) ?_
    refine EL_run rfl (R_move rfl) ?_
    refine EL_run rfl (R_move rfl) ?_
    refine EL_op rfl (O_call hs [true] [] rfl rfl rfl Try.call55 (insSort_spec ao c n0 D1 (R.take 20) (R.drop 20) _ _ rfl (by rw [List.length_take]; omega) (by rw [List.length_take, List.length_drop]; omega) hn0) (fun v es1 ds1 w hPhi hs => ?_))
    obtain ⟨rfl, rfl, rfl⟩ := hPhi
    refine EL_nil ?_
    refine EC_rseq ?_
    refine EL_run rfl (R_move rfl) ?_
    refine EL_run rfl (R_assign rfl) ?_
    refine EL_nil ?_
    refine EC_region ?_
    refine EL_run rfl (R_move rfl) ?_
    refine EL_run rfl (R_move rfl) ?_
    refine EL_run rfl (R_addI rfl rfl (by omega)) ?_
    refine EL_run rfl (R_assign rfl) ?_
    refine EL_nil ?_
    refine InBlock_n ?_
    refine Then_n ?_
    exact ⟨n0 + 20 - (D1 ++ sortK keyP (R.take 20)).length, by rw [List.length_append, sortK_len, List.length_take]; omega, k + 1, D1 ++ sortK keyP (R.take 20), R.drop 20, rfl, by rw [List.length_append, sortK_len, List.length_take]; omega, by rw [List.length_append, sortK_len, List.length_take]; omega, by rw [List.length_append, sortK_len, List.length_take, List.length_drop]; omega, hrn.snoc hk (sortK_srt _) (by rw [sortK_len, List.length_take]; omega), heq2, ⟨rfl, rfl, rfl, rfl, sI (by rw [List.length_append, sortK_len, List.length_take]; omega), sI (by rw [List.length_append, sortK_len, List.length_take]; omega), trivial⟩, (hs.fin [true] []).as (by rw [List.append_assoc]; rfl) rfl⟩
  · (first | have hc13p := of_decide_eq_true hc13 | have hc13p := of_decide_eq_false hc13 | have hc13p := of_decide_eq_false (bnt hc13) | have hc13p := of_decide_eq_true (bnf hc13) | have hc13p := bnt hc13 | have hc13p := bnf hc13 | have hc13p := hc13); try dsimp only at hc13p
    have hs := hs.as (es' := [oP (.slice ao n0 c) n0 (D1 ++ (R ++ []))]) (ds' := []) (by rw [List.append_nil]) rfl
    refine EC_exit ?_
    refine Then_e ?_
    refine Then_e ?_
    refine InBlock_hit rfl ?_
    refine Then_n ?_
    refine EC_rseq ?_
    refine EL_run rfl (R_move rfl) ?_
    refine EL_run rfl (R_move rfl) ?_
    refine EL_run rfl (R_move rfl) ?_
    refine EL_run rfl (R_move rfl) ?_
    refine EL_op rfl (O_call hs [true] [] rfl rfl rfl Try.call55 (insSort_spec ao c n0 D1 R [] _ _ rfl (by omega) (by simp; omega) hn0) (fun v es1 ds1 w hPhi hs => ?_))
    obtain ⟨rfl, rfl, rfl⟩ := hPhi
    refine EL_nil ?_
    have hs := hs.as (es' := [oP (.slice ao n0 c) n0 (D1 ++ sortK keyP R)]) (ds' := []) (by rw [List.append_nil (sortK keyP R)]; rfl) rfl
    have hrn2 : Rn keyP 20 (D1 ++ sortK keyP R) := hrn.snoc hk (sortK_srt _) (by rw [sortK_len]; omega)
    have heq2 : EqK keyP L (D1 ++ sortK keyP R) := heq.trans ((EqK.refl D1).app (sortK_eqk _))
    have hTl : (D1 ++ sortK keyP R).length = n0 := by rw [List.length_append, sortK_len]; omega
    generalize D1 ++ sortK keyP R = T0 at *
    refine EC_block ?_
    refine EC_loop (fun mm ρ w => ∃ (bs : Nat) (T : List Ptr), mm = n0 - bs ∧ 20 ≤ bs ∧ bs ≤ 2000000 ∧ T.length = n0 ∧ Rn keyP bs T ∧ EqK keyP L T ∧ Slots ρ [(0, .slice ao n0 c), (1, .int .i64 (n0 : Int)), (2, .func (.func 25) #[] #[]), (6, .int .i64 (bs : Int))] ∧ St w0 F D [oP (.slice ao n0 c) n0 T] [] w) (n0 - 20) (⟨20, T0, rfl, by omega, by omega, hTl, hrn2, heq2, ⟨rfl, rfl, rfl, rfl, trivial⟩, (hs.fin [true] []).as rfl rfl⟩) ?_
    rintro mm ρ w ⟨bs, T, rfl, hb1, hb2, hTl, hrn, heq, hsl, hs⟩
    refine EC_slots _ hsl ?_
    refine EC_seq ?_
    refine EC_rseq ?_
    refine EL_run rfl (R_move rfl) ?_
    refine EL_run rfl (R_move rfl) ?_
    refine EL_run rfl (R_lss rfl rfl) ?_
    refine EL_nil ?_
    refine EC_cond rfl (fun hc30 => ?_) (fun hc30 => ?_)
    · (first | have hc30p := of_decide_eq_true hc30 | have hc30p := of_decide_eq_false hc30 | have hc30p := of_decide_eq_false (bnt hc30) | have hc30p := of_decide_eq_true (bnf hc30) | have hc30p := bnt hc30 | have hc30p := bnf hc30 | have hc30p := hc30); try dsimp only at hc30p
      obtain ⟨bb, rfl⟩ := oSl.some (hs.at (i := 0) rfl) (show 0 < n0 by omega)
      refine EC_skip ?_
      refine Then_n ?_
      refine EC_block ?_
      refine EC_rseq ?_
      refine EL_run rfl (R_move rfl) ?_
      refine EL_run rfl (R_mulI rfl rfl (by omega)) ?_
      refine EL_run rfl (R_assign rfl) ?_
      refine EL_run rfl (R_assign rfl) ?_
      refine EL_nil ?_
      refine EC_seq ?_
      refine EC_block ?_
      refine EC_loop (fun mm ρ w => ∃ (k : Nat) (D1 R : List Ptr), mm = n0 - D1.length ∧ D1.length = k * (2 * bs) ∧ D1.length + R.length = n0 ∧ Rn keyP (2 * bs) D1 ∧ Rn keyP bs R ∧ EqK keyP L (D1 ++ R) ∧ Slots ρ [(0, .slice (some ⟨bb, 0, none⟩) n0 c), (1, .int .i64 (n0 : Int)), (2, .func (.func 25) #[] #[]), (6, .int .i64 (bs : Int)), (7, .int .i64 (D1.length : Int)), (8, .int .i64 ((D1.length + 2 * bs : Nat) : Int))] ∧ St w0 F D [oP (.slice (some ⟨bb, 0, none⟩) n0 c) n0 (D1 ++ R)] [] w) (n0) (⟨0, [], T, by simp, by simp, by simpa using hTl, (fun i => by simp [Srt]), hrn, heq, ⟨rfl, rfl, rfl, rfl, rfl, sI (by simp), trivial⟩, hs⟩) ?_
      rintro mm ρ w ⟨k, D1, R, rfl, hk, hDR, hrD, hrR, heq, hsl, hs⟩
      refine EC_slots _ hsl ?_
      refine EC_seq ?_
      refine EC_rseq ?_
      refine EL_run rfl (R_move rfl) ?_
      refine EL_run rfl (R_move rfl) ?_
      refine EL_run rfl (R_leq rfl rfl) ?_
      refine EL_nil ?_
      refine EC_cond rfl (fun hc35 => ?_) (fun hc35 => ?_)
      · (first | have hc35p := of_decide_eq_true hc35 | have hc35p := of_decide_eq_false hc35 | have hc35p := of_decide_eq_false (bnt hc35) | have hc35p := of_decide_eq_true (bnf hc35) | have hc35p := bnt hc35 | have hc35p := bnf hc35 | have hc35p := hc35); try dsimp only at hc35p
        have eR : R = R.take bs ++ ((R.drop bs).take bs ++ (R.drop bs).drop bs) := by rw [List.take_append_drop, List.take_append_drop]
        have hs := hs.as (es' := [oP (.slice (some ⟨bb, 0, none⟩) n0 c) n0 (D1 ++ (R.take bs ++ ((R.drop bs).take bs ++ (R.drop bs).drop bs)))]) (ds' := []) (by rw [← eR]) rfl
        have l1 : (R.take bs).length = bs := by rw [List.length_take]; omega
        have l2 : ((R.drop bs).take bs).length = bs := by rw [List.length_take, List.length_drop]; omega
        have l3 : (sortK keyP (R.take bs ++ (R.drop bs).take bs)).length = 2 * bs := by rw [sortK_len, List.length_append]; omega
        have hnl : (D1 ++ sortK keyP (R.take bs ++ (R.drop bs).take bs)).length = D1.length + 2 * bs := by rw [List.length_append, l3]
        have heq2 : EqK keyP L ((D1 ++ sortK keyP (R.take bs ++ (R.drop bs).take bs)) ++ (R.drop bs).drop bs) := by
          rw [List.append_assoc]
          refine heq.trans ((EqK.refl D1).app ?_)
          conv => lhs; rw [eR, ← List.append_assoc]
          exact (sortK_eqk _).app (EqK.refl _)
        refine EC_skip ?_
        refine Then_n ?_
        refine EC_block ?_
        refine EC_rseq ?_
        refine EL_run rfl (R_move rfl) ?_
        refine EL_run rfl (R_move rfl) ?_
        refine EL_run rfl (R_move rfl) ?_
        refine EL_run rfl (R_move rfl) ?_
        refine EL_run rfl (R_addI rfl rfl (by omega)) ?_
        refine EL_run rfl (R_move rfl) ?_
        refine EL_run rfl (R_move rfl) ?_
        refine EL_op rfl (O_call hs [true] [] rfl rfl rfl Try.call56 (symMerge_spec bb c n0 _ D1 (R.take bs) ((R.drop bs).take bs) ((R.drop bs).drop bs) _ _ _ rfl rfl (by omega) (by omega) (by omega) (by omega) hrR.head hrR.tail1.head (by rw [List.length_drop, List.length_drop]; omega) hn0) (fun v es1 ds1 w hPhi hs => ?_))
        obtain ⟨rfl, rfl, rfl⟩ := hPhi
        refine EL_nil ?_
        refine EC_rseq ?_
        refine EL_run rfl (R_move rfl) ?_
        refine EL_run rfl (R_assign rfl) ?_
        refine EL_nil ?_
        refine EC_region ?_
        refine EL_run rfl (R_move rfl) ?_
        refine EL_run rfl (R_move rfl) ?_
        refine EL_run rfl (R_mulI rfl rfl (by omega)) ?_
        refine EL_run rfl (R_addI rfl rfl (by omega)) ?_
        refine EL_run rfl (R_assign rfl) ?_
        refine EL_nil ?_
        refine InBlock_n ?_
        refine Then_n ?_
        exact ⟨n0 - (D1 ++ sortK keyP (R.take bs ++ (R.drop bs).take bs)).length, by omega, k + 1, D1 ++ sortK keyP (R.take bs ++ (R.drop bs).take bs), (R.drop bs).drop bs, rfl, by rw [hnl, hk]; exact (Nat.succ_mul k (2 * bs)).symm, by rw [hnl, List.length_drop, List.length_drop]; omega, hrD.snoc hk (sortK_srt _) (by omega), hrR.tail1.tail1, heq2, ⟨rfl, rfl, rfl, rfl, sI (by omega), sI (by omega), trivial⟩, (hs.fin [true] []).as (by rw [List.append_assoc]; rfl) rfl⟩
      · (first | have hc35p := of_decide_eq_true hc35 | have hc35p := of_decide_eq_false hc35 | have hc35p := of_decide_eq_false (bnt hc35) | have hc35p := of_decide_eq_true (bnf hc35) | have hc35p := bnt hc35 | have hc35p := bnf hc35 | have hc35p := hc35); try dsimp only at hc35p
        refine EC_exit ?_
        refine Then_e ?_
        refine Then_e ?_
        refine InBlock_hit rfl ?_
        refine Then_n ?_
        refine EC_cut (fun ρ w => ∃ T2 : List Ptr, T2.length = n0 ∧ Rn keyP (2 * bs) T2 ∧ EqK keyP L T2 ∧ Slots ρ [(0, .slice (some ⟨bb, 0, none⟩) n0 c), (1, .int .i64 (n0 : Int)), (2, .func (.func 25) #[] #[]), (6, .int .i64 (bs : Int))] ∧ St w0 F D [oP (.slice (some ⟨bb, 0, none⟩) n0 c) n0 T2] [] w) ?_ ?_
        · skip
          refine EC_rseq ?_
          refine EL_run rfl (R_move rfl) ?_
          refine EL_run rfl (R_move rfl) ?_
          refine EL_run rfl (R_addI rfl rfl (by omega)) ?_
          refine EL_run rfl (R_assign rfl) ?_
          refine EL_nil ?_
          refine EC_rseq ?_
          refine EL_run rfl (R_move rfl) ?_
          refine EL_run rfl (R_move rfl) ?_
          refine EL_run rfl (R_lss rfl rfl) ?_
          refine EL_nil ?_
          refine EC_cond rfl (fun hc54 => ?_) (fun hc54 => ?_)
          · (first | have hc54p := of_decide_eq_true hc54 | have hc54p := of_decide_eq_false hc54 | have hc54p := of_decide_eq_false (bnt hc54) | have hc54p := of_decide_eq_true (bnf hc54) | have hc54p := bnt hc54 | have hc54p := bnf hc54 | have hc54p := hc54); try dsimp only at hc54p
            have eR : R = R.take bs ++ R.drop bs := (List.take_append_drop bs R).symm
            have l1 : (R.take bs).length = bs := by rw [List.length_take]; omega
            have l2 : (R.drop bs).length = R.length - bs := by rw [List.length_drop]
            have hs := hs.as (es' := [oP (.slice (some ⟨bb, 0, none⟩) n0 c) n0 (D1 ++ (R.take bs ++ (R.drop bs ++ [])))]) (ds' := []) (by rw [List.append_nil, ← eR]) rfl
            refine EC_region ?_
            refine EL_run rfl (R_move rfl) ?_
            refine EL_run rfl (R_move rfl) ?_
            refine EL_run rfl (R_move rfl) ?_
            refine EL_run rfl (R_move rfl) ?_
            refine EL_run rfl (R_move rfl) ?_
            refine EL_op rfl (O_call hs [true] [] rfl rfl rfl Try.call56 (symMerge_spec bb c n0 _ D1 (R.take bs) (R.drop bs) [] _ _ _ rfl rfl (by omega) (by omega) (by omega) (by omega) hrR.head (hrR.tail1.all (by omega)) (by simp; omega) hn0) (fun v es1 ds1 w hPhi hs => ?_))
            obtain ⟨rfl, rfl, rfl⟩ := hPhi
            refine EL_nil ?_
            refine Then_n ?_
            exact ⟨D1 ++ sortK keyP (R.take bs ++ R.drop bs), by rw [List.length_append, sortK_len, ← eR]; omega, hrD.snoc hk (sortK_srt _) (by rw [sortK_len, ← eR]; omega), by rw [← eR]; exact heq.trans ((EqK.refl D1).app (sortK_eqk _)), ⟨rfl, rfl, rfl, rfl, trivial⟩, (hs.fin [true] []).as (by rw [List.append_nil (sortK keyP _)]; rfl) rfl⟩
          · (first | have hc54p := of_decide_eq_true hc54 | have hc54p := of_decide_eq_false hc54 | have hc54p := of_decide_eq_false (bnt hc54) | have hc54p := of_decide_eq_true (bnf hc54) | have hc54p := bnt hc54 | have hc54p := bnf hc54 | have hc54p := hc54); try dsimp only at hc54p
            have hRs : Srt keyP R := hrR.all (by omega)
            refine EC_skip ?_
            refine Then_n ?_
            exact ⟨D1 ++ R, by rw [List.length_append]; omega, hrD.snoc hk hRs (by omega), heq, ⟨rfl, rfl, rfl, rfl, trivial⟩, (hs.fin [true] []).as rfl rfl⟩
        · rintro ρ w ⟨T2, hT2, hrn2, heq2, hsl, hs⟩
          refine EC_slots _ hsl ?_
          refine EC_region ?_
          refine EL_run rfl (R_move rfl) ?_
          refine EL_run rfl (R_mulI rfl rfl (by omega)) ?_
          refine EL_run rfl (R_assign rfl) ?_
          refine EL_nil ?_
          refine InBlock_n ?_
          refine Then_n ?_
          exact ⟨n0 - 2 * bs, by omega, 2 * bs, T2, rfl, by omega, by omega, hT2, hrn2, heq2, ⟨rfl, rfl, rfl, sI (by omega), trivial⟩, (hs.fin [true] []).as rfl rfl⟩
    · (first | have hc30p := of_decide_eq_true hc30 | have hc30p := of_decide_eq_false hc30 | have hc30p := of_decide_eq_false (bnt hc30) | have hc30p := of_decide_eq_true (bnf hc30) | have hc30p := bnt hc30 | have hc30p := bnf hc30 | have hc30p := hc30); try dsimp only at hc30p
      have hfin : T = sortK keyP L := sortK_of heq (hrn.all (by omega))
      rw [hfin] at hs
      refine EC_exit ?_
      refine Then_e ?_
      refine Then_e ?_
      refine InBlock_hit rfl ?_
      exact ⟨[], trivial, _, _, ⟨rfl, rfl, rfl⟩, (hs.fin [true] []).as rfl rfl⟩

set_option maxRecDepth 100000 in
theorem sortStable_spec (ao : Option Addr) (c n0 : Nat) (L : List Ptr) {w0 : World} (hn : n0 = L.length) (hn0 : n0 ≤ 1000000) : Spec Try.prog 24 #[.slice ao n0 c, .func (.func 25) #[] #[]] w0 [oP (.slice ao n0 c) n0 L] [] (fun v es1 ds1 => v = .tuple #[] ∧ es1 = [oP (.slice ao n0 c) n0 (sortK keyP L)] ∧ ds1 = []) := by
  refine Spec.intro (fun F D hs => ?_)
  refine Calls_of_EC (args := [.slice ao n0 c, .func (.func 25) #[] #[]]) Try.func24 rfl rfl rfl ?_
  refine EC_region ?_
  refine EL_run rfl (R_move rfl) ?_
  refine EL_run rfl (R_move rfl) ?_
  refine EL_run rfl (R_lenS Try.underlying22 rfl) ?_
  refine EL_run rfl (R_move rfl) ?_
  refine EL_op rfl (O_call hs [true] [] rfl rfl rfl Try.call41 (stable_spec ao c n0 L hn hn0) (fun v es1 ds1 w hPhi hs => ?_))
  obtain ⟨rfl, rfl, rfl⟩ := hPhi
  refine EL_nil ?_
  exact ⟨[], trivial, _, _, ⟨rfl, rfl, rfl⟩, (hs.fin [true] []).as rfl rfl⟩

set_option maxRecDepth 100000 in
theorem compact_spec (ao : Option Addr) (c n0 : Nat) (L : List Ptr) {w0 : World} (hn : L.length = n0) (hn0 : n0 ≤ 1000000) : Spec Try.prog 26 #[.slice ao n0 c, .func (.func 27) #[] #[]] w0 [oP (.slice ao n0 c) n0 L] [] (fun v es1 ds1 => v = .slice ao (ded keyP L).length c ∧ es1 = [oP v (ded keyP L).length (ded keyP L)] ∧ ds1 = []) := by
  refine Spec.intro (fun F D hs => ?_)
  refine Calls_of_EC (args := [.slice ao n0 c, .func (.func 27) #[] #[]]) Try.func26 rfl rfl rfl ?_
  refine EC_rseq ?_
  refine EL_run rfl (R_assign rfl) ?_
  refine EL_nil ?_
  refine EC_seq ?_
  refine EC_rseq ?_
  refine EL_run rfl (R_move rfl) ?_
  refine EL_run rfl (R_lenS Try.underlying22 rfl) ?_
  refine EL_run rfl (R_lss rfl rfl) ?_
  refine EL_nil ?_
  refine EC_cond rfl (fun hc10 => ?_) (fun hc10 => ?_)
  · (first | have hc10p := of_decide_eq_true hc10 | have hc10p := of_decide_eq_false hc10 | have hc10p := of_decide_eq_false (bnt hc10) | have hc10p := of_decide_eq_true (bnf hc10) | have hc10p := bnt hc10 | have hc10p := bnf hc10 | have hc10p := hc10); try dsimp only at hc10p
    refine EC_rseq ?_
    refine EL_run rfl (R_move rfl) ?_
    refine EL_run rfl (R_assign rfl) ?_
    refine EL_nil ?_
    refine EC_ret ?_
    refine Then_r ?_
    have hd : ded keyP L = L := ded_short (by omega)
    exact ⟨[_], ⟨rfl, trivial⟩, _, _, ⟨by rw [hd, hn]; rfl, rfl, rfl⟩, (hs.fin [true] []).as (by rw [hd, hn]; rfl) rfl⟩
  · (first | have hc10p := of_decide_eq_true hc10 | have hc10p := of_decide_eq_false hc10 | have hc10p := of_decide_eq_false (bnt hc10) | have hc10p := of_decide_eq_true (bnf hc10) | have hc10p := bnt hc10 | have hc10p := bnf hc10 | have hc10p := hc10); try dsimp only at hc10p
    refine EC_skip ?_
    refine Then_n ?_
    refine EC_seq ?_
    obtain ⟨bb, rfl⟩ := oSl.some (hs.at (i := 0) rfl) (show 0 < n0 by omega)
    have hcap : n0 ≤ c := (oSl.toD (hs.at (i := 0) rfl)).1.1
    refine EC_rseq ?_
    refine EL_run rfl (R_assign rfl) ?_
    refine EL_nil ?_
    refine EC_block ?_
    refine EC_loop (fun mm ρ w => ∃ k : Nat, mm = n0 - k ∧ 1 ≤ k ∧ k ≤ n0 ∧ ded keyP (L.take k) = L.take k ∧ Slots ρ [(0, .slice (some ⟨bb, 0, none⟩) n0 c), (1, .func (.func 27) #[] #[]), (5, .int .i64 (k : Int))] ∧ St w0 F D [oP (.slice (some ⟨bb, 0, none⟩) n0 c) n0 L] [] w) (n0 - 1) (⟨1, by omega, by omega, by omega, ded_short (by rw [List.length_take]; omega), ⟨rfl, rfl, rfl, trivial⟩, hs⟩) ?_
    rintro mm ρ w ⟨k, rfl, hk1, hk, hd, hsl, hs⟩
    refine EC_slots _ hsl ?_
    refine EC_seq ?_
    refine EC_rseq ?_
    refine EL_run rfl (R_move rfl) ?_
    refine EL_run rfl (R_move rfl) ?_
    refine EL_run rfl (R_lenS Try.underlying22 rfl) ?_
    refine EL_run rfl (R_lss rfl rfl) ?_
    refine EL_nil ?_
    refine EC_cond rfl (fun hc15 => ?_) (fun hc15 => ?_)
    · (first | have hc15p := of_decide_eq_true hc15 | have hc15p := of_decide_eq_false hc15 | have hc15p := of_decide_eq_false (bnt hc15) | have hc15p := of_decide_eq_true (bnf hc15) | have hc15p := bnt hc15 | have hc15p := bnf hc15 | have hc15p := hc15); try dsimp only at hc15p
      have hx : L[k]? = some (L[k]'(by omega)) := List.getElem?_eq_getElem _
      have hy : L[k - 1]? = some (L[k - 1]'(by omega)) := List.getElem?_eq_getElem _
      refine EC_skip ?_
      refine Then_n ?_
      refine EC_seq ?_
      refine EC_block ?_
      refine EC_dseqS hs [10] [4, 9] [0] [] (.take 0 (.take 1 (.take 2 (.take 3 (.take 4 (.take 5 (.take 6 (.take 7 (.take 8 (.take 9 (.fork 10 .done (.done)))))))))))) mix_ok (by kernel_rfl) (fun w hs _ => ?_)
      refine EP_take rfl rfl rfl (fun _ => R_move rfl) ?_
      refine EP_take rfl rfl rfl (fun _ => R_move rfl) ?_
      refine EP_take rfl rfl rfl (fun _ => R_move rfl) ?_
      refine EP_take rfl rfl rfl (fun _ => R_idx es_22 rfl (by rfl) rfl (by omega) (by omega)) ?_
      refine EP_read rfl rfl rfl (RdS.of hs rfl rfl) (fun _ hR => R_ldE (oSl.toD (hR.e 0 rfl rfl)) Ptr.len_l Try.isAgg30 Try.sizeOf30 rfl (by simp <;> omega) hx (by decide)) ?_
      refine EP_take rfl rfl rfl (fun _ => R_move rfl) ?_
      refine EP_take rfl rfl rfl (fun _ => R_move rfl) ?_
      refine EP_take rfl rfl rfl (fun _ => R_subI rfl rfl (by omega)) ?_
      refine EP_take rfl rfl rfl (fun _ => R_idx es_22 rfl (by rfl) rfl (by omega) (by omega)) ?_
      refine EP_read rfl rfl rfl (RdS.of hs rfl rfl) (fun _ hR => R_ldE (oSl.toD (hR.e 0 rfl rfl)) Ptr.len_l Try.isAgg30 Try.sizeOf30 rfl (by simp <;> omega) hy (by decide)) ?_
      refine EP_act rfl rfl (O_call hs [] [] rfl rfl rfl Try.call27 (dsame_spec (L[k]'(by omega)) (L[k - 1]'(by omega))) (fun v es1 ds1 w hPhi hs => ?_))
      obtain ⟨rfl, rfl, rfl⟩ := hPhi
      refine ⟨(rq_no (by kernel_rfl)), ?_⟩
      refine EP_done ?_
      refine EC_cond rfl (fun hc28 => ?_) (fun hc28 => ?_)
      · (first | have hc28p := of_decide_eq_true hc28 | have hc28p := of_decide_eq_false hc28 | have hc28p := of_decide_eq_false (bnt hc28) | have hc28p := of_decide_eq_true (bnf hc28) | have hc28p := bnt hc28 | have hc28p := bnf hc28 | have hc28p := hc28); try dsimp only at hc28p
        refine EC_rseq ?_
        refine EL_run rfl (R_move rfl) ?_
        refine EL_run rfl (R_move rfl) ?_
        refine EL_run rfl (R_sliceLo es_22 rfl rfl (by omega) (by omega)) ?_
        refine EL_run rfl (R_assign rfl) ?_
        refine EL_nil ?_
        have hcut : cutO (some ⟨bb, 0, none⟩) c ((k : Int)).toNat 36 = some ⟨bb, 0 + k * 36, none⟩ := by
          unfold cutO
          rw [if_neg (by omega)]
          simp [add_off]
        rw [hcut, show n0 - ((k : Int)).toNat = n0 - k by omega, show c - ((k : Int)).toNat = c - k by omega]
        refine EC_seq ?_
        refine EC_rseq ?_
        refine EL_run rfl (R_assign rfl) ?_
        refine EL_nil ?_
        refine EC_block ?_
        refine EC_loop (fun mm ρ w => ∃ (kk k2 : Nat) (Z : List Ptr), mm = n0 - k2 ∧ 1 ≤ k2 ∧ k + k2 ≤ n0 ∧ 1 ≤ kk ∧ kk + 1 ≤ k + k2 ∧ Z.length = n0 ∧ Z.take kk = ded keyP (L.take (k + k2)) ∧ (∀ q, k + k2 - 1 ≤ q → q < n0 → Z[q]? = L[q]?) ∧ Slots ρ [(0, .slice (some ⟨bb, 0, none⟩) n0 c), (1, .func (.func 27) #[] #[]), (5, .int .i64 (kk : Int)), (6, .slice (some ⟨bb, 0 + k * 36, none⟩) (n0 - k) (c - k)), (7, .int .i64 (k2 : Int))] ∧ St w0 F D [oP (.slice (some ⟨bb, 0, none⟩) n0 c) n0 Z] [] w) (n0 - 1) (⟨k, 1, L, by omega, by omega, by omega, by omega, by omega, hn, by rw [ded_take_succ hk1 (by omega), if_pos hc28p, hd, List.append_nil], fun q _ _ => rfl, ⟨rfl, rfl, rfl, rfl, rfl, trivial⟩, hs⟩) ?_
        rintro mm ρ w ⟨kk, k2, Z, rfl, h21, h22, hkk1, hkk2, hZl, hZd, hZe, hsl, hs⟩
        refine EC_slots _ hsl ?_
        refine EC_seq ?_
        refine EC_rseq ?_
        refine EL_run rfl (R_move rfl) ?_
        refine EL_run rfl (R_move rfl) ?_
        refine EL_run rfl (R_lenS Try.underlying22 rfl) ?_
        refine EL_run rfl (R_lss rfl rfl) ?_
        refine EL_nil ?_
        refine EC_cond rfl (fun hc35 => ?_) (fun hc35 => ?_)
        · (first | have hc35p := of_decide_eq_true hc35 | have hc35p := of_decide_eq_false hc35 | have hc35p := of_decide_eq_false (bnt hc35) | have hc35p := of_decide_eq_true (bnf hc35) | have hc35p := bnt hc35 | have hc35p := bnf hc35 | have hc35p := hc35); try dsimp only at hc35p
          have hx2 : Z[k + k2]? = some (L[k + k2]'(by omega)) := by rw [hZe _ (by omega) (by omega)]; exact List.getElem?_eq_getElem _
          have hy2 : Z[k + k2 - 1]? = some (L[k + k2 - 1]'(by omega)) := by rw [hZe _ (by omega) (by omega)]; exact List.getElem?_eq_getElem _
          have hdt := ded_take_succ (key := keyP) (L := L) (m := k + k2) (by omega) (by omega)
          refine EC_skip ?_
          refine Then_n ?_
          refine EC_seq ?_
          refine EC_block ?_
          refine EC_dseqS hs [10] [4, 9] [0] [] (.take 0 (.take 1 (.take 2 (.take 3 (.take 4 (.take 5 (.take 6 (.take 7 (.take 8 (.take 9 (.fork 10 (.take 11 .done) (.done)))))))))))) mix_ok (by kernel_rfl) (fun w hs _ => ?_)
          refine EP_take rfl rfl rfl (fun _ => R_move rfl) ?_
          refine EP_take rfl rfl rfl (fun _ => R_move rfl) ?_
          refine EP_take rfl rfl rfl (fun _ => R_move rfl) ?_
          refine EP_take rfl rfl rfl (fun _ => R_idx es_22 rfl rfl rfl (by omega) (by omega)) ?_
          refine EP_read rfl rfl rfl (RdS.of hs rfl rfl) (fun _ hR => R_ldE (oSl.toD (hR.e 0 rfl rfl)) Ptr.len_l Try.isAgg30 Try.sizeOf30 rfl (by simp <;> omega) hx2 (by decide)) ?_
          refine EP_take rfl rfl rfl (fun _ => R_move rfl) ?_
          refine EP_take rfl rfl rfl (fun _ => R_move rfl) ?_
          refine EP_take rfl rfl rfl (fun _ => R_subI rfl rfl (by omega)) ?_
          refine EP_take rfl rfl rfl (fun _ => R_idx es_22 rfl rfl rfl (by omega) (by omega)) ?_
          refine EP_read rfl rfl rfl (RdS.of hs rfl rfl) (fun _ hR => R_ldE (oSl.toD (hR.e 0 rfl rfl)) Ptr.len_l Try.isAgg30 Try.sizeOf30 rfl (by simp <;> omega) hy2 (by decide)) ?_
          refine EP_act rfl rfl (O_call hs [] [] rfl rfl rfl Try.call27 (dsame_spec (L[k + k2]'(by omega)) (L[k + k2 - 1]'(by omega))) (fun v es1 ds1 w hPhi hs => ?_))
          obtain ⟨rfl, rfl, rfl⟩ := hPhi
          refine ⟨(rq_no (by kernel_rfl)), ?_⟩
          refine EP_take rfl rfl rfl (fun _ => R_not rfl) ?_
          refine EP_done ?_
          refine EC_cond rfl (fun hc49 => ?_) (fun hc49 => ?_)
          · (first | have hc49p := of_decide_eq_true hc49 | have hc49p := of_decide_eq_false hc49 | have hc49p := of_decide_eq_false (bnt hc49) | have hc49p := of_decide_eq_true (bnf hc49) | have hc49p := bnt hc49 | have hc49p := bnf hc49 | have hc49p := hc49); try dsimp only at hc49p
            have hnew : (Z.set kk (L[k + k2]'(by omega))).take (kk + 1) = ded keyP (L.take (k + (k2 + 1))) := by
              rw [← Nat.add_assoc, hdt, if_neg (by simpa using hc49), ← hZd, List.take_succ_eq_append_getElem (by rw [List.length_set]; omega), List.take_set_of_le (Nat.le_refl _), List.getElem_set_self]
            refine EC_rseq ?_
            refine EL_run rfl (R_move rfl) ?_
            refine EL_run rfl (R_move rfl) ?_
            refine EL_run rfl (R_move rfl) ?_
            refine EL_run rfl (R_move rfl) ?_
            refine EL_run rfl (R_idx es_22 rfl rfl rfl (by omega) (by omega)) ?_
            refine EL_run rfl (R_ldE (oSl.toD (hs.at (i := 0) rfl)) Ptr.len_l Try.isAgg30 Try.sizeOf30 rfl (by simp <;> omega) hx2 (by decide)) ?_
            refine EL_run rfl (R_idx es_22 rfl (by rfl) rfl (by omega) (by omega)) ?_
            refine EL_op rfl (O_storeE (f := Ptr.l) (j := kk) hs (i := 0) rfl Ptr.len_l Try.sizeOf30 rfl rfl rfl (Ptr.one_l _) (by simp <;> omega) (by omega) (fun w hs => ?_))
            refine EL_nil ?_
            refine EC_region ?_
            refine EL_run rfl (R_move rfl) ?_
            refine EL_run rfl (R_addI rfl rfl (by omega)) ?_
            refine EL_run rfl (R_assign rfl) ?_
            refine EL_nil ?_
            refine InBlock_n ?_
            refine Then_n ?_
            refine EC_region ?_
            refine EL_run rfl (R_move rfl) ?_
            refine EL_run rfl (R_addI rfl rfl (by omega)) ?_
            refine EL_run rfl (R_assign rfl) ?_
            refine EL_nil ?_
            refine Then_n ?_
            first
              | exact ⟨n0 - (k2 + 1), by omega, kk + 1, k2 + 1, Z.set kk (L[k + k2]'(by omega)), rfl, by omega, by omega, by omega, by omega, by rw [List.length_set]; exact hZl, hnew, (fun q hq hq2 => by rw [List.getElem?_set_ne (by omega)]; exact hZe q (by omega) hq2), ⟨rfl, rfl, rfl, rfl, rfl, trivial⟩, (hs.fin [true] []).as rfl rfl⟩
              | exact ⟨n0 - (k2 + 1), by omega, kk, k2 + 1, Z, rfl, by omega, by omega, by omega, by omega, hZl, hnew, (fun q hq hq2 => hZe q (by omega) hq2), ⟨rfl, rfl, rfl, rfl, rfl, trivial⟩, (hs.fin [true] []).as rfl rfl⟩
          · (first | have hc49p := of_decide_eq_true hc49 | have hc49p := of_decide_eq_false hc49 | have hc49p := of_decide_eq_false (bnt hc49) | have hc49p := of_decide_eq_true (bnf hc49) | have hc49p := bnt hc49 | have hc49p := bnf hc49 | have hc49p := hc49); try dsimp only at hc49p
            have hnew : Z.take kk = ded keyP (L.take (k + (k2 + 1))) := by
              rw [← Nat.add_assoc, hdt, if_pos (by simpa using hc49), List.append_nil, ← hZd]
            refine EC_skip ?_
            refine InBlock_n ?_
            refine Then_n ?_
            refine EC_region ?_
            refine EL_run rfl (R_move rfl) ?_
            refine EL_run rfl (R_addI rfl rfl (by omega)) ?_
            refine EL_run rfl (R_assign rfl) ?_
            refine EL_nil ?_
            refine Then_n ?_
            first
              | exact ⟨n0 - (k2 + 1), by omega, kk + 1, k2 + 1, Z.set kk (L[k + k2]'(by omega)), rfl, by omega, by omega, by omega, by omega, by rw [List.length_set]; exact hZl, hnew, (fun q hq hq2 => by rw [List.getElem?_set_ne (by omega)]; exact hZe q (by omega) hq2), ⟨rfl, rfl, rfl, rfl, rfl, trivial⟩, (hs.fin [true] []).as rfl rfl⟩
              | exact ⟨n0 - (k2 + 1), by omega, kk, k2 + 1, Z, rfl, by omega, by omega, by omega, by omega, hZl, hnew, (fun q hq hq2 => hZe q (by omega) hq2), ⟨rfl, rfl, rfl, rfl, rfl, trivial⟩, (hs.fin [true] []).as rfl rfl⟩
        · (first | have hc35p := of_decide_eq_true hc35 | have hc35p := of_decide_eq_false hc35 | have hc35p := of_decide_eq_false (bnt hc35) | have hc35p := of_decide_eq_true (bnf hc35) | have hc35p := bnt hc35 | have hc35p := bnf hc35 | have hc35p := hc35); try dsimp only at hc35p
          have hend : k + k2 = n0 := by omega
          have hded : ded keyP L = Z.take kk := by rw [hZd, hend, List.take_of_length_le (by omega)]
          have hdl : (ded keyP L).length = kk := by rw [hded, List.length_take]; omega
          refine EC_exit ?_
          refine Then_e ?_
          refine Then_e ?_
          refine InBlock_hit rfl ?_
          refine Then_n ?_
          refine EC_rseq ?_
          refine EL_run rfl (R_move rfl) ?_
          refine EL_run rfl (R_move rfl) ?_
          refine EL_run rfl (R_sliceLo es_22 rfl rfl (by omega) (by omega)) ?_
          obtain ⟨o3, ho3, ho4⟩ := cutO_some (b := bb) (c := c) (l := ((kk : Int)).toNat) (sz := 36)
          have ho5 : o3 = kk * 36 := by rw [ho4 (by omega)]; omega
          rw [ho3, ho5]
          refine EL_op rfl (O_clear hs (i := 0) rfl rfl Try.underlying22 Try.zeroValue30 rfl (fun u hu => List.all_eq_true.1 (by rfl) u hu) rfl (fun _ => by rw [flat_len 36 Ptr.l Ptr.len_l]; omega) (fun w ys hyl hyt hs => ?_))
          refine EL_nil ?_
          refine EC_rseq ?_
          refine EL_run rfl (R_move rfl) ?_
          refine EL_run rfl (R_move rfl) ?_
          refine EL_run rfl (R_sliceHi es_22 rfl rfl (by omega) (by omega)) ?_
          have hs := hs.cutOwn (i := 0) (k := kk) rfl (by omega)
          rw [hyt, flat_take 36 Ptr.l Ptr.len_l] at hs
          refine EL_run rfl (R_assign rfl) ?_
          refine EL_nil ?_
          refine EC_ret ?_
          refine InBlock_r ?_
          refine Then_r ?_
          refine Then_r ?_
          refine InBlock_r ?_
          refine Then_r ?_
          exact ⟨[_], ⟨rfl, trivial⟩, _, _, ⟨by rw [hdl]; rfl, rfl, rfl⟩, (hs.fin [true] []).as (by rw [hdl, hded]; rfl) rfl⟩
      · (first | have hc28p := of_decide_eq_true hc28 | have hc28p := of_decide_eq_false hc28 | have hc28p := of_decide_eq_false (bnt hc28) | have hc28p := of_decide_eq_true (bnf hc28) | have hc28p := bnt hc28 | have hc28p := bnf hc28 | have hc28p := hc28); try dsimp only at hc28p
        refine EC_skip ?_
        refine InBlock_n ?_
        refine Then_n ?_
        refine EC_region ?_
        refine EL_run rfl (R_move rfl) ?_
        refine EL_run rfl (R_addI rfl rfl (by omega)) ?_
        refine EL_run rfl (R_assign rfl) ?_
        refine EL_nil ?_
        refine Then_n ?_
        exact ⟨n0 - (k + 1), by omega, k + 1, rfl, by omega, by omega, by rw [ded_take_succ hk1 (by omega), if_neg hc28p, hd, List.take_succ_eq_append_getElem (by omega)], ⟨rfl, rfl, rfl, trivial⟩, (hs.fin [true] []).as rfl rfl⟩
    · (first | have hc15p := of_decide_eq_true hc15 | have hc15p := of_decide_eq_false hc15 | have hc15p := of_decide_eq_false (bnt hc15) | have hc15p := of_decide_eq_true (bnf hc15) | have hc15p := bnt hc15 | have hc15p := bnf hc15 | have hc15p := hc15); try dsimp only at hc15p
      have hd2 : ded keyP L = L := by
        rw [List.take_of_length_le (by omega)] at hd; exact hd
      refine EC_exit ?_
      refine Then_e ?_
      refine Then_e ?_
      refine InBlock_hit rfl ?_
      refine Then_n ?_
      refine EC_rseq ?_
      refine EL_run rfl (R_move rfl) ?_
      refine EL_run rfl (R_assign rfl) ?_
      refine EL_nil ?_
      refine EC_ret ?_
      exact ⟨[_], ⟨rfl, trivial⟩, _, _, ⟨by rw [hd2, hn]; rfl, rfl, rfl⟩, (hs.fin [true] []).as (by rw [hd2, hn]; rfl) rfl⟩
end Go.Proofs.Ytpcojkbljgpecaa
