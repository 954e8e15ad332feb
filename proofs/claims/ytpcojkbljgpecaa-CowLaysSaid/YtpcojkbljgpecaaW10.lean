/- Walks, part 10: what CowLays tells. -/
import Derived.Test.YtpcojkbljgpecaaP1
import Derived.Test.YtpcojkbljgpecaaE15
namespace Go.Proofs.Ytpcojkbljgpecaa
open Go
theorem goneM_ok {b : BL} (h : 1 ≤ b.length ∧ b.length ≤ 5000) {g : PoG} (hg : g.ag.ok freeAl) : (goneM b).ok g :=
  ⟨blkWrite_ok (diNew_ok (by omega)) _ _ _, freeAl_ok, hg, by simp [goneM, freeAl], by simp [goneM, layM, fresh5, freshM]⟩
theorem alLater_free (m : AlM) (s : Sp) : (alLater m s).1.free = m.free := by
  unfold alLater
  split <;> rfl
theorem laterAl_ok {k : Int} (h : 1 ≤ k ∧ k ≤ 10) : (alLater (layAl k) ⟨2, 3⟩).1.ok := by
  have h1 : k = 1 ∨ k = 2 ∨ k = 3 ∨ k = 4 ∨ k = 5 ∨ k = 6 ∨ k = 7 ∨ k = 8 ∨ k = 9 ∨ k = 10 := by omega
  have hv : (alLater (layAl k) ⟨2, 3⟩).1 = { layAl k with waits := [⟨2, 3⟩] } := by
    rcases h1 with rfl | rfl | rfl | rfl | rfl | rfl | rfl | rfl | rfl | rfl <;> rfl
  have h2 := layAl_ok h
  rw [hv]
  exact ⟨h2.lo, h2.res, h2.vf, h2.vw, h2.lf, by simp, h2.lz⟩
theorem elderM_ok {b : BL} (h : 1 ≤ b.length ∧ b.length ≤ 5000) {g : PoG} (hg : g.ag.ok (alLater (layM b).al ⟨2, 3⟩).1) : ({ elderM b with al := (alLater (layM b).al ⟨2, 3⟩).1 } : PoM).ok g :=
  ⟨blkWrite_ok (diNew_ok (by omega)) _ _ _, laterAl_ok (len_sectors (by omega)), hg, by
    have hs := len_sectors (len := (b.length : Int)) (by omega)
    have h1 : sectors (b.length : Int) = 1 ∨ sectors (b.length : Int) = 2 ∨ sectors (b.length : Int) = 3 ∨ sectors (b.length : Int) = 4 ∨ sectors (b.length : Int) = 5 ∨ sectors (b.length : Int) = 6 ∨ sectors (b.length : Int) = 7 ∨ sectors (b.length : Int) = 8 ∨ sectors (b.length : Int) = 9 ∨ sectors (b.length : Int) = 10 := by omega
    show (alLater (layAl (sectors (b.length : Int))) ⟨2, 3⟩).1.lo < (alLater (layAl (sectors (b.length : Int))) ⟨2, 3⟩).1.hi
    rcases h1 with e | e | e | e | e | e | e | e | e | e <;> rw [e] <;> decide, by simp [elderM]⟩
theorem take5_ok {q : BL} (h : q.length ≤ 5000) : (alTake fresh5.al (sectors q.length) fresh5.spare).1.ok := by
  by_cases h0 : q.length = 0
  · have : sectors (q.length : Int) = 0 := by unfold sectors; rw [if_pos (by omega)]
    rw [this]
    exact freeAl_ok
  · have hs := len_sectors (len := (q.length : Int)) (by omega)
    have ht : alTake fresh5.al (sectors q.length) fresh5.spare = (layAl (sectors q.length), 2, 0) := take_al hs
    rw [ht]
    exact layAl_ok hs
set_option maxRecDepth 100000 in
theorem cowLays_spec (ao : Option Addr) (c : Nat) (b : BL) (n : Int) {w0 : World} : Spec Try.prog 4 #[.slice ao b.length c, .int .i64 n] w0 [] [dB ao c b] (fun v es1 ds1 => v = .bool true ∧ es1 = [] ∧ ds1 = []) := by
  refine Spec.intro (fun F D hs => ?_)
  refine Calls_of_EC (args := [.slice ao b.length c, .int .i64 n]) Try.func4 rfl rfl rfl ?_
  refine EC_rseq ?_
  refine EL_run rfl (R_assign rfl) ?_
  refine EL_nil ?_
  refine EC_cut (fun ρ w => ∃ q : BL, q.length ≤ 5000 ∧ Slots ρ [(0, .slice ao q.length c), (1, .int .i64 n)] ∧ St w0 F D [] [dB ao c q] w) ?_ ?_
  · skip
    refine EC_rseq ?_
    refine EL_run rfl (R_move rfl) ?_
    refine EL_run rfl (R_lenS Try.underlying25 rfl) ?_
    refine EL_run rfl (R_gtr rfl rfl) ?_
    refine EL_nil ?_
    refine EC_cond rfl (fun hc12 => ?_) (fun hc12 => ?_)
    · (first | have hc12p := of_decide_eq_true hc12 | have hc12p := of_decide_eq_false hc12 | have hc12p := of_decide_eq_false (bnt hc12) | have hc12p := of_decide_eq_true (bnf hc12) | have hc12p := bnt hc12 | have hc12p := bnf hc12 | have hc12p := hc12); try dsimp only at hc12p
      refine EC_region ?_
      refine EL_run rfl (R_move rfl) ?_
      refine EL_run rfl (R_sliceHi es_25 rfl rfl (by omega) (by have := (hs.rd (i := 0) rfl).1.1; omega)) ?_
      have hs := hs.dBtake (j := 0) rfl 5000
      rw [show ((5000 : Int)).toNat = (b.take 5000).length by rw [List.length_take]; omega]
      refine EL_run rfl (R_assign rfl) ?_
      refine EL_nil ?_
      refine Then_n ?_
      exact ⟨b.take 5000, by rw [List.length_take]; omega, ⟨rfl, rfl, trivial⟩, (hs.fin [] [1]).as rfl rfl⟩
    · (first | have hc12p := of_decide_eq_true hc12 | have hc12p := of_decide_eq_false hc12 | have hc12p := of_decide_eq_false (bnt hc12) | have hc12p := of_decide_eq_true (bnf hc12) | have hc12p := bnt hc12 | have hc12p := bnf hc12 | have hc12p := hc12); try dsimp only at hc12p
      refine EC_skip ?_
      refine Then_n ?_
      exact ⟨b, by omega, ⟨rfl, rfl, trivial⟩, hs⟩
  · rintro ρ w ⟨q, hq, hsl, hs⟩
    refine EC_slots _ hsl ?_
    refine EC_rseq ?_
    refine EL_op rfl (O_call hs [] [] rfl rfl rfl Try.call14 (fresh_spec 40 (by omega)) (fun v es1 ds1 w hPhi hs => ?_))
    obtain ⟨p, g, rfl, hok, rfl, rfl⟩ := hPhi
    refine EL_run rfl (R_assign rfl) ?_
    refine EL_nil ?_
    refine EC_seq ?_
    refine EC_rseq ?_
    refine EL_run rfl (R_move rfl) ?_
    refine EL_run rfl (R_eqlPtrNil Try.underlying35 rfl rfl) ?_
    refine EL_nil ?_
    refine EC_cond rfl (fun hc17 => ?_) (fun hc17 => ?_)
    · exact Bool.noConfusion hc17
    · (first | have hc17p := of_decide_eq_true hc17 | have hc17p := of_decide_eq_false hc17 | have hc17p := of_decide_eq_false (bnt hc17) | have hc17p := of_decide_eq_true (bnf hc17) | have hc17p := bnt hc17 | have hc17p := bnf hc17 | have hc17p := hc17); try dsimp only at hc17p
      refine EC_skip ?_
      refine Then_n ?_
      refine EC_rseq ?_
      refine EL_run rfl (R_move rfl) ?_
      refine EL_run rfl (R_nilCheck rfl) ?_
      refine EL_run rfl (R_field fo_40_2 rfl) ?_
      refine EL_op rfl (O_store hs (i := 0) rfl Try.sizeOf3 rfl rfl rfl rfl (fun w hs => ?_))
      have hs := hs.as (es' := poE p g fresh5) rfl rfl
      have hok5 : fresh5.ok g := ⟨hok.di, hok.al, hok.ag, hok.some, hok.kl⟩
      refine EL_nil ?_
      refine EC_rseq ?_
      refine EL_run rfl (R_move rfl) ?_
      refine EL_run rfl (R_move rfl) ?_
      refine EL_op rfl (O_call hs [true, true, true, true, true, true, true, true] [1, 0] rfl rfl rfl Try.call15 (lay_spec p g fresh5 ao c q hok5 (take5_ok hq) (by omega)) (fun v es1 ds1 w hPhi hs => ?_))
      obtain ⟨g2, rfl, hgo2, rfl, rfl⟩ := hPhi
      refine EL_run rfl (R_move rfl) ?_
      refine EL_run rfl (R_extract rfl rfl) ?_
      refine EL_run rfl (R_extract rfl rfl) ?_
      refine EL_op rfl (O_alloc hs rfl Try.zeroValue30 (fun b6 w hb6 hs => ?_))
      refine EL_op rfl (O_storeW hs (i := 8) rfl sz_30 rfl rfl rfl (Ptr.size _) (Ptr.oneA _) (fun w hs => ?_))
      refine EL_run rfl (R_assign rfl) ?_
      refine EL_nil ?_
      refine EC_seq ?_
      refine EC_rseq ?_
      refine EL_run rfl (R_move rfl) ?_
      refine EL_run rfl (R_lenS Try.underlying25 rfl) ?_
      refine EL_run rfl (R_eql rfl rfl) ?_
      refine EL_nil ?_
      refine EC_cond rfl (fun hc29 => ?_) (fun hc29 => ?_)
      · (first | have hc29p := of_decide_eq_true hc29 | have hc29p := of_decide_eq_false hc29 | have hc29p := of_decide_eq_false (bnt hc29) | have hc29p := of_decide_eq_true (bnf hc29) | have hc29p := bnt hc29 | have hc29p := bnf hc29 | have hc29p := hc29); try dsimp only at hc29p
        have hq0 : q = [] := List.eq_nil_of_length_eq_zero (by omega)
        subst hq0
        rw [lay_nil] at hs hgo2
        rw [lay_nil]
        refine EC_rseq ?_
        refine EL_run rfl (R_move rfl) ?_
        refine EL_op rfl (O_buildSlice [.const (.int .u8 120)] hs rfl ei_25 rfl rfl rfl (size1 rfl) (by decide) (fun b32 w hb32 hs => ?_))
        refine EL_op rfl (O_convConst (l := [120]) hs (i := 9) rfl rfl Try.underlying25 Try.underlying5 rfl rfl (fun w hs => ?_))
        refine EL_op rfl (O_call hs [true, true, true, true, true, true, true, true] [2, 3] rfl rfl rfl Try.call15 (lay_spec p g2 fresh5 _ 1 [120] ⟨hok.di, hok.al, hgo2, hok.some, hok.kl⟩ (take5_ok (by simp)) (by simp)) (fun v es1 ds1 w hPhi hs => ?_))
        obtain ⟨g3, rfl, hgo3, rfl, rfl⟩ := hPhi
        rw [lay_ok (b := [120]) (by simp)] at hs hgo3
        rw [lay_ok (b := [120]) (by simp)]
        refine EL_run rfl (R_move rfl) ?_
        refine EL_run rfl (R_extract rfl rfl) ?_
        refine EL_run rfl (R_extract rfl rfl) ?_
        refine EL_op rfl (O_alloc hs rfl Try.zeroValue30 (fun b8 w hb8 hs => ?_))
        refine EL_op rfl (O_storeW hs (i := 9) rfl sz_30 rfl rfl rfl (Ptr.size _) (Ptr.oneA _) (fun w hs => ?_))
        refine EL_run rfl (R_assign rfl) ?_
        refine EL_nil ?_
        refine EC_rseq ?_
        refine EL_run rfl (R_move rfl) ?_
        refine EL_run rfl (R_eql rfl rfl) ?_
        refine EL_run rfl (R_move rfl) ?_
        refine EL_split 39 rfl (fun hg2 => ?_) (fun hg2 => ?_)
        · (first | have hg2p := of_decide_eq_true hg2 | have hg2p := of_decide_eq_false hg2 | have hg2p := of_decide_eq_false (bnt hg2) | have hg2p := of_decide_eq_true (bnf hg2) | have hg2p := bnt hg2 | have hg2p := bnf hg2 | have hg2p := hg2); try dsimp only at hg2p
          refine EL_want rfl rfl hg2 ?_
          refine EL_run rfl (R_move rfl) ?_
          refine EL_want rfl rfl hg2 ?_
          refine EL_run rfl (R_eql rfl rfl) ?_
          refine EL_run rfl (R_pickT rfl hg2 rfl) ?_
          refine EL_run rfl (R_move rfl) ?_
          refine EL_split 43 rfl (fun hg6 => ?_) (fun hg6 => ?_)
          · (first | have hg6p := of_decide_eq_true hg6 | have hg6p := of_decide_eq_false hg6 | have hg6p := of_decide_eq_false (bnt hg6) | have hg6p := of_decide_eq_true (bnf hg6) | have hg6p := bnt hg6 | have hg6p := bnf hg6 | have hg6p := hg6); try dsimp only at hg6p
            refine EL_want rfl rfl hg6 ?_
            refine EL_run rfl (R_field fo_30_1 rfl) ?_
            refine EL_want rfl rfl hg6 ?_
            refine EL_run rfl (R_lb (hs.at (i := 9) rfl) Try.isAgg3 rfl rfl) ?_
            refine EL_want rfl rfl hg6 ?_
            refine EL_run rfl (R_eql rfl rfl) ?_
            refine EL_run rfl (R_pickT rfl hg6 rfl) ?_
            refine EL_run rfl (R_assign rfl) ?_
            refine EL_nil ?_
            refine EC_ret ?_
            refine Then_r ?_
            exact ⟨[_], ⟨rfl, trivial⟩, _, _, ⟨rfl, rfl, rfl⟩, (hs.fin [] []).as rfl rfl⟩
          · exact absurd (of_decide_eq_false hg6) (by simp [goneM, elderM, layM, fresh5, freshM, Ptr.of])
        · exact absurd (of_decide_eq_false hg2) (by simp [goneM, elderM, layM, fresh5, freshM, Ptr.of])
      · (first | have hc29p := of_decide_eq_true hc29 | have hc29p := of_decide_eq_false hc29 | have hc29p := of_decide_eq_false (bnt hc29) | have hc29p := of_decide_eq_true (bnf hc29) | have hc29p := bnt hc29 | have hc29p := bnf hc29 | have hc29p := hc29); try dsimp only at hc29p
        have hq1 : 1 ≤ q.length ∧ q.length ≤ 5000 := by omega
        rw [lay_ok hq1] at hs hgo2
        rw [lay_ok hq1]
        have hsq := len_sectors (len := (q.length : Int)) (by omega)
        refine EC_skip ?_
        refine Then_n ?_
        refine EC_seq ?_
        refine EC_dseqS hs [19, 21] [4, 9, 18, 20] [0, 8] [] (.take 0 (.take 1 (.take 2 (.take 3 (.take 4 (.take 5 (.take 6 (.take 7 (.take 8 (.take 9 (.take 10 (.take 11 (.take 12 (.take 13 (.take 14 (.take 15 (.take 16 (.take 17 (.take 18 (.take 20 (.fork 19 (.fork 21 (.take 22 (.take 23 .done)) (.done)) (.done)))))))))))))))))))))) mix_ok (by kernel_rfl) (fun w hs _ => ?_)
        refine EP_take rfl rfl rfl (fun _ => R_move rfl) ?_
        refine EP_take rfl rfl rfl (fun _ => R_neq rfl rfl) ?_
        refine EP_take rfl rfl rfl (fun _ => R_move rfl) ?_
        refine EP_split 50 rfl (fun hg2 => ?_) (fun hg2 => ?_)
        · exact absurd (of_decide_eq_true hg2) (by simp [Ptr.of])
        · (first | have hg2p := of_decide_eq_true hg2 | have hg2p := of_decide_eq_false hg2 | have hg2p := of_decide_eq_false (bnt hg2) | have hg2p := of_decide_eq_true (bnf hg2) | have hg2p := bnt hg2 | have hg2p := bnf hg2 | have hg2p := hg2); try dsimp only at hg2p
          refine EP_takeG rfl rfl rfl hg2 rfl rfl (fun _ => R_field fo_30_1 rfl) ?_
          refine EP_readG rfl rfl rfl hg2 rfl rfl (RdS.of hs rfl rfl) (fun _ hR => R_lb (hR.e 8 rfl rfl) Try.isAgg3 rfl rfl) ?_
          refine EP_takeG rfl rfl rfl hg2 rfl rfl (fun _ => R_neq rfl rfl) ?_
          refine EP_take rfl rfl rfl (fun _ => R_pickF rfl hg2 rfl) ?_
          refine EP_take rfl rfl rfl (fun _ => R_move rfl) ?_
          refine EP_split 55 rfl (fun hg7 => ?_) (fun hg7 => ?_)
          · exact absurd (of_decide_eq_true hg7) (by simp [Ptr.of])
          · (first | have hg7p := of_decide_eq_true hg7 | have hg7p := of_decide_eq_false hg7 | have hg7p := of_decide_eq_false (bnt hg7) | have hg7p := of_decide_eq_true (bnf hg7) | have hg7p := bnt hg7 | have hg7p := bnf hg7 | have hg7p := hg7); try dsimp only at hg7p
            refine EP_takeG rfl rfl rfl hg7 rfl rfl (fun _ => R_field fo_30_2 rfl) ?_
            refine EP_readG rfl rfl rfl hg7 rfl rfl (RdS.of hs rfl rfl) (fun _ hR => R_lb (hR.e 8 rfl rfl) Try.isAgg3 rfl rfl) ?_
            refine EP_takeG rfl rfl rfl hg7 rfl rfl (fun _ => R_move rfl) ?_
            refine EP_takeG rfl rfl rfl hg7 rfl rfl (fun _ => R_lenS Try.underlying25 rfl) ?_
            refine EP_takeG rfl rfl rfl hg7 rfl rfl (fun _ => R_neq rfl rfl) ?_
            refine EP_take rfl rfl rfl (fun _ => R_pickF rfl hg7 rfl) ?_
            refine EP_take rfl rfl rfl (fun _ => R_move rfl) ?_
            refine EP_split 62 rfl (fun hg14 => ?_) (fun hg14 => ?_)
            · exact absurd (of_decide_eq_true hg14) (by simp [Ptr.of])
            · (first | have hg14p := of_decide_eq_true hg14 | have hg14p := of_decide_eq_false hg14 | have hg14p := of_decide_eq_false (bnt hg14) | have hg14p := of_decide_eq_true (bnf hg14) | have hg14p := bnt hg14 | have hg14p := bnf hg14 | have hg14p := hg14); try dsimp only at hg14p
              refine EP_takeG rfl rfl rfl hg14 rfl rfl (fun _ => R_move rfl) ?_
              refine EP_takeG rfl rfl rfl hg14 rfl rfl (fun _ => R_nilCheck rfl) ?_
              refine EP_takeG rfl rfl rfl hg14 rfl rfl (fun _ => R_field fo_40_1 rfl) ?_
              refine EP_readG rfl rfl rfl hg14 rfl rfl (RdS.of hs rfl rfl) (fun _ hR => R_lb (hR.e 0 rfl rfl) Try.isAgg38 rfl rfl) ?_
              refine EP_readG rfl rfl rfl hg14 rfl rfl (RdS.of hs rfl rfl) (fun _ hR => R_lw (hR.e 8 rfl rfl) Try.isAgg30 Try.sizeOf30 rfl (Ptr.size _)) ?_
              refine EP_actG rfl rfl rfl hg14 rfl (O_call hs [false, false, false, false, false, true, true, true] [2] rfl rfl rfl Try.call16 (alUse_spec g2.a g2.ag (layM q).al hgo2 (layAl_ok hsq)) (fun v es1 ds1 w hPhi hs => ?_))
              obtain ⟨hv, rfl, rfl⟩ := hPhi
              replace hv : v = .int .i64 (sectors (q.length : Int)) := by rw [hv]; exact congrArg (Value.int .i64) (use_al hsq).1
              subst hv
              refine ⟨(fun _ => RdS.of hs rfl rfl), ?_⟩
              refine EP_actG rfl rfl rfl hg14 rfl (O_call hs [] [] rfl rfl rfl Try.call17 (sectors_spec (Ptr.of 2 5 q)) (fun v es1 ds1 w hPhi hs => ?_))
              obtain ⟨rfl, rfl, rfl⟩ := hPhi
              refine ⟨(fun _ => RdS.of hs rfl rfl), ?_⟩
              refine EP_takeG rfl rfl rfl hg14 rfl rfl (fun _ => R_neq rfl rfl) ?_
              refine EP_take rfl rfl rfl (fun _ => R_pickF rfl hg14 rfl) ?_
              refine EP_done ?_
              refine EC_cond rfl (fun hc71 => ?_) (fun hc71 => ?_)
              · exact absurd (of_decide_eq_true hc71) (by simp [Ptr.of])
              · (first | have hc71p := of_decide_eq_true hc71 | have hc71p := of_decide_eq_false hc71 | have hc71p := of_decide_eq_false (bnt hc71) | have hc71p := of_decide_eq_true (bnf hc71) | have hc71p := bnt hc71 | have hc71p := bnf hc71 | have hc71p := hc71); try dsimp only at hc71p
                refine EC_skip ?_
                refine Then_n ?_
                refine EC_seq ?_
                refine EC_rseq ?_
                refine EL_run rfl (R_move rfl) ?_
                refine EL_run rfl (R_and1 rfl rfl) ?_
                refine EL_run rfl (R_eql rfl rfl) ?_
                refine EL_nil ?_
                refine EC_cond rfl (fun hc74 => ?_) (fun hc74 => ?_)
                · (first | have hc74p := of_decide_eq_true hc74 | have hc74p := of_decide_eq_false hc74 | have hc74p := of_decide_eq_false (bnt hc74) | have hc74p := of_decide_eq_true (bnf hc74) | have hc74p := bnt hc74 | have hc74p := bnf hc74 | have hc74p := hc74); try dsimp only at hc74p
                  refine EC_rseq ?_
                  refine EL_run rfl (R_move rfl) ?_
                  refine EL_run rfl (R_lw (hs.at (i := 8) rfl) Try.isAgg30 Try.sizeOf30 rfl (Ptr.size _)) ?_
                  refine EL_op rfl (O_call hs [true, true, true, true, true, true, true, true] [2] rfl rfl rfl Try.call18 (kill_spec p g2 (layM q) (Ptr.of 2 5 q) (layM_ok hq1 hgo2 5)) (fun v es1 ds1 w hPhi hs => ?_))
                  obtain ⟨g3, rfl, hgo3, rfl, rfl⟩ := hPhi
                  rw [kill_own hq1] at hs hgo3
                  rw [kill_own hq1]
                  refine EL_run rfl (R_eql rfl rfl) ?_
                  refine EL_run rfl (R_move rfl) ?_
                  refine EL_split 79 rfl (fun hg4 => ?_) (fun hg4 => ?_)
                  · (first | have hg4p := of_decide_eq_true hg4 | have hg4p := of_decide_eq_false hg4 | have hg4p := of_decide_eq_false (bnt hg4) | have hg4p := of_decide_eq_true (bnf hg4) | have hg4p := bnt hg4 | have hg4p := bnf hg4 | have hg4p := hg4); try dsimp only at hg4p
                    refine EL_want rfl rfl hg4 ?_
                    refine EL_run rfl (R_move rfl) ?_
                    refine EL_want rfl rfl hg4 ?_
                    refine EL_run rfl (R_nilCheck rfl) ?_
                    refine EL_want rfl rfl hg4 ?_
                    refine EL_run rfl (R_field fo_40_1 rfl) ?_
                    refine EL_want rfl rfl hg4 ?_
                    refine EL_run rfl (R_lb (hs.at (i := 0) rfl) Try.isAgg38 rfl rfl) ?_
                    refine EL_want rfl rfl hg4 ?_
                    refine EL_op rfl (O_call hs [false, false, false, false, false, true, true, true] [3] rfl rfl rfl Try.call16 (alUse_spec g3.a g3.ag freeAl hgo3 freeAl_ok) (fun v es1 ds1 w hPhi hs => ?_))
                    obtain ⟨hv, rfl, rfl⟩ := hPhi
                    replace hv : v = .int .i64 0 := by rw [hv]; exact congrArg (Value.int .i64) (use_al hsq).2.1
                    subst hv
                    refine EL_want rfl rfl hg4 ?_
                    refine EL_run rfl (R_eql rfl rfl) ?_
                    refine EL_run rfl (R_pickT rfl hg4 rfl) ?_
                    refine EL_run rfl (R_move rfl) ?_
                    refine EL_split 87 rfl (fun hg12 => ?_) (fun hg12 => ?_)
                    · (first | have hg12p := of_decide_eq_true hg12 | have hg12p := of_decide_eq_false hg12 | have hg12p := of_decide_eq_false (bnt hg12) | have hg12p := of_decide_eq_true (bnf hg12) | have hg12p := bnt hg12 | have hg12p := bnf hg12 | have hg12p := hg12); try dsimp only at hg12p
                      refine EL_want rfl rfl hg12 ?_
                      refine EL_run rfl (R_move rfl) ?_
                      refine EL_want rfl rfl hg12 ?_
                      refine EL_run rfl (R_nilCheck rfl) ?_
                      refine EL_want rfl rfl hg12 ?_
                      refine EL_run rfl (R_field fo_40_4 rfl) ?_
                      refine EL_want rfl rfl hg12 ?_
                      refine EL_run rfl (R_lb (hs.at (i := 0) rfl) Try.isAgg22 rfl rfl) ?_
                      refine EL_want rfl rfl hg12 ?_
                      refine EL_run rfl (R_lenS Try.underlying22 rfl) ?_
                      refine EL_want rfl rfl hg12 ?_
                      refine EL_run rfl (R_eql rfl rfl) ?_
                      refine EL_run rfl (R_pickT rfl hg12 rfl) ?_
                      refine EL_run rfl (R_move rfl) ?_
                      refine EL_split 95 rfl (fun hg20 => ?_) (fun hg20 => ?_)
                      · (first | have hg20p := of_decide_eq_true hg20 | have hg20p := of_decide_eq_false hg20 | have hg20p := of_decide_eq_false (bnt hg20) | have hg20p := of_decide_eq_true (bnf hg20) | have hg20p := bnt hg20 | have hg20p := bnf hg20 | have hg20p := hg20); try dsimp only at hg20p
                        refine EL_want rfl rfl hg20 ?_
                        refine EL_run rfl (R_move rfl) ?_
                        refine EL_want rfl rfl hg20 ?_
                        refine EL_run rfl (R_lw (hs.at (i := 8) rfl) Try.isAgg30 Try.sizeOf30 rfl (Ptr.size _)) ?_
                        refine EL_want rfl rfl hg20 ?_
                        refine EL_op rfl (O_call hs [true, true, true, true, true, true, true, true] [3] rfl rfl rfl Try.call18 (kill_spec p g3 (goneM q) (Ptr.of 2 5 q) (goneM_ok hq1 hgo3)) (fun v es1 ds1 w hPhi hs => ?_))
                        obtain ⟨g4, rfl, hgo4, rfl, rfl⟩ := hPhi
                        rw [kill_again hq1] at hs hgo4
                        rw [kill_again hq1]
                        refine EL_want rfl rfl hg20 ?_
                        refine EL_run rfl (R_eql rfl rfl) ?_
                        refine EL_run rfl (R_pickT rfl hg20 rfl) ?_
                        refine EL_run rfl (R_assign rfl) ?_
                        refine EL_nil ?_
                        refine EC_ret ?_
                        refine Then_r ?_
                        exact ⟨[_], ⟨rfl, trivial⟩, _, _, ⟨rfl, rfl, rfl⟩, (hs.fin [] []).as rfl rfl⟩
                      · exact absurd (of_decide_eq_false hg20) (by simp [goneM, elderM, layM, fresh5, freshM, Ptr.of])
                    · exact absurd (of_decide_eq_false hg12) (by simp [goneM, elderM, layM, fresh5, freshM, Ptr.of])
                  · exact absurd (of_decide_eq_false hg4) (by simp [goneM, elderM, layM, fresh5, freshM, Ptr.of])
                · (first | have hc74p := of_decide_eq_true hc74 | have hc74p := of_decide_eq_false hc74 | have hc74p := of_decide_eq_false (bnt hc74) | have hc74p := of_decide_eq_true (bnf hc74) | have hc74p := bnt hc74 | have hc74p := bnf hc74 | have hc74p := hc74); try dsimp only at hc74p
                  refine EC_skip ?_
                  refine Then_n ?_
                  refine EC_rseq ?_
                  refine EL_run rfl (R_move rfl) ?_
                  refine EL_run rfl (R_nilCheck rfl) ?_
                  refine EL_run rfl (R_field fo_40_2 rfl) ?_
                  refine EL_op rfl (O_store hs (i := 0) rfl Try.sizeOf3 rfl rfl rfl rfl (fun w hs => ?_))
                  have hs := hs.as (es' := poE p g2 { layM q with epoch := 6 } ++ [blk b6 (Ptr.of 2 5 q).cells 30]) rfl rfl
                  refine EL_nil ?_
                  refine EC_dseqS hs [2, 8, 16, 18, 26, 27, 29, 36, 43, 49] [1, 19, 28, 38, 40] [8] [] (.take 0 (.take 1 (.fork 2 (.take 3 (.take 4 (.take 5 (.take 6 (.take 7 (.fork 8 (.take 9 (.take 10 (.take 11 (.take 12 (.take 13 (.take 14 (.take 15 (.take 19 (.fork 16 (.take 17 (.fork 18 (.take 20 (.take 21 (.take 22 (.take 23 (.take 24 (.take 25 (.take 28 (.fork 26 (.fork 27 (.fork 29 (.take 30 (.take 31 (.take 32 (.take 33 (.take 34 (.take 35 (.take 37 (.take 38 (.take 39 (.take 40 (.take 41 (.take 42 (.fork 36 (.fork 43 (.take 44 (.take 45 (.take 46 (.take 47 (.take 48 (.fork 49 (.take 50 (.take 51 (.take 52 .done))) (.done))))))) (.done)) (.done)))))))))))))) (.done)) (.done)) (.done))))))))) (.done))) (.done)))))))))) (.done))))))) (.done)))) mix_ok (by kernel_rfl) (fun w hs _ => ?_)
                  refine EP_take rfl rfl rfl (fun _ => R_move rfl) ?_
                  refine EP_read rfl rfl rfl (RdS.of hs rfl rfl) (fun _ hR => R_lw (hR.e 8 rfl rfl) Try.isAgg30 Try.sizeOf30 rfl (Ptr.size _)) ?_
                  refine EP_act rfl rfl (O_call hs [true, true, true, true, true, true, true, true] [2] rfl rfl rfl Try.call18 (kill_spec p g2 { layM q with epoch := 6 } (Ptr.of 2 5 q) (layM_ok hq1 hgo2 6)) (fun v es1 ds1 w hPhi hs => ?_))
                  obtain ⟨g3, rfl, hgo3, rfl, rfl⟩ := hPhi
                  rw [kill_elder hq1] at hs hgo3
                  rw [kill_elder hq1]
                  refine ⟨(fun _ => RdS.of hs rfl rfl), ?_⟩
                  refine EP_take rfl rfl rfl (fun _ => R_eql rfl rfl) ?_
                  refine EP_take rfl rfl rfl (fun _ => R_move rfl) ?_
                  refine EP_split 108 rfl (fun hg4 => ?_) (fun hg4 => ?_)
                  · (first | have hg4p := of_decide_eq_true hg4 | have hg4p := of_decide_eq_false hg4 | have hg4p := of_decide_eq_false (bnt hg4) | have hg4p := of_decide_eq_true (bnf hg4) | have hg4p := bnt hg4 | have hg4p := bnf hg4 | have hg4p := hg4); try dsimp only at hg4p
                    refine EP_takeG rfl rfl rfl hg4 rfl rfl (fun _ => R_move rfl) ?_
                    refine EP_takeG rfl rfl rfl hg4 rfl rfl (fun _ => R_nilCheck rfl) ?_
                    refine EP_takeG rfl rfl rfl hg4 rfl rfl (fun _ => R_field fo_40_4 rfl) ?_
                    refine EP_actG rfl rfl rfl hg4 rfl (EOp_val rfl (R_lb (hs.at (i := 0) rfl) Try.isAgg22 rfl rfl) ⟨(fun _ => RdS.of hs rfl rfl), ?_⟩)
                    refine EP_takeG rfl rfl rfl hg4 rfl rfl (fun _ => R_lenS Try.underlying22 rfl) ?_
                    refine EP_takeG rfl rfl rfl hg4 rfl rfl (fun _ => R_eql rfl rfl) ?_
                    refine EP_take rfl rfl rfl (fun _ => R_pickT rfl hg4 rfl) ?_
                    refine EP_take rfl rfl rfl (fun _ => R_move rfl) ?_
                    refine EP_split 116 rfl (fun hg12 => ?_) (fun hg12 => ?_)
                    · (first | have hg12p := of_decide_eq_true hg12 | have hg12p := of_decide_eq_false hg12 | have hg12p := of_decide_eq_false (bnt hg12) | have hg12p := of_decide_eq_true (bnf hg12) | have hg12p := bnt hg12 | have hg12p := bnf hg12 | have hg12p := hg12); try dsimp only at hg12p
                      refine EP_takeG rfl rfl rfl hg12 rfl rfl (fun _ => R_move rfl) ?_
                      refine EP_takeG rfl rfl rfl hg12 rfl rfl (fun _ => R_nilCheck rfl) ?_
                      refine EP_takeG rfl rfl rfl hg12 rfl rfl (fun _ => R_field fo_40_4 rfl) ?_
                      refine EP_readG rfl rfl rfl hg12 rfl rfl (RdS.of hs rfl rfl) (fun _ hR => R_lw (hR.e 8 rfl rfl) Try.isAgg30 Try.sizeOf30 rfl (Ptr.size _)) ?_
                      refine EP_actG rfl rfl rfl hg12 rfl (EOp_val rfl (R_lb (hs.at (i := 0) rfl) Try.isAgg22 rfl rfl) ⟨(fun _ => RdS.of hs rfl rfl), ?_⟩)
                      obtain ⟨bb, oo, hko⟩ := dSlsomeF (f := Ptr.l) (l := [Ptr.of 2 5 q]) (i := 0) (oSl.toD (hs.at (i := 1) rfl)) Ptr.len_l (by decide) (by simp)
                      have hkd : (dSl (some ⟨bb, oo, none⟩) 1 g3.kc 36 ([Ptr.of 2 5 q].flatMap Ptr.l)).P w := by
                        have h := oSl.toD (hs.at (i := 1) rfl)
                        rw [hko] at h
                        exact h
                      refine EP_takeG rfl rfl rfl hg12 rfl rfl (fun _ => R_idx es_22 rfl hko rfl (by simp) (by simp [elderM])) ?_
                      refine EP_actG rfl rfl rfl hg12 rfl (EOp_val rfl (R_ldE (l := [Ptr.of 2 5 q]) (i := 0) hkd Ptr.len_l Try.isAgg30 Try.sizeOf30 rfl (by simp) rfl (by decide)) ⟨(fun _ => RdS.of hs rfl rfl), ?_⟩)
                      refine EP_takeG rfl rfl rfl hg12 rfl rfl (fun _ => R_eqlPtr ptrT rfl rfl) ?_
                      refine EP_take rfl rfl rfl (fun _ => R_pickT rfl hg12 rfl) ?_
                      refine EP_take rfl rfl rfl (fun _ => R_move rfl) ?_
                      refine EP_split 126 rfl (fun hg22 => ?_) (fun hg22 => ?_)
                      · (first | have hg22p := of_decide_eq_true hg22 | have hg22p := of_decide_eq_false hg22 | have hg22p := of_decide_eq_false (bnt hg22) | have hg22p := of_decide_eq_true (bnf hg22) | have hg22p := bnt hg22 | have hg22p := bnf hg22 | have hg22p := hg22); try dsimp only at hg22p
                        refine EP_takeG rfl rfl rfl hg22 rfl rfl (fun _ => R_move rfl) ?_
                        refine EP_takeG rfl rfl rfl hg22 rfl rfl (fun _ => R_nilCheck rfl) ?_
                        refine EP_takeG rfl rfl rfl hg22 rfl rfl (fun _ => R_field fo_40_1 rfl) ?_
                        refine EP_readG rfl rfl rfl hg22 rfl rfl (RdS.of hs rfl rfl) (fun _ hR => R_lw (hR.e 8 rfl rfl) Try.isAgg30 Try.sizeOf30 rfl (Ptr.size _)) ?_
                        refine EP_actG rfl rfl rfl hg22 rfl (EOp_val rfl (R_lb (hs.at (i := 0) rfl) Try.isAgg38 rfl rfl) ⟨(fun _ => RdS.of hs rfl rfl), ?_⟩)
                        refine EP_actG rfl rfl rfl hg22 rfl (O_call hs [false, false, false, false, false, true, true, true] [3] rfl rfl rfl Try.call16 (alUse_spec g3.a g3.ag (layM q).al hgo3 (layAl_ok hsq)) (fun v es1 ds1 w hPhi hs => ?_))
                        obtain ⟨hv, rfl, rfl⟩ := hPhi
                        replace hv : v = .int .i64 (sectors (q.length : Int)) := by rw [hv]; exact congrArg (Value.int .i64) (use_al hsq).1
                        subst hv
                        refine ⟨(fun _ => RdS.of hs rfl rfl), ?_⟩
                        refine EP_actG rfl rfl rfl hg22 rfl (O_call hs [] [] rfl rfl rfl Try.call17 (sectors_spec (Ptr.of 2 5 q)) (fun v es1 ds1 w hPhi hs => ?_))
                        obtain ⟨rfl, rfl, rfl⟩ := hPhi
                        refine ⟨(fun _ => RdS.of hs rfl rfl), ?_⟩
                        refine EP_takeG rfl rfl rfl hg22 rfl rfl (fun _ => R_eql rfl rfl) ?_
                        refine EP_take rfl rfl rfl (fun _ => R_pickT rfl hg22 rfl) ?_
                        refine EP_take rfl rfl rfl (fun _ => R_move rfl) ?_
                        refine EP_split 136 rfl (fun hg32 => ?_) (fun hg32 => ?_)
                        · (first | have hg32p := of_decide_eq_true hg32 | have hg32p := of_decide_eq_false hg32 | have hg32p := of_decide_eq_false (bnt hg32) | have hg32p := of_decide_eq_true (bnf hg32) | have hg32p := bnt hg32 | have hg32p := bnf hg32 | have hg32p := hg32); try dsimp only at hg32p
                          refine EP_takeG rfl rfl rfl hg32 rfl rfl (fun _ => R_move rfl) ?_
                          refine EP_takeG rfl rfl rfl hg32 rfl rfl (fun _ => R_nilCheck rfl) ?_
                          refine EP_takeG rfl rfl rfl hg32 rfl rfl (fun _ => R_field fo_40_1 rfl) ?_
                          refine EP_takeG rfl rfl rfl hg32 rfl rfl (fun _ => R_field fo_30_0 rfl) ?_
                          refine EP_readG rfl rfl rfl hg32 rfl rfl (RdS.of hs rfl rfl) (fun _ hR => R_lb (hR.e 8 rfl rfl) Try.isAgg3 rfl rfl) ?_
                          refine EP_takeG rfl rfl rfl hg32 rfl rfl (fun _ => R_field fo_30_0 rfl) ?_
                          refine EP_readG rfl rfl rfl hg32 rfl rfl (RdS.of hs rfl rfl) (fun _ hR => R_lb (hR.e 8 rfl rfl) Try.isAgg3 rfl rfl) ?_
                          refine EP_takeG rfl rfl rfl hg32 rfl rfl (fun _ => R_addI rfl rfl (by simp [Ptr.of])) ?_
                          refine EP_takeG rfl rfl rfl hg32 rfl rfl (fun _ => R_buildS (cs := (Sp.mk 2 3).l.toArray) [(0, .tmp 142), (1, .tmp 145)] pl_49 Try.zeroValue49 rfl rfl rfl) ?_
                          refine EP_actG rfl rfl rfl hg32 rfl (EOp_val rfl (R_lb (hs.at (i := 0) rfl) Try.isAgg38 rfl rfl) ⟨(fun _ => RdS.of hs rfl rfl), ?_⟩)
                          refine EP_actG rfl rfl rfl hg32 rfl (O_call hs [false, false, false, false, false, true, true, true] [3] rfl rfl rfl Try.call19 (alLater_spec g3.a g3.ag (layM q).al ⟨2, 3⟩ hgo3 (layAl_ok hsq)) (fun v es1 ds1 w hPhi hs => ?_))
                          obtain ⟨g4, rfl, hgo4, ⟨e1, e2, e3, e4⟩, rfl, rfl⟩ := hPhi
                          have hfr := alLater_free (layM q).al ⟨2, 3⟩
                          have hs := hs.as (ds' := [dB ao c q, _, _, dS g4.fo g4.fc (alLater (layM q).al ⟨2, 3⟩).1.free]) rfl (by rw [hfr, e1, e2]; rfl)
                          have hmc : g4.mb = g4.mb := rfl
                          refine ⟨(fun _ => RdS.of hs rfl rfl), ?_⟩
                          refine EP_takeG rfl rfl rfl hg32 rfl rfl (fun _ => R_eql rfl rfl) ?_
                          refine EP_take rfl rfl rfl (fun _ => R_pickT rfl hg32 rfl) ?_
                          refine EP_take rfl rfl rfl (fun _ => R_move rfl) ?_
                          refine EP_split 150 rfl (fun hg46 => ?_) (fun hg46 => ?_)
                          · (first | have hg46p := of_decide_eq_true hg46 | have hg46p := of_decide_eq_false hg46 | have hg46p := of_decide_eq_false (bnt hg46) | have hg46p := of_decide_eq_true (bnf hg46) | have hg46p := bnt hg46 | have hg46p := bnf hg46 | have hg46p := hg46); try dsimp only at hg46p
                            refine EP_takeG rfl rfl rfl hg46 rfl rfl (fun _ => R_move rfl) ?_
                            refine EP_takeG rfl rfl rfl hg46 rfl rfl (fun _ => R_buildS (cs := Ptr.none.cells) [] pl_30 Try.zeroValue30 rfl rfl rfl) ?_
                            refine EP_actG rfl rfl rfl hg46 rfl (O_call hs [true, true, true, true, true, true, true, true] [3] rfl rfl rfl Try.call18 (kill_spec p { g3 with ag := g4 } { elderM q with al := (alLater (layM q).al ⟨2, 3⟩).1 } Ptr.none (elderM_ok hq1 hgo4)) (fun v es1 ds1 w hPhi hs => ?_))
                            obtain ⟨g5, rfl, hgo5, rfl, rfl⟩ := hPhi
                            rw [kill_none]
                            refine ⟨(fun _ => RdS.of hs rfl rfl), ?_⟩
                            refine EP_takeG rfl rfl rfl hg46 rfl rfl (fun _ => R_eql rfl rfl) ?_
                            refine EP_take rfl rfl rfl (fun _ => R_pickT rfl hg46 rfl) ?_
                            refine EP_take rfl rfl rfl (fun _ => R_assign rfl) ?_
                            refine EP_done ?_
                            refine EC_ret ?_
                            exact ⟨[_], ⟨rfl, trivial⟩, _, _, ⟨rfl, rfl, rfl⟩, (hs.fin [] []).as rfl rfl⟩
                          · exact absurd (use_al hsq).2.2 (of_decide_eq_false hg46)
                        · exact absurd (of_decide_eq_false hg32) (by simp [goneM, elderM, layM, fresh5, freshM, Ptr.of])
                      · exact absurd (of_decide_eq_false hg22) (by simp [goneM, elderM, layM, fresh5, freshM, Ptr.of])
                    · exact absurd (of_decide_eq_false hg12) (by simp [goneM, elderM, layM, fresh5, freshM, Ptr.of])
                  · exact absurd (of_decide_eq_false hg4) (by simp [goneM, elderM, layM, fresh5, freshM, Ptr.of])
end Go.Proofs.Ytpcojkbljgpecaa
