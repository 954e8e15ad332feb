/- Walks, part 7: sectors on a disk, blocks. -/
import Derived.Test.YtpcojkbljgpecaaW4
import Derived.Test.YtpcojkbljgpecaaM6
namespace Go.Proofs.Ytpcojkbljgpecaa
open Go
theorem sec_zero : (Value.agg Try.zeroCells98).cells = Sec.zero.l.toArray := by kernel_rfl
theorem zeroSec_size : (Value.agg Try.zeroCells98).cells.size = 512 := by rw [sec_zero]; simp [Sec.len]
theorem diNew_fill (n b11 b12 : Nat) : Instr.fill (fun i => [(0, 1), (1, 1), (2, 1), (3, 1), (4, 1)][i]?) #[.slice none 0 0, .map none, .bool false, .int .i64 0, .bool false] [(0, .slice (some ⟨b11, 0, none⟩) n n), (1, .map (some b12))] = some #[.slice (some ⟨b11, 0, none⟩) n n, .map (some b12), .bool false, .int .i64 0, .bool false] := by kernel_rfl
theorem diNew_es (d b11 b12 n : Nat) : diE d ⟨b11, b12⟩ (diNew n) = [blk d #[.slice (some ⟨b11, 0, none⟩) n n, .map (some b12), .bool false, .int .i64 0, .bool false] 78, oSl (.slice (some ⟨b11, 0, none⟩) n n) 98 512 n ((List.replicate n Sec.zero).flatMap Sec.l), mpA b12 []] := by
  simp [diE, diSl, diNew, diCells, diMap]
set_option maxRecDepth 100000 in
theorem diNone_spec (d : Nat) (g : DiG) (m : DiM) {w0 : World} : Spec Try.prog 63 #[.pointer (some ⟨d, 0, none⟩)] w0 [blk d (diCells g m) 78] [] (fun v es1 ds1 => v = .bool false ∧ es1 = [blk d (diCells g m) 78] ∧ ds1 = []) := by
  refine Spec.intro (fun F D hs => ?_)
  refine Calls_of_EC (args := [.pointer (some ⟨d, 0, none⟩)]) Try.func63 rfl rfl rfl ?_
  refine EC_rseq ?_
  refine EL_run rfl (R_assign rfl) ?_
  refine EL_nil ?_
  refine EC_rseq ?_
  refine EL_run rfl (R_move rfl) ?_
  refine EL_run rfl (R_eqlPtrNil Try.underlying37 rfl rfl) ?_
  refine EL_run rfl (R_move rfl) ?_
  refine EL_split 5 rfl (fun hg2 => ?_) (fun hg2 => ?_)
  · exact Bool.noConfusion hg2
  · (first | have hg2p := of_decide_eq_true hg2 | have hg2p := of_decide_eq_false hg2 | have hg2p := of_decide_eq_false (bnt hg2) | have hg2p := of_decide_eq_true (bnf hg2) | have hg2p := bnt hg2 | have hg2p := bnf hg2 | have hg2p := hg2); try dsimp only at hg2p
    refine EL_want rfl rfl hg2 ?_
    refine EL_run rfl (R_move rfl) ?_
    refine EL_want rfl rfl hg2 ?_
    refine EL_run rfl (R_nilCheck rfl) ?_
    refine EL_want rfl rfl hg2 ?_
    refine EL_run rfl (R_field fo_78_0 rfl) ?_
    refine EL_want rfl rfl hg2 ?_
    refine EL_run rfl (R_lb (hs.at (i := 0) rfl) Try.isAgg75 rfl rfl) ?_
    refine EL_want rfl rfl hg2 ?_
    refine EL_run rfl (R_eqlSlNil Try.underlying75 rfl rfl) ?_
    refine EL_run rfl (R_pickF rfl hg2 rfl) ?_
    refine EL_run rfl (R_assign rfl) ?_
    refine EL_nil ?_
    refine EC_ret ?_
    exact ⟨[_], ⟨rfl, trivial⟩, _, _, ⟨rfl, rfl, rfl⟩, (hs.fin [true] []).as rfl rfl⟩

set_option maxRecDepth 100000 in
theorem diLen_spec (d : Nat) (g : DiG) (m : DiM) {w0 : World} : Spec Try.prog 44 #[.pointer (some ⟨d, 0, none⟩)] w0 [blk d (diCells g m) 78] [] (fun v es1 ds1 => v = .int .i64 (m.lasts.length : Int) ∧ es1 = [blk d (diCells g m) 78] ∧ ds1 = []) := by
  refine Spec.intro (fun F D hs => ?_)
  refine Calls_of_EC (args := [.pointer (some ⟨d, 0, none⟩)]) Try.func44 rfl rfl rfl ?_
  refine EC_rseq ?_
  refine EL_run rfl (R_assign rfl) ?_
  refine EL_nil ?_
  refine EC_seq ?_
  refine EC_rseq ?_
  refine EL_run rfl (R_move rfl) ?_
  refine EL_op rfl (O_call hs [true] [] rfl rfl rfl Try.call63 (diNone_spec d g m) (fun v es1 ds1 w hPhi hs => ?_))
  obtain ⟨rfl, rfl, rfl⟩ := hPhi
  refine EL_nil ?_
  refine EC_cond rfl (fun hc4 => ?_) (fun hc4 => ?_)
  · exact Bool.noConfusion hc4
  · (first | have hc4p := of_decide_eq_true hc4 | have hc4p := of_decide_eq_false hc4 | have hc4p := of_decide_eq_false (bnt hc4) | have hc4p := of_decide_eq_true (bnf hc4) | have hc4p := bnt hc4 | have hc4p := bnf hc4 | have hc4p := hc4); try dsimp only at hc4p
    refine EC_skip ?_
    refine Then_n ?_
    refine EC_rseq ?_
    refine EL_run rfl (R_move rfl) ?_
    refine EL_run rfl (R_nilCheck rfl) ?_
    refine EL_run rfl (R_field fo_78_0 rfl) ?_
    refine EL_run rfl (R_lb (hs.at (i := 0) rfl) Try.isAgg75 rfl rfl) ?_
    refine EL_run rfl (R_lenS Try.underlying75 rfl) ?_
    refine EL_run rfl (R_assign rfl) ?_
    refine EL_nil ?_
    refine EC_ret ?_
    exact ⟨[_], ⟨rfl, trivial⟩, _, _, ⟨rfl, rfl, rfl⟩, (hs.fin [true] []).as rfl rfl⟩

set_option maxRecDepth 100000 in
theorem diCheck_spec (d : Nat) (g : DiG) (m : DiM) (i : Int) {w0 : World} : Spec Try.prog 66 #[.pointer (some ⟨d, 0, none⟩), .int .i64 i] w0 [blk d (diCells g m) 78] [] (fun v es1 ds1 => v = .int .i64 (diCheck m i) ∧ es1 = [blk d (diCells g m) 78] ∧ ds1 = []) := by
  refine Spec.intro (fun F D hs => ?_)
  refine Calls_of_EC (args := [.pointer (some ⟨d, 0, none⟩), .int .i64 i]) Try.func66 rfl rfl rfl ?_
  refine EC_rseq ?_
  refine EL_run rfl (R_assign rfl) ?_
  refine EL_nil ?_
  refine EC_seq ?_
  refine EC_block ?_
  refine EC_rseq ?_
  refine EL_run rfl (R_move rfl) ?_
  refine EL_op rfl (O_call hs [true] [] rfl rfl rfl Try.call63 (diNone_spec d g m) (fun v es1 ds1 w hPhi hs => ?_))
  obtain ⟨rfl, rfl, rfl⟩ := hPhi
  refine EL_run rfl (R_assign rfl) ?_
  refine EL_nil ?_
  refine EC_cond rfl (fun hc5 => ?_) (fun hc5 => ?_)
  · exact Bool.noConfusion hc5
  · (first | have hc5p := of_decide_eq_true hc5 | have hc5p := of_decide_eq_false hc5 | have hc5p := of_decide_eq_false (bnt hc5) | have hc5p := of_decide_eq_true (bnf hc5) | have hc5p := bnt hc5 | have hc5p := bnf hc5 | have hc5p := hc5); try dsimp only at hc5p
    refine EC_rseq ?_
    refine EL_run rfl (R_move rfl) ?_
    refine EL_run rfl (R_lss rfl rfl) ?_
    refine EL_run rfl (R_move rfl) ?_
    refine EL_split 11 rfl (fun hg2 => ?_) (fun hg2 => ?_)
    · (first | have hg2p := of_decide_eq_true hg2 | have hg2p := of_decide_eq_false hg2 | have hg2p := of_decide_eq_false (bnt hg2) | have hg2p := of_decide_eq_true (bnf hg2) | have hg2p := bnt hg2 | have hg2p := bnf hg2 | have hg2p := hg2); try dsimp only at hg2p
      refine EL_pass rfl rfl rfl hg2 ?_
      refine EL_pass rfl rfl rfl hg2 ?_
      refine EL_pass rfl rfl rfl hg2 ?_
      refine EL_pass rfl rfl rfl hg2 ?_
      refine EL_pass rfl rfl rfl hg2 ?_
      refine EL_pass rfl rfl rfl hg2 ?_
      refine EL_pass rfl rfl rfl hg2 ?_
      refine EL_run rfl (R_pickT rfl hg2 rfl) ?_
      refine EL_run rfl (R_assign rfl) ?_
      refine EL_nil ?_
      refine EC_cond rfl (fun hcx => ?_) (fun hcx => ?_)
      · skip
        refine EC_rseq ?_
        refine EL_run rfl (R_assign rfl) ?_
        refine EL_nil ?_
        refine EC_ret ?_
        refine InBlock_r ?_
        refine Then_r ?_
        exact ⟨[_], ⟨rfl, trivial⟩, _, _, ⟨by rw [diCheck, if_pos (by omega)]; rfl, rfl, rfl⟩, (hs.fin [true] []).as rfl rfl⟩
      · exact Bool.noConfusion hcx
    · (first | have hg2p := of_decide_eq_true hg2 | have hg2p := of_decide_eq_false hg2 | have hg2p := of_decide_eq_false (bnt hg2) | have hg2p := of_decide_eq_true (bnf hg2) | have hg2p := bnt hg2 | have hg2p := bnf hg2 | have hg2p := hg2); try dsimp only at hg2p
      refine EL_want rfl rfl hg2 ?_
      refine EL_run rfl (R_move rfl) ?_
      refine EL_want rfl rfl hg2 ?_
      refine EL_run rfl (R_move rfl) ?_
      refine EL_want rfl rfl hg2 ?_
      refine EL_run rfl (R_nilCheck rfl) ?_
      refine EL_want rfl rfl hg2 ?_
      refine EL_run rfl (R_field fo_78_0 rfl) ?_
      refine EL_want rfl rfl hg2 ?_
      refine EL_run rfl (R_lb (hs.at (i := 0) rfl) Try.isAgg75 rfl rfl) ?_
      refine EL_want rfl rfl hg2 ?_
      refine EL_run rfl (R_lenS Try.underlying75 rfl) ?_
      refine EL_want rfl rfl hg2 ?_
      refine EL_run rfl (R_geq rfl rfl) ?_
      refine EL_run rfl (R_pickF rfl hg2 rfl) ?_
      refine EL_run rfl (R_assign rfl) ?_
      refine EL_nil ?_
      refine EC_cond rfl (fun hc8 => ?_) (fun hc8 => ?_)
      · (first | have hc8p := of_decide_eq_true hc8 | have hc8p := of_decide_eq_false hc8 | have hc8p := of_decide_eq_false (bnt hc8) | have hc8p := of_decide_eq_true (bnf hc8) | have hc8p := bnt hc8 | have hc8p := bnf hc8 | have hc8p := hc8); try dsimp only at hc8p
        refine EC_rseq ?_
        refine EL_run rfl (R_assign rfl) ?_
        refine EL_nil ?_
        refine EC_ret ?_
        refine InBlock_r ?_
        refine Then_r ?_
        exact ⟨[_], ⟨rfl, trivial⟩, _, _, ⟨by rw [diCheck, if_pos (by omega)]; rfl, rfl, rfl⟩, (hs.fin [true] []).as rfl rfl⟩
      · (first | have hc8p := of_decide_eq_true hc8 | have hc8p := of_decide_eq_false hc8 | have hc8p := of_decide_eq_false (bnt hc8) | have hc8p := of_decide_eq_true (bnf hc8) | have hc8p := bnt hc8 | have hc8p := bnf hc8 | have hc8p := hc8); try dsimp only at hc8p
        refine EC_skip ?_
        refine InBlock_n ?_
        refine Then_n ?_
        refine EC_rseq ?_
        refine EL_run rfl (R_assign rfl) ?_
        refine EL_nil ?_
        refine EC_ret ?_
        exact ⟨[_], ⟨rfl, trivial⟩, _, _, ⟨by rw [diCheck, if_neg (by omega)]; rfl, rfl, rfl⟩, (hs.fin [true] []).as rfl rfl⟩

set_option maxRecDepth 100000 in
theorem diSpend_spec (d : Nat) (g : DiG) (m : DiM) {w0 : World} (hm : m.ok) : Spec Try.prog 67 #[.pointer (some ⟨d, 0, none⟩)] w0 [blk d (diCells g m) 78] [] (fun v es1 ds1 => v = .int .i64 (diSpend m).2 ∧ es1 = [blk d (diCells g (diSpend m).1) 78] ∧ ds1 = []) := by
  refine Spec.intro (fun F D hs => ?_)
  refine Calls_of_EC (args := [.pointer (some ⟨d, 0, none⟩)]) Try.func67 rfl rfl rfl ?_
  refine EC_rseq ?_
  refine EL_run rfl (R_assign rfl) ?_
  refine EL_nil ?_
  refine EC_cut (fun ρ w => Slots ρ [(0, .pointer (some ⟨d, 0, none⟩))] ∧ St w0 F D [blk d (diCells g { m with gone := diGone m }) 78] [] w) ?_ ?_
  · skip
    refine EC_region ?_
    refine EL_run rfl (R_move rfl) ?_
    refine EL_run rfl (R_move rfl) ?_
    refine EL_run rfl (R_nilCheck rfl) ?_
    refine EL_run rfl (R_field fo_78_4 rfl) ?_
    refine EL_run rfl (R_lb (hs.at (i := 0) rfl) Try.isAgg4 rfl rfl) ?_
    refine EL_run rfl (R_move rfl) ?_
    refine EL_split 8 rfl (fun hg5 => ?_) (fun hg5 => ?_)
    · (first | have hg5p := of_decide_eq_true hg5 | have hg5p := of_decide_eq_false hg5 | have hg5p := of_decide_eq_false (bnt hg5) | have hg5p := of_decide_eq_true (bnf hg5) | have hg5p := bnt hg5 | have hg5p := bnf hg5 | have hg5p := hg5); try dsimp only at hg5p
      refine EL_pass rfl rfl rfl hg5 ?_
      refine EL_pass rfl rfl rfl hg5 ?_
      refine EL_pass rfl rfl rfl hg5 ?_
      refine EL_pass rfl rfl rfl hg5 ?_
      refine EL_pass rfl rfl rfl hg5 ?_
      refine EL_passU rfl rfl rfl ?_
      refine EL_passU rfl rfl rfl ?_
      refine EL_passU rfl rfl rfl ?_
      refine EL_passU rfl rfl rfl ?_
      refine EL_passU rfl rfl rfl ?_
      refine EL_pass rfl rfl rfl hg5 ?_
      refine EL_run rfl (R_pickT rfl hg5 rfl) ?_
      skip
      refine EL_run rfl (R_nilCheck rfl) ?_
      refine EL_run rfl (R_field fo_78_4 rfl) ?_
      refine EL_op rfl (O_store hs (i := 0) rfl Try.sizeOf4 rfl rfl rfl rfl (fun w hs => ?_))
      refine EL_nil ?_
      refine Then_n ?_
      exact ⟨⟨rfl, trivial⟩, hs.as (by
        first
          | (rw [show diGone m = true by unfold diGone; rw [hg5p]; rfl]; rfl)
          | (rw [show diGone m = false by unfold diGone; rw [hg5p, hg10p]; rfl]; rfl)
          | (rw [show diGone m = decide (m.left = 0) by unfold diGone; rw [hg5p, hg10p]; rfl]; rfl)) rfl⟩
    · (first | have hg5p := of_decide_eq_true hg5 | have hg5p := of_decide_eq_false hg5 | have hg5p := of_decide_eq_false (bnt hg5) | have hg5p := of_decide_eq_true (bnf hg5) | have hg5p := bnt hg5 | have hg5p := bnf hg5 | have hg5p := hg5); try dsimp only at hg5p
      refine EL_want rfl rfl hg5 ?_
      refine EL_run rfl (R_move rfl) ?_
      refine EL_want rfl rfl hg5 ?_
      refine EL_run rfl (R_nilCheck rfl) ?_
      refine EL_want rfl rfl hg5 ?_
      refine EL_run rfl (R_field fo_78_2 rfl) ?_
      refine EL_want rfl rfl hg5 ?_
      refine EL_run rfl (R_lb (hs.at (i := 0) rfl) Try.isAgg4 rfl rfl) ?_
      refine EL_want rfl rfl hg5 ?_
      refine EL_run rfl (R_move rfl) ?_
      refine EL_split 13 rfl (fun hg10 => ?_) (fun hg10 => ?_)
      · (first | have hg10p := of_decide_eq_true hg10 | have hg10p := of_decide_eq_false hg10 | have hg10p := of_decide_eq_false (bnt hg10) | have hg10p := of_decide_eq_true (bnf hg10) | have hg10p := bnt hg10 | have hg10p := bnf hg10 | have hg10p := hg10); try dsimp only at hg10p
        refine EL_want rfl rfl hg10 ?_
        refine EL_run rfl (R_move rfl) ?_
        refine EL_want rfl rfl hg10 ?_
        refine EL_run rfl (R_nilCheck rfl) ?_
        refine EL_want rfl rfl hg10 ?_
        refine EL_run rfl (R_field fo_78_3 rfl) ?_
        refine EL_want rfl rfl hg10 ?_
        refine EL_run rfl (R_lb (hs.at (i := 0) rfl) Try.isAgg3 rfl rfl) ?_
        refine EL_want rfl rfl hg10 ?_
        refine EL_run rfl (R_eql rfl rfl) ?_
        refine EL_want rfl rfl hg5 ?_
        refine EL_run rfl (R_pickT rfl hg10 rfl) ?_
        refine EL_run rfl (R_pickF rfl hg5 rfl) ?_
        skip
        refine EL_run rfl (R_nilCheck rfl) ?_
        refine EL_run rfl (R_field fo_78_4 rfl) ?_
        refine EL_op rfl (O_store hs (i := 0) rfl Try.sizeOf4 rfl rfl rfl rfl (fun w hs => ?_))
        refine EL_nil ?_
        refine Then_n ?_
        exact ⟨⟨rfl, trivial⟩, hs.as (by
          first
            | (rw [show diGone m = true by unfold diGone; rw [hg5p]; rfl]; rfl)
            | (rw [show diGone m = false by unfold diGone; rw [hg5p, hg10p]; rfl]; rfl)
            | (rw [show diGone m = decide (m.left = 0) by unfold diGone; rw [hg5p, hg10p]; rfl]; rfl)) rfl⟩
      · (first | have hg10p := of_decide_eq_true hg10 | have hg10p := of_decide_eq_false hg10 | have hg10p := of_decide_eq_false (bnt hg10) | have hg10p := of_decide_eq_true (bnf hg10) | have hg10p := bnt hg10 | have hg10p := bnf hg10 | have hg10p := hg10); try dsimp only at hg10p
        refine EL_pass rfl rfl rfl hg10 ?_
        refine EL_pass rfl rfl rfl hg10 ?_
        refine EL_pass rfl rfl rfl hg10 ?_
        refine EL_pass rfl rfl rfl hg10 ?_
        refine EL_pass rfl rfl rfl hg10 ?_
        refine EL_want rfl rfl hg5 ?_
        refine EL_run rfl (R_pickF rfl hg10 rfl) ?_
        refine EL_run rfl (R_pickF rfl hg5 rfl) ?_
        skip
        refine EL_run rfl (R_nilCheck rfl) ?_
        refine EL_run rfl (R_field fo_78_4 rfl) ?_
        refine EL_op rfl (O_store hs (i := 0) rfl Try.sizeOf4 rfl rfl rfl rfl (fun w hs => ?_))
        refine EL_nil ?_
        refine Then_n ?_
        exact ⟨⟨rfl, trivial⟩, hs.as (by
          first
            | (rw [show diGone m = true by unfold diGone; rw [hg5p]; rfl]; rfl)
            | (rw [show diGone m = false by unfold diGone; rw [hg5p, hg10p]; rfl]; rfl)
            | (rw [show diGone m = decide (m.left = 0) by unfold diGone; rw [hg5p, hg10p]; rfl]; rfl)) rfl⟩
  · rintro ρ w ⟨hsl, hs⟩
    refine EC_slots _ hsl ?_
    obtain ⟨m2, hm2⟩ : ∃ m2, m2 = { m with gone := diGone m } := ⟨_, rfl⟩
    rw [← hm2] at hs
    have hleft : 0 ≤ m2.left ∧ m2.left ≤ 1000000000000 := by rw [hm2]; exact hm.left
    have hgo : m2.gone = diGone m := by rw [hm2]
    have hfu : m2.fused = m.fused := by rw [hm2]
    refine EC_seq ?_
    refine EC_rseq ?_
    refine EL_run rfl (R_move rfl) ?_
    refine EL_run rfl (R_nilCheck rfl) ?_
    refine EL_run rfl (R_field fo_78_4 rfl) ?_
    refine EL_run rfl (R_lb (hs.at (i := 0) rfl) Try.isAgg4 rfl rfl) ?_
    refine EL_nil ?_
    refine EC_cond rfl (fun hc26 => ?_) (fun hc26 => ?_)
    · (first | have hc26p := of_decide_eq_true hc26 | have hc26p := of_decide_eq_false hc26 | have hc26p := of_decide_eq_false (bnt hc26) | have hc26p := of_decide_eq_true (bnf hc26) | have hc26p := bnt hc26 | have hc26p := bnf hc26 | have hc26p := hc26); try dsimp only at hc26p
      have hgv : diSpend m = ({ m with gone := true }, 17) := by rw [diSpend, if_pos (hgo ▸ hc26p)]
      have hm3 : m2 = { m with gone := true } := by rw [hm2, ← hgo, hc26p]
      refine EC_rseq ?_
      refine EL_run rfl (R_assign rfl) ?_
      refine EL_nil ?_
      refine EC_ret ?_
      refine Then_r ?_
      exact ⟨[_], ⟨rfl, trivial⟩, _, _, ⟨by rw [hgv]; rfl, rfl, rfl⟩, (hs.fin [true] []).as (by rw [hgv, hm3]; rfl) rfl⟩
    · (first | have hc26p := of_decide_eq_true hc26 | have hc26p := of_decide_eq_false hc26 | have hc26p := of_decide_eq_false (bnt hc26) | have hc26p := of_decide_eq_true (bnf hc26) | have hc26p := bnt hc26 | have hc26p := bnf hc26 | have hc26p := hc26); try dsimp only at hc26p
      have hgn : ¬ diGone m = true := by rw [← hgo, hc26p]; exact Bool.noConfusion
      have hm3 : m2 = { m with gone := false } := by rw [hm2, ← hgo, hc26p]
      refine EC_skip ?_
      refine Then_n ?_
      refine EC_seq ?_
      refine EC_rseq ?_
      refine EL_run rfl (R_move rfl) ?_
      refine EL_run rfl (R_nilCheck rfl) ?_
      refine EL_run rfl (R_field fo_78_2 rfl) ?_
      refine EL_run rfl (R_lb (hs.at (i := 0) rfl) Try.isAgg4 rfl rfl) ?_
      refine EL_nil ?_
      refine EC_cond rfl (fun hc30 => ?_) (fun hc30 => ?_)
      · (first | have hc30p := of_decide_eq_true hc30 | have hc30p := of_decide_eq_false hc30 | have hc30p := of_decide_eq_false (bnt hc30) | have hc30p := of_decide_eq_true (bnf hc30) | have hc30p := bnt hc30 | have hc30p := bnf hc30 | have hc30p := hc30); try dsimp only at hc30p
        have hgv : diSpend m = ({ m with gone := false, left := m.left - 1 }, 0) := by rw [diSpend, if_neg hgn, if_pos (hfu ▸ hc30p)]
        refine EC_region ?_
        refine EL_run rfl (R_move rfl) ?_
        refine EL_run rfl (R_nilCheck rfl) ?_
        refine EL_run rfl (R_field fo_78_3 rfl) ?_
        refine EL_run rfl (R_lb (hs.at (i := 0) rfl) Try.isAgg3 rfl rfl) ?_
        refine EL_run rfl (R_subI rfl rfl (by omega)) ?_
        refine EL_run rfl (R_nilCheck rfl) ?_
        refine EL_run rfl (R_field fo_78_3 rfl) ?_
        refine EL_op rfl (O_store hs (i := 0) rfl Try.sizeOf3 rfl rfl rfl rfl (fun w hs => ?_))
        refine EL_nil ?_
        refine Then_n ?_
        refine EC_rseq ?_
        refine EL_run rfl (R_assign rfl) ?_
        refine EL_nil ?_
        refine EC_ret ?_
        exact ⟨[_], ⟨rfl, trivial⟩, _, _, ⟨by rw [hgv]; rfl, rfl, rfl⟩, (hs.fin [true] []).as (by rw [hgv, hm3]; rfl) rfl⟩
      · (first | have hc30p := of_decide_eq_true hc30 | have hc30p := of_decide_eq_false hc30 | have hc30p := of_decide_eq_false (bnt hc30) | have hc30p := of_decide_eq_true (bnf hc30) | have hc30p := bnt hc30 | have hc30p := bnf hc30 | have hc30p := hc30); try dsimp only at hc30p
        have hgv : diSpend m = ({ m with gone := false }, 0) := by rw [diSpend, if_neg hgn, if_neg (by rw [← hfu, hc30p]; exact Bool.noConfusion)]
        refine EC_skip ?_
        refine Then_n ?_
        refine EC_rseq ?_
        refine EL_run rfl (R_assign rfl) ?_
        refine EL_nil ?_
        refine EC_ret ?_
        exact ⟨[_], ⟨rfl, trivial⟩, _, _, ⟨by rw [hgv]; rfl, rfl, rfl⟩, (hs.fin [true] []).as (by rw [hgv, hm3]; rfl) rfl⟩

set_option maxRecDepth 100000 in
theorem diNew_spec (n : Nat) {w0 : World} (hn : 1 ≤ n ∧ n ≤ 8192) : Spec Try.prog 29 #[.int .i64 (n : Int)] w0 [] [] (fun v es1 ds1 => ∃ d g, v = .tuple #[.pointer (some ⟨d, 0, none⟩), .int .i64 0] ∧ es1 = diE d g (diNew n) ∧ ds1 = []) := by
  refine Spec.intro (fun F D hs => ?_)
  refine Calls_of_EC (args := [.int .i64 (n : Int)]) Try.func29 rfl rfl rfl ?_
  refine EC_rseq ?_
  refine EL_run rfl (R_assign rfl) ?_
  refine EL_run rfl (R_assign rfl) ?_
  refine EL_nil ?_
  refine EC_seq ?_
  refine EC_rseq ?_
  refine EL_run rfl (R_move rfl) ?_
  refine EL_run rfl (R_lss rfl rfl) ?_
  refine EL_run rfl (R_move rfl) ?_
  refine EL_split 6 rfl (fun hg2 => ?_) (fun hg2 => ?_)
  · exact absurd (of_decide_eq_true hg2) (by omega)
  · (first | have hg2p := of_decide_eq_true hg2 | have hg2p := of_decide_eq_false hg2 | have hg2p := of_decide_eq_false (bnt hg2) | have hg2p := of_decide_eq_true (bnf hg2) | have hg2p := bnt hg2 | have hg2p := bnf hg2 | have hg2p := hg2); try dsimp only at hg2p
    refine EL_want rfl rfl hg2 ?_
    refine EL_run rfl (R_move rfl) ?_
    refine EL_want rfl rfl hg2 ?_
    refine EL_run rfl (R_gtr rfl rfl) ?_
    refine EL_run rfl (R_pickF rfl hg2 rfl) ?_
    refine EL_nil ?_
    refine EC_cond rfl (fun hc9 => ?_) (fun hc9 => ?_)
    · exact absurd (of_decide_eq_true hc9) (by omega)
    · (first | have hc9p := of_decide_eq_true hc9 | have hc9p := of_decide_eq_false hc9 | have hc9p := of_decide_eq_false (bnt hc9) | have hc9p := of_decide_eq_true (bnf hc9) | have hc9p := bnt hc9 | have hc9p := bnf hc9 | have hc9p := hc9); try dsimp only at hc9p
      refine EC_skip ?_
      refine Then_n ?_
      refine EC_rseq ?_
      refine EL_run rfl (R_move rfl) ?_
      refine EL_op rfl (O_makeSlice hs rfl ei_75 Try.zeroValue98 rfl rfl (by omega) (by omega) (fun b11 w hb11 hs => ?_))
      have hs := hs.as (es' := [oSl (.slice (some ⟨b11, 0, none⟩) n n) 98 512 n ((List.replicate n Sec.zero).flatMap Sec.l)]) (by rw [← secs_zero n _ sec_zero]; rfl) rfl
      refine EL_op rfl (O_makeMap hs rfl (fun b12 w hb12 hs => ?_))
      refine EL_run rfl (R_buildS (cs := #[.slice (some ⟨b11, 0, none⟩) n n, .map (some b12), .bool false, .int .i64 0, .bool false]) [(0, .tmp 11), (1, .tmp 12)] pl_78 Try.zeroValue78 rfl rfl (diNew_fill n b11 b12)) ?_
      refine EL_op rfl (O_box hs rfl rfl (fun b14 w hb14 hs => ?_))
      refine EL_run rfl (R_assign rfl) ?_
      refine EL_run rfl (R_assign rfl) ?_
      have hs := (hs.perm (es' := [_, _, _]) (List.perm_append_comm (l₁ := [_, _]) (l₂ := [_])))
      refine EL_nil ?_
      refine EC_ret ?_
      exact ⟨[_, _], ⟨rfl, rfl, trivial⟩, _, _, ⟨b14, ⟨b11, b12⟩, rfl, rfl, rfl⟩, (hs.fin [true, true, true] []).as (by rw [diNew_es]; rfl) rfl⟩

set_option maxRecDepth 100000 in
theorem diWrite_spec (d : Nat) (g : DiG) (m : DiM) (i : Int) (ao : Option Addr) (c : Nat) (b : BL) {w0 : World} (hm : m.ok) (hb : b.length ≤ 1000000) : Spec Try.prog 50 #[.pointer (some ⟨d, 0, none⟩), .int .i64 i, .slice ao b.length c] w0 (diE d g m) [dB ao c b] (fun v es1 ds1 => v = .int .i64 (diWrite m i b).2 ∧ es1 = diE d g (diWrite m i b).1 ∧ ds1 = []) := by
  refine Spec.intro (fun F D hs => ?_)
  refine Calls_of_EC (args := [.pointer (some ⟨d, 0, none⟩), .int .i64 i, .slice ao b.length c]) Try.func50 rfl rfl rfl ?_
  refine EC_rseq ?_
  refine EL_run rfl (R_assign rfl) ?_
  refine EL_nil ?_
  refine EC_rseq ?_
  refine EL_run rfl (R_move rfl) ?_
  refine EL_run rfl (R_move rfl) ?_
  refine EL_op rfl (O_call hs [true] [] rfl rfl rfl Try.call66 (diCheck_spec d g m i) (fun v es1 ds1 w hPhi hs => ?_))
  obtain ⟨rfl, rfl, rfl⟩ := hPhi
  refine EL_run rfl (R_assign rfl) ?_
  refine EL_nil ?_
  refine EC_cut (fun ρ w => ∃ e : Int, e = diBad m i b ∧ Slots ρ [(0, .pointer (some ⟨d, 0, none⟩)), (1, .int .i64 i), (2, .slice ao b.length c), (7, .int .i64 e)] ∧ St w0 F D (diE d g m) [dB ao c b] w) ?_ ?_
  · skip
    refine EC_rseq ?_
    refine EL_run rfl (R_move rfl) ?_
    refine EL_run rfl (R_eql rfl rfl) ?_
    refine EL_run rfl (R_move rfl) ?_
    refine EL_split 14 rfl (fun hg2 => ?_) (fun hg2 => ?_)
    · (first | have hg2p := of_decide_eq_true hg2 | have hg2p := of_decide_eq_false hg2 | have hg2p := of_decide_eq_false (bnt hg2) | have hg2p := of_decide_eq_true (bnf hg2) | have hg2p := bnt hg2 | have hg2p := bnf hg2 | have hg2p := hg2); try dsimp only at hg2p
      refine EL_want rfl rfl hg2 ?_
      refine EL_run rfl (R_move rfl) ?_
      refine EL_want rfl rfl hg2 ?_
      refine EL_run rfl (R_lenS Try.underlying25 rfl) ?_
      refine EL_want rfl rfl hg2 ?_
      refine EL_run rfl (R_gtr rfl rfl) ?_
      refine EL_run rfl (R_pickT rfl hg2 rfl) ?_
      refine EL_nil ?_
      refine EC_cond rfl (fun hc18 => ?_) (fun hc18 => ?_)
      · (first | have hc18p := of_decide_eq_true hc18 | have hc18p := of_decide_eq_false hc18 | have hc18p := of_decide_eq_false (bnt hc18) | have hc18p := of_decide_eq_true (bnf hc18) | have hc18p := bnt hc18 | have hc18p := bnf hc18 | have hc18p := hc18); try dsimp only at hc18p
        refine EC_region ?_
        refine EL_run rfl (R_assign rfl) ?_
        refine EL_nil ?_
        refine Then_n ?_
        first | exact ⟨3, by rw [diBad, if_neg (by omega), if_pos (by omega)], ⟨rfl, rfl, rfl, rfl, trivial⟩, (hs.fin [true, true, true] [0]).as rfl rfl⟩ | exact ⟨diCheck m i, by unfold diBad; split <;> first | rfl | (split <;> omega), ⟨rfl, rfl, rfl, rfl, trivial⟩, (hs.fin [true, true, true] [0]).as rfl rfl⟩
      · (first | have hc18p := of_decide_eq_true hc18 | have hc18p := of_decide_eq_false hc18 | have hc18p := of_decide_eq_false (bnt hc18) | have hc18p := of_decide_eq_true (bnf hc18) | have hc18p := bnt hc18 | have hc18p := bnf hc18 | have hc18p := hc18); try dsimp only at hc18p
        refine EC_skip ?_
        refine Then_n ?_
        first | exact ⟨3, by rw [diBad, if_neg (by omega), if_pos (by omega)], ⟨rfl, rfl, rfl, rfl, trivial⟩, (hs.fin [true, true, true] [0]).as rfl rfl⟩ | exact ⟨diCheck m i, by unfold diBad; split <;> first | rfl | (split <;> omega), ⟨rfl, rfl, rfl, rfl, trivial⟩, (hs.fin [true, true, true] [0]).as rfl rfl⟩
    · (first | have hg2p := of_decide_eq_true hg2 | have hg2p := of_decide_eq_false hg2 | have hg2p := of_decide_eq_false (bnt hg2) | have hg2p := of_decide_eq_true (bnf hg2) | have hg2p := bnt hg2 | have hg2p := bnf hg2 | have hg2p := hg2); try dsimp only at hg2p
      refine EL_pass rfl rfl rfl hg2 ?_
      refine EL_pass rfl rfl rfl hg2 ?_
      refine EL_pass rfl rfl rfl hg2 ?_
      refine EL_run rfl (R_pickF rfl hg2 rfl) ?_
      refine EL_nil ?_
      refine EC_cond rfl (fun hcx => ?_) (fun hcx => ?_)
      · exact Bool.noConfusion hcx
      · skip
        refine EC_skip ?_
        refine Then_n ?_
        first | exact ⟨3, by rw [diBad, if_neg (by omega), if_pos (by omega)], ⟨rfl, rfl, rfl, rfl, trivial⟩, (hs.fin [true, true, true] [0]).as rfl rfl⟩ | exact ⟨diCheck m i, by unfold diBad; split <;> first | rfl | (split <;> omega), ⟨rfl, rfl, rfl, rfl, trivial⟩, (hs.fin [true, true, true] [0]).as rfl rfl⟩
  · rintro ρ w ⟨e, he, hsl, hs⟩
    refine EC_slots _ hsl ?_
    refine EC_cut (fun ρ w => ∃ (e : Int) (m2 : DiM), (e ≠ 0 ∧ diWrite m i b = (m2, e) ∨ e = 0 ∧ diWrite m i b = ({ m2 with waits := sput m2.waits i (Sec.of b) }, 0)) ∧ Slots ρ [(0, .pointer (some ⟨d, 0, none⟩)), (1, .int .i64 i), (2, .slice ao b.length c), (7, .int .i64 e)] ∧ St w0 F D (diE d g m2) [dB ao c b] w) ?_ ?_
    · skip
      refine EC_rseq ?_
      refine EL_run rfl (R_move rfl) ?_
      refine EL_run rfl (R_eql rfl rfl) ?_
      refine EL_nil ?_
      refine EC_cond rfl (fun hc20 => ?_) (fun hc20 => ?_)
      · (first | have hc20p := of_decide_eq_true hc20 | have hc20p := of_decide_eq_false hc20 | have hc20p := of_decide_eq_false (bnt hc20) | have hc20p := of_decide_eq_true (bnf hc20) | have hc20p := bnt hc20 | have hc20p := bnf hc20 | have hc20p := hc20); try dsimp only at hc20p
        refine EC_region ?_
        refine EL_run rfl (R_move rfl) ?_
        refine EL_op rfl (O_call hs [true] [] rfl rfl rfl Try.call67 (diSpend_spec d g m hm) (fun v es1 ds1 w hPhi hs => ?_))
        obtain ⟨rfl, rfl, rfl⟩ := hPhi
        refine EL_run rfl (R_assign rfl) ?_
        refine EL_nil ?_
        refine Then_n ?_
        exact ⟨(diSpend m).2, (diSpend m).1, diWrite_spend (he ▸ hc20p), ⟨rfl, rfl, rfl, rfl, trivial⟩, (hs.fin [true, true, true] [0]).as (diE_spend d g m) rfl⟩
      · (first | have hc20p := of_decide_eq_true hc20 | have hc20p := of_decide_eq_false hc20 | have hc20p := of_decide_eq_false (bnt hc20) | have hc20p := of_decide_eq_true (bnf hc20) | have hc20p := bnt hc20 | have hc20p := bnf hc20 | have hc20p := hc20); try dsimp only at hc20p
        refine EC_skip ?_
        refine Then_n ?_
        exact ⟨e, m, .inl ⟨hc20p, diWrite_bad he hc20p⟩, ⟨rfl, rfl, rfl, rfl, trivial⟩, (hs.fin [true, true, true] [0]).as rfl rfl⟩
    · rintro ρ w ⟨e, m2, hor, hsl, hs⟩
      refine EC_slots _ hsl ?_
      refine EC_seq ?_
      refine EC_rseq ?_
      refine EL_run rfl (R_move rfl) ?_
      refine EL_run rfl (R_neq rfl rfl) ?_
      refine EL_nil ?_
      refine EC_cond rfl (fun hc24 => ?_) (fun hc24 => ?_)
      · (first | have hc24p := of_decide_eq_true hc24 | have hc24p := of_decide_eq_false hc24 | have hc24p := of_decide_eq_false (bnt hc24) | have hc24p := of_decide_eq_true (bnf hc24) | have hc24p := bnt hc24 | have hc24p := bnf hc24 | have hc24p := hc24); try dsimp only at hc24p
        have hgv := (hor.resolve_right (fun h => hc24p h.1)).2
        refine EC_rseq ?_
        refine EL_run rfl (R_move rfl) ?_
        refine EL_run rfl (R_assign rfl) ?_
        refine EL_nil ?_
        refine EC_ret ?_
        refine Then_r ?_
        exact ⟨[_], ⟨rfl, trivial⟩, _, _, ⟨by rw [hgv]; rfl, rfl, rfl⟩, (hs.fin [true, true, true] []).as (by rw [hgv]; rfl) rfl⟩
      · (first | have hc24p := of_decide_eq_true hc24 | have hc24p := of_decide_eq_false hc24 | have hc24p := of_decide_eq_false (bnt hc24) | have hc24p := of_decide_eq_true (bnf hc24) | have hc24p := bnt hc24 | have hc24p := bnf hc24 | have hc24p := hc24); try dsimp only at hc24p
        have hgv := (hor.resolve_left (fun h => h.1 (by omega))).2
        refine EC_skip ?_
        refine Then_n ?_
        refine EC_rseq ?_
        refine EL_op rfl (O_alloc hs rfl Try.zeroValue98 (fun b8 w hb8 hs => ?_))
        refine EL_nil ?_
        refine EC_rseq ?_
        refine EL_run rfl (R_sliceArr Try.underlying98 Try.sizeOf5 rfl) ?_
        refine EL_run rfl (R_move rfl) ?_
        refine EL_op rfl (O_copy hs (i := 3) rfl rfl Try.underlying25 sz_5 rfl rfl (Src.data (hs.rd (i := 0) rfl)) (Nat.le_of_eq zeroSec_size.symm) (u8s_one _) (fun w hs => ?_))
        have hs := hs.as (es' := diE d g m2 ++ [blk b8 (Sec.of b).l.toArray 98]) (by rw [← sec_copy]; rfl) rfl
        refine EL_nil ?_
        refine EC_dseqS hs [6] [3, 5] [0, 3] [] (.take 0 (.take 1 (.take 2 (.take 3 (.take 4 (.take 5 (.fork 6 .done (.done)))))))) mix_ok (by kernel_rfl) (fun w hs _ => ?_)
        refine EP_take rfl rfl rfl (fun _ => R_move rfl) ?_
        refine EP_take rfl rfl rfl (fun _ => R_nilCheck rfl) ?_
        refine EP_take rfl rfl rfl (fun _ => R_field fo_78_1 rfl) ?_
        refine EP_read rfl rfl rfl (RdS.of hs rfl rfl) (fun _ hR => R_lb (hR.e 0 rfl rfl) Try.isAgg76 rfl rfl) ?_
        refine EP_take rfl rfl rfl (fun _ => R_move rfl) ?_
        refine EP_read rfl rfl rfl (RdS.of hs rfl rfl) (fun _ hR => R_lw (hR.e 3 rfl rfl) Try.isAgg98 Try.sizeOf98 rfl (by simp [Sec.len])) ?_
        refine EP_act rfl rfl (O_mapUpdate hs (i := 2) rfl Try.underlying76 Try.underlying3 rfl rfl rfl (fun w hs => ⟨(rq_no (by kernel_rfl)), ?_⟩))
        have hs : St w0 F D (diE d g { m2 with waits := sput m2.waits i (Sec.of b) } ++ [blk b8 (Sec.of b).l.toArray 98]) [dB ao c b] w := hs.as (by rw [diE_put]; rfl) rfl
        refine EP_done ?_
        refine EC_rseq ?_
        refine EL_run rfl (R_assign rfl) ?_
        refine EL_nil ?_
        refine EC_ret ?_
        exact ⟨[_], ⟨rfl, trivial⟩, _, _, ⟨by rw [hgv]; rfl, rfl, rfl⟩, (hs.fin [true, true, true] []).as (by rw [hgv]; rfl) rfl⟩

set_option maxRecDepth 100000 in
theorem blkCheck_spec (d : Nat) (g : DiG) (m : DiM) (p : Ptr) {w0 : World} (hm : m.ok) : Spec Try.prog 49 #[.pointer (some ⟨d, 0, none⟩), p.val] w0 [blk d (diCells g m) 78] [] (fun v es1 ds1 => v = .int .i64 (blkCheck m.lasts.length p) ∧ es1 = [blk d (diCells g m) 78] ∧ ds1 = []) := by
  refine Spec.intro (fun F D hs => ?_)
  refine Calls_of_EC (args := [.pointer (some ⟨d, 0, none⟩), p.val]) Try.func49 rfl rfl rfl ?_
  refine EC_rseq ?_
  refine EL_op rfl (O_box hs rfl rfl (fun b3 w hb3 hs => ?_))
  refine EL_run rfl (R_assign rfl) ?_
  refine EL_nil ?_
  refine EC_seq ?_
  refine EC_block ?_
  refine EC_rseq ?_
  refine EL_run rfl (R_move rfl) ?_
  refine EL_op rfl (O_call hs [true] [] rfl rfl rfl Try.call44 (diLen_spec d g m) (fun v es1 ds1 w hPhi hs => ?_))
  obtain ⟨rfl, rfl, rfl⟩ := hPhi
  refine EL_run rfl (R_eql rfl rfl) ?_
  refine EL_run rfl (R_assign rfl) ?_
  refine EL_nil ?_
  refine EC_cond rfl (fun hc5 => ?_) (fun hc5 => ?_)
  · exact absurd (of_decide_eq_true hc5) (by have := hm.len; omega)
  · (first | have hc5p := of_decide_eq_true hc5 | have hc5p := of_decide_eq_false hc5 | have hc5p := of_decide_eq_false (bnt hc5) | have hc5p := of_decide_eq_true (bnf hc5) | have hc5p := bnt hc5 | have hc5p := bnf hc5 | have hc5p := hc5); try dsimp only at hc5p
    refine EC_dseqS hs [1, 7, 10] [0, 5, 6] [1] [] (.take 0 (.fork 1 (.take 2 (.take 3 (.take 4 (.take 5 (.take 6 (.take 9 (.fork 7 (.take 8 (.fork 10 (.take 11 (.take 12 (.take 13 .done))) (.done))) (.done)))))))) (.done))) mix_ok (by kernel_rfl) (fun w hs _ => ?_)
    refine EP_read rfl rfl rfl (RdS.of hs rfl rfl) (fun _ hR => R_lw (hR.e 1 rfl rfl) Try.isAgg30 Try.sizeOf30 rfl (Ptr.size p)) ?_
    refine EP_act rfl rfl (O_call hs [] [] rfl rfl rfl Try.call32 (right_spec p) (fun v es1 ds1 w hPhi hs => ?_))
    obtain ⟨rfl, rfl, rfl⟩ := hPhi
    refine ⟨(fun _ => RdS.of hs rfl rfl), ?_⟩
    refine EP_take rfl rfl rfl (fun _ => R_not rfl) ?_
    refine EP_take rfl rfl rfl (fun _ => R_move rfl) ?_
    refine EP_split 13 rfl (fun hg3 => ?_) (fun hg3 => ?_)
    · (first | have hg3p := of_decide_eq_true hg3 | have hg3p := of_decide_eq_false hg3 | have hg3p := of_decide_eq_false (bnt hg3) | have hg3p := of_decide_eq_true (bnf hg3) | have hg3p := bnt hg3 | have hg3p := bnf hg3 | have hg3p := hg3); try dsimp only at hg3p
      refine EP_passT rfl rfl rfl hg3 rfl (fun _ => RdS.of hs rfl rfl) ?_
      refine EP_passT rfl rfl rfl hg3 rfl (fun _ => RdS.of hs rfl rfl) ?_
      refine EP_passT rfl rfl rfl hg3 rfl (fun _ => RdS.of hs rfl rfl) ?_
      refine EP_passT rfl rfl rfl hg3 rfl (fun _ => RdS.of hs rfl rfl) ?_
      refine EP_passF rfl rfl rfl hg3 rfl (fun _ => RdS.of hs rfl rfl) ?_
      refine EP_passT rfl rfl rfl hg3 rfl (fun _ => RdS.of hs rfl rfl) ?_
      refine EP_passF rfl rfl rfl hg3 rfl (fun _ => RdS.of hs rfl rfl) ?_
      refine EP_passT rfl rfl rfl hg3 rfl (fun _ => RdS.of hs rfl rfl) ?_
      refine EP_take rfl rfl rfl (fun _ => R_pickT rfl hg3 rfl) ?_
      refine EP_take rfl rfl rfl (fun _ => R_assign rfl) ?_
      refine EP_done ?_
      refine EC_cond rfl (fun hcx => ?_) (fun hcx => ?_)
      · skip
        refine EC_rseq ?_
        refine EL_run rfl (R_assign rfl) ?_
        refine EL_nil ?_
        refine EC_ret ?_
        refine InBlock_r ?_
        refine Then_r ?_
        exact ⟨[_], ⟨rfl, trivial⟩, _, _, ⟨by rw [blkCheck, if_pos (by first | exact .inl hg3p | exact .inr hc9p)]; rfl, rfl, rfl⟩, (hs.fin [true] []).as rfl rfl⟩
      · exact Bool.noConfusion hcx
    · (first | have hg3p := of_decide_eq_true hg3 | have hg3p := of_decide_eq_false hg3 | have hg3p := of_decide_eq_false (bnt hg3) | have hg3p := of_decide_eq_true (bnf hg3) | have hg3p := bnt hg3 | have hg3p := bnf hg3 | have hg3p := hg3); try dsimp only at hg3p
      have hrt := Ptr.right_iff.1 hg3p
      refine EP_takeG rfl rfl rfl hg3 rfl rfl (fun _ => R_field fo_30_0 rfl) ?_
      refine EP_readG rfl rfl rfl hg3 rfl rfl (RdS.of hs rfl rfl) (fun _ hR => R_lb (hR.e 1 rfl rfl) Try.isAgg3 rfl rfl) ?_
      refine EP_readG rfl rfl rfl hg3 rfl rfl (RdS.of hs rfl rfl) (fun _ hR => R_lw (hR.e 1 rfl rfl) Try.isAgg30 Try.sizeOf30 rfl (Ptr.size p)) ?_
      refine EP_takeG rfl rfl rfl hg3 rfl rfl (fun _ => R_move rfl) ?_
      refine EP_actG rfl rfl rfl hg3 rfl (O_call hs [] [] rfl rfl rfl Try.call17 (sectors_spec p) (fun v es1 ds1 w hPhi hs => ?_))
      obtain ⟨rfl, rfl, rfl⟩ := hPhi
      have hsr := sectors_range p.len
      refine ⟨(fun _ => RdS.of hs rfl rfl), ?_⟩
      refine EP_takeG rfl rfl rfl hg3 rfl rfl (fun _ => R_addI rfl rfl (by omega)) ?_
      refine EP_actG rfl rfl rfl hg3 rfl (O_call hs [true] [] rfl rfl rfl Try.call44 (diLen_spec d g m) (fun v es1 ds1 w hPhi hs => ?_))
      obtain ⟨rfl, rfl, rfl⟩ := hPhi
      refine ⟨(fun _ => RdS.of hs rfl rfl), ?_⟩
      refine EP_takeG rfl rfl rfl hg3 rfl rfl (fun _ => R_gtr rfl rfl) ?_
      refine EP_take rfl rfl rfl (fun _ => R_pickF rfl hg3 rfl) ?_
      refine EP_take rfl rfl rfl (fun _ => R_assign rfl) ?_
      refine EP_done ?_
      refine EC_cond rfl (fun hc9 => ?_) (fun hc9 => ?_)
      · (first | have hc9p := of_decide_eq_true hc9 | have hc9p := of_decide_eq_false hc9 | have hc9p := of_decide_eq_false (bnt hc9) | have hc9p := of_decide_eq_true (bnf hc9) | have hc9p := bnt hc9 | have hc9p := bnf hc9 | have hc9p := hc9); try dsimp only at hc9p
        refine EC_rseq ?_
        refine EL_run rfl (R_assign rfl) ?_
        refine EL_nil ?_
        refine EC_ret ?_
        refine InBlock_r ?_
        refine Then_r ?_
        exact ⟨[_], ⟨rfl, trivial⟩, _, _, ⟨by rw [blkCheck, if_pos (by first | exact .inl hg3p | exact .inr hc9p)]; rfl, rfl, rfl⟩, (hs.fin [true] []).as rfl rfl⟩
      · (first | have hc9p := of_decide_eq_true hc9 | have hc9p := of_decide_eq_false hc9 | have hc9p := of_decide_eq_false (bnt hc9) | have hc9p := of_decide_eq_true (bnf hc9) | have hc9p := bnt hc9 | have hc9p := bnf hc9 | have hc9p := hc9); try dsimp only at hc9p
        refine EC_skip ?_
        refine InBlock_n ?_
        refine Then_n ?_
        refine EC_rseq ?_
        refine EL_run rfl (R_assign rfl) ?_
        refine EL_nil ?_
        refine EC_ret ?_
        exact ⟨[_], ⟨rfl, trivial⟩, _, _, ⟨by rw [blkCheck, if_neg (by rintro (h | h); exact Bool.noConfusion (hg3p.symm.trans h); exact hc9p h)]; rfl, rfl, rfl⟩, (hs.fin [true] []).as rfl rfl⟩

set_option maxRecDepth 100000 in
theorem blkWrite_spec (d : Nat) (g : DiG) (m : DiM) (pos birth : Int) (ao : Option Addr) (c : Nat) (b : BL) {w0 : World} (hm : m.ok) (hb : b.length ≤ 1000000) : Spec Try.prog 34 #[.pointer (some ⟨d, 0, none⟩), .int .i64 pos, .int .i64 birth, .slice ao b.length c] w0 (diE d g m) [dB ao c b] (fun v es1 ds1 => v = .tuple #[(blkWrite m pos birth b).2.1.val, .int .i64 (blkWrite m pos birth b).2.2] ∧ es1 = diE d g (blkWrite m pos birth b).1 ∧ ds1 = []) := by
  refine Spec.intro (fun F D hs => ?_)
  refine Calls_of_EC (args := [.pointer (some ⟨d, 0, none⟩), .int .i64 pos, .int .i64 birth, .slice ao b.length c]) Try.func34 rfl rfl rfl ?_
  refine EC_rseq ?_
  refine EL_op rfl (O_alloc hs rfl Try.zeroValue30 (fun b8 w hb8 hs => ?_))
  refine EL_run rfl (R_assign rfl) ?_
  refine EL_nil ?_
  refine EC_seq ?_
  refine EC_rseq ?_
  refine EL_run rfl (R_move rfl) ?_
  refine EL_op rfl (O_call hs [true] [] rfl rfl rfl Try.call44 (diLen_spec d g m) (fun v es1 ds1 w hPhi hs => ?_))
  obtain ⟨rfl, rfl, rfl⟩ := hPhi
  refine EL_run rfl (R_eql rfl rfl) ?_
  refine EL_nil ?_
  refine EC_cond rfl (fun hc18 => ?_) (fun hc18 => ?_)
  · exact absurd (of_decide_eq_true hc18) (by have := hm.len; omega)
  · (first | have hc18p := of_decide_eq_true hc18 | have hc18p := of_decide_eq_false hc18 | have hc18p := of_decide_eq_false (bnt hc18) | have hc18p := of_decide_eq_true (bnf hc18) | have hc18p := bnt hc18 | have hc18p := bnf hc18 | have hc18p := hc18); try dsimp only at hc18p
    refine EC_skip ?_
    refine Then_n ?_
    refine EC_rseq ?_
    refine EL_run rfl (R_move rfl) ?_
    refine EL_run rfl (R_move rfl) ?_
    refine EL_run rfl (R_move rfl) ?_
    refine EL_run rfl (R_lenS Try.underlying25 rfl) ?_
    refine EL_run rfl (R_buildS (cs := (Ptr.bare pos birth b.length).cells) [(0, .tmp 20), (1, .tmp 21), (2, .tmp 23)] pl_30 Try.zeroValue30 rfl rfl (by kernel_rfl)) ?_
    refine EL_op rfl (O_alloc hs rfl Try.zeroValue30 (fun b10 w hb10 hs => ?_))
    refine EL_op rfl (O_storeW hs (i := 4) rfl sz_30 rfl rfl rfl (Ptr.size _) (Ptr.oneA _) (fun w hs => ?_))
    refine EL_nil ?_
    refine EC_seq ?_
    refine EC_rseq ?_
    refine EL_run rfl (R_move rfl) ?_
    refine EL_run rfl (R_lw (hs.at (i := 4) rfl) Try.isAgg30 Try.sizeOf30 rfl (Ptr.size _)) ?_
    refine EL_op rfl (O_call hs [true] [] rfl rfl rfl Try.call49 (blkCheck_spec d g m (Ptr.bare pos birth b.length) hm) (fun v es1 ds1 w hPhi hs => ?_))
    obtain ⟨rfl, rfl, rfl⟩ := hPhi
    refine EL_run rfl (R_assign rfl) ?_
    refine EL_nil ?_
    refine EC_rseq ?_
    refine EL_run rfl (R_move rfl) ?_
    refine EL_run rfl (R_neq rfl rfl) ?_
    refine EL_nil ?_
    refine EC_cond rfl (fun hc29 => ?_) (fun hc29 => ?_)
    · (first | have hc29p := of_decide_eq_true hc29 | have hc29p := of_decide_eq_false hc29 | have hc29p := of_decide_eq_false (bnt hc29) | have hc29p := of_decide_eq_true (bnf hc29) | have hc29p := bnt hc29 | have hc29p := bnf hc29 | have hc29p := hc29); try dsimp only at hc29p
      have hgv : blkWrite m pos birth b = (m, Ptr.none, blkCheck m.lasts.length (Ptr.bare pos birth b.length)) := by rw [blkWrite, if_pos hc29p]
      refine EC_rseq ?_
      refine EL_run rfl (R_buildS (cs := Ptr.none.cells) [] pl_30 Try.zeroValue30 rfl rfl rfl) ?_
      refine EL_run rfl (R_move rfl) ?_
      refine EL_op rfl (O_storeW hs (i := 3) rfl sz_30 rfl rfl rfl rfl (Ptr.oneA _) (fun w hs => ?_))
      refine EL_run rfl (R_assign rfl) ?_
      refine EL_nil ?_
      refine EC_ret ?_
      refine Then_r ?_
      exact ⟨[_, _], ⟨res_cell hs (i := 3) rfl Try.sizeOf30 Try.isAgg30 rfl (Ptr.size _), rfl, trivial⟩, _, _, ⟨by rw [hgv]; rfl, rfl, rfl⟩, (hs.fin [true, true, true] []).as (by rw [hgv]; rfl) rfl⟩
    · (first | have hc29p := of_decide_eq_true hc29 | have hc29p := of_decide_eq_false hc29 | have hc29p := of_decide_eq_false (bnt hc29) | have hc29p := of_decide_eq_true (bnf hc29) | have hc29p := bnt hc29 | have hc29p := bnf hc29 | have hc29p := hc29); try dsimp only at hc29p
      refine EC_skip ?_
      refine Then_n ?_
      refine EC_seq ?_
      have hck : blkCheck m.lasts.length (Ptr.bare pos birth b.length) = 0 := by omega
      have hrt : (Ptr.bare pos birth b.length).right = true := by
        unfold blkCheck at hck
        split at hck
        · cases hck
        · rename_i h
          cases hr : (Ptr.bare pos birth b.length).right
          · exact absurd (.inl hr) h
          · rfl
      have hri := Ptr.right_iff.1 hrt
      have hsec := sectors_of (len := (b.length : Int)) (by have := hri.2.1; unfold sectors; simp only [Ptr.bare] at this; split <;> omega)
      have hpos : 2 ≤ pos ∧ pos ≤ 8192 := by have := hri.2.2; have h2 := sectors_range (b.length : Int); simp only [Ptr.bare] at this; omega
      obtain ⟨N, hN⟩ : ∃ N : Nat, sectors (b.length : Int) = (N : Int) := ⟨(sectors (b.length : Int)).toNat, by have := sectors_range (b.length : Int); omega⟩
      refine EC_rseq ?_
      refine EL_run rfl (R_lw (hs.at (i := 4) rfl) Try.isAgg30 Try.sizeOf30 rfl (Ptr.size _)) ?_
      refine EL_op rfl (O_call hs [] [] rfl rfl rfl Try.call17 (sectors_spec (Ptr.bare pos birth b.length)) (fun v es1 ds1 w hPhi hs => ?_))
      obtain ⟨rfl, rfl, rfl⟩ := hPhi
      refine EL_run rfl (R_move rfl) ?_
      refine EL_nil ?_
      refine EC_block ?_
      refine EC_loop (fun mm ρ w => ∃ (i : Nat) (m2 : DiM), mm = N - i ∧ i ≤ N ∧ m2.ok ∧ m2.lasts = m.lasts ∧ blkGo m pos b 0 N = blkGo m2 pos b i (N - i) ∧ Slots ρ [(0, .pointer (some ⟨d, 0, none⟩)), (1, .int .i64 pos), (2, .int .i64 birth), (3, .slice ao b.length c), (8, .pointer (some ⟨b8, 0, none⟩)), (33, .int .i64 (N : Int)), (34, .int .i64 (i : Int))] ∧ St w0 F D (diE d g m2 ++ [blk b8 Ptr.none.cells 30, blk b10 (Ptr.bare pos birth b.length).cells 30]) [dB ao c b] w) (N) (⟨0, m, by omega, by omega, hm, rfl, by simp, ⟨rfl, rfl, rfl, rfl, rfl, by show some (Value.int .i64 (sectors (b.length : Int))) = _; rw [hN], rfl, trivial⟩, (hs.fin [true, true, true, true, true] [0]).as rfl rfl⟩) ?_
      rintro mm ρ w ⟨i, m2, rfl, hi, hm2, hla, hgo, hsl, hs⟩
      refine EC_slots _ hsl ?_
      refine EC_rseq ?_
      refine EL_run rfl (R_lss rfl rfl) ?_
      refine EL_nil ?_
      refine EC_seq ?_
      refine EC_cond rfl (fun hc35 => ?_) (fun hc35 => ?_)
      · (first | have hc35p := of_decide_eq_true hc35 | have hc35p := of_decide_eq_false hc35 | have hc35p := of_decide_eq_false (bnt hc35) | have hc35p := of_decide_eq_true (bnf hc35) | have hc35p := bnt hc35 | have hc35p := bnf hc35 | have hc35p := hc35); try dsimp only at hc35p
        have hiN : i < N := by omega
        have hNi : N - i = (N - (i + 1)) + 1 := by omega
        have hlt : i * 512 < b.length := by omega
        refine EC_skip ?_
        refine Then_n ?_
        refine EC_seq ?_
        refine EC_block ?_
        refine EC_rseq ?_
        refine EL_run rfl (R_move rfl) ?_
        refine EL_run rfl (R_assign rfl) ?_
        refine EL_nil ?_
        refine EC_rseq ?_
        refine EL_run rfl (R_move rfl) ?_
        refine EL_run rfl (R_mulI rfl rfl (by omega)) ?_
        refine EL_run rfl (R_move rfl) ?_
        refine EL_run rfl (R_addI rfl rfl (by omega)) ?_
        refine EL_run rfl (R_mulI rfl rfl (by omega)) ?_
        refine EL_run rfl (R_move rfl) ?_
        refine EL_run rfl (R_lenS Try.underlying25 rfl) ?_
        refine EL_run rfl (R_min rfl rfl) ?_
        refine EL_run rfl (R_assign rfl) ?_
        refine EL_run rfl (R_assign rfl) ?_
        refine EL_nil ?_
        have hs := hs.dBcut3 (j := 0) rfl (i * 512) (min ((i + 1) * 512) b.length) (by omega) (by omega)
        refine EC_rseq ?_
        refine EL_run rfl (R_move rfl) ?_
        refine EL_run rfl (R_move rfl) ?_
        refine EL_run rfl (R_move rfl) ?_
        refine EL_run rfl (R_addI rfl rfl (by omega)) ?_
        refine EL_run rfl (R_move rfl) ?_
        refine EL_run rfl (R_move rfl) ?_
        refine EL_run rfl (R_move rfl) ?_
        refine EL_run rfl (R_move rfl) ?_
        refine EL_run rfl (R_sliceLHM es_25 rfl rfl rfl rfl (by omega) (by omega) (by omega) (by have := (hs.rd (i := 0) rfl).1.1; omega)) ?_
        rw [show ((i : Int) * 512).toNat = i * 512 by omega, show (min (((i : Int) + 1) * 512) (b.length : Int)).toNat = min ((i + 1) * 512) b.length by omega]
        have hcl : min ((i + 1) * 512) b.length - i * 512 = (chunk b i).length := by rw [chunk, List.length_take, List.length_drop]; omega
        rw [hcl]
        have hs := hs.as (es' := diE d g m2 ++ [blk b8 Ptr.none.cells 30, blk b10 (Ptr.bare pos birth b.length).cells 30]) (ds' := [dB ao c b, dB (cutO ao (min ((i + 1) * 512) b.length) (i * 512) 1) (chunk b i).length (chunk b i)]) rfl (by rw [← hcl]; rfl)
        refine EL_op rfl (O_call hs [true, true, true] [1] rfl rfl rfl Try.call50 (diWrite_spec d g m2 (pos + i) _ (chunk b i).length (chunk b i) hm2 (by omega)) (fun v es1 ds1 w hPhi hs => ?_))
        obtain ⟨rfl, rfl, rfl⟩ := hPhi
        refine EL_run rfl (R_assign rfl) ?_
        refine EL_nil ?_
        refine EC_rseq ?_
        refine EL_run rfl (R_move rfl) ?_
        refine EL_run rfl (R_neq rfl rfl) ?_
        refine EL_nil ?_
        refine EC_cond rfl (fun hc56 => ?_) (fun hc56 => ?_)
        · (first | have hc56p := of_decide_eq_true hc56 | have hc56p := of_decide_eq_false hc56 | have hc56p := of_decide_eq_false (bnt hc56) | have hc56p := of_decide_eq_true (bnf hc56) | have hc56p := bnt hc56 | have hc56p := bnf hc56 | have hc56p := hc56); try dsimp only at hc56p
          have hgv : blkWrite m pos birth b = ((diWrite m2 (pos + i) (chunk b i)).1, Ptr.none, (diWrite m2 (pos + i) (chunk b i)).2) := by
            have hN2 : (sectors (b.length : Int)).toNat = N := by omega
            have hg2 : blkGo m pos b 0 N = diWrite m2 (pos + i) (chunk b i) := by rw [hgo, hNi, blkGo, if_pos hc56p]
            rw [blkWrite, if_neg (by omega), hN2, hg2, if_pos hc56p]
          refine EC_rseq ?_
          refine EL_run rfl (R_buildS (cs := Ptr.none.cells) [] pl_30 Try.zeroValue30 rfl rfl rfl) ?_
          refine EL_run rfl (R_move rfl) ?_
          refine EL_op rfl (O_storeW hs (i := 3) rfl sz_30 rfl rfl rfl rfl (Ptr.oneA _) (fun w hs => ?_))
          refine EL_run rfl (R_assign rfl) ?_
          refine EL_nil ?_
          refine EC_ret ?_
          refine InBlock_r ?_
          refine Then_r ?_
          refine Then_r ?_
          refine InBlock_r ?_
          refine Then_r ?_
          exact ⟨[_, _], ⟨res_cell hs (i := 3) rfl Try.sizeOf30 Try.isAgg30 rfl (Ptr.size _), rfl, trivial⟩, _, _, ⟨by rw [hgv]; rfl, rfl, rfl⟩, (hs.fin [true, true, true] []).as (by rw [hgv]; rfl) rfl⟩
        · (first | have hc56p := of_decide_eq_true hc56 | have hc56p := of_decide_eq_false hc56 | have hc56p := of_decide_eq_false (bnt hc56) | have hc56p := of_decide_eq_true (bnf hc56) | have hc56p := bnt hc56 | have hc56p := bnf hc56 | have hc56p := hc56); try dsimp only at hc56p
          refine EC_skip ?_
          refine InBlock_n ?_
          refine Then_n ?_
          refine EC_region ?_
          refine EL_run rfl (R_addI rfl rfl (by omega)) ?_
          refine EL_run rfl (R_move rfl) ?_
          refine EL_nil ?_
          refine Then_n ?_
          exact ⟨N - (i + 1), by omega, i + 1, (diWrite m2 (pos + i) (chunk b i)).1, rfl, by omega, diWrite_ok hm2 _ _, by rw [diWrite_lasts, hla], by rw [hgo, hNi, blkGo, if_neg (by omega)], ⟨rfl, rfl, rfl, rfl, rfl, rfl, rfl, trivial⟩, (hs.fin [true, true, true, true, true] [0]).as rfl rfl⟩
      · (first | have hc35p := of_decide_eq_true hc35 | have hc35p := of_decide_eq_false hc35 | have hc35p := of_decide_eq_false (bnt hc35) | have hc35p := of_decide_eq_true (bnf hc35) | have hc35p := bnt hc35 | have hc35p := bnf hc35 | have hc35p := hc35); try dsimp only at hc35p
        refine EC_exit ?_
        refine Then_e ?_
        refine Then_e ?_
        refine InBlock_hit rfl ?_
        refine Then_n ?_
        obtain rfl : i = N := by omega
        have hgv : blkWrite m pos birth b = (m2, Ptr.of pos birth b, 0) := by
          have hN2 : (sectors (b.length : Int)).toNat = i := by omega
          have hg2 : blkGo m pos b 0 i = (m2, 0) := by rw [hgo, Nat.sub_self, blkGo]
          rw [blkWrite, if_neg (by omega), hN2, hg2, if_neg (by simp)]
        refine EC_rseq ?_
        refine EL_run rfl (R_move rfl) ?_
        refine EL_run rfl (R_move rfl) ?_
        refine EL_run rfl (R_move rfl) ?_
        refine EL_op rfl (O_call hs [] [0] rfl rfl rfl Try.call51 (of_spec pos birth ao c b (by omega)) (fun v es1 ds1 w hPhi hs => ?_))
        obtain ⟨rfl, rfl, rfl⟩ := hPhi
        refine EL_op rfl (O_storeW hs (i := 3) rfl sz_30 rfl rfl rfl (Ptr.size _) (Ptr.oneA _) (fun w hs => ?_))
        refine EL_run rfl (R_assign rfl) ?_
        refine EL_nil ?_
        refine EC_ret ?_
        exact ⟨[_, _], ⟨res_cell hs (i := 3) rfl Try.sizeOf30 Try.isAgg30 rfl (Ptr.size _), rfl, trivial⟩, _, _, ⟨by rw [hgv]; rfl, rfl, rfl⟩, (hs.fin [true, true, true] []).as (by rw [hgv]; rfl) rfl⟩
end Go.Proofs.Ytpcojkbljgpecaa
