/- Walks, part 5: spans. -/
import Derived.Test.YtpcojkbljgpecaaF
import Derived.Test.YtpcojkbljgpecaaM4
namespace Go.Proofs.Ytpcojkbljgpecaa
open Go
set_option maxRecDepth 100000 in
theorem spRight_spec (s : Sp) {w0 : World} : Spec Try.prog 59 #[s.val] w0 [] [] (fun v es1 ds1 => v = .bool s.right ∧ es1 = [] ∧ ds1 = []) := by
  refine Spec.intro (fun F D hs => ?_)
  refine Calls_of_EC (args := [s.val]) Try.func59 rfl rfl rfl ?_
  refine EC_rseq ?_
  refine EL_op rfl (O_box hs rfl rfl (fun b1 w hb1 hs => ?_))
  refine EL_run rfl (R_assign rfl) ?_
  refine EL_nil ?_
  refine EC_rseq ?_
  refine EL_run rfl (R_field fo_49_0 rfl) ?_
  refine EL_run rfl (R_lb (hs.at (i := 0) rfl) Try.isAgg3 rfl rfl) ?_
  refine EL_run rfl (R_geq rfl rfl) ?_
  refine EL_run rfl (R_move rfl) ?_
  refine EL_split 6 rfl (fun hg3 => ?_) (fun hg3 => ?_)
  · (first | have hg3p := of_decide_eq_true hg3 | have hg3p := of_decide_eq_false hg3 | have hg3p := of_decide_eq_false (bnt hg3) | have hg3p := of_decide_eq_true (bnf hg3) | have hg3p := bnt hg3 | have hg3p := bnf hg3 | have hg3p := hg3); try dsimp only at hg3p
    refine EL_want rfl rfl hg3 ?_
    refine EL_run rfl (R_field fo_49_0 rfl) ?_
    refine EL_want rfl rfl hg3 ?_
    refine EL_run rfl (R_lb (hs.at (i := 0) rfl) Try.isAgg3 rfl rfl) ?_
    refine EL_want rfl rfl hg3 ?_
    refine EL_run rfl (R_field fo_49_1 rfl) ?_
    refine EL_want rfl rfl hg3 ?_
    refine EL_run rfl (R_lb (hs.at (i := 0) rfl) Try.isAgg3 rfl rfl) ?_
    refine EL_want rfl rfl hg3 ?_
    refine EL_run rfl (R_lss rfl rfl) ?_
    refine EL_run rfl (R_pickT rfl hg3 rfl) ?_
    refine EL_run rfl (R_move rfl) ?_
    refine EL_split 13 rfl (fun hg10 => ?_) (fun hg10 => ?_)
    · (first | have hg10p := of_decide_eq_true hg10 | have hg10p := of_decide_eq_false hg10 | have hg10p := of_decide_eq_false (bnt hg10) | have hg10p := of_decide_eq_true (bnf hg10) | have hg10p := bnt hg10 | have hg10p := bnf hg10 | have hg10p := hg10); try dsimp only at hg10p
      refine EL_want rfl rfl hg10 ?_
      refine EL_run rfl (R_field fo_49_1 rfl) ?_
      refine EL_want rfl rfl hg10 ?_
      refine EL_run rfl (R_lb (hs.at (i := 0) rfl) Try.isAgg3 rfl rfl) ?_
      refine EL_want rfl rfl hg10 ?_
      refine EL_run rfl (R_leq rfl rfl) ?_
      refine EL_run rfl (R_pickT rfl hg10 rfl) ?_
      refine EL_run rfl (R_assign rfl) ?_
      refine EL_nil ?_
      refine EC_ret ?_
      exact ⟨[_], ⟨rfl, trivial⟩, _, _, ⟨by simp only [tupleOf, Sp.right]; congr 1; simp_all <;> omega, rfl, rfl⟩, (hs.fin [] []).as rfl rfl⟩
    · (first | have hg10p := of_decide_eq_true hg10 | have hg10p := of_decide_eq_false hg10 | have hg10p := of_decide_eq_false (bnt hg10) | have hg10p := of_decide_eq_true (bnf hg10) | have hg10p := bnt hg10 | have hg10p := bnf hg10 | have hg10p := hg10); try dsimp only at hg10p
      refine EL_pass rfl rfl rfl hg10 ?_
      refine EL_pass rfl rfl rfl hg10 ?_
      refine EL_pass rfl rfl rfl hg10 ?_
      refine EL_run rfl (R_pickF rfl hg10 rfl) ?_
      refine EL_run rfl (R_assign rfl) ?_
      refine EL_nil ?_
      refine EC_ret ?_
      exact ⟨[_], ⟨rfl, trivial⟩, _, _, ⟨by simp only [tupleOf, Sp.right]; congr 1; simp_all <;> omega, rfl, rfl⟩, (hs.fin [] []).as rfl rfl⟩
  · (first | have hg3p := of_decide_eq_true hg3 | have hg3p := of_decide_eq_false hg3 | have hg3p := of_decide_eq_false (bnt hg3) | have hg3p := of_decide_eq_true (bnf hg3) | have hg3p := bnt hg3 | have hg3p := bnf hg3 | have hg3p := hg3); try dsimp only at hg3p
    refine EL_pass rfl rfl rfl hg3 ?_
    refine EL_pass rfl rfl rfl hg3 ?_
    refine EL_pass rfl rfl rfl hg3 ?_
    refine EL_pass rfl rfl rfl hg3 ?_
    refine EL_pass rfl rfl rfl hg3 ?_
    refine EL_run rfl (R_pickF rfl hg3 rfl) ?_
    refine EL_run rfl (R_move rfl) ?_
    refine EL_pass rfl rfl rfl rfl ?_
    refine EL_pass rfl rfl rfl rfl ?_
    refine EL_pass rfl rfl rfl rfl ?_
    refine EL_run rfl (R_pickF rfl rfl rfl) ?_
    refine EL_run rfl (R_assign rfl) ?_
    refine EL_nil ?_
    refine EC_ret ?_
    exact ⟨[_], ⟨rfl, trivial⟩, _, _, ⟨by simp only [tupleOf, Sp.right]; congr 1; simp_all <;> omega, rfl, rfl⟩, (hs.fin [] []).as rfl rfl⟩

set_option maxRecDepth 100000 in
theorem valid_spec (ao : Option Addr) (c : Nat) (l : List Sp) {w0 : World} (hl : l.length ≤ 1000000) : Spec Try.prog 58 #[.slice ao l.length c] w0 [] [dS ao c l] (fun v es1 ds1 => v = .bool (valid l) ∧ es1 = [] ∧ ds1 = []) := by
  refine Spec.intro (fun F D hs => ?_)
  refine Calls_of_EC (args := [.slice ao l.length c]) Try.func58 rfl rfl rfl ?_
  refine EC_rseq ?_
  refine EL_run rfl (R_assign rfl) ?_
  refine EL_nil ?_
  refine EC_rseq ?_
  refine EL_run rfl (R_assign rfl) ?_
  refine EL_nil ?_
  refine EC_seq ?_
  refine EC_rseq ?_
  refine EL_run rfl (R_move rfl) ?_
  refine EL_run rfl (R_lenS Try.underlying68 rfl) ?_
  refine EL_run rfl (R_move rfl) ?_
  refine EL_nil ?_
  refine EC_block ?_
  refine EC_loop (fun m ρ w => ∃ (i : Nat) (last : Int), m = l.length - i ∧ i ≤ l.length ∧ validFrom last (l.drop i) = valid l ∧ Slots ρ [(3, .int .i64 last), (6, .slice ao l.length c), (7, .int .i64 (l.length : Int)), (8, .int .i64 (i : Int))] ∧ St w0 F D [] [dS ao c l] w) (l.length) (⟨0, -1, by omega, by omega, rfl, ⟨rfl, rfl, rfl, rfl, trivial⟩, hs⟩) ?_
  rintro m ρ w ⟨i, last, rfl, hi, hv, hsl, hs⟩
  refine EC_slots _ hsl ?_
  refine EC_rseq ?_
  refine EL_run rfl (R_lss rfl rfl) ?_
  refine EL_nil ?_
  refine EC_seq ?_
  refine EC_cond rfl (fun hc9 => ?_) (fun hc9 => ?_)
  · (first | have hc9p := of_decide_eq_true hc9 | have hc9p := of_decide_eq_false hc9 | have hc9p := of_decide_eq_false (bnt hc9) | have hc9p := of_decide_eq_true (bnf hc9) | have hc9p := bnt hc9 | have hc9p := bnf hc9 | have hc9p := hc9); try dsimp only at hc9p
    have hib : i < l.length := by omega
    obtain ⟨bb, oo, rfl⟩ := dSlsomeF (hs.rd (i := 0) rfl) Sp.len (by decide) hib
    have hdr : l.drop i = l[i] :: l.drop (i + 1) := List.drop_eq_getElem_cons hib
    refine EC_skip ?_
    refine Then_n ?_
    refine EC_seq ?_
    refine EC_block ?_
    refine EC_rseq ?_
    refine EL_run rfl (R_idx es_68 rfl (by rfl) rfl (by omega) (by omega)) ?_
    refine EL_run rfl (R_ldE (hs.rd (i := 0) rfl) Sp.len Try.isAgg49 Try.sizeOf49 rfl (by simp <;> omega) (List.getElem?_eq_getElem hib) (by decide)) ?_
    refine EL_op rfl (O_alloc hs rfl Try.zeroValue49 (fun b5 w hb5 hs => ?_))
    refine EL_op rfl (O_storeW hs (i := 0) rfl sz_49 rfl rfl rfl rfl (Sp.oneA _) (fun w hs => ?_))
    refine EL_nil ?_
    refine EC_seq ?_
    refine EC_rseq ?_
    refine EL_run rfl (R_lw (hs.at (i := 0) rfl) Try.isAgg49 Try.sizeOf49 rfl rfl) ?_
    refine EL_op rfl (O_call hs [] [] rfl rfl rfl Try.call59 (spRight_spec l[i]) (fun v es1 ds1 w hPhi hs => ?_))
    obtain ⟨rfl, rfl, rfl⟩ := hPhi
    refine EL_run rfl (R_not rfl) ?_
    refine EL_run rfl (R_move rfl) ?_
    refine EL_split 15 rfl (fun hg3 => ?_) (fun hg3 => ?_)
    · (first | have hg3p := of_decide_eq_true hg3 | have hg3p := of_decide_eq_false hg3 | have hg3p := of_decide_eq_false (bnt hg3) | have hg3p := of_decide_eq_true (bnf hg3) | have hg3p := bnt hg3 | have hg3p := bnf hg3 | have hg3p := hg3); try dsimp only at hg3p
      refine EL_pass rfl rfl rfl hg3 ?_
      refine EL_pass rfl rfl rfl hg3 ?_
      refine EL_pass rfl rfl rfl hg3 ?_
      refine EL_pass rfl rfl rfl hg3 ?_
      refine EL_run rfl (R_pickT rfl hg3 rfl) ?_
      refine EL_nil ?_
      refine EC_cond rfl (fun hcx => ?_) (fun hcx => ?_)
      · skip
        refine EC_rseq ?_
        refine EL_run rfl (R_assign rfl) ?_
        refine EL_nil ?_
        refine EC_ret ?_
        refine Then_r ?_
        refine InBlock_r ?_
        refine Then_r ?_
        refine Then_r ?_
        refine InBlock_r ?_
        refine Then_r ?_
        exact ⟨[_], ⟨rfl, trivial⟩, _, _, ⟨by simp only [tupleOf]; congr 1; first | rw [← hv, hdr, validFrom, hg3p, Bool.false_and, Bool.false_and] | rw [← hv, hdr, validFrom, decide_eq_false (show ¬ last < l[i].a by omega), Bool.and_false, Bool.false_and], rfl, rfl⟩, (hs.fin [] []).as rfl rfl⟩
      · exact Bool.noConfusion hcx
    · (first | have hg3p := of_decide_eq_true hg3 | have hg3p := of_decide_eq_false hg3 | have hg3p := of_decide_eq_false (bnt hg3) | have hg3p := of_decide_eq_true (bnf hg3) | have hg3p := bnt hg3 | have hg3p := bnf hg3 | have hg3p := hg3); try dsimp only at hg3p
      refine EL_want rfl rfl hg3 ?_
      refine EL_run rfl (R_field fo_49_0 rfl) ?_
      refine EL_want rfl rfl hg3 ?_
      refine EL_run rfl (R_lb (hs.at (i := 0) rfl) Try.isAgg3 rfl rfl) ?_
      refine EL_want rfl rfl hg3 ?_
      refine EL_run rfl (R_move rfl) ?_
      refine EL_want rfl rfl hg3 ?_
      refine EL_run rfl (R_leq rfl rfl) ?_
      refine EL_run rfl (R_pickF rfl hg3 rfl) ?_
      refine EL_nil ?_
      refine EC_cond rfl (fun hc20 => ?_) (fun hc20 => ?_)
      · (first | have hc20p := of_decide_eq_true hc20 | have hc20p := of_decide_eq_false hc20 | have hc20p := of_decide_eq_false (bnt hc20) | have hc20p := of_decide_eq_true (bnf hc20) | have hc20p := bnt hc20 | have hc20p := bnf hc20 | have hc20p := hc20); try dsimp only at hc20p
        refine EC_rseq ?_
        refine EL_run rfl (R_assign rfl) ?_
        refine EL_nil ?_
        refine EC_ret ?_
        refine Then_r ?_
        refine InBlock_r ?_
        refine Then_r ?_
        refine Then_r ?_
        refine InBlock_r ?_
        refine Then_r ?_
        exact ⟨[_], ⟨rfl, trivial⟩, _, _, ⟨by simp only [tupleOf]; congr 1; first | rw [← hv, hdr, validFrom, hg3p, Bool.false_and, Bool.false_and] | rw [← hv, hdr, validFrom, decide_eq_false (show ¬ last < l[i].a by omega), Bool.and_false, Bool.false_and], rfl, rfl⟩, (hs.fin [] []).as rfl rfl⟩
      · (first | have hc20p := of_decide_eq_true hc20 | have hc20p := of_decide_eq_false hc20 | have hc20p := of_decide_eq_false (bnt hc20) | have hc20p := of_decide_eq_true (bnf hc20) | have hc20p := bnt hc20 | have hc20p := bnf hc20 | have hc20p := hc20); try dsimp only at hc20p
        refine EC_skip ?_
        refine Then_n ?_
        refine EC_region ?_
        refine EL_run rfl (R_field fo_49_1 rfl) ?_
        refine EL_run rfl (R_lb (hs.at (i := 0) rfl) Try.isAgg3 rfl rfl) ?_
        refine EL_run rfl (R_assign rfl) ?_
        refine EL_nil ?_
        refine InBlock_n ?_
        refine Then_n ?_
        refine EC_region ?_
        refine EL_run rfl (R_addI rfl rfl (by omega)) ?_
        refine EL_run rfl (R_move rfl) ?_
        refine EL_nil ?_
        refine Then_n ?_
        exact ⟨l.length - (i + 1), by omega, i + 1, l[i].b, rfl, by omega, by rw [← hv, hdr, validFrom, hg3p, decide_eq_true (show last < l[i].a by omega), Bool.true_and, Bool.true_and], ⟨rfl, rfl, rfl, rfl, trivial⟩, (hs.fin [] [0]).as rfl rfl⟩
  · (first | have hc9p := of_decide_eq_true hc9 | have hc9p := of_decide_eq_false hc9 | have hc9p := of_decide_eq_false (bnt hc9) | have hc9p := of_decide_eq_true (bnf hc9) | have hc9p := bnt hc9 | have hc9p := bnf hc9 | have hc9p := hc9); try dsimp only at hc9p
    refine EC_exit ?_
    refine Then_e ?_
    refine Then_e ?_
    refine InBlock_hit rfl ?_
    refine Then_n ?_
    refine EC_rseq ?_
    refine EL_run rfl (R_assign rfl) ?_
    refine EL_nil ?_
    refine EC_ret ?_
    exact ⟨[_], ⟨rfl, trivial⟩, _, _, ⟨by simp only [tupleOf]; congr 1; rw [← hv, List.drop_eq_nil_of_le (by omega), validFrom], rfl, rfl⟩, (hs.fin [] []).as rfl rfl⟩

set_option maxRecDepth 100000 in
theorem cloneSp_spec (ao : Option Addr) (c : Nat) (l : List Sp) {w0 : World} (hl : l.length ≤ 1000000) : Spec Try.prog 60 #[.slice ao l.length c] w0 [] [dS ao c l] (fun v es1 ds1 => es1 = [oSl v 49 2 l.length (l.flatMap Sp.l)] ∧ ds1 = []) := by
  refine Spec.intro (fun F D hs => ?_)
  refine Calls_of_EC (args := [.slice ao l.length c]) Try.func60 rfl rfl rfl ?_
  refine EC_rseq ?_
  refine EL_run rfl (R_assign rfl) ?_
  refine EL_nil ?_
  refine EC_seq ?_
  refine EC_rseq ?_
  refine EL_run rfl (R_move rfl) ?_
  refine EL_run rfl (R_eqlSlNil Try.underlying68 rfl rfl) ?_
  refine EL_nil ?_
  refine EC_cond rfl (fun hc4 => ?_) (fun hc4 => ?_)
  · (first | have hc4p := of_decide_eq_true hc4 | have hc4p := of_decide_eq_false hc4 | have hc4p := of_decide_eq_false (bnt hc4) | have hc4p := of_decide_eq_true (bnf hc4) | have hc4p := bnt hc4 | have hc4p := bnf hc4 | have hc4p := hc4); try dsimp only at hc4p
    have hnil : ao = none := by simpa using hc4p
    subst hnil
    obtain rfl : l = [] := by
      have h := (hs.rd (i := 0) rfl).1
      have h1 := h.2.1 rfl
      have h2 := h.1
      exact List.eq_nil_of_length_eq_zero (by omega)
    have hs := hs.nilSl 49 2
    refine EC_rseq ?_
    refine EL_run rfl (R_assign rfl) ?_
    refine EL_nil ?_
    refine EC_ret ?_
    refine Then_r ?_
    exact ⟨[_], ⟨rfl, trivial⟩, _, _, ⟨rfl, rfl⟩, (hs.fin [true] []).as rfl rfl⟩
  · (first | have hc4p := of_decide_eq_true hc4 | have hc4p := of_decide_eq_false hc4 | have hc4p := of_decide_eq_false (bnt hc4) | have hc4p := of_decide_eq_true (bnf hc4) | have hc4p := bnt hc4 | have hc4p := bnf hc4 | have hc4p := hc4); try dsimp only at hc4p
    refine EC_skip ?_
    refine Then_n ?_
    refine EC_rseq ?_
    refine EL_op rfl (O_buildSlice [] hs rfl ei_68 rfl rfl rfl (by simp) (by decide) (fun b5 w hb5 hs => ?_))
    refine EL_run rfl (R_move rfl) ?_
    refine EL_op rfl (O_append hs (i := 0) rfl rfl ei_68 rfl rfl (Src.data (hs.rd (i := 0) rfl)) (Sp.one l) (by omega) (by omega) (fun v7 w hs => ?_))
    have hs := hs.asSl (i := 0) rfl l.length (l.flatMap Sp.l) (by omega) (by simp)
    refine EL_run rfl (R_assign rfl) ?_
    refine EL_nil ?_
    refine EC_ret ?_
    exact ⟨[_], ⟨rfl, trivial⟩, _, _, ⟨rfl, rfl⟩, (hs.fin [true] []).as rfl rfl⟩

set_option maxRecDepth 100000 in
theorem firstCmp_spec (s : Sp) (n : Int) {w0 : World} (h1 : 0 ≤ s.b ∧ s.b ≤ 1099511627776) (h2 : 0 ≤ n ∧ n ≤ 1099511627777) : Spec Try.prog 72 #[s.val, .int .i64 n] w0 [] [] (fun v es1 ds1 => v = .int .i64 (s.b - n) ∧ es1 = [] ∧ ds1 = []) := by
  refine Spec.intro (fun F D hs => ?_)
  refine Calls_of_EC (args := [s.val, .int .i64 n]) Try.func72 rfl rfl rfl ?_
  refine EC_rseq ?_
  refine EL_op rfl (O_box hs rfl rfl (fun b2 w hb2 hs => ?_))
  refine EL_run rfl (R_assign rfl) ?_
  refine EL_nil ?_
  refine EC_rseq ?_
  refine EL_run rfl (R_field fo_49_1 rfl) ?_
  refine EL_run rfl (R_lb (hs.at (i := 0) rfl) Try.isAgg3 rfl rfl) ?_
  refine EL_run rfl (R_move rfl) ?_
  refine EL_run rfl (R_subI rfl rfl (by omega)) ?_
  refine EL_run rfl (R_assign rfl) ?_
  refine EL_nil ?_
  refine EC_ret ?_
  exact ⟨[_], ⟨rfl, trivial⟩, _, _, ⟨rfl, rfl, rfl⟩, (hs.fin [] []).as rfl rfl⟩

set_option maxRecDepth 100000 in
theorem bsearch_spec (ao : Option Addr) (c : Nat) (l : List Sp) (n : Int) {w0 : World} (hl : l.length ≤ 1000000) (hv : valid l = true) (hn : 0 ≤ n ∧ n ≤ 1099511627777) : Spec Try.prog 71 #[.slice ao l.length c, .int .i64 n, .func (.func 72) #[] #[]] w0 [] [dS ao c l] (fun v es1 ds1 => (∃ r, v = .tuple #[.int .i64 (firstAt l n : Int), .bool r]) ∧ es1 = [] ∧ ds1 = []) := by
  refine Spec.intro (fun F D hs => ?_)
  refine Calls_of_EC (args := [.slice ao l.length c, .int .i64 n, .func (.func 72) #[] #[]]) Try.func71 rfl rfl rfl ?_
  refine EC_rseq ?_
  refine EL_run rfl (R_assign rfl) ?_
  refine EL_run rfl (R_assign rfl) ?_
  refine EL_nil ?_
  refine EC_rseq ?_
  refine EL_run rfl (R_move rfl) ?_
  refine EL_run rfl (R_lenS Try.underlying68 rfl) ?_
  refine EL_run rfl (R_assign rfl) ?_
  refine EL_nil ?_
  refine EC_rseq ?_
  refine EL_run rfl (R_move rfl) ?_
  refine EL_run rfl (R_assign rfl) ?_
  refine EL_run rfl (R_assign rfl) ?_
  refine EL_nil ?_
  refine EC_seq ?_
  refine EC_block ?_
  refine EC_loop (fun m ρ w => ∃ (i j : Nat), m = j - i ∧ i ≤ j ∧ j ≤ l.length ∧ (∀ k (h : k < l.length), k < i → l[k].b < n) ∧ (∀ k (h : k < l.length), j ≤ k → n ≤ l[k].b) ∧ Slots ρ [(0, .slice ao l.length c), (1, .int .i64 n), (2, .func (.func 72) #[] #[]), (8, .int .i64 (l.length : Int)), (9, .int .i64 (i : Int)), (10, .int .i64 (j : Int))] ∧ St w0 F D [] [dS ao c l] w) (l.length) (⟨0, l.length, by omega, by omega, by omega, fun k _ h => absurd h (Nat.not_lt_zero _), fun k h h2 => by omega, ⟨rfl, rfl, rfl, rfl, rfl, rfl, trivial⟩, hs⟩) ?_
  rintro m ρ w ⟨i, j, rfl, hij, hj, hlo, hhi, hsl, hs⟩
  refine EC_slots _ hsl ?_
  refine EC_seq ?_
  refine EC_rseq ?_
  refine EL_run rfl (R_move rfl) ?_
  refine EL_run rfl (R_move rfl) ?_
  refine EL_run rfl (R_lss rfl rfl) ?_
  refine EL_nil ?_
  refine EC_cond rfl (fun hc17 => ?_) (fun hc17 => ?_)
  · (first | have hc17p := of_decide_eq_true hc17 | have hc17p := of_decide_eq_false hc17 | have hc17p := of_decide_eq_false (bnt hc17) | have hc17p := of_decide_eq_true (bnf hc17) | have hc17p := bnt hc17 | have hc17p := bnf hc17 | have hc17p := hc17); try dsimp only at hc17p
    refine EC_skip ?_
    refine Then_n ?_
    refine EC_block ?_
    refine EC_rseq ?_
    refine EL_run rfl (R_move rfl) ?_
    refine EL_run rfl (R_move rfl) ?_
    refine EL_run rfl (R_addI rfl rfl (by omega)) ?_
    refine EL_run rfl (R_convIU Try.underlying3 Try.underlying54 rfl (by omega) (by omega)) ?_
    refine EL_run rfl (R_shrU 1 rfl rfl rfl (by simp [IntKind.bits]; omega)) ?_
    refine EL_run rfl (R_convS Try.underlying54 Try.underlying3 rfl (by omega) (by omega)) ?_
    refine EL_run rfl (R_assign rfl) ?_
    have hmid : ((i : Int) + (j : Int)).toNat / 2 ^ 1 = (i + j) / 2 := by omega
    rw [hmid]
    have hhb : (i + j) / 2 < l.length := by omega
    obtain ⟨bb, oo, rfl⟩ := dSlsomeF (hs.rd (i := 0) rfl) Sp.len (by decide) hhb
    have hg := valid_get hv _ hhb
    refine EL_nil ?_
    refine EC_rseq ?_
    refine EL_run rfl (R_move rfl) ?_
    refine EL_run rfl (R_move rfl) ?_
    refine EL_run rfl (R_move rfl) ?_
    refine EL_run rfl (R_idx es_68 rfl (by rfl) rfl (by omega) (by omega)) ?_
    refine EL_run rfl (R_ldE (hs.rd (i := 0) rfl) Sp.len Try.isAgg49 Try.sizeOf49 rfl (by simp <;> omega) (List.getElem?_eq_getElem hhb) (by decide)) ?_
    refine EL_run rfl (R_move rfl) ?_
    refine EL_op rfl (O_call hs [] [] rfl rfl rfl Try.call72 (firstCmp_spec l[(i + j) / 2] n (by omega) (by omega)) (fun v es1 ds1 w hPhi hs => ?_))
    obtain ⟨rfl, rfl, rfl⟩ := hPhi
    refine EL_run rfl (R_lss rfl rfl) ?_
    refine EL_nil ?_
    refine EC_cond rfl (fun hc31 => ?_) (fun hc31 => ?_)
    · (first | have hc31p := of_decide_eq_true hc31 | have hc31p := of_decide_eq_false hc31 | have hc31p := of_decide_eq_false (bnt hc31) | have hc31p := of_decide_eq_true (bnf hc31) | have hc31p := bnt hc31 | have hc31p := bnf hc31 | have hc31p := hc31); try dsimp only at hc31p
      refine EC_region ?_
      refine EL_run rfl (R_move rfl) ?_
      refine EL_run rfl (R_addI rfl rfl (by omega)) ?_
      refine EL_run rfl (R_assign rfl) ?_
      refine EL_nil ?_
      refine InBlock_n ?_
      refine Then_n ?_
      exact ⟨j - ((i + j) / 2 + 1), by omega, (i + j) / 2 + 1, j, rfl, by omega, by omega, fun k h hk => by
        rcases Nat.lt_or_ge k ((i + j) / 2) with h' | h'
        · have := valid_mono hv h' hhb; omega
        · have : k = (i + j) / 2 := by omega
          subst this; omega, hhi, ⟨rfl, rfl, rfl, rfl, sI (by omega), rfl, trivial⟩, (hs.fin [] [0]).as rfl rfl⟩
    · (first | have hc31p := of_decide_eq_true hc31 | have hc31p := of_decide_eq_false hc31 | have hc31p := of_decide_eq_false (bnt hc31) | have hc31p := of_decide_eq_true (bnf hc31) | have hc31p := bnt hc31 | have hc31p := bnf hc31 | have hc31p := hc31); try dsimp only at hc31p
      refine EC_region ?_
      refine EL_run rfl (R_move rfl) ?_
      refine EL_run rfl (R_assign rfl) ?_
      refine EL_nil ?_
      refine InBlock_n ?_
      refine Then_n ?_
      exact ⟨(i + j) / 2 - i, by omega, i, (i + j) / 2, rfl, by omega, by omega, hlo, fun k h hk => by
        rcases Nat.lt_or_ge ((i + j) / 2) k with h' | h'
        · have := valid_mono hv h' h; omega
        · have : k = (i + j) / 2 := by omega
          subst this; omega, ⟨rfl, rfl, rfl, rfl, rfl, sI (by omega), trivial⟩, (hs.fin [] [0]).as rfl rfl⟩
  · (first | have hc17p := of_decide_eq_true hc17 | have hc17p := of_decide_eq_false hc17 | have hc17p := of_decide_eq_false (bnt hc17) | have hc17p := of_decide_eq_true (bnf hc17) | have hc17p := bnt hc17 | have hc17p := bnf hc17 | have hc17p := hc17); try dsimp only at hc17p
    refine EC_exit ?_
    refine Then_e ?_
    refine Then_e ?_
    refine InBlock_hit rfl ?_
    refine Then_n ?_
    refine EC_rseq ?_
    refine EL_run rfl (R_move rfl) ?_
    refine EL_run rfl (R_move rfl) ?_
    refine EL_run rfl (R_move rfl) ?_
    refine EL_run rfl (R_lss rfl rfl) ?_
    refine EL_run rfl (R_move rfl) ?_
    refine EL_split 39 rfl (fun hg4 => ?_) (fun hg4 => ?_)
    · (first | have hg4p := of_decide_eq_true hg4 | have hg4p := of_decide_eq_false hg4 | have hg4p := of_decide_eq_false (bnt hg4) | have hg4p := of_decide_eq_true (bnf hg4) | have hg4p := bnt hg4 | have hg4p := bnf hg4 | have hg4p := hg4); try dsimp only at hg4p
      have hib : i < l.length := by omega
      obtain ⟨bb, oo, rfl⟩ := dSlsomeF (hs.rd (i := 0) rfl) Sp.len (by decide) hib
      have hg := valid_get hv _ hib
      refine EL_want rfl rfl hg4 ?_
      refine EL_run rfl (R_move rfl) ?_
      refine EL_want rfl rfl hg4 ?_
      refine EL_run rfl (R_move rfl) ?_
      refine EL_want rfl rfl hg4 ?_
      refine EL_run rfl (R_move rfl) ?_
      refine EL_want rfl rfl hg4 ?_
      refine EL_run rfl (R_idx es_68 rfl (by rfl) rfl (by omega) (by omega)) ?_
      refine EL_want rfl rfl hg4 ?_
      refine EL_run rfl (R_ldE (hs.rd (i := 0) rfl) Sp.len Try.isAgg49 Try.sizeOf49 rfl (by simp <;> omega) (List.getElem?_eq_getElem hib) (by decide)) ?_
      refine EL_want rfl rfl hg4 ?_
      refine EL_run rfl (R_move rfl) ?_
      refine EL_want rfl rfl hg4 ?_
      refine EL_op rfl (O_call hs [] [] rfl rfl rfl Try.call72 (firstCmp_spec l[i] n (by omega) (by omega)) (fun v es1 ds1 w hPhi hs => ?_))
      obtain ⟨rfl, rfl, rfl⟩ := hPhi
      refine EL_want rfl rfl hg4 ?_
      refine EL_run rfl (R_eql rfl rfl) ?_
      refine EL_run rfl (R_pickT rfl hg4 rfl) ?_
      refine EL_run rfl (R_assign rfl) ?_
      refine EL_run rfl (R_assign rfl) ?_
      refine EL_nil ?_
      refine EC_ret ?_
      obtain rfl : i = j := by omega
      exact ⟨[_, _], ⟨rfl, rfl, trivial⟩, _, _, ⟨⟨_, by rw [firstAt_of hj hlo hhi]; rfl⟩, rfl, rfl⟩, (hs.fin [] []).as rfl rfl⟩
    · (first | have hg4p := of_decide_eq_true hg4 | have hg4p := of_decide_eq_false hg4 | have hg4p := of_decide_eq_false (bnt hg4) | have hg4p := of_decide_eq_true (bnf hg4) | have hg4p := bnt hg4 | have hg4p := bnf hg4 | have hg4p := hg4); try dsimp only at hg4p
      refine EL_pass rfl rfl rfl hg4 ?_
      refine EL_pass rfl rfl rfl hg4 ?_
      refine EL_pass rfl rfl rfl hg4 ?_
      refine EL_pass rfl rfl rfl hg4 ?_
      refine EL_pass rfl rfl rfl hg4 ?_
      refine EL_pass rfl rfl rfl hg4 ?_
      refine EL_pass rfl rfl rfl hg4 ?_
      refine EL_pass rfl rfl rfl hg4 ?_
      refine EL_run rfl (R_pickF rfl hg4 rfl) ?_
      refine EL_run rfl (R_assign rfl) ?_
      refine EL_run rfl (R_assign rfl) ?_
      refine EL_nil ?_
      refine EC_ret ?_
      obtain rfl : i = j := by omega
      exact ⟨[_, _], ⟨rfl, rfl, trivial⟩, _, _, ⟨⟨_, by rw [firstAt_of hj hlo hhi]; rfl⟩, rfl, rfl⟩, (hs.fin [] []).as rfl rfl⟩

set_option maxRecDepth 100000 in
theorem first_spec (ao : Option Addr) (c : Nat) (l : List Sp) (n : Int) {w0 : World} (hl : l.length ≤ 1000000) (hv : valid l = true) (hn : 0 ≤ n ∧ n ≤ 1099511627777) : Spec Try.prog 61 #[.slice ao l.length c, .int .i64 n] w0 [] [dS ao c l] (fun v es1 ds1 => v = .int .i64 (firstAt l n : Int) ∧ es1 = [] ∧ ds1 = []) := by
  refine Spec.intro (fun F D hs => ?_)
  refine Calls_of_EC (args := [.slice ao l.length c, .int .i64 n]) Try.func61 rfl rfl rfl ?_
  refine EC_rseq ?_
  refine EL_run rfl (R_assign rfl) ?_
  refine EL_nil ?_
  refine EC_rseq ?_
  refine EL_run rfl (R_move rfl) ?_
  refine EL_run rfl (R_move rfl) ?_
  refine EL_op rfl (O_call hs [] [0] rfl rfl rfl Try.call71 (bsearch_spec ao c l n hl hv hn) (fun v es1 ds1 w hPhi hs => ?_))
  obtain ⟨⟨r, rfl⟩, rfl, rfl⟩ := hPhi
  refine EL_run rfl (R_move rfl) ?_
  refine EL_run rfl (R_extract rfl rfl) ?_
  refine EL_run rfl (R_extract rfl rfl) ?_
  refine EL_run rfl (R_assign rfl) ?_
  refine EL_run rfl (R_assign rfl) ?_
  refine EL_nil ?_
  refine EC_rseq ?_
  refine EL_run rfl (R_move rfl) ?_
  refine EL_run rfl (R_assign rfl) ?_
  refine EL_nil ?_
  refine EC_ret ?_
  exact ⟨[_], ⟨rfl, trivial⟩, _, _, ⟨rfl, rfl, rfl⟩, (hs.fin [] []).as rfl rfl⟩

set_option maxRecDepth 100000 in
theorem spReplace_spec (ao : Option Addr) (c : Nat) (l : List Sp) (a b : Nat) (ao2 : Option Addr) (c2 : Nat) (ins : List Sp) {w0 : World} (hl : l.length ≤ 1000000) (hi : ins.length ≤ 3000000) (ha : a ≤ l.length) (hb : b ≤ l.length) : Spec Try.prog 62 #[.slice ao l.length c, .int .i64 (a : Int), .int .i64 (b : Int), .slice ao2 ins.length c2] w0 [] [dS ao c l, dS ao2 c2 ins] (fun v es1 ds1 => es1 = [oSl v 49 2 (spReplace l a b ins).length ((spReplace l a b ins).flatMap Sp.l)] ∧ ds1 = []) := by
  refine Spec.intro (fun F D hs => ?_)
  refine Calls_of_EC (args := [.slice ao l.length c, .int .i64 (a : Int), .int .i64 (b : Int), .slice ao2 ins.length c2]) Try.func62 rfl rfl rfl ?_
  refine EC_rseq ?_
  refine EL_run rfl (R_assign rfl) ?_
  refine EL_nil ?_
  refine EC_rseq ?_
  refine EL_op rfl (O_buildSlice [] hs rfl ei_68 rfl rfl rfl (by simp) (by decide) (fun b10 w hb10 hs => ?_))
  refine EL_run rfl (R_move rfl) ?_
  refine EL_run rfl (R_move rfl) ?_
  refine EL_run rfl (R_sliceHi es_68 rfl rfl (by omega) (by have := (hs.rd (i := 0) rfl).1.1; omega)) ?_
  have hs := hs.dEtake (j := 0) rfl Sp.len a ha
  have hta : ((a : Int)).toNat = (l.take a).length := by rw [List.length_take]; omega
  rw [hta]
  refine EL_op rfl (O_append hs (i := 0) rfl rfl ei_68 rfl rfl (Src.data (hs.rd (i := 2) rfl)) (Sp.one _) (by rw [List.length_take]; omega) (by rw [List.length_take]; omega) (fun v14 w hs => ?_))
  refine EL_run rfl (R_assign rfl) ?_
  refine EL_nil ?_
  have hs := hs.dEdrop (j := 0) rfl Sp.len b hb
  refine EC_dseqS hs [2, 6] [] [] [] (.take 0 (.take 1 (.take 3 (.take 4 (.take 5 (.fork 2 (.fork 6 (.take 7 .done) (.done)) (.done))))))) mix_ok (by kernel_rfl) (fun w hs _ => ?_)
  refine EP_take rfl rfl rfl (fun _ => R_move rfl) ?_
  refine EP_take rfl rfl rfl (fun _ => R_move rfl) ?_
  refine EP_take rfl rfl rfl (fun _ => R_move rfl) ?_
  refine EP_take rfl rfl rfl (fun _ => R_move rfl) ?_
  refine EP_take rfl rfl rfl (fun _ => R_sliceLo es_68 rfl rfl (by omega) (by omega)) ?_
  rw [show l.length - ((b : Int)).toNat = (l.drop b).length by rw [List.length_drop]; omega]
  refine EP_act rfl rfl (O_append hs (i := 0) rfl rfl ei_68 rfl rfl (Src.data (hs.rd (i := 1) rfl)) (Sp.one _) (by rw [List.length_take]; omega) (by rw [List.length_take]; omega) (fun v17 w hs => ⟨(rq_no (by kernel_rfl)), ?_⟩))
  refine EP_act rfl rfl (O_append hs (i := 0) rfl rfl ei_68 rfl rfl (Src.data (hs.rd (i := 3) rfl)) (Sp.one _) (by rw [List.length_take, List.length_drop]; omega) (by rw [List.length_take, List.length_drop]; omega) (fun v21 w hs => ⟨(rq_no (by kernel_rfl)), ?_⟩))
  have hs := hs.asSl (i := 0) rfl (spReplace l a b ins).length ((spReplace l a b ins).flatMap Sp.l) (by simp [spReplace]; omega) (by simp [spReplace])
  refine EP_take rfl rfl rfl (fun _ => R_assign rfl) ?_
  refine EP_done ?_
  refine EC_ret ?_
  exact ⟨[_], ⟨rfl, trivial⟩, _, _, ⟨rfl, rfl⟩, (hs.fin [true] []).as rfl rfl⟩

set_option maxRecDepth 100000 in
theorem spAdd_spec (ao : Option Addr) (c : Nat) (l : List Sp) (s : Sp) {w0 : World} (hl : l.length ≤ 1000000) : Spec Try.prog 43 #[.slice ao l.length c, s.val] w0 [] [dS ao c l] (fun v es1 ds1 => es1 = [oSl v 49 2 (spAdd l s).length ((spAdd l s).flatMap Sp.l)] ∧ ds1 = []) := by
  refine Spec.intro (fun F D hs => ?_)
  refine Calls_of_EC (args := [.slice ao l.length c, s.val]) Try.func43 rfl rfl rfl ?_
  refine EC_rseq ?_
  refine EL_op rfl (O_box hs rfl rfl (fun b3 w hb3 hs => ?_))
  refine EL_run rfl (R_assign rfl) ?_
  refine EL_nil ?_
  refine EC_seq ?_
  refine EC_rseq ?_
  refine EL_run rfl (R_move rfl) ?_
  refine EL_op rfl (O_call hs [] [0] rfl rfl rfl Try.call58 (valid_spec ao c l hl) (fun v es1 ds1 w hPhi hs => ?_))
  obtain ⟨rfl, rfl, rfl⟩ := hPhi
  refine EL_run rfl (R_not rfl) ?_
  refine EL_run rfl (R_move rfl) ?_
  refine EL_split 10 rfl (fun hg3 => ?_) (fun hg3 => ?_)
  · (first | have hg3p := of_decide_eq_true hg3 | have hg3p := of_decide_eq_false hg3 | have hg3p := of_decide_eq_false (bnt hg3) | have hg3p := of_decide_eq_true (bnf hg3) | have hg3p := bnt hg3 | have hg3p := bnf hg3 | have hg3p := hg3); try dsimp only at hg3p
    refine EL_pass rfl rfl rfl hg3 ?_
    refine EL_pass rfl rfl rfl hg3 ?_
    refine EL_pass rfl rfl rfl hg3 ?_
    refine EL_run rfl (R_pickT rfl hg3 rfl) ?_
    refine EL_nil ?_
    refine EC_cond rfl (fun hcx => ?_) (fun hcx => ?_)
    · skip
      have hbad : ¬ (valid l = true ∧ s.right = true) := by
        rintro ⟨h1, h2⟩
        first | exact Bool.noConfusion (hg3p.symm.trans h1) | exact Bool.noConfusion (hc14p.symm.trans h2)
      refine EC_rseq ?_
      refine EL_run rfl (R_move rfl) ?_
      refine EL_op rfl (O_call hs [] [0] rfl rfl rfl Try.call60 (cloneSp_spec ao c l hl) (fun v es1 ds1 w hPhi hs => ?_))
      obtain ⟨rfl, rfl⟩ := hPhi
      refine EL_run rfl (R_assign rfl) ?_
      refine EL_nil ?_
      refine EC_ret ?_
      refine Then_r ?_
      exact ⟨[_], ⟨rfl, trivial⟩, _, _, ⟨rfl, rfl⟩, (hs.fin [false, true] []).as (by rw [spAdd, if_neg hbad]; rfl) rfl⟩
    · exact Bool.noConfusion hcx
  · (first | have hg3p := of_decide_eq_true hg3 | have hg3p := of_decide_eq_false hg3 | have hg3p := of_decide_eq_false (bnt hg3) | have hg3p := of_decide_eq_true (bnf hg3) | have hg3p := bnt hg3 | have hg3p := bnf hg3 | have hg3p := hg3); try dsimp only at hg3p
    refine EL_want rfl rfl hg3 ?_
    refine EL_run rfl (R_lw (hs.at (i := 0) rfl) Try.isAgg49 Try.sizeOf49 rfl rfl) ?_
    refine EL_want rfl rfl hg3 ?_
    refine EL_op rfl (O_call hs [] [] rfl rfl rfl Try.call59 (spRight_spec s) (fun v es1 ds1 w hPhi hs => ?_))
    obtain ⟨rfl, rfl, rfl⟩ := hPhi
    refine EL_want rfl rfl hg3 ?_
    refine EL_run rfl (R_not rfl) ?_
    refine EL_run rfl (R_pickF rfl hg3 rfl) ?_
    refine EL_nil ?_
    refine EC_cond rfl (fun hc14 => ?_) (fun hc14 => ?_)
    · (first | have hc14p := of_decide_eq_true hc14 | have hc14p := of_decide_eq_false hc14 | have hc14p := of_decide_eq_false (bnt hc14) | have hc14p := of_decide_eq_true (bnf hc14) | have hc14p := bnt hc14 | have hc14p := bnf hc14 | have hc14p := hc14); try dsimp only at hc14p
      have hbad : ¬ (valid l = true ∧ s.right = true) := by
        rintro ⟨h1, h2⟩
        first | exact Bool.noConfusion (hg3p.symm.trans h1) | exact Bool.noConfusion (hc14p.symm.trans h2)
      have hbad : ¬ (valid l = true ∧ s.right = true) := by
        rintro ⟨h1, h2⟩
        first | exact Bool.noConfusion (hg3p.symm.trans h1) | exact Bool.noConfusion (hc14p.symm.trans h2)
      refine EC_rseq ?_
      refine EL_run rfl (R_move rfl) ?_
      refine EL_op rfl (O_call hs [] [0] rfl rfl rfl Try.call60 (cloneSp_spec ao c l hl) (fun v es1 ds1 w hPhi hs => ?_))
      obtain ⟨rfl, rfl⟩ := hPhi
      refine EL_run rfl (R_assign rfl) ?_
      refine EL_nil ?_
      refine EC_ret ?_
      refine Then_r ?_
      exact ⟨[_], ⟨rfl, trivial⟩, _, _, ⟨rfl, rfl⟩, (hs.fin [false, true] []).as (by rw [spAdd, if_neg hbad]; rfl) rfl⟩
    · (first | have hc14p := of_decide_eq_true hc14 | have hc14p := of_decide_eq_false hc14 | have hc14p := of_decide_eq_false (bnt hc14) | have hc14p := of_decide_eq_true (bnf hc14) | have hc14p := bnt hc14 | have hc14p := bnf hc14 | have hc14p := hc14); try dsimp only at hc14p
      have hgood : valid l = true ∧ s.right = true := ⟨by first | exact hg3p | exact hg3, by first | exact hc14p⟩
      have hsr := Sp.right_iff.1 hgood.2
      refine EC_skip ?_
      refine Then_n ?_
      refine EC_rseq ?_
      refine EL_run rfl (R_move rfl) ?_
      refine EL_run rfl (R_field fo_49_0 rfl) ?_
      refine EL_run rfl (R_lb (hs.at (i := 0) rfl) Try.isAgg3 rfl rfl) ?_
      refine EL_op rfl (O_call hs [] [0] rfl rfl rfl Try.call61 (first_spec ao c l s.a hl hgood.1 (by omega)) (fun v es1 ds1 w hPhi hs => ?_))
      obtain ⟨rfl, rfl, rfl⟩ := hPhi
      have hfl := firstAt_le l s.a
      refine EL_run rfl (R_assign rfl) ?_
      refine EL_nil ?_
      refine EC_rseq ?_
      refine EL_run rfl (R_move rfl) ?_
      refine EL_run rfl (R_assign rfl) ?_
      refine EL_nil ?_
      refine EC_seq ?_
      refine EC_block ?_
      refine EC_loop (fun m ρ w => ∃ (k : Nat) (q : Sp), m = l.length - k ∧ k ≤ l.length ∧ firstAt l s.a ≤ k ∧ (absorb s (l.drop (firstAt l s.a))).1 = (absorb q (l.drop k)).1 ∧ firstAt l s.a + (absorb s (l.drop (firstAt l s.a))).2 = k + (absorb q (l.drop k)).2 ∧ Slots ρ [(0, .slice ao l.length c), (3, .pointer (some ⟨b3, 0, none⟩)), (5, .int .i64 (firstAt l s.a : Int)), (6, .int .i64 (k : Int))] ∧ St w0 F D [blk b3 q.l.toArray 49] [dS ao c l] w) (l.length - firstAt l s.a) (⟨firstAt l s.a, s, rfl, hfl, Nat.le_refl _, rfl, rfl, ⟨rfl, rfl, rfl, rfl, trivial⟩, (hs.fin [true] [0]).as rfl rfl⟩) ?_
      rintro m ρ w ⟨k, q, rfl, hk, hfk, ha1, ha2, hsl, hs⟩
      refine EC_slots _ hsl ?_
      refine EC_seq ?_
      refine EC_dseqS hs [] [9, 11] [0] [0] (.take 0 (.take 1 (.take 2 (.take 3 (.take 4 (.take 5 (.take 6 (.take 7 (.take 8 (.take 9 (.take 10 (.take 11 (.take 12 (.take 13 .done)))))))))))))) mix_ok (by kernel_rfl) (fun w hs _ => ?_)
      refine EP_take rfl rfl rfl (fun _ => R_move rfl) ?_
      refine EP_take rfl rfl rfl (fun _ => R_move rfl) ?_
      refine EP_take rfl rfl rfl (fun _ => R_lenS Try.underlying68 rfl) ?_
      refine EP_take rfl rfl rfl (fun _ => R_lss rfl rfl) ?_
      refine EP_take rfl rfl rfl (fun _ => R_move rfl) ?_
      refine EP_split 26 rfl (fun hg4 => ?_) (fun hg4 => ?_)
      · (first | have hg4p := of_decide_eq_true hg4 | have hg4p := of_decide_eq_false hg4 | have hg4p := of_decide_eq_false (bnt hg4) | have hg4p := of_decide_eq_true (bnf hg4) | have hg4p := bnt hg4 | have hg4p := bnf hg4 | have hg4p := hg4); try dsimp only at hg4p
        have hib : k < l.length := by omega
        obtain ⟨bb, oo, rfl⟩ := dSlsomeF (hs.rd (i := 0) rfl) Sp.len (by decide) hib
        have hdr : l.drop k = l[k] :: l.drop (k + 1) := List.drop_eq_getElem_cons hib
        refine EP_takeG rfl rfl rfl hg4 rfl rfl (fun _ => R_move rfl) ?_
        refine EP_takeG rfl rfl rfl hg4 rfl rfl (fun _ => R_move rfl) ?_
        refine EP_takeG rfl rfl rfl hg4 rfl rfl (fun _ => R_idx es_68 rfl (by rfl) rfl (by omega) (by omega)) ?_
        refine EP_takeG rfl rfl rfl hg4 rfl rfl (fun _ => R_field fo_49_0 rfl) ?_
        refine EP_readG rfl rfl rfl hg4 rfl rfl (RdS.of hs rfl rfl) (fun _ hR => R_ldF (j := 0) (hR.d 0 rfl rfl) Sp.len Try.isAgg3 rfl (by simp <;> omega) (List.getElem?_eq_getElem hib) rfl) ?_
        refine EP_takeG rfl rfl rfl hg4 rfl rfl (fun _ => R_field fo_49_1 rfl) ?_
        refine EP_readG rfl rfl rfl hg4 rfl rfl (RdS.of hs rfl rfl) (fun _ hR => R_lb (hR.e 0 rfl rfl) Try.isAgg3 rfl rfl) ?_
        refine EP_takeG rfl rfl rfl hg4 rfl rfl (fun _ => R_leq rfl rfl) ?_
        refine EP_take rfl rfl rfl (fun _ => R_pickT rfl hg4 rfl) ?_
        refine EP_done ?_
        refine EC_cond rfl (fun hc35 => ?_) (fun hc35 => ?_)
        · (first | have hc35p := of_decide_eq_true hc35 | have hc35p := of_decide_eq_false hc35 | have hc35p := of_decide_eq_false (bnt hc35) | have hc35p := of_decide_eq_true (bnf hc35) | have hc35p := bnt hc35 | have hc35p := bnf hc35 | have hc35p := hc35); try dsimp only at hc35p
          refine EC_skip ?_
          refine Then_n ?_
          refine EC_seq ?_
          refine EC_block ?_
          refine EC_drawS hs [17] [1, 6, 9, 14] [0] [0] (.take 0 (.take 1 (.take 2 (.take 3 (.take 4 (.take 5 (.take 6 (.take 7 (.take 8 (.take 9 (.take 10 (.take 11 (.take 12 (.take 13 (.take 14 (.take 15 (.take 16 (.fork 17 .done (.done))))))))))))))))))) mix_ok (by kernel_rfl) (fun w hs _ => ?_)
          refine EP_take rfl rfl rfl (fun _ => R_field fo_49_0 rfl) ?_
          refine EP_read rfl rfl rfl (RdS.of hs rfl rfl) (fun _ hR => R_lb (hR.e 0 rfl rfl) Try.isAgg3 rfl rfl) ?_
          refine EP_take rfl rfl rfl (fun _ => R_move rfl) ?_
          refine EP_take rfl rfl rfl (fun _ => R_move rfl) ?_
          refine EP_take rfl rfl rfl (fun _ => R_idx es_68 rfl (by rfl) rfl (by omega) (by omega)) ?_
          refine EP_take rfl rfl rfl (fun _ => R_field fo_49_0 rfl) ?_
          refine EP_read rfl rfl rfl (RdS.of hs rfl rfl) (fun _ hR => R_ldF (j := 0) (hR.d 0 rfl rfl) Sp.len Try.isAgg3 rfl (by simp <;> omega) (List.getElem?_eq_getElem hib) rfl) ?_
          refine EP_take rfl rfl rfl (fun _ => R_min rfl rfl) ?_
          refine EP_take rfl rfl rfl (fun _ => R_field fo_49_1 rfl) ?_
          refine EP_read rfl rfl rfl (RdS.of hs rfl rfl) (fun _ hR => R_lb (hR.e 0 rfl rfl) Try.isAgg3 rfl rfl) ?_
          refine EP_take rfl rfl rfl (fun _ => R_move rfl) ?_
          refine EP_take rfl rfl rfl (fun _ => R_move rfl) ?_
          refine EP_take rfl rfl rfl (fun _ => R_idx es_68 rfl (by rfl) rfl (by omega) (by omega)) ?_
          refine EP_take rfl rfl rfl (fun _ => R_field fo_49_1 rfl) ?_
          refine EP_read rfl rfl rfl (RdS.of hs rfl rfl) (fun _ hR => R_ldF (j := 1) (hR.d 0 rfl rfl) Sp.len Try.isAgg3 rfl (by simp <;> omega) (List.getElem?_eq_getElem hib) rfl) ?_
          refine EP_take rfl rfl rfl (fun _ => R_max rfl rfl) ?_
          refine EP_take rfl rfl rfl (fun _ => R_buildS (cs := (Sp.mk (min q.a l[k].a) (max q.b l[k].b)).l.toArray) [(0, .tmp 45), (1, .tmp 53)] pl_49 Try.zeroValue49 rfl rfl rfl) ?_
          refine EP_act rfl rfl (O_storeW hs (i := 0) rfl sz_49 rfl rfl rfl rfl (Sp.oneA _) (fun w hs => ⟨(rq_no (by kernel_rfl)), ?_⟩))
          refine EP_done ?_
          refine InBlock_n ?_
          refine Then_n ?_
          refine EC_region ?_
          refine EL_run rfl (R_move rfl) ?_
          refine EL_run rfl (R_addI rfl rfl (by omega)) ?_
          refine EL_run rfl (R_assign rfl) ?_
          refine EL_nil ?_
          refine Then_n ?_
          exact ⟨l.length - (k + 1), by omega, k + 1, ⟨min q.a l[k].a, max q.b l[k].b⟩, rfl, by omega, by omega, by rw [ha1, hdr, absorb, if_pos hc35p], by rw [ha2, hdr, absorb, if_pos hc35p]; simp only; omega, ⟨rfl, rfl, rfl, rfl, trivial⟩, (hs.fin [true] [0]).as rfl rfl⟩
        · (first | have hc35p := of_decide_eq_true hc35 | have hc35p := of_decide_eq_false hc35 | have hc35p := of_decide_eq_false (bnt hc35) | have hc35p := of_decide_eq_true (bnf hc35) | have hc35p := bnt hc35 | have hc35p := bnf hc35 | have hc35p := hc35); try dsimp only at hc35p
          refine EC_exit ?_
          refine Then_e ?_
          refine Then_e ?_
          refine InBlock_hit rfl ?_
          refine Then_n ?_
          have hend : absorb q (l.drop k) = (q, 0) := by
            first
              | rw [hdr, absorb, if_neg hc35p]
              | rw [List.drop_eq_nil_of_le (by omega), absorb]
          rw [hend] at ha1 ha2
          simp only at ha1 ha2
          refine EC_rseq ?_
          refine EL_run rfl (R_move rfl) ?_
          refine EL_run rfl (R_move rfl) ?_
          refine EL_run rfl (R_move rfl) ?_
          refine EL_run rfl (R_lw (hs.at (i := 0) rfl) Try.isAgg49 Try.sizeOf49 rfl rfl) ?_
          refine EL_op rfl (O_buildSlice [.tmp 58] hs rfl ei_68 rfl rfl rfl (sizeN rfl) (by decide) (fun b59 w hb59 hs => ?_))
          have hs := hs.freezeAt (i := 1) rfl
          have hs := hs.as (es' := [blk b3 q.l.toArray 49]) (ds' := [dS _ c l, dS (some ⟨b59, 0, none⟩) 1 [q]]) rfl rfl
          refine EL_op rfl (O_call hs [] [0, 1] rfl rfl rfl Try.call62 (spReplace_spec _ c l (firstAt l s.a) k (some ⟨b59, 0, none⟩) 1 [q] hl (by simp) hfl hk) (fun v es1 ds1 w hPhi hs => ?_))
          obtain ⟨rfl, rfl⟩ := hPhi
          refine EL_run rfl (R_assign rfl) ?_
          refine EL_nil ?_
          refine EC_ret ?_
          exact ⟨[_], ⟨rfl, trivial⟩, _, _, ⟨rfl, rfl⟩, (hs.fin [false, true] []).as (by rw [spAdd, if_pos hgood, ha1, show firstAt l s.a + (absorb s (l.drop (firstAt l s.a))).2 = k by omega]; rfl) rfl⟩
      · (first | have hg4p := of_decide_eq_true hg4 | have hg4p := of_decide_eq_false hg4 | have hg4p := of_decide_eq_false (bnt hg4) | have hg4p := of_decide_eq_true (bnf hg4) | have hg4p := bnt hg4 | have hg4p := bnf hg4 | have hg4p := hg4); try dsimp only at hg4p
        refine EP_passT rfl rfl rfl hg4 rfl (fun _ => RdS.of hs rfl rfl) ?_
        refine EP_passT rfl rfl rfl hg4 rfl (fun _ => RdS.of hs rfl rfl) ?_
        refine EP_passT rfl rfl rfl hg4 rfl (fun _ => RdS.of hs rfl rfl) ?_
        refine EP_passT rfl rfl rfl hg4 rfl (fun _ => RdS.of hs rfl rfl) ?_
        refine EP_passT rfl rfl rfl hg4 rfl (fun _ => RdS.of hs rfl rfl) ?_
        refine EP_passT rfl rfl rfl hg4 rfl (fun _ => RdS.of hs rfl rfl) ?_
        refine EP_passT rfl rfl rfl hg4 rfl (fun _ => RdS.of hs rfl rfl) ?_
        refine EP_passT rfl rfl rfl hg4 rfl (fun _ => RdS.of hs rfl rfl) ?_
        refine EP_take rfl rfl rfl (fun _ => R_pickF rfl hg4 rfl) ?_
        refine EP_done ?_
        refine EC_cond rfl (fun hcx => ?_) (fun hcx => ?_)
        · exact Bool.noConfusion hcx
        · skip
          refine EC_exit ?_
          refine Then_e ?_
          refine Then_e ?_
          refine InBlock_hit rfl ?_
          refine Then_n ?_
          have hend : absorb q (l.drop k) = (q, 0) := by
            first
              | rw [hdr, absorb, if_neg hc35p]
              | rw [List.drop_eq_nil_of_le (by omega), absorb]
          rw [hend] at ha1 ha2
          simp only at ha1 ha2
          refine EC_rseq ?_
          refine EL_run rfl (R_move rfl) ?_
          refine EL_run rfl (R_move rfl) ?_
          refine EL_run rfl (R_move rfl) ?_
          refine EL_run rfl (R_lw (hs.at (i := 0) rfl) Try.isAgg49 Try.sizeOf49 rfl rfl) ?_
          refine EL_op rfl (O_buildSlice [.tmp 58] hs rfl ei_68 rfl rfl rfl (sizeN rfl) (by decide) (fun b59 w hb59 hs => ?_))
          have hs := hs.freezeAt (i := 1) rfl
          have hs := hs.as (es' := [blk b3 q.l.toArray 49]) (ds' := [dS _ c l, dS (some ⟨b59, 0, none⟩) 1 [q]]) rfl rfl
          refine EL_op rfl (O_call hs [] [0, 1] rfl rfl rfl Try.call62 (spReplace_spec _ c l (firstAt l s.a) k (some ⟨b59, 0, none⟩) 1 [q] hl (by simp) hfl hk) (fun v es1 ds1 w hPhi hs => ?_))
          obtain ⟨rfl, rfl⟩ := hPhi
          refine EL_run rfl (R_assign rfl) ?_
          refine EL_nil ?_
          refine EC_ret ?_
          exact ⟨[_], ⟨rfl, trivial⟩, _, _, ⟨rfl, rfl⟩, (hs.fin [false, true] []).as (by rw [spAdd, if_pos hgood, ha1, show firstAt l s.a + (absorb s (l.drop (firstAt l s.a))).2 = k by omega]; rfl) rfl⟩

set_option maxRecDepth 100000 in
theorem spRemove_spec (ao : Option Addr) (c : Nat) (l : List Sp) (s : Sp) {w0 : World} (hl : l.length ≤ 1000000) : Spec Try.prog 48 #[.slice ao l.length c, s.val] w0 [] [dS ao c l] (fun v es1 ds1 => es1 = [oSl v 49 2 (spRemove l s).length ((spRemove l s).flatMap Sp.l)] ∧ ds1 = []) := by
  refine Spec.intro (fun F D hs => ?_)
  refine Calls_of_EC (args := [.slice ao l.length c, s.val]) Try.func48 rfl rfl rfl ?_
  refine EC_rseq ?_
  refine EL_op rfl (O_box hs rfl rfl (fun b3 w hb3 hs => ?_))
  refine EL_run rfl (R_assign rfl) ?_
  refine EL_nil ?_
  refine EC_seq ?_
  refine EC_rseq ?_
  refine EL_run rfl (R_move rfl) ?_
  refine EL_op rfl (O_call hs [] [0] rfl rfl rfl Try.call58 (valid_spec ao c l hl) (fun v es1 ds1 w hPhi hs => ?_))
  obtain ⟨rfl, rfl, rfl⟩ := hPhi
  refine EL_run rfl (R_not rfl) ?_
  refine EL_run rfl (R_move rfl) ?_
  refine EL_split 14 rfl (fun hg3 => ?_) (fun hg3 => ?_)
  · (first | have hg3p := of_decide_eq_true hg3 | have hg3p := of_decide_eq_false hg3 | have hg3p := of_decide_eq_false (bnt hg3) | have hg3p := of_decide_eq_true (bnf hg3) | have hg3p := bnt hg3 | have hg3p := bnf hg3 | have hg3p := hg3); try dsimp only at hg3p
    refine EL_pass rfl rfl rfl hg3 ?_
    refine EL_pass rfl rfl rfl hg3 ?_
    refine EL_pass rfl rfl rfl hg3 ?_
    refine EL_run rfl (R_pickT rfl hg3 rfl) ?_
    refine EL_nil ?_
    refine EC_cond rfl (fun hcx => ?_) (fun hcx => ?_)
    · skip
      have hbad : ¬ (valid l = true ∧ s.right = true) := by
        rintro ⟨h1, h2⟩
        first | exact Bool.noConfusion (hg3p.symm.trans h1) | exact Bool.noConfusion (hc18p.symm.trans h2)
      refine EC_rseq ?_
      refine EL_run rfl (R_move rfl) ?_
      refine EL_op rfl (O_call hs [] [0] rfl rfl rfl Try.call60 (cloneSp_spec ao c l hl) (fun v es1 ds1 w hPhi hs => ?_))
      obtain ⟨rfl, rfl⟩ := hPhi
      refine EL_run rfl (R_assign rfl) ?_
      refine EL_nil ?_
      refine EC_ret ?_
      refine Then_r ?_
      exact ⟨[_], ⟨rfl, trivial⟩, _, _, ⟨rfl, rfl⟩, (hs.fin [false, true] []).as (by rw [spRemove, if_neg hbad]; rfl) rfl⟩
    · exact Bool.noConfusion hcx
  · (first | have hg3p := of_decide_eq_true hg3 | have hg3p := of_decide_eq_false hg3 | have hg3p := of_decide_eq_false (bnt hg3) | have hg3p := of_decide_eq_true (bnf hg3) | have hg3p := bnt hg3 | have hg3p := bnf hg3 | have hg3p := hg3); try dsimp only at hg3p
    refine EL_want rfl rfl hg3 ?_
    refine EL_run rfl (R_lw (hs.at (i := 0) rfl) Try.isAgg49 Try.sizeOf49 rfl rfl) ?_
    refine EL_want rfl rfl hg3 ?_
    refine EL_op rfl (O_call hs [] [] rfl rfl rfl Try.call59 (spRight_spec s) (fun v es1 ds1 w hPhi hs => ?_))
    obtain ⟨rfl, rfl, rfl⟩ := hPhi
    refine EL_want rfl rfl hg3 ?_
    refine EL_run rfl (R_not rfl) ?_
    refine EL_run rfl (R_pickF rfl hg3 rfl) ?_
    refine EL_nil ?_
    refine EC_cond rfl (fun hc18 => ?_) (fun hc18 => ?_)
    · (first | have hc18p := of_decide_eq_true hc18 | have hc18p := of_decide_eq_false hc18 | have hc18p := of_decide_eq_false (bnt hc18) | have hc18p := of_decide_eq_true (bnf hc18) | have hc18p := bnt hc18 | have hc18p := bnf hc18 | have hc18p := hc18); try dsimp only at hc18p
      have hbad : ¬ (valid l = true ∧ s.right = true) := by
        rintro ⟨h1, h2⟩
        first | exact Bool.noConfusion (hg3p.symm.trans h1) | exact Bool.noConfusion (hc18p.symm.trans h2)
      have hbad : ¬ (valid l = true ∧ s.right = true) := by
        rintro ⟨h1, h2⟩
        first | exact Bool.noConfusion (hg3p.symm.trans h1) | exact Bool.noConfusion (hc18p.symm.trans h2)
      refine EC_rseq ?_
      refine EL_run rfl (R_move rfl) ?_
      refine EL_op rfl (O_call hs [] [0] rfl rfl rfl Try.call60 (cloneSp_spec ao c l hl) (fun v es1 ds1 w hPhi hs => ?_))
      obtain ⟨rfl, rfl⟩ := hPhi
      refine EL_run rfl (R_assign rfl) ?_
      refine EL_nil ?_
      refine EC_ret ?_
      refine Then_r ?_
      exact ⟨[_], ⟨rfl, trivial⟩, _, _, ⟨rfl, rfl⟩, (hs.fin [false, true] []).as (by rw [spRemove, if_neg hbad]; rfl) rfl⟩
    · (first | have hc18p := of_decide_eq_true hc18 | have hc18p := of_decide_eq_false hc18 | have hc18p := of_decide_eq_false (bnt hc18) | have hc18p := of_decide_eq_true (bnf hc18) | have hc18p := bnt hc18 | have hc18p := bnf hc18 | have hc18p := hc18); try dsimp only at hc18p
      have hgood : valid l = true ∧ s.right = true := ⟨by first | exact hg3p | exact hg3, by first | exact hc18p⟩
      have hsr := Sp.right_iff.1 hgood.2
      refine EC_skip ?_
      refine Then_n ?_
      refine EC_rseq ?_
      refine EL_run rfl (R_move rfl) ?_
      refine EL_run rfl (R_field fo_49_0 rfl) ?_
      refine EL_run rfl (R_lb (hs.at (i := 0) rfl) Try.isAgg3 rfl rfl) ?_
      refine EL_run rfl (R_addI rfl rfl (by omega)) ?_
      refine EL_op rfl (O_call hs [] [0] rfl rfl rfl Try.call61 (first_spec ao c l (s.a + 1) hl hgood.1 (by omega)) (fun v es1 ds1 w hPhi hs => ?_))
      obtain ⟨rfl, rfl, rfl⟩ := hPhi
      have hfl := firstAt_le l (s.a + 1)
      refine EL_run rfl (R_assign rfl) ?_
      refine EL_nil ?_
      refine EC_rseq ?_
      refine EL_run rfl (R_move rfl) ?_
      refine EL_run rfl (R_assign rfl) ?_
      refine EL_nil ?_
      refine EC_rseq ?_
      refine EL_run rfl (R_assign rfl) ?_
      have hs := hs.nilSl 49 2
      generalize hfa : firstAt l (s.a + 1) = fa at *
      refine EL_nil ?_
      refine EC_seq ?_
      refine EC_block ?_
      refine EC_loop (fun m ρ w => ∃ (k : Nat) (left : List Sp) (v : Value), m = l.length - k ∧ k ≤ l.length ∧ fa ≤ k ∧ left.length ≤ 2 * k ∧ (remGo s (l.drop fa)).1 = left ++ (remGo s (l.drop k)).1 ∧ fa + (remGo s (l.drop fa)).2 = k + (remGo s (l.drop k)).2 ∧ Slots ρ [(0, .slice ao l.length c), (3, .pointer (some ⟨b3, 0, none⟩)), (5, .int .i64 (fa : Int)), (6, .int .i64 (k : Int)), (7, v)] ∧ St w0 F D [blk b3 s.l.toArray 49, oSl v 49 2 left.length (left.flatMap Sp.l)] [dS ao c l] w) (l.length - fa) (⟨fa, [], _, rfl, hfl, Nat.le_refl _, by simp, rfl, rfl, ⟨rfl, rfl, rfl, rfl, rfl, trivial⟩, (hs.fin [true, true] [0]).as rfl rfl⟩) ?_
      rintro m ρ w ⟨k, left, v, rfl, hk, hfk, hll, ha1, ha2, hsl, hs⟩
      refine EC_slots _ hsl ?_
      refine EC_seq ?_
      refine EC_dseqS hs [] [9, 11] [0] [0] (.take 0 (.take 1 (.take 2 (.take 3 (.take 4 (.take 5 (.take 6 (.take 7 (.take 8 (.take 9 (.take 10 (.take 11 (.take 12 (.take 13 .done)))))))))))))) mix_ok (by kernel_rfl) (fun w hs _ => ?_)
      refine EP_take rfl rfl rfl (fun _ => R_move rfl) ?_
      refine EP_take rfl rfl rfl (fun _ => R_move rfl) ?_
      refine EP_take rfl rfl rfl (fun _ => R_lenS Try.underlying68 rfl) ?_
      refine EP_take rfl rfl rfl (fun _ => R_lss rfl rfl) ?_
      refine EP_take rfl rfl rfl (fun _ => R_move rfl) ?_
      refine EP_split 31 rfl (fun hg4 => ?_) (fun hg4 => ?_)
      · (first | have hg4p := of_decide_eq_true hg4 | have hg4p := of_decide_eq_false hg4 | have hg4p := of_decide_eq_false (bnt hg4) | have hg4p := of_decide_eq_true (bnf hg4) | have hg4p := bnt hg4 | have hg4p := bnf hg4 | have hg4p := hg4); try dsimp only at hg4p
        have hib : k < l.length := by omega
        obtain ⟨bb, oo, rfl⟩ := dSlsomeF (hs.rd (i := 0) rfl) Sp.len (by decide) hib
        have hdr : l.drop k = l[k] :: l.drop (k + 1) := List.drop_eq_getElem_cons hib
        refine EP_takeG rfl rfl rfl hg4 rfl rfl (fun _ => R_move rfl) ?_
        refine EP_takeG rfl rfl rfl hg4 rfl rfl (fun _ => R_move rfl) ?_
        refine EP_takeG rfl rfl rfl hg4 rfl rfl (fun _ => R_idx es_68 rfl (by rfl) rfl (by omega) (by omega)) ?_
        refine EP_takeG rfl rfl rfl hg4 rfl rfl (fun _ => R_field fo_49_0 rfl) ?_
        refine EP_readG rfl rfl rfl hg4 rfl rfl (RdS.of hs rfl rfl) (fun _ hR => R_ldF (j := 0) (hR.d 0 rfl rfl) Sp.len Try.isAgg3 rfl (by simp <;> omega) (List.getElem?_eq_getElem hib) rfl) ?_
        refine EP_takeG rfl rfl rfl hg4 rfl rfl (fun _ => R_field fo_49_1 rfl) ?_
        refine EP_readG rfl rfl rfl hg4 rfl rfl (RdS.of hs rfl rfl) (fun _ hR => R_lb (hR.e 0 rfl rfl) Try.isAgg3 rfl rfl) ?_
        refine EP_takeG rfl rfl rfl hg4 rfl rfl (fun _ => R_lss rfl rfl) ?_
        refine EP_take rfl rfl rfl (fun _ => R_pickT rfl hg4 rfl) ?_
        refine EP_done ?_
        refine EC_cond rfl (fun hc40 => ?_) (fun hc40 => ?_)
        · (first | have hc40p := of_decide_eq_true hc40 | have hc40p := of_decide_eq_false hc40 | have hc40p := of_decide_eq_false (bnt hc40) | have hc40p := of_decide_eq_true (bnf hc40) | have hc40p := bnt hc40 | have hc40p := bnf hc40 | have hc40p := hc40); try dsimp only at hc40p
          refine EC_skip ?_
          refine Then_n ?_
          refine EC_seq ?_
          refine EC_block ?_
          refine EC_rseq ?_
          refine EL_run rfl (R_move rfl) ?_
          refine EL_run rfl (R_move rfl) ?_
          refine EL_run rfl (R_idx es_68 rfl (by rfl) rfl (by omega) (by omega)) ?_
          refine EL_run rfl (R_ldE (hs.rd (i := 0) rfl) Sp.len Try.isAgg49 Try.sizeOf49 rfl (by simp <;> omega) (List.getElem?_eq_getElem hib) (by decide)) ?_
          refine EL_op rfl (O_alloc hs rfl Try.zeroValue49 (fun b8 w hb8 hs => ?_))
          refine EL_op rfl (O_storeW hs (i := 2) rfl sz_49 rfl rfl rfl rfl (Sp.oneA _) (fun w hs => ?_))
          refine EL_nil ?_
          refine EC_rseq ?_
          refine EL_run rfl (R_field fo_49_0 rfl) ?_
          refine EL_run rfl (R_lb (hs.at (i := 2) rfl) Try.isAgg3 rfl rfl) ?_
          refine EL_run rfl (R_field fo_49_0 rfl) ?_
          refine EL_run rfl (R_lb (hs.at (i := 0) rfl) Try.isAgg3 rfl rfl) ?_
          refine EL_run rfl (R_buildS (cs := (Sp.mk l[k].a s.a).l.toArray) [(0, .tmp 48), (1, .tmp 50)] pl_49 Try.zeroValue49 rfl rfl rfl) ?_
          refine EL_run rfl (R_field fo_49_1 rfl) ?_
          refine EL_run rfl (R_lb (hs.at (i := 0) rfl) Try.isAgg3 rfl rfl) ?_
          refine EL_run rfl (R_field fo_49_1 rfl) ?_
          refine EL_run rfl (R_lb (hs.at (i := 2) rfl) Try.isAgg3 rfl rfl) ?_
          refine EL_run rfl (R_buildS (cs := (Sp.mk s.b l[k].b).l.toArray) [(0, .tmp 53), (1, .tmp 55)] pl_49 Try.zeroValue49 rfl rfl rfl) ?_
          refine EL_run rfl (R_buildA (cs := (P2c l[k] s)) [.tmp 51, .tmp 56] Try.underlying95 Try.zeroValue95 Try.sizeOf49 rfl rfl (by intro u hu; simp only [List.mem_cons, List.not_mem_nil, or_false] at hu; rcases hu with rfl | rfl <;> rfl) rfl rfl) ?_
          refine EL_run rfl (R_move rfl) ?_
          refine EL_nil ?_
          refine EC_block ?_
          refine EC_loop (fun m ρ w => ∃ (i : Nat) (v : Value), m = 2 - i ∧ i ≤ 2 ∧ Slots ρ [(0, .slice (some ⟨bb, oo, none⟩) l.length c), (3, .pointer (some ⟨b3, 0, none⟩)), (5, .int .i64 (fa : Int)), (6, .int .i64 (k : Int)), (7, v), (8, .pointer (some ⟨b8, 0, none⟩)), (57, .agg (P2c l[k] s)), (58, .int .i64 (i : Int))] ∧ St w0 F D [blk b3 s.l.toArray 49, oSl v 49 2 (left ++ ((P2 l[k] s).take i).filter (P2ok l[k])).length ((left ++ ((P2 l[k] s).take i).filter (P2ok l[k])).flatMap Sp.l), blk b8 l[k].l.toArray 49] [dS (some ⟨bb, oo, none⟩) c l] w) (2) (⟨0, v, by omega, by omega, ⟨rfl, rfl, rfl, rfl, rfl, rfl, rfl, rfl, trivial⟩, (hs.fin [true, true, true] [0]).as (by simp; rfl) rfl⟩) ?_
          rintro m ρ w ⟨i, v, rfl, hi, hsl, hs⟩
          refine EC_slots _ hsl ?_
          have hfi : (((P2 l[k] s).take i).filter (P2ok l[k])).length ≤ 2 := Nat.le_trans (List.length_filter_le _ _) (by rw [List.length_take, P2_len]; omega)
          refine EC_rseq ?_
          refine EL_run rfl (R_lss rfl rfl) ?_
          refine EL_nil ?_
          refine EC_seq ?_
          refine EC_cond rfl (fun hc59 => ?_) (fun hc59 => ?_)
          · (first | have hc59p := of_decide_eq_true hc59 | have hc59p := of_decide_eq_false hc59 | have hc59p := of_decide_eq_false (bnt hc59) | have hc59p := of_decide_eq_true (bnf hc59) | have hc59p := bnt hc59 | have hc59p := bnf hc59 | have hc59p := hc59); try dsimp only at hc59p
            have hi2 : i < (P2 l[k] s).length := by rw [P2_len]; omega
            refine EC_skip ?_
            refine Then_n ?_
            refine EC_seq ?_
            refine EC_block ?_
            refine EC_rseq ?_
            refine EL_run rfl (R_indexVA Try.underlying95 Try.sizeOf49 Try.isAgg49 rfl rfl (by omega) (by omega)) ?_
            rw [P2_ext l[k] s i hi2]
            refine EL_op rfl (O_alloc hs rfl Try.zeroValue49 (fun b10 w hb10 hs => ?_))
            refine EL_op rfl (O_storeW hs (i := 3) rfl sz_49 rfl rfl rfl rfl (Sp.oneA _) (fun w hs => ?_))
            refine EL_nil ?_
            refine EC_rseq ?_
            refine EL_run rfl (R_lw (hs.at (i := 3) rfl) Try.isAgg49 Try.sizeOf49 rfl rfl) ?_
            refine EL_op rfl (O_call hs [] [] rfl rfl rfl Try.call59 (spRight_spec (P2 l[k] s)[i]) (fun v es1 ds1 w hPhi hs => ?_))
            obtain ⟨rfl, rfl, rfl⟩ := hPhi
            refine EL_run rfl (R_move rfl) ?_
            refine EL_split 63 rfl (fun hg2 => ?_) (fun hg2 => ?_)
            · (first | have hg2p := of_decide_eq_true hg2 | have hg2p := of_decide_eq_false hg2 | have hg2p := of_decide_eq_false (bnt hg2) | have hg2p := of_decide_eq_true (bnf hg2) | have hg2p := bnt hg2 | have hg2p := bnf hg2 | have hg2p := hg2); try dsimp only at hg2p
              refine EL_want rfl rfl hg2 ?_
              refine EL_run rfl (R_field fo_49_0 rfl) ?_
              refine EL_want rfl rfl hg2 ?_
              refine EL_run rfl (R_lb (hs.at (i := 3) rfl) Try.isAgg3 rfl rfl) ?_
              refine EL_want rfl rfl hg2 ?_
              refine EL_run rfl (R_field fo_49_0 rfl) ?_
              refine EL_want rfl rfl hg2 ?_
              refine EL_run rfl (R_lb (hs.at (i := 2) rfl) Try.isAgg3 rfl rfl) ?_
              refine EL_want rfl rfl hg2 ?_
              refine EL_run rfl (R_geq rfl rfl) ?_
              refine EL_run rfl (R_pickT rfl hg2 rfl) ?_
              refine EL_nil ?_
              refine EC_cond rfl (fun hc69 => ?_) (fun hc69 => ?_)
              · (first | have hc69p := of_decide_eq_true hc69 | have hc69p := of_decide_eq_false hc69 | have hc69p := of_decide_eq_false (bnt hc69) | have hc69p := of_decide_eq_true (bnf hc69) | have hc69p := bnt hc69 | have hc69p := bnf hc69 | have hc69p := hc69); try dsimp only at hc69p
                refine EC_region ?_
                refine EL_run rfl (R_move rfl) ?_
                refine EL_run rfl (R_lw (hs.at (i := 3) rfl) Try.isAgg49 Try.sizeOf49 rfl rfl) ?_
                refine EL_op rfl (O_buildSlice [.tmp 71] hs rfl ei_68 rfl rfl rfl (sizeN rfl) (by decide) (fun b72 w hb72 hs => ?_))
                refine EL_op rfl (O_append hs (i := 1) rfl rfl ei_68 rfl rfl (Src.own (hs.at (i := 4) rfl)) (by intro u hu; exact Sp.one [(P2 l[k] s)[i]] u (by simpa [Value.cells] using hu)) (by rw [List.length_append]; omega) (by rw [List.length_append]; omega) (fun v73 w hs => ?_))
                refine EL_run rfl (R_assign rfl) ?_
                refine EL_nil ?_
                refine InBlock_n ?_
                refine Then_n ?_
                refine EC_region ?_
                refine EL_run rfl (R_addI rfl rfl (by omega)) ?_
                refine EL_run rfl (R_move rfl) ?_
                refine EL_nil ?_
                refine Then_n ?_
                first
                  | exact ⟨2 - (i + 1), by omega, i + 1, _, rfl, by omega, ⟨rfl, rfl, rfl, rfl, rfl, rfl, rfl, rfl, trivial⟩, (hs.fin [true, true, true] [0]).as (by rw [P2_yes hi2 hg2p hc69p]; simp [Nat.add_assoc]; rfl) rfl⟩
                  | exact ⟨2 - (i + 1), by omega, i + 1, _, rfl, by omega, ⟨rfl, rfl, rfl, rfl, rfl, rfl, rfl, rfl, trivial⟩, (hs.fin [true, true, true] [0]).as (by rw [P2_no hi2 (fun h => hc69p h.2)]; rfl) rfl⟩
                  | exact ⟨2 - (i + 1), by omega, i + 1, _, rfl, by omega, ⟨rfl, rfl, rfl, rfl, rfl, rfl, rfl, rfl, trivial⟩, (hs.fin [true, true, true] [0]).as (by rw [P2_no hi2 (fun h => Bool.noConfusion (h.1.symm.trans hg2p))]; rfl) rfl⟩
              · (first | have hc69p := of_decide_eq_true hc69 | have hc69p := of_decide_eq_false hc69 | have hc69p := of_decide_eq_false (bnt hc69) | have hc69p := of_decide_eq_true (bnf hc69) | have hc69p := bnt hc69 | have hc69p := bnf hc69 | have hc69p := hc69); try dsimp only at hc69p
                refine EC_skip ?_
                refine InBlock_n ?_
                refine Then_n ?_
                refine EC_region ?_
                refine EL_run rfl (R_addI rfl rfl (by omega)) ?_
                refine EL_run rfl (R_move rfl) ?_
                refine EL_nil ?_
                refine Then_n ?_
                first
                  | exact ⟨2 - (i + 1), by omega, i + 1, _, rfl, by omega, ⟨rfl, rfl, rfl, rfl, rfl, rfl, rfl, rfl, trivial⟩, (hs.fin [true, true, true] [0]).as (by rw [P2_yes hi2 hg2p hc69p]; simp [Nat.add_assoc]; rfl) rfl⟩
                  | exact ⟨2 - (i + 1), by omega, i + 1, _, rfl, by omega, ⟨rfl, rfl, rfl, rfl, rfl, rfl, rfl, rfl, trivial⟩, (hs.fin [true, true, true] [0]).as (by rw [P2_no hi2 (fun h => hc69p h.2)]; rfl) rfl⟩
                  | exact ⟨2 - (i + 1), by omega, i + 1, _, rfl, by omega, ⟨rfl, rfl, rfl, rfl, rfl, rfl, rfl, rfl, trivial⟩, (hs.fin [true, true, true] [0]).as (by rw [P2_no hi2 (fun h => Bool.noConfusion (h.1.symm.trans hg2p))]; rfl) rfl⟩
            · (first | have hg2p := of_decide_eq_true hg2 | have hg2p := of_decide_eq_false hg2 | have hg2p := of_decide_eq_false (bnt hg2) | have hg2p := of_decide_eq_true (bnf hg2) | have hg2p := bnt hg2 | have hg2p := bnf hg2 | have hg2p := hg2); try dsimp only at hg2p
              refine EL_pass rfl rfl rfl hg2 ?_
              refine EL_pass rfl rfl rfl hg2 ?_
              refine EL_pass rfl rfl rfl hg2 ?_
              refine EL_pass rfl rfl rfl hg2 ?_
              refine EL_pass rfl rfl rfl hg2 ?_
              refine EL_run rfl (R_pickF rfl hg2 rfl) ?_
              refine EL_nil ?_
              refine EC_cond rfl (fun hcx => ?_) (fun hcx => ?_)
              · exact Bool.noConfusion hcx
              · skip
                refine EC_skip ?_
                refine InBlock_n ?_
                refine Then_n ?_
                refine EC_region ?_
                refine EL_run rfl (R_addI rfl rfl (by omega)) ?_
                refine EL_run rfl (R_move rfl) ?_
                refine EL_nil ?_
                refine Then_n ?_
                first
                  | exact ⟨2 - (i + 1), by omega, i + 1, _, rfl, by omega, ⟨rfl, rfl, rfl, rfl, rfl, rfl, rfl, rfl, trivial⟩, (hs.fin [true, true, true] [0]).as (by rw [P2_yes hi2 hg2p hc69p]; simp [Nat.add_assoc]; rfl) rfl⟩
                  | exact ⟨2 - (i + 1), by omega, i + 1, _, rfl, by omega, ⟨rfl, rfl, rfl, rfl, rfl, rfl, rfl, rfl, trivial⟩, (hs.fin [true, true, true] [0]).as (by rw [P2_no hi2 (fun h => hc69p h.2)]; rfl) rfl⟩
                  | exact ⟨2 - (i + 1), by omega, i + 1, _, rfl, by omega, ⟨rfl, rfl, rfl, rfl, rfl, rfl, rfl, rfl, trivial⟩, (hs.fin [true, true, true] [0]).as (by rw [P2_no hi2 (fun h => Bool.noConfusion (h.1.symm.trans hg2p))]; rfl) rfl⟩
          · (first | have hc59p := of_decide_eq_true hc59 | have hc59p := of_decide_eq_false hc59 | have hc59p := of_decide_eq_false (bnt hc59) | have hc59p := of_decide_eq_true (bnf hc59) | have hc59p := bnt hc59 | have hc59p := bnf hc59 | have hc59p := hc59); try dsimp only at hc59p
            obtain rfl : i = 2 := by omega
            refine EC_exit ?_
            refine Then_e ?_
            refine Then_e ?_
            refine InBlock_hit rfl ?_
            refine InBlock_n ?_
            refine Then_n ?_
            refine EC_region ?_
            refine EL_run rfl (R_move rfl) ?_
            refine EL_run rfl (R_addI rfl rfl (by omega)) ?_
            refine EL_run rfl (R_assign rfl) ?_
            refine EL_nil ?_
            refine Then_n ?_
            exact ⟨l.length - (k + 1), by omega, k + 1, left ++ piecesOf l[k] s, v, rfl, by omega, by omega, by rw [List.length_append]; have h2 : (piecesOf l[k] s).length ≤ 2 := List.length_filter_le _ _; omega, by rw [ha1, hdr, remGo, if_pos hc40p, List.append_assoc], by rw [ha2, hdr, remGo, if_pos hc40p]; simp only; omega, ⟨rfl, rfl, rfl, rfl, rfl, trivial⟩, (hs.fin [true, true] [0]).as rfl rfl⟩
        · (first | have hc40p := of_decide_eq_true hc40 | have hc40p := of_decide_eq_false hc40 | have hc40p := of_decide_eq_false (bnt hc40) | have hc40p := of_decide_eq_true (bnf hc40) | have hc40p := bnt hc40 | have hc40p := bnf hc40 | have hc40p := hc40); try dsimp only at hc40p
          refine EC_exit ?_
          refine Then_e ?_
          refine Then_e ?_
          refine InBlock_hit rfl ?_
          refine Then_n ?_
          have hend : remGo s (l.drop k) = ([], 0) := by
            first
              | rw [hdr, remGo, if_neg hc40p]
              | rw [List.drop_eq_nil_of_le (by omega), remGo]
          rw [hend] at ha1 ha2
          simp only [List.append_nil, Nat.add_zero] at ha1 ha2
          obtain ⟨ao9, c9, rfl, hs⟩ := hs.freezeSl (i := 1) rfl
          have hrl := (remGo_le s (l.drop fa)).2
          rw [List.length_drop] at hrl
          refine EC_rseq ?_
          refine EL_run rfl (R_move rfl) ?_
          refine EL_run rfl (R_move rfl) ?_
          refine EL_run rfl (R_move rfl) ?_
          refine EL_run rfl (R_move rfl) ?_
          refine EL_op rfl (O_call hs [] [0, 1] rfl rfl rfl Try.call62 (spReplace_spec _ c l fa k ao9 c9 left hl (by omega) hfl hk) (fun v es1 ds1 w hPhi hs => ?_))
          obtain ⟨rfl, rfl⟩ := hPhi
          refine EL_run rfl (R_assign rfl) ?_
          refine EL_nil ?_
          refine EC_ret ?_
          exact ⟨[_], ⟨rfl, trivial⟩, _, _, ⟨rfl, rfl⟩, (hs.fin [false, true] []).as (by rw [spRemove, if_pos hgood, hfa, ha1, show fa + (remGo s (l.drop fa)).2 = k by omega]; rfl) rfl⟩
      · (first | have hg4p := of_decide_eq_true hg4 | have hg4p := of_decide_eq_false hg4 | have hg4p := of_decide_eq_false (bnt hg4) | have hg4p := of_decide_eq_true (bnf hg4) | have hg4p := bnt hg4 | have hg4p := bnf hg4 | have hg4p := hg4); try dsimp only at hg4p
        refine EP_passT rfl rfl rfl hg4 rfl (fun _ => RdS.of hs rfl rfl) ?_
        refine EP_passT rfl rfl rfl hg4 rfl (fun _ => RdS.of hs rfl rfl) ?_
        refine EP_passT rfl rfl rfl hg4 rfl (fun _ => RdS.of hs rfl rfl) ?_
        refine EP_passT rfl rfl rfl hg4 rfl (fun _ => RdS.of hs rfl rfl) ?_
        refine EP_passT rfl rfl rfl hg4 rfl (fun _ => RdS.of hs rfl rfl) ?_
        refine EP_passT rfl rfl rfl hg4 rfl (fun _ => RdS.of hs rfl rfl) ?_
        refine EP_passT rfl rfl rfl hg4 rfl (fun _ => RdS.of hs rfl rfl) ?_
        refine EP_passT rfl rfl rfl hg4 rfl (fun _ => RdS.of hs rfl rfl) ?_
        refine EP_take rfl rfl rfl (fun _ => R_pickF rfl hg4 rfl) ?_
        refine EP_done ?_
        refine EC_cond rfl (fun hcx => ?_) (fun hcx => ?_)
        · exact Bool.noConfusion hcx
        · skip
          refine EC_exit ?_
          refine Then_e ?_
          refine Then_e ?_
          refine InBlock_hit rfl ?_
          refine Then_n ?_
          have hend : remGo s (l.drop k) = ([], 0) := by
            first
              | rw [hdr, remGo, if_neg hc40p]
              | rw [List.drop_eq_nil_of_le (by omega), remGo]
          rw [hend] at ha1 ha2
          simp only [List.append_nil, Nat.add_zero] at ha1 ha2
          obtain ⟨ao9, c9, rfl, hs⟩ := hs.freezeSl (i := 1) rfl
          have hrl := (remGo_le s (l.drop fa)).2
          rw [List.length_drop] at hrl
          refine EC_rseq ?_
          refine EL_run rfl (R_move rfl) ?_
          refine EL_run rfl (R_move rfl) ?_
          refine EL_run rfl (R_move rfl) ?_
          refine EL_run rfl (R_move rfl) ?_
          refine EL_op rfl (O_call hs [] [0, 1] rfl rfl rfl Try.call62 (spReplace_spec _ c l fa k ao9 c9 left hl (by omega) hfl hk) (fun v es1 ds1 w hPhi hs => ?_))
          obtain ⟨rfl, rfl⟩ := hPhi
          refine EL_run rfl (R_assign rfl) ?_
          refine EL_nil ?_
          refine EC_ret ?_
          exact ⟨[_], ⟨rfl, trivial⟩, _, _, ⟨rfl, rfl⟩, (hs.fin [false, true] []).as (by rw [spRemove, if_pos hgood, hfa, ha1, show fa + (remGo s (l.drop fa)).2 = k by omega]; rfl) rfl⟩

set_option maxRecDepth 100000 in
theorem spMeets_spec (ao : Option Addr) (c : Nat) (l : List Sp) (s : Sp) {w0 : World} (hl : l.length ≤ 1000000) : Spec Try.prog 54 #[.slice ao l.length c, s.val] w0 [] [dS ao c l] (fun v es1 ds1 => v = .bool (spMeets l s) ∧ es1 = [] ∧ ds1 = []) := by
  refine Spec.intro (fun F D hs => ?_)
  refine Calls_of_EC (args := [.slice ao l.length c, s.val]) Try.func54 rfl rfl rfl ?_
  refine EC_rseq ?_
  refine EL_op rfl (O_box hs rfl rfl (fun b3 w hb3 hs => ?_))
  refine EL_run rfl (R_assign rfl) ?_
  refine EL_nil ?_
  refine EC_seq ?_
  refine EC_rseq ?_
  refine EL_run rfl (R_move rfl) ?_
  refine EL_op rfl (O_call hs [] [0] rfl rfl rfl Try.call58 (valid_spec ao c l hl) (fun v es1 ds1 w hPhi hs => ?_))
  obtain ⟨rfl, rfl, rfl⟩ := hPhi
  refine EL_run rfl (R_not rfl) ?_
  refine EL_run rfl (R_move rfl) ?_
  refine EL_split 9 rfl (fun hg3 => ?_) (fun hg3 => ?_)
  · (first | have hg3p := of_decide_eq_true hg3 | have hg3p := of_decide_eq_false hg3 | have hg3p := of_decide_eq_false (bnt hg3) | have hg3p := of_decide_eq_true (bnf hg3) | have hg3p := bnt hg3 | have hg3p := bnf hg3 | have hg3p := hg3); try dsimp only at hg3p
    refine EL_pass rfl rfl rfl hg3 ?_
    refine EL_pass rfl rfl rfl hg3 ?_
    refine EL_pass rfl rfl rfl hg3 ?_
    refine EL_run rfl (R_pickT rfl hg3 rfl) ?_
    refine EL_nil ?_
    refine EC_cond rfl (fun hcx => ?_) (fun hcx => ?_)
    · skip
      have hbad : ¬ (valid l = true ∧ s.right = true) := by
        rintro ⟨h1, h2⟩
        first | exact Bool.noConfusion (hg3p.symm.trans h1) | exact Bool.noConfusion (hc13p.symm.trans h2)
      refine EC_rseq ?_
      refine EL_run rfl (R_assign rfl) ?_
      refine EL_nil ?_
      refine EC_ret ?_
      refine Then_r ?_
      exact ⟨[_], ⟨rfl, trivial⟩, _, _, ⟨by simp only [tupleOf]; congr 1; rw [spMeets, Bool.eq_false_iff.2 (fun h : (valid l && s.right) = true => hbad (by simpa using h)), Bool.false_and], rfl, rfl⟩, (hs.fin [] []).as rfl rfl⟩
    · exact Bool.noConfusion hcx
  · (first | have hg3p := of_decide_eq_true hg3 | have hg3p := of_decide_eq_false hg3 | have hg3p := of_decide_eq_false (bnt hg3) | have hg3p := of_decide_eq_true (bnf hg3) | have hg3p := bnt hg3 | have hg3p := bnf hg3 | have hg3p := hg3); try dsimp only at hg3p
    refine EL_want rfl rfl hg3 ?_
    refine EL_run rfl (R_lw (hs.at (i := 0) rfl) Try.isAgg49 Try.sizeOf49 rfl rfl) ?_
    refine EL_want rfl rfl hg3 ?_
    refine EL_op rfl (O_call hs [] [] rfl rfl rfl Try.call59 (spRight_spec s) (fun v es1 ds1 w hPhi hs => ?_))
    obtain ⟨rfl, rfl, rfl⟩ := hPhi
    refine EL_want rfl rfl hg3 ?_
    refine EL_run rfl (R_not rfl) ?_
    refine EL_run rfl (R_pickF rfl hg3 rfl) ?_
    refine EL_nil ?_
    refine EC_cond rfl (fun hc13 => ?_) (fun hc13 => ?_)
    · (first | have hc13p := of_decide_eq_true hc13 | have hc13p := of_decide_eq_false hc13 | have hc13p := of_decide_eq_false (bnt hc13) | have hc13p := of_decide_eq_true (bnf hc13) | have hc13p := bnt hc13 | have hc13p := bnf hc13 | have hc13p := hc13); try dsimp only at hc13p
      have hbad : ¬ (valid l = true ∧ s.right = true) := by
        rintro ⟨h1, h2⟩
        first | exact Bool.noConfusion (hg3p.symm.trans h1) | exact Bool.noConfusion (hc13p.symm.trans h2)
      have hbad : ¬ (valid l = true ∧ s.right = true) := by
        rintro ⟨h1, h2⟩
        first | exact Bool.noConfusion (hg3p.symm.trans h1) | exact Bool.noConfusion (hc13p.symm.trans h2)
      refine EC_rseq ?_
      refine EL_run rfl (R_assign rfl) ?_
      refine EL_nil ?_
      refine EC_ret ?_
      refine Then_r ?_
      exact ⟨[_], ⟨rfl, trivial⟩, _, _, ⟨by simp only [tupleOf]; congr 1; rw [spMeets, Bool.eq_false_iff.2 (fun h : (valid l && s.right) = true => hbad (by simpa using h)), Bool.false_and], rfl, rfl⟩, (hs.fin [] []).as rfl rfl⟩
    · (first | have hc13p := of_decide_eq_true hc13 | have hc13p := of_decide_eq_false hc13 | have hc13p := of_decide_eq_false (bnt hc13) | have hc13p := of_decide_eq_true (bnf hc13) | have hc13p := bnt hc13 | have hc13p := bnf hc13 | have hc13p := hc13); try dsimp only at hc13p
      have hgood : valid l = true ∧ s.right = true := ⟨by first | exact hg3p | exact hg3, by first | exact hc13p⟩
      have hsr := Sp.right_iff.1 hgood.2
      refine EC_skip ?_
      refine Then_n ?_
      refine EC_rseq ?_
      refine EL_run rfl (R_move rfl) ?_
      refine EL_run rfl (R_field fo_49_0 rfl) ?_
      refine EL_run rfl (R_lb (hs.at (i := 0) rfl) Try.isAgg3 rfl rfl) ?_
      refine EL_run rfl (R_addI rfl rfl (by omega)) ?_
      refine EL_op rfl (O_call hs [] [0] rfl rfl rfl Try.call61 (first_spec ao c l (s.a + 1) hl hgood.1 (by omega)) (fun v es1 ds1 w hPhi hs => ?_))
      obtain ⟨rfl, rfl, rfl⟩ := hPhi
      have hfl := firstAt_le l (s.a + 1)
      generalize hfa : firstAt l (s.a + 1) = fa at *
      refine EL_run rfl (R_assign rfl) ?_
      refine EL_nil ?_
      skip
      refine EC_dseqS hs [] [9, 11] [0] [0] (.take 0 (.take 1 (.take 2 (.take 3 (.take 4 (.take 5 (.take 6 (.take 7 (.take 8 (.take 9 (.take 10 (.take 11 (.take 12 (.take 13 (.take 14 .done))))))))))))))) mix_ok (by kernel_rfl) (fun w hs _ => ?_)
      refine EP_take rfl rfl rfl (fun _ => R_move rfl) ?_
      refine EP_take rfl rfl rfl (fun _ => R_move rfl) ?_
      refine EP_take rfl rfl rfl (fun _ => R_lenS Try.underlying68 rfl) ?_
      refine EP_take rfl rfl rfl (fun _ => R_lss rfl rfl) ?_
      refine EP_take rfl rfl rfl (fun _ => R_move rfl) ?_
      refine EP_split 23 rfl (fun hg4 => ?_) (fun hg4 => ?_)
      · (first | have hg4p := of_decide_eq_true hg4 | have hg4p := of_decide_eq_false hg4 | have hg4p := of_decide_eq_false (bnt hg4) | have hg4p := of_decide_eq_true (bnf hg4) | have hg4p := bnt hg4 | have hg4p := bnf hg4 | have hg4p := hg4); try dsimp only at hg4p
        have hib : fa < l.length := by omega
        obtain ⟨bb, oo, rfl⟩ := dSlsomeF (hs.rd (i := 0) rfl) Sp.len (by decide) hib
        refine EP_takeG rfl rfl rfl hg4 rfl rfl (fun _ => R_move rfl) ?_
        refine EP_takeG rfl rfl rfl hg4 rfl rfl (fun _ => R_move rfl) ?_
        refine EP_takeG rfl rfl rfl hg4 rfl rfl (fun _ => R_idx es_68 rfl (by rfl) rfl (by omega) (by omega)) ?_
        refine EP_takeG rfl rfl rfl hg4 rfl rfl (fun _ => R_field fo_49_0 rfl) ?_
        refine EP_readG rfl rfl rfl hg4 rfl rfl (RdS.of hs rfl rfl) (fun _ hR => R_ldF (j := 0) (hR.d 0 rfl rfl) Sp.len Try.isAgg3 rfl (by simp <;> omega) (List.getElem?_eq_getElem hib) rfl) ?_
        refine EP_takeG rfl rfl rfl hg4 rfl rfl (fun _ => R_field fo_49_1 rfl) ?_
        refine EP_readG rfl rfl rfl hg4 rfl rfl (RdS.of hs rfl rfl) (fun _ hR => R_lb (hR.e 0 rfl rfl) Try.isAgg3 rfl rfl) ?_
        refine EP_takeG rfl rfl rfl hg4 rfl rfl (fun _ => R_lss rfl rfl) ?_
        refine EP_take rfl rfl rfl (fun _ => R_pickT rfl hg4 rfl) ?_
        refine EP_take rfl rfl rfl (fun _ => R_assign rfl) ?_
        refine EP_done ?_
        refine EC_ret ?_
        exact ⟨[_], ⟨rfl, trivial⟩, _, _, ⟨by simp only [tupleOf]; congr 1; rw [spMeets, hgood.1, hgood.2, hfa]; first | rw [List.getElem?_eq_getElem hib]; rfl | rw [List.getElem?_eq_none (by omega)]; rfl, rfl, rfl⟩, (hs.fin [] []).as rfl rfl⟩
      · (first | have hg4p := of_decide_eq_true hg4 | have hg4p := of_decide_eq_false hg4 | have hg4p := of_decide_eq_false (bnt hg4) | have hg4p := of_decide_eq_true (bnf hg4) | have hg4p := bnt hg4 | have hg4p := bnf hg4 | have hg4p := hg4); try dsimp only at hg4p
        refine EP_passT rfl rfl rfl hg4 rfl (fun _ => RdS.of hs rfl rfl) ?_
        refine EP_passT rfl rfl rfl hg4 rfl (fun _ => RdS.of hs rfl rfl) ?_
        refine EP_passT rfl rfl rfl hg4 rfl (fun _ => RdS.of hs rfl rfl) ?_
        refine EP_passT rfl rfl rfl hg4 rfl (fun _ => RdS.of hs rfl rfl) ?_
        refine EP_passT rfl rfl rfl hg4 rfl (fun _ => RdS.of hs rfl rfl) ?_
        refine EP_passT rfl rfl rfl hg4 rfl (fun _ => RdS.of hs rfl rfl) ?_
        refine EP_passT rfl rfl rfl hg4 rfl (fun _ => RdS.of hs rfl rfl) ?_
        refine EP_passT rfl rfl rfl hg4 rfl (fun _ => RdS.of hs rfl rfl) ?_
        refine EP_take rfl rfl rfl (fun _ => R_pickF rfl hg4 rfl) ?_
        refine EP_take rfl rfl rfl (fun _ => R_assign rfl) ?_
        refine EP_done ?_
        refine EC_ret ?_
        exact ⟨[_], ⟨rfl, trivial⟩, _, _, ⟨by simp only [tupleOf]; congr 1; rw [spMeets, hgood.1, hgood.2, hfa]; first | rw [List.getElem?_eq_getElem hib]; rfl | rw [List.getElem?_eq_none (by omega)]; rfl, rfl, rfl⟩, (hs.fin [] []).as rfl rfl⟩

set_option maxRecDepth 100000 in
theorem total_spec (ao : Option Addr) (c : Nat) (l : List Sp) {w0 : World} (hl : l.length ≤ 1000000) : Spec Try.prog 47 #[.slice ao l.length c] w0 [] [dS ao c l] (fun v es1 ds1 => v = .int .i64 (total l) ∧ es1 = [] ∧ ds1 = []) := by
  refine Spec.intro (fun F D hs => ?_)
  refine Calls_of_EC (args := [.slice ao l.length c]) Try.func47 rfl rfl rfl ?_
  refine EC_rseq ?_
  refine EL_run rfl (R_assign rfl) ?_
  refine EL_nil ?_
  refine EC_seq ?_
  refine EC_rseq ?_
  refine EL_run rfl (R_move rfl) ?_
  refine EL_op rfl (O_call hs [] [0] rfl rfl rfl Try.call58 (valid_spec ao c l hl) (fun v es1 ds1 w hPhi hs => ?_))
  obtain ⟨rfl, rfl, rfl⟩ := hPhi
  refine EL_run rfl (R_not rfl) ?_
  refine EL_nil ?_
  refine EC_cond rfl (fun hc8 => ?_) (fun hc8 => ?_)
  · (first | have hc8p := of_decide_eq_true hc8 | have hc8p := of_decide_eq_false hc8 | have hc8p := of_decide_eq_false (bnt hc8) | have hc8p := of_decide_eq_true (bnf hc8) | have hc8p := bnt hc8 | have hc8p := bnf hc8 | have hc8p := hc8); try dsimp only at hc8p
    refine EC_rseq ?_
    refine EL_run rfl (R_assign rfl) ?_
    refine EL_nil ?_
    refine EC_ret ?_
    refine Then_r ?_
    exact ⟨[_], ⟨rfl, trivial⟩, _, _, ⟨by rw [total, if_neg (by rw [hc8p]; exact Bool.noConfusion)]; rfl, rfl, rfl⟩, (hs.fin [] []).as rfl rfl⟩
  · (first | have hc8p := of_decide_eq_true hc8 | have hc8p := of_decide_eq_false hc8 | have hc8p := of_decide_eq_false (bnt hc8) | have hc8p := of_decide_eq_true (bnf hc8) | have hc8p := bnt hc8 | have hc8p := bnf hc8 | have hc8p := hc8); try dsimp only at hc8p
    refine EC_skip ?_
    refine Then_n ?_
    refine EC_rseq ?_
    refine EL_run rfl (R_assign rfl) ?_
    refine EL_nil ?_
    refine EC_seq ?_
    refine EC_rseq ?_
    refine EL_run rfl (R_move rfl) ?_
    refine EL_run rfl (R_lenS Try.underlying68 rfl) ?_
    refine EL_run rfl (R_move rfl) ?_
    refine EL_nil ?_
    refine EC_block ?_
    refine EC_loop (fun m ρ w => ∃ (i : Nat) (n : Int), m = l.length - i ∧ i ≤ l.length ∧ n = ((l.take i).map fun s => s.b - s.a).sum ∧ 0 ≤ n ∧ n ≤ (i : Int) * 1099511627776 ∧ Slots ρ [(3, .int .i64 n), (9, .slice ao l.length c), (10, .int .i64 (l.length : Int)), (11, .int .i64 (i : Int))] ∧ St w0 F D [] [dS ao c l] w) (l.length) (⟨0, 0, by omega, by omega, rfl, by omega, by omega, ⟨rfl, rfl, rfl, rfl, trivial⟩, (hs.fin [] [0]).as rfl rfl⟩) ?_
    rintro m ρ w ⟨i, n, rfl, hi, hn, hn0, hn1, hsl, hs⟩
    refine EC_slots _ hsl ?_
    refine EC_rseq ?_
    refine EL_run rfl (R_lss rfl rfl) ?_
    refine EL_nil ?_
    refine EC_seq ?_
    refine EC_cond rfl (fun hc12 => ?_) (fun hc12 => ?_)
    · (first | have hc12p := of_decide_eq_true hc12 | have hc12p := of_decide_eq_false hc12 | have hc12p := of_decide_eq_false (bnt hc12) | have hc12p := of_decide_eq_true (bnf hc12) | have hc12p := bnt hc12 | have hc12p := bnf hc12 | have hc12p := hc12); try dsimp only at hc12p
      have hib : i < l.length := by omega
      obtain ⟨bb, oo, rfl⟩ := dSlsomeF (hs.rd (i := 0) rfl) Sp.len (by decide) hib
      have hg := valid_get hc8p i hib
      refine EC_skip ?_
      refine Then_n ?_
      refine EC_seq ?_
      refine EC_block ?_
      refine EC_rseq ?_
      refine EL_run rfl (R_idx es_68 rfl (by rfl) rfl (by omega) (by omega)) ?_
      refine EL_run rfl (R_ldE (hs.rd (i := 0) rfl) Sp.len Try.isAgg49 Try.sizeOf49 rfl (by simp <;> omega) (List.getElem?_eq_getElem hib) (by decide)) ?_
      refine EL_op rfl (O_alloc hs rfl Try.zeroValue49 (fun b5 w hb5 hs => ?_))
      refine EL_op rfl (O_storeW hs (i := 0) rfl sz_49 rfl rfl rfl rfl (Sp.oneA _) (fun w hs => ?_))
      refine EL_nil ?_
      refine EC_region ?_
      refine EL_run rfl (R_move rfl) ?_
      refine EL_run rfl (R_field fo_49_1 rfl) ?_
      refine EL_run rfl (R_lb (hs.at (i := 0) rfl) Try.isAgg3 rfl rfl) ?_
      refine EL_run rfl (R_field fo_49_0 rfl) ?_
      refine EL_run rfl (R_lb (hs.at (i := 0) rfl) Try.isAgg3 rfl rfl) ?_
      refine EL_run rfl (R_subI rfl rfl (by omega)) ?_
      refine EL_run rfl (R_addI rfl rfl (by omega)) ?_
      refine EL_run rfl (R_assign rfl) ?_
      refine EL_nil ?_
      refine InBlock_n ?_
      refine Then_n ?_
      refine EC_region ?_
      refine EL_run rfl (R_addI rfl rfl (by omega)) ?_
      refine EL_run rfl (R_move rfl) ?_
      refine EL_nil ?_
      refine Then_n ?_
      exact ⟨l.length - (i + 1), by omega, i + 1, n + (l[i].b - l[i].a), rfl, by omega, by rw [hn, List.take_succ_eq_append_getElem hib, List.map_append, List.sum_append]; simp only [List.map_cons, List.map_nil, List.sum_cons, List.sum_nil]; omega, by omega, by push_cast; omega, ⟨rfl, rfl, rfl, rfl, trivial⟩, (hs.fin [] [0]).as rfl rfl⟩
    · (first | have hc12p := of_decide_eq_true hc12 | have hc12p := of_decide_eq_false hc12 | have hc12p := of_decide_eq_false (bnt hc12) | have hc12p := of_decide_eq_true (bnf hc12) | have hc12p := bnt hc12 | have hc12p := bnf hc12 | have hc12p := hc12); try dsimp only at hc12p
      refine EC_exit ?_
      refine Then_e ?_
      refine Then_e ?_
      refine InBlock_hit rfl ?_
      refine Then_n ?_
      obtain rfl : i = l.length := by omega
      rw [List.take_length] at hn
      refine EC_rseq ?_
      refine EL_run rfl (R_move rfl) ?_
      refine EL_run rfl (R_assign rfl) ?_
      refine EL_nil ?_
      refine EC_ret ?_
      exact ⟨[_], ⟨rfl, trivial⟩, _, _, ⟨by rw [total, if_pos hc8p, ← hn]; rfl, rfl, rfl⟩, (hs.fin [] []).as rfl rfl⟩

set_option maxRecDepth 100000 in
theorem findIs_spec (s : Sp) (b1 : Nat) (n : Int) {w0 : World} (h1 : 0 ≤ s.a ∧ s.a ≤ s.b ∧ s.b ≤ 1099511627776) : Spec Try.prog 65 #[s.val, .pointer (some ⟨b1, 0, none⟩)] w0 [blk b1 #[.int .i64 n] 3] [] (fun v es1 ds1 => v = .bool (decide (n ≤ s.b - s.a)) ∧ es1 = [blk b1 #[.int .i64 n] 3] ∧ ds1 = []) := by
  refine Spec.intro (fun F D hs => ?_)
  refine Calls_of_EC (args := [s.val, .pointer (some ⟨b1, 0, none⟩)]) Try.func65 rfl rfl rfl ?_
  refine EC_rseq ?_
  refine EL_op rfl (O_box hs rfl rfl (fun b2 w hb2 hs => ?_))
  refine EL_run rfl (R_assign rfl) ?_
  refine EL_nil ?_
  refine EC_rseq ?_
  refine EL_run rfl (R_field fo_49_1 rfl) ?_
  refine EL_run rfl (R_lb (hs.at (i := 1) rfl) Try.isAgg3 rfl rfl) ?_
  refine EL_run rfl (R_field fo_49_0 rfl) ?_
  refine EL_run rfl (R_lb (hs.at (i := 1) rfl) Try.isAgg3 rfl rfl) ?_
  refine EL_run rfl (R_subI rfl rfl (by omega)) ?_
  refine EL_run rfl (R_lb (hs.at (i := 0) rfl) Try.isAgg3 rfl rfl) ?_
  refine EL_run rfl (R_geq rfl rfl) ?_
  refine EL_run rfl (R_assign rfl) ?_
  refine EL_nil ?_
  refine EC_ret ?_
  exact ⟨[_], ⟨rfl, trivial⟩, _, _, ⟨rfl, rfl, rfl⟩, (hs.fin [true] []).as rfl rfl⟩

set_option maxRecDepth 100000 in
theorem indexSp_spec (ao : Option Addr) (c : Nat) (l : List Sp) (b1 : Nat) (n : Int) {w0 : World} (hl : l.length ≤ 1000000) (hv : valid l = true) : Spec Try.prog 64 #[.slice ao l.length c, .func (.func 65) #[] #[.pointer (some ⟨b1, 0, none⟩)]] w0 [blk b1 #[.int .i64 n] 3] [dS ao c l] (fun v es1 ds1 => (∃ r : Int, v = .int .i64 r ∧ ((r = -1 ∧ ∀ k (hk : k < l.length), ¬ n ≤ l[k].b - l[k].a) ∨ ∃ k, ∃ (hk : k < l.length), r = (k : Int) ∧ n ≤ l[k].b - l[k].a ∧ ∀ j (hj : j < l.length), j < k → ¬ n ≤ l[j].b - l[j].a)) ∧ es1 = [blk b1 #[.int .i64 n] 3] ∧ ds1 = []) := by
  refine Spec.intro (fun F D hs => ?_)
  refine Calls_of_EC (args := [.slice ao l.length c, .func (.func 65) #[] #[.pointer (some ⟨b1, 0, none⟩)]]) Try.func64 rfl rfl rfl ?_
  refine EC_rseq ?_
  refine EL_run rfl (R_assign rfl) ?_
  refine EL_nil ?_
  refine EC_seq ?_
  refine EC_rseq ?_
  refine EL_run rfl (R_move rfl) ?_
  refine EL_run rfl (R_lenS Try.underlying68 rfl) ?_
  refine EL_run rfl (R_move rfl) ?_
  refine EL_nil ?_
  refine EC_block ?_
  refine EC_loop (fun m ρ w => ∃ (i : Nat), m = l.length - i ∧ i ≤ l.length ∧ (∀ j (hj : j < l.length), j < i → ¬ n ≤ l[j].b - l[j].a) ∧ Slots ρ [(0, .slice ao l.length c), (1, .func (.func 65) #[] #[.pointer (some ⟨b1, 0, none⟩)]), (7, .int .i64 (l.length : Int)), (8, .int .i64 (i : Int))] ∧ St w0 F D [blk b1 #[.int .i64 n] 3] [dS ao c l] w) (l.length) (⟨0, by omega, by omega, fun j _ h => absurd h (Nat.not_lt_zero _), ⟨rfl, rfl, rfl, rfl, trivial⟩, hs⟩) ?_
  rintro m ρ w ⟨i, rfl, hi, hno, hsl, hs⟩
  refine EC_slots _ hsl ?_
  refine EC_rseq ?_
  refine EL_run rfl (R_lss rfl rfl) ?_
  refine EL_nil ?_
  refine EC_seq ?_
  refine EC_cond rfl (fun hc9 => ?_) (fun hc9 => ?_)
  · (first | have hc9p := of_decide_eq_true hc9 | have hc9p := of_decide_eq_false hc9 | have hc9p := of_decide_eq_false (bnt hc9) | have hc9p := of_decide_eq_true (bnf hc9) | have hc9p := bnt hc9 | have hc9p := bnf hc9 | have hc9p := hc9); try dsimp only at hc9p
    have hib : i < l.length := by omega
    obtain ⟨bb, oo, rfl⟩ := dSlsomeF (hs.rd (i := 0) rfl) Sp.len (by decide) hib
    have hg := valid_get hv i hib
    refine EC_skip ?_
    refine Then_n ?_
    refine EC_seq ?_
    refine EC_block ?_
    refine EC_rseq ?_
    refine EL_run rfl (R_move rfl) ?_
    refine EL_run rfl (R_assign rfl) ?_
    refine EL_nil ?_
    refine EC_rseq ?_
    refine EL_run rfl (R_move rfl) ?_
    refine EL_run rfl (R_move rfl) ?_
    refine EL_run rfl (R_move rfl) ?_
    refine EL_run rfl (R_idx es_68 rfl (by rfl) rfl (by omega) (by omega)) ?_
    refine EL_run rfl (R_ldE (hs.rd (i := 0) rfl) Sp.len Try.isAgg49 Try.sizeOf49 rfl (by simp <;> omega) (List.getElem?_eq_getElem hib) (by decide)) ?_
    refine EL_op rfl (O_call hs [true] [] rfl rfl rfl Try.call65 (findIs_spec l[i] b1 n (by omega)) (fun v es1 ds1 w hPhi hs => ?_))
    obtain ⟨rfl, rfl, rfl⟩ := hPhi
    refine EL_nil ?_
    refine EC_cond rfl (fun hc16 => ?_) (fun hc16 => ?_)
    · (first | have hc16p := of_decide_eq_true hc16 | have hc16p := of_decide_eq_false hc16 | have hc16p := of_decide_eq_false (bnt hc16) | have hc16p := of_decide_eq_true (bnf hc16) | have hc16p := bnt hc16 | have hc16p := bnf hc16 | have hc16p := hc16); try dsimp only at hc16p
      refine EC_rseq ?_
      refine EL_run rfl (R_move rfl) ?_
      refine EL_run rfl (R_assign rfl) ?_
      refine EL_nil ?_
      refine EC_ret ?_
      refine InBlock_r ?_
      refine Then_r ?_
      refine Then_r ?_
      refine InBlock_r ?_
      refine Then_r ?_
      exact ⟨[_], ⟨rfl, trivial⟩, _, _, ⟨⟨_, rfl, .inr ⟨i, hib, rfl, hc16p, hno⟩⟩, rfl, rfl⟩, (hs.fin [true] []).as rfl rfl⟩
    · (first | have hc16p := of_decide_eq_true hc16 | have hc16p := of_decide_eq_false hc16 | have hc16p := of_decide_eq_false (bnt hc16) | have hc16p := of_decide_eq_true (bnf hc16) | have hc16p := bnt hc16 | have hc16p := bnf hc16 | have hc16p := hc16); try dsimp only at hc16p
      refine EC_skip ?_
      refine InBlock_n ?_
      refine Then_n ?_
      refine EC_region ?_
      refine EL_run rfl (R_addI rfl rfl (by omega)) ?_
      refine EL_run rfl (R_move rfl) ?_
      refine EL_nil ?_
      refine Then_n ?_
      exact ⟨l.length - (i + 1), by omega, i + 1, rfl, by omega, fun j hj h => by
        rcases Nat.lt_or_ge j i with h' | h'
        · exact hno j hj h'
        · obtain rfl : j = i := by omega
          exact hc16p, ⟨rfl, rfl, rfl, rfl, trivial⟩, (hs.fin [true] [0]).as rfl rfl⟩
  · (first | have hc9p := of_decide_eq_true hc9 | have hc9p := of_decide_eq_false hc9 | have hc9p := of_decide_eq_false (bnt hc9) | have hc9p := of_decide_eq_true (bnf hc9) | have hc9p := bnt hc9 | have hc9p := bnf hc9 | have hc9p := hc9); try dsimp only at hc9p
    refine EC_exit ?_
    refine Then_e ?_
    refine Then_e ?_
    refine InBlock_hit rfl ?_
    refine Then_n ?_
    refine EC_rseq ?_
    refine EL_run rfl (R_assign rfl) ?_
    refine EL_nil ?_
    refine EC_ret ?_
    exact ⟨[_], ⟨rfl, trivial⟩, _, _, ⟨⟨_, rfl, .inl ⟨rfl, fun k hk => hno k hk (by omega)⟩⟩, rfl, rfl⟩, (hs.fin [true] []).as rfl rfl⟩

set_option maxRecDepth 100000 in
theorem spFind_spec (ao : Option Addr) (c : Nat) (l : List Sp) (n : Int) {w0 : World} (hl : l.length ≤ 1000000) (hv : valid l = true) : Spec Try.prog 46 #[.slice ao l.length c, .int .i64 n] w0 [] [dS ao c l] (fun v es1 ds1 => v = .int .i64 (spFind l n) ∧ es1 = [] ∧ ds1 = []) := by
  refine Spec.intro (fun F D hs => ?_)
  refine Calls_of_EC (args := [.slice ao l.length c, .int .i64 n]) Try.func46 rfl rfl rfl ?_
  refine EC_rseq ?_
  refine EL_op rfl (O_box hs rfl rfl (fun b3 w hb3 hs => ?_))
  refine EL_run rfl (R_assign rfl) ?_
  refine EL_nil ?_
  refine EC_rseq ?_
  refine EL_run rfl (R_move rfl) ?_
  refine EL_run rfl (R_makeFunc rfl rfl) ?_
  refine EL_op rfl (O_call hs [true] [0] rfl rfl rfl Try.call64 (indexSp_spec ao c l b3 n hl hv) (fun v es1 ds1 w hPhi hs => ?_))
  obtain ⟨⟨r, rfl, hr⟩, rfl, rfl⟩ := hPhi
  refine EL_run rfl (R_assign rfl) ?_
  refine EL_nil ?_
  refine EC_seq ?_
  refine EC_rseq ?_
  refine EL_run rfl (R_lb (hs.at (i := 0) rfl) Try.isAgg3 rfl rfl) ?_
  refine EL_run rfl (R_lss rfl rfl) ?_
  refine EL_run rfl (R_move rfl) ?_
  refine EL_split 11 rfl (fun hg2 => ?_) (fun hg2 => ?_)
  · (first | have hg2p := of_decide_eq_true hg2 | have hg2p := of_decide_eq_false hg2 | have hg2p := of_decide_eq_false (bnt hg2) | have hg2p := of_decide_eq_true (bnf hg2) | have hg2p := bnt hg2 | have hg2p := bnf hg2 | have hg2p := hg2); try dsimp only at hg2p
    refine EL_pass rfl rfl rfl hg2 ?_
    refine EL_pass rfl rfl rfl hg2 ?_
    refine EL_run rfl (R_pickT rfl hg2 rfl) ?_
    refine EL_run rfl (R_move rfl) ?_
    refine EL_pass rfl rfl rfl rfl ?_
    refine EL_pass rfl rfl rfl rfl ?_
    refine EL_pass rfl rfl rfl rfl ?_
    refine EL_run rfl (R_pickT rfl rfl rfl) ?_
    refine EL_nil ?_
    refine EC_cond rfl (fun hcx => ?_) (fun hcx => ?_)
    · skip
      have hres : spFind l n = -1 := by
        first
          | rw [spFind, if_pos hg2p]
          | exact spFind_none (hr.elim (fun h => h.2) (fun ⟨k, hk, h, _⟩ => by omega))
          | exact Bool.noConfusion (hv.symm.trans hc19p)
      refine EC_rseq ?_
      refine EL_run rfl (R_assign rfl) ?_
      refine EL_nil ?_
      refine EC_ret ?_
      refine Then_r ?_
      exact ⟨[_], ⟨rfl, trivial⟩, _, _, ⟨by rw [hres]; rfl, rfl, rfl⟩, (hs.fin [] []).as rfl rfl⟩
    · exact Bool.noConfusion hcx
  · (first | have hg2p := of_decide_eq_true hg2 | have hg2p := of_decide_eq_false hg2 | have hg2p := of_decide_eq_false (bnt hg2) | have hg2p := of_decide_eq_true (bnf hg2) | have hg2p := bnt hg2 | have hg2p := bnf hg2 | have hg2p := hg2); try dsimp only at hg2p
    refine EL_want rfl rfl hg2 ?_
    refine EL_run rfl (R_move rfl) ?_
    refine EL_want rfl rfl hg2 ?_
    refine EL_run rfl (R_lss rfl rfl) ?_
    refine EL_run rfl (R_pickF rfl hg2 rfl) ?_
    refine EL_run rfl (R_move rfl) ?_
    refine EL_split 15 rfl (fun hg6 => ?_) (fun hg6 => ?_)
    · (first | have hg6p := of_decide_eq_true hg6 | have hg6p := of_decide_eq_false hg6 | have hg6p := of_decide_eq_false (bnt hg6) | have hg6p := of_decide_eq_true (bnf hg6) | have hg6p := bnt hg6 | have hg6p := bnf hg6 | have hg6p := hg6); try dsimp only at hg6p
      refine EL_pass rfl rfl rfl hg6 ?_
      refine EL_pass rfl rfl rfl hg6 ?_
      refine EL_pass rfl rfl rfl hg6 ?_
      refine EL_run rfl (R_pickT rfl hg6 rfl) ?_
      refine EL_nil ?_
      refine EC_cond rfl (fun hcx => ?_) (fun hcx => ?_)
      · skip
        have hres : spFind l n = -1 := by
          first
            | rw [spFind, if_pos hg2p]
            | exact spFind_none (hr.elim (fun h => h.2) (fun ⟨k, hk, h, _⟩ => by omega))
            | exact Bool.noConfusion (hv.symm.trans hc19p)
        refine EC_rseq ?_
        refine EL_run rfl (R_assign rfl) ?_
        refine EL_nil ?_
        refine EC_ret ?_
        refine Then_r ?_
        exact ⟨[_], ⟨rfl, trivial⟩, _, _, ⟨by rw [hres]; rfl, rfl, rfl⟩, (hs.fin [] []).as rfl rfl⟩
      · exact Bool.noConfusion hcx
    · (first | have hg6p := of_decide_eq_true hg6 | have hg6p := of_decide_eq_false hg6 | have hg6p := of_decide_eq_false (bnt hg6) | have hg6p := of_decide_eq_true (bnf hg6) | have hg6p := bnt hg6 | have hg6p := bnf hg6 | have hg6p := hg6); try dsimp only at hg6p
      refine EL_want rfl rfl hg6 ?_
      refine EL_run rfl (R_move rfl) ?_
      refine EL_want rfl rfl hg6 ?_
      refine EL_op rfl (O_call hs [] [0] rfl rfl rfl Try.call58 (valid_spec ao c l hl) (fun v es1 ds1 w hPhi hs => ?_))
      obtain ⟨rfl, rfl, rfl⟩ := hPhi
      refine EL_want rfl rfl hg6 ?_
      refine EL_run rfl (R_not rfl) ?_
      refine EL_run rfl (R_pickF rfl hg6 rfl) ?_
      refine EL_nil ?_
      refine EC_cond rfl (fun hc19 => ?_) (fun hc19 => ?_)
      · (first | have hc19p := of_decide_eq_true hc19 | have hc19p := of_decide_eq_false hc19 | have hc19p := of_decide_eq_false (bnt hc19) | have hc19p := of_decide_eq_true (bnf hc19) | have hc19p := bnt hc19 | have hc19p := bnf hc19 | have hc19p := hc19); try dsimp only at hc19p
        have hres : spFind l n = -1 := by
          first
            | rw [spFind, if_pos hg2p]
            | exact spFind_none (hr.elim (fun h => h.2) (fun ⟨k, hk, h, _⟩ => by omega))
            | exact Bool.noConfusion (hv.symm.trans hc19p)
        refine EC_rseq ?_
        refine EL_run rfl (R_assign rfl) ?_
        refine EL_nil ?_
        refine EC_ret ?_
        refine Then_r ?_
        exact ⟨[_], ⟨rfl, trivial⟩, _, _, ⟨by rw [hres]; rfl, rfl, rfl⟩, (hs.fin [] []).as rfl rfl⟩
      · (first | have hc19p := of_decide_eq_true hc19 | have hc19p := of_decide_eq_false hc19 | have hc19p := of_decide_eq_false (bnt hc19) | have hc19p := of_decide_eq_true (bnf hc19) | have hc19p := bnt hc19 | have hc19p := bnf hc19 | have hc19p := hc19); try dsimp only at hc19p
        refine EC_skip ?_
        refine Then_n ?_
        obtain ⟨k, hk, rfl, hk1, hk2⟩ := hr.resolve_left (by rintro ⟨h, _⟩; omega)
        obtain ⟨bb, oo, rfl⟩ := dSlsomeF (hs.rd (i := 0) rfl) Sp.len (by decide) hk
        refine EC_rseq ?_
        refine EL_run rfl (R_move rfl) ?_
        refine EL_run rfl (R_move rfl) ?_
        refine EL_run rfl (R_idx es_68 rfl (by rfl) rfl (by omega) (by omega)) ?_
        refine EL_run rfl (R_field fo_49_0 rfl) ?_
        refine EL_run rfl (R_ldF (j := 0) (hs.rd (i := 0) rfl) Sp.len Try.isAgg3 rfl (by simp <;> omega) (List.getElem?_eq_getElem hk) rfl) ?_
        refine EL_run rfl (R_assign rfl) ?_
        refine EL_nil ?_
        refine EC_ret ?_
        exact ⟨[_], ⟨rfl, trivial⟩, _, _, ⟨by rw [spFind_some (by omega) hk hk1 hk2]; rfl, rfl, rfl⟩, (hs.fin [] []).as rfl rfl⟩
end Go.Proofs.Ytpcojkbljgpecaa
