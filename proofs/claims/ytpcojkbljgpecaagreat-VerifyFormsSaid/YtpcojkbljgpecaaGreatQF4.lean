/- Part 4 of the proof: engine, models, walks and plain laws, in build order. -/
import Derived.Test.YtpcojkbljgpecaaGreatQF3
import Derived.Lib.SlBytesConst
set_option linter.unusedVariables false
set_option linter.unusedSimpArgs false
namespace Go.Proofs.YtpcojkbljgpecaaGreat
open Go
set_option maxRecDepth 100000 in
theorem spRight_spec (s : Sp) {w0 : World} : Spec Tryz.prog 202 #[s.val] w0 [] [] (fun v es1 ds1 => v = .bool s.right ∧ es1 = [] ∧ ds1 = []) := by
 refine Spec.intro (fun F D hs => ?_)
 refine Calls_of_EC (args := [s.val]) Tryz.func202 rfl rfl rfl ?_
 refine EC_rseq ?_
 refine EL_op rfl (O_box hs rfl rfl (fun b1 w hb1 hs => ?_))
 refine EL_run rfl (R_assign rfl) ?_
 refine EL_nil ?_
 refine EC_rseq ?_
 refine EL_run rfl (R_field fo_211_0 rfl) ?_
 refine EL_run rfl (R_lb (hs.at (i := 0) rfl) Tryz.isAgg3 rfl rfl) ?_
 refine EL_run rfl (R_geq rfl rfl) ?_
 refine EL_run rfl (R_move rfl) ?_
 refine EL_split 6 rfl (fun hg3 => ?_) (fun hg3 => ?_)
 ·have hg3p := cvt hg3; try dsimp only at hg3p
  refine EL_want rfl rfl hg3 ?_
  refine EL_run rfl (R_field fo_211_0 rfl) ?_
  refine EL_want rfl rfl hg3 ?_
  refine EL_run rfl (R_lb (hs.at (i := 0) rfl) Tryz.isAgg3 rfl rfl) ?_
  refine EL_want rfl rfl hg3 ?_
  refine EL_run rfl (R_field fo_211_1 rfl) ?_
  refine EL_want rfl rfl hg3 ?_
  refine EL_run rfl (R_lb (hs.at (i := 0) rfl) Tryz.isAgg3 rfl rfl) ?_
  refine EL_want rfl rfl hg3 ?_
  refine EL_run rfl (R_lss rfl rfl) ?_
  refine EL_run rfl (R_pickT rfl hg3 rfl) ?_
  refine EL_run rfl (R_move rfl) ?_
  refine EL_split 13 rfl (fun hg10 => ?_) (fun hg10 => ?_)
  ·have hg10p := cvt hg10; try dsimp only at hg10p
   refine EL_want rfl rfl hg10 ?_
   refine EL_run rfl (R_field fo_211_1 rfl) ?_
   refine EL_want rfl rfl hg10 ?_
   refine EL_run rfl (R_lb (hs.at (i := 0) rfl) Tryz.isAgg3 rfl rfl) ?_
   refine EL_want rfl rfl hg10 ?_
   refine EL_run rfl (R_leq rfl rfl) ?_
   refine EL_run rfl (R_pickT rfl hg10 rfl) ?_
   refine EL_run rfl (R_assign rfl) ?_
   refine EL_nil ?_
   refine EC_ret ?_
   exact ⟨[_], ⟨rfl, trivial⟩, _, _, ⟨by simp only [tupleOf, Sp.right]; congr 1; simp_all <;> omega, rfl, rfl⟩, (hs.fin [] []).as rfl rfl⟩
  ·have hg10p := cvt hg10; try dsimp only at hg10p
   refine EL_pass rfl rfl rfl hg10 ?_
   refine EL_pass rfl rfl rfl hg10 ?_
   refine EL_pass rfl rfl rfl hg10 ?_
   refine EL_run rfl (R_pickF rfl hg10 rfl) ?_
   refine EL_run rfl (R_assign rfl) ?_
   refine EL_nil ?_
   refine EC_ret ?_
   exact ⟨[_], ⟨rfl, trivial⟩, _, _, ⟨by simp only [tupleOf, Sp.right]; congr 1; simp_all <;> omega, rfl, rfl⟩, (hs.fin [] []).as rfl rfl⟩
 ·have hg3p := cvt hg3; try dsimp only at hg3p
  refine EL_pass rfl rfl rfl hg3 ?_
  refine EL_pass rfl rfl rfl hg3 ?_
  refine EL_pass rfl rfl rfl hg3 ?_
  refine EL_pass rfl rfl rfl hg3 ?_
  refine EL_pass rfl rfl rfl hg3 ?_
  refine EL_run rfl (R_pickF rfl hg3 rfl) ?_
  refine EL_run rfl (R_move rfl) ?_
  refine EL_pass rfl rfl rfl rfl ?_
  refine EL_pass rfl rfl rfl rfl ?_
  refine EL_pass rfl rfl rfl rfl ?_
  refine EL_run rfl (R_pickF rfl rfl rfl) ?_
  refine EL_run rfl (R_assign rfl) ?_
  refine EL_nil ?_
  refine EC_ret ?_
  exact ⟨[_], ⟨rfl, trivial⟩, _, _, ⟨by simp only [tupleOf, Sp.right]; congr 1; simp_all <;> omega, rfl, rfl⟩, (hs.fin [] []).as rfl rfl⟩

set_option maxRecDepth 100000 in
theorem valid_spec (ao : Option Addr) (c : Nat) (l : List Sp) {w0 : World} (hl : l.length ≤ 1000000) : Spec Tryz.prog 116 #[.slice ao l.length c] w0 [] [dS ao c l] (fun v es1 ds1 => v = .bool (valid l) ∧ es1 = [] ∧ ds1 = []) := by
 refine Spec.intro (fun F D hs => ?_)
 refine Calls_of_EC (args := [.slice ao l.length c]) Tryz.func116 rfl rfl rfl ?_
 refine EC_rseq ?_
 refine EL_run rfl (R_assign rfl) ?_
 refine EL_nil ?_
 refine EC_rseq ?_
 refine EL_run rfl (R_assign rfl) ?_
 refine EL_nil ?_
 refine EC_seq ?_
 refine EC_rseq ?_
 refine EL_run rfl (R_move rfl) ?_
 refine EL_run rfl (R_lenS Tryz.underlying74 rfl) ?_
 refine EL_run rfl (R_move rfl) ?_
 refine EL_nil ?_
 refine EC_block ?_
 refine EC_loop (fun m ρ w => ∃ (i : Nat) (last : Int), m = l.length - i ∧ i ≤ l.length ∧ validFrom last (l.drop i) = valid l ∧ Slots ρ [(3, .int .i64 last), (6, .slice ao l.length c), (7, .int .i64 (l.length : Int)), (8, .int .i64 (i : Int))] ∧ St w0 F D [] [dS ao c l] w) (l.length) (⟨0, -1, by omega, by omega, rfl, ⟨rfl, rfl, rfl, rfl, trivial⟩, hs⟩) ?_
 rintro m ρ w ⟨i, last, rfl, hi, hv, hsl, hs⟩
 refine EC_slots _ hsl ?_
 refine EC_rseq ?_
 refine EL_run rfl (R_lss rfl rfl) ?_
 refine EL_nil ?_
 refine EC_seq ?_
 refine EC_cond rfl (fun hc9 => ?_) (fun hc9 => ?_)
 ·have hc9p := cvt hc9; try dsimp only at hc9p
  have hib : i < l.length := by omega
  obtain ⟨bb, oo, rfl⟩ := dSlsomeF (hs.rd (i := 0) rfl) Sp.len (by decide) hib
  have hdr : l.drop i = l[i] :: l.drop (i + 1) := List.drop_eq_getElem_cons hib
  refine EC_skip ?_
  refine Then_n ?_
  refine EC_seq ?_
  refine EC_block ?_
  refine EC_rseq ?_
  refine EL_run rfl (R_idx es_74 rfl (by rfl) rfl (by omega) (by omega)) ?_
  refine EL_run rfl (R_ldE (hs.rd (i := 0) rfl) Sp.len Tryz.isAgg211 Tryz.sizeOf211 rfl (by simp <;> omega) (List.getElem?_eq_getElem hib) (by decide)) ?_
  refine EL_op rfl (O_alloc hs rfl Tryz.zeroValue211 (fun b5 w hb5 hs => ?_))
  refine EL_op rfl (O_storeW hs (i := 0) rfl sz_211 rfl rfl rfl rfl (Sp.oneA _) (fun w hs => ?_))
  refine EL_nil ?_
  refine EC_seq ?_
  refine EC_rseq ?_
  refine EL_run rfl (R_lw (hs.at (i := 0) rfl) Tryz.isAgg211 Tryz.sizeOf211 rfl rfl) ?_
  refine EL_op rfl (O_call hs [] [] rfl rfl rfl Tryz.call202 (spRight_spec l[i]) (fun v es1 ds1 w hPhi hs => ?_))
  obtain ⟨rfl, rfl, rfl⟩ := hPhi
  refine EL_run rfl (R_not rfl) ?_
  refine EL_run rfl (R_move rfl) ?_
  refine EL_split 15 rfl (fun hg3 => ?_) (fun hg3 => ?_)
  ·have hg3p := cvt hg3; try dsimp only at hg3p
   refine EL_pass rfl rfl rfl hg3 ?_
   refine EL_pass rfl rfl rfl hg3 ?_
   refine EL_pass rfl rfl rfl hg3 ?_
   refine EL_pass rfl rfl rfl hg3 ?_
   refine EL_run rfl (R_pickT rfl hg3 rfl) ?_
   refine EL_nil ?_
   refine EC_cond rfl (fun hcx => ?_) (fun hcx => ?_)
   ·skip
    refine EC_rseq ?_
    refine EL_run rfl (R_assign rfl) ?_
    refine EL_nil ?_
    refine EC_ret ?_
    refine Then_r ?_
    refine InBlock_r ?_
    refine Then_r ?_
    refine Then_r ?_
    refine InBlock_r ?_
    refine Then_r ?_
    exact ⟨[_], ⟨rfl, trivial⟩, _, _, ⟨by simp only [tupleOf]; congr 1; first | rw [← hv, hdr, validFrom, hg3p, Bool.false_and, Bool.false_and] | rw [← hv, hdr, validFrom, decide_eq_false (show ¬ last < l[i].a by omega), Bool.and_false, Bool.false_and], rfl, rfl⟩, (hs.fin [] []).as rfl rfl⟩
   ·exact Bool.noConfusion hcx
  ·have hg3p := cvt hg3; try dsimp only at hg3p
   refine EL_want rfl rfl hg3 ?_
   refine EL_run rfl (R_field fo_211_0 rfl) ?_
   refine EL_want rfl rfl hg3 ?_
   refine EL_run rfl (R_lb (hs.at (i := 0) rfl) Tryz.isAgg3 rfl rfl) ?_
   refine EL_want rfl rfl hg3 ?_
   refine EL_run rfl (R_move rfl) ?_
   refine EL_want rfl rfl hg3 ?_
   refine EL_run rfl (R_leq rfl rfl) ?_
   refine EL_run rfl (R_pickF rfl hg3 rfl) ?_
   refine EL_nil ?_
   refine EC_cond rfl (fun hc20 => ?_) (fun hc20 => ?_)
   ·have hc20p := cvt hc20; try dsimp only at hc20p
    refine EC_rseq ?_
    refine EL_run rfl (R_assign rfl) ?_
    refine EL_nil ?_
    refine EC_ret ?_
    refine Then_r ?_
    refine InBlock_r ?_
    refine Then_r ?_
    refine Then_r ?_
    refine InBlock_r ?_
    refine Then_r ?_
    exact ⟨[_], ⟨rfl, trivial⟩, _, _, ⟨by simp only [tupleOf]; congr 1; first | rw [← hv, hdr, validFrom, hg3p, Bool.false_and, Bool.false_and] | rw [← hv, hdr, validFrom, decide_eq_false (show ¬ last < l[i].a by omega), Bool.and_false, Bool.false_and], rfl, rfl⟩, (hs.fin [] []).as rfl rfl⟩
   ·have hc20p := cvt hc20; try dsimp only at hc20p
    refine EC_skip ?_
    refine Then_n ?_
    refine EC_region ?_
    refine EL_run rfl (R_field fo_211_1 rfl) ?_
    refine EL_run rfl (R_lb (hs.at (i := 0) rfl) Tryz.isAgg3 rfl rfl) ?_
    refine EL_run rfl (R_assign rfl) ?_
    refine EL_nil ?_
    refine InBlock_n ?_
    refine Then_n ?_
    refine EC_region ?_
    refine EL_run rfl (R_addI rfl rfl (by omega)) ?_
    refine EL_run rfl (R_move rfl) ?_
    refine EL_nil ?_
    refine Then_n ?_
    exact ⟨l.length - (i + 1), by omega, i + 1, l[i].b, rfl, by omega, by rw [← hv, hdr, validFrom, hg3p, decide_eq_true (show last < l[i].a by omega), Bool.true_and, Bool.true_and], ⟨rfl, rfl, rfl, rfl, trivial⟩, (hs.fin [] [0]).as rfl rfl⟩
 ·have hc9p := cvt hc9; try dsimp only at hc9p
  refine EC_exit ?_
  refine Then_e ?_
  refine Then_e ?_
  refine InBlock_hit rfl ?_
  refine Then_n ?_
  refine EC_rseq ?_
  refine EL_run rfl (R_assign rfl) ?_
  refine EL_nil ?_
  refine EC_ret ?_
  exact ⟨[_], ⟨rfl, trivial⟩, _, _, ⟨by simp only [tupleOf]; congr 1; rw [← hv, List.drop_eq_nil_of_le (by omega), validFrom], rfl, rfl⟩, (hs.fin [] []).as rfl rfl⟩

set_option maxRecDepth 100000 in
theorem cloneSp_spec (ao : Option Addr) (c : Nat) (l : List Sp) {w0 : World} (hl : l.length ≤ 1000000) : Spec Tryz.prog 204 #[.slice ao l.length c] w0 [] [dS ao c l] (fun v es1 ds1 => es1 = [oSl v 211 2 l.length (l.flatMap Sp.l)] ∧ ds1 = []) := by
 refine Spec.intro (fun F D hs => ?_)
 refine Calls_of_EC (args := [.slice ao l.length c]) Tryz.func204 rfl rfl rfl ?_
 refine EC_rseq ?_
 refine EL_run rfl (R_assign rfl) ?_
 refine EL_nil ?_
 refine EC_seq ?_
 refine EC_rseq ?_
 refine EL_run rfl (R_move rfl) ?_
 refine EL_run rfl (R_eqlSlNil Tryz.underlying74 rfl rfl) ?_
 refine EL_nil ?_
 refine EC_cond rfl (fun hc4 => ?_) (fun hc4 => ?_)
 ·have hc4p := cvt hc4; try dsimp only at hc4p
  have hnil : ao = none := by simpa using hc4p
  subst hnil
  obtain rfl : l = [] := by
    have h := (hs.rd (i := 0) rfl).1
    have h1 := h.2.1 rfl
    have h2 := h.1
    exact List.eq_nil_of_length_eq_zero (by omega)
  have hs := hs.nilSl 211 2
  refine EC_rseq ?_
  refine EL_run rfl (R_assign rfl) ?_
  refine EL_nil ?_
  refine EC_ret ?_
  refine Then_r ?_
  exact ⟨[_], ⟨rfl, trivial⟩, _, _, ⟨rfl, rfl⟩, (hs.fin [true] []).as rfl rfl⟩
 ·have hc4p := cvt hc4; try dsimp only at hc4p
  refine EC_skip ?_
  refine Then_n ?_
  refine EC_rseq ?_
  refine EL_op rfl (O_buildSlice [] hs rfl ei_74 rfl rfl rfl (by simp) (by decide) (fun b5 w hb5 hs => ?_))
  refine EL_run rfl (R_move rfl) ?_
  refine EL_op rfl (O_append hs (i := 0) rfl rfl ei_74 rfl rfl (Src.data (hs.rd (i := 0) rfl)) (Sp.one l) (by omega) (by omega) (fun v7 w hs => ?_))
  have hs := hs.asSl (i := 0) rfl l.length (l.flatMap Sp.l) (by omega) (by simp)
  refine EL_run rfl (R_assign rfl) ?_
  refine EL_nil ?_
  refine EC_ret ?_
  exact ⟨[_], ⟨rfl, trivial⟩, _, _, ⟨rfl, rfl⟩, (hs.fin [true] []).as rfl rfl⟩

set_option maxRecDepth 100000 in
theorem firstCmp_spec (s : Sp) (n : Int) {w0 : World} (h1 : 0 ≤ s.b ∧ s.b ≤ 1099511627776) (h2 : 0 ≤ n ∧ n ≤ 1099511627777) : Spec Tryz.prog 274 #[s.val, .int .i64 n] w0 [] [] (fun v es1 ds1 => v = .int .i64 (s.b - n) ∧ es1 = [] ∧ ds1 = []) := by
 refine Spec.intro (fun F D hs => ?_)
 refine Calls_of_EC (args := [s.val, .int .i64 n]) Tryz.func274 rfl rfl rfl ?_
 refine EC_rseq ?_
 refine EL_op rfl (O_box hs rfl rfl (fun b2 w hb2 hs => ?_))
 refine EL_run rfl (R_assign rfl) ?_
 refine EL_nil ?_
 refine EC_rseq ?_
 refine EL_run rfl (R_field fo_211_1 rfl) ?_
 refine EL_run rfl (R_lb (hs.at (i := 0) rfl) Tryz.isAgg3 rfl rfl) ?_
 refine EL_run rfl (R_move rfl) ?_
 refine EL_run rfl (R_subI rfl rfl (by omega)) ?_
 refine EL_run rfl (R_assign rfl) ?_
 refine EL_nil ?_
 refine EC_ret ?_
 exact ⟨[_], ⟨rfl, trivial⟩, _, _, ⟨rfl, rfl, rfl⟩, (hs.fin [] []).as rfl rfl⟩

set_option maxRecDepth 100000 in
theorem bsearch_spec (ao : Option Addr) (c : Nat) (l : List Sp) (n : Int) {w0 : World} (hl : l.length ≤ 1000000) (hv : valid l = true) (hn : 0 ≤ n ∧ n ≤ 1099511627777) : Spec Tryz.prog 273 #[.slice ao l.length c, .int .i64 n, .func (.func 274) #[] #[]] w0 [] [dS ao c l] (fun v es1 ds1 => (∃ r, v = .tuple #[.int .i64 (firstAt l n : Int), .bool r]) ∧ es1 = [] ∧ ds1 = []) := by
 refine Spec.intro (fun F D hs => ?_)
 refine Calls_of_EC (args := [.slice ao l.length c, .int .i64 n, .func (.func 274) #[] #[]]) Tryz.func273 rfl rfl rfl ?_
 refine EC_rseq ?_
 refine EL_run rfl (R_assign rfl) ?_
 refine EL_run rfl (R_assign rfl) ?_
 refine EL_nil ?_
 refine EC_rseq ?_
 refine EL_run rfl (R_move rfl) ?_
 refine EL_run rfl (R_lenS Tryz.underlying74 rfl) ?_
 refine EL_run rfl (R_assign rfl) ?_
 refine EL_nil ?_
 refine EC_rseq ?_
 refine EL_run rfl (R_move rfl) ?_
 refine EL_run rfl (R_assign rfl) ?_
 refine EL_run rfl (R_assign rfl) ?_
 refine EL_nil ?_
 refine EC_seq ?_
 refine EC_block ?_
 refine EC_loop (fun m ρ w => ∃ (i j : Nat), m = j - i ∧ i ≤ j ∧ j ≤ l.length ∧ (∀ k (h : k < l.length), k < i → l[k].b < n) ∧ (∀ k (h : k < l.length), j ≤ k → n ≤ l[k].b) ∧ Slots ρ [(0, .slice ao l.length c), (1, .int .i64 n), (2, .func (.func 274) #[] #[]), (8, .int .i64 (l.length : Int)), (9, .int .i64 (i : Int)), (10, .int .i64 (j : Int))] ∧ St w0 F D [] [dS ao c l] w) (l.length) (⟨0, l.length, by omega, by omega, by omega, fun k _ h => absurd h (Nat.not_lt_zero _), fun k h h2 => by omega, ⟨rfl, rfl, rfl, rfl, rfl, rfl, trivial⟩, hs⟩) ?_
 rintro m ρ w ⟨i, j, rfl, hij, hj, hlo, hhi, hsl, hs⟩
 refine EC_slots _ hsl ?_
 refine EC_seq ?_
 refine EC_rseq ?_
 refine EL_run rfl (R_move rfl) ?_
 refine EL_run rfl (R_move rfl) ?_
 refine EL_run rfl (R_lss rfl rfl) ?_
 refine EL_nil ?_
 refine EC_cond rfl (fun hc17 => ?_) (fun hc17 => ?_)
 ·have hc17p := cvt hc17; try dsimp only at hc17p
  refine EC_skip ?_
  refine Then_n ?_
  refine EC_block ?_
  refine EC_rseq ?_
  refine EL_run rfl (R_move rfl) ?_
  refine EL_run rfl (R_move rfl) ?_
  refine EL_run rfl (R_addI rfl rfl (by omega)) ?_
  refine EL_run rfl (R_convIU Tryz.underlying3 Tryz.underlying315 rfl (by omega) (by omega)) ?_
  refine EL_run rfl (R_shrU 1 rfl rfl rfl (by simp [IntKind.bits]; omega)) ?_
  refine EL_run rfl (R_convS Tryz.underlying315 Tryz.underlying3 rfl (by omega) (by omega)) ?_
  refine EL_run rfl (R_assign rfl) ?_
  have hmid : ((i : Int) + (j : Int)).toNat / 2 ^ 1 = (i + j) / 2 := by omega
  rw [hmid]
  have hhb : (i + j) / 2 < l.length := by omega
  obtain ⟨bb, oo, rfl⟩ := dSlsomeF (hs.rd (i := 0) rfl) Sp.len (by decide) hhb
  have hg := valid_get hv _ hhb
  refine EL_nil ?_
  refine EC_rseq ?_
  refine EL_run rfl (R_move rfl) ?_
  refine EL_run rfl (R_move rfl) ?_
  refine EL_run rfl (R_move rfl) ?_
  refine EL_run rfl (R_idx es_74 rfl (by rfl) rfl (by omega) (by omega)) ?_
  refine EL_run rfl (R_ldE (hs.rd (i := 0) rfl) Sp.len Tryz.isAgg211 Tryz.sizeOf211 rfl (by simp <;> omega) (List.getElem?_eq_getElem hhb) (by decide)) ?_
  refine EL_run rfl (R_move rfl) ?_
  refine EL_op rfl (O_call hs [] [] rfl rfl rfl Tryz.call274 (firstCmp_spec l[(i + j) / 2] n (by omega) (by omega)) (fun v es1 ds1 w hPhi hs => ?_))
  obtain ⟨rfl, rfl, rfl⟩ := hPhi
  refine EL_run rfl (R_lss rfl rfl) ?_
  refine EL_nil ?_
  refine EC_cond rfl (fun hc31 => ?_) (fun hc31 => ?_)
  ·have hc31p := cvt hc31; try dsimp only at hc31p
   refine EC_region ?_
   refine EL_run rfl (R_move rfl) ?_
   refine EL_run rfl (R_addI rfl rfl (by omega)) ?_
   refine EL_run rfl (R_assign rfl) ?_
   refine EL_nil ?_
   refine InBlock_n ?_
   refine Then_n ?_
   exact ⟨j - ((i + j) / 2 + 1), by omega, (i + j) / 2 + 1, j, rfl, by omega, by omega, fun k h hk => by
     rcases Nat.lt_or_ge k ((i + j) / 2) with h' | h'
     · have := valid_mono hv h' hhb; omega
     · have : k = (i + j) / 2 := by omega
       subst this; omega, hhi, ⟨rfl, rfl, rfl, rfl, sI (by omega), rfl, trivial⟩, (hs.fin [] [0]).as rfl rfl⟩
  ·have hc31p := cvt hc31; try dsimp only at hc31p
   refine EC_region ?_
   refine EL_run rfl (R_move rfl) ?_
   refine EL_run rfl (R_assign rfl) ?_
   refine EL_nil ?_
   refine InBlock_n ?_
   refine Then_n ?_
   exact ⟨(i + j) / 2 - i, by omega, i, (i + j) / 2, rfl, by omega, by omega, hlo, fun k h hk => by
     rcases Nat.lt_or_ge ((i + j) / 2) k with h' | h'
     · have := valid_mono hv h' h; omega
     · have : k = (i + j) / 2 := by omega
       subst this; omega, ⟨rfl, rfl, rfl, rfl, rfl, sI (by omega), trivial⟩, (hs.fin [] [0]).as rfl rfl⟩
 ·have hc17p := cvt hc17; try dsimp only at hc17p
  refine EC_exit ?_
  refine Then_e ?_
  refine Then_e ?_
  refine InBlock_hit rfl ?_
  refine Then_n ?_
  refine EC_rseq ?_
  refine EL_run rfl (R_move rfl) ?_
  refine EL_run rfl (R_move rfl) ?_
  refine EL_run rfl (R_move rfl) ?_
  refine EL_run rfl (R_lss rfl rfl) ?_
  refine EL_run rfl (R_move rfl) ?_
  refine EL_split 39 rfl (fun hg4 => ?_) (fun hg4 => ?_)
  ·have hg4p := cvt hg4; try dsimp only at hg4p
   have hib : i < l.length := by omega
   obtain ⟨bb, oo, rfl⟩ := dSlsomeF (hs.rd (i := 0) rfl) Sp.len (by decide) hib
   have hg := valid_get hv _ hib
   refine EL_want rfl rfl hg4 ?_
   refine EL_run rfl (R_move rfl) ?_
   refine EL_want rfl rfl hg4 ?_
   refine EL_run rfl (R_move rfl) ?_
   refine EL_want rfl rfl hg4 ?_
   refine EL_run rfl (R_move rfl) ?_
   refine EL_want rfl rfl hg4 ?_
   refine EL_run rfl (R_idx es_74 rfl (by rfl) rfl (by omega) (by omega)) ?_
   refine EL_want rfl rfl hg4 ?_
   refine EL_run rfl (R_ldE (hs.rd (i := 0) rfl) Sp.len Tryz.isAgg211 Tryz.sizeOf211 rfl (by simp <;> omega) (List.getElem?_eq_getElem hib) (by decide)) ?_
   refine EL_want rfl rfl hg4 ?_
   refine EL_run rfl (R_move rfl) ?_
   refine EL_want rfl rfl hg4 ?_
   refine EL_op rfl (O_call hs [] [] rfl rfl rfl Tryz.call274 (firstCmp_spec l[i] n (by omega) (by omega)) (fun v es1 ds1 w hPhi hs => ?_))
   obtain ⟨rfl, rfl, rfl⟩ := hPhi
   refine EL_want rfl rfl hg4 ?_
   refine EL_run rfl (R_eql rfl rfl) ?_
   refine EL_run rfl (R_pickT rfl hg4 rfl) ?_
   refine EL_run rfl (R_assign rfl) ?_
   refine EL_run rfl (R_assign rfl) ?_
   refine EL_nil ?_
   refine EC_ret ?_
   obtain rfl : i = j := by omega
   exact ⟨[_, _], ⟨rfl, rfl, trivial⟩, _, _, ⟨⟨_, by rw [firstAt_of hj hlo hhi]; rfl⟩, rfl, rfl⟩, (hs.fin [] []).as rfl rfl⟩
  ·have hg4p := cvt hg4; try dsimp only at hg4p
   refine EL_pass rfl rfl rfl hg4 ?_
   refine EL_pass rfl rfl rfl hg4 ?_
   refine EL_pass rfl rfl rfl hg4 ?_
   refine EL_pass rfl rfl rfl hg4 ?_
   refine EL_pass rfl rfl rfl hg4 ?_
   refine EL_pass rfl rfl rfl hg4 ?_
   refine EL_pass rfl rfl rfl hg4 ?_
   refine EL_pass rfl rfl rfl hg4 ?_
   refine EL_run rfl (R_pickF rfl hg4 rfl) ?_
   refine EL_run rfl (R_assign rfl) ?_
   refine EL_run rfl (R_assign rfl) ?_
   refine EL_nil ?_
   refine EC_ret ?_
   obtain rfl : i = j := by omega
   exact ⟨[_, _], ⟨rfl, rfl, trivial⟩, _, _, ⟨⟨_, by rw [firstAt_of hj hlo hhi]; rfl⟩, rfl, rfl⟩, (hs.fin [] []).as rfl rfl⟩

set_option maxRecDepth 100000 in
theorem first_spec (ao : Option Addr) (c : Nat) (l : List Sp) (n : Int) {w0 : World} (hl : l.length ≤ 1000000) (hv : valid l = true) (hn : 0 ≤ n ∧ n ≤ 1099511627777) : Spec Tryz.prog 203 #[.slice ao l.length c, .int .i64 n] w0 [] [dS ao c l] (fun v es1 ds1 => v = .int .i64 (firstAt l n : Int) ∧ es1 = [] ∧ ds1 = []) := by
 refine Spec.intro (fun F D hs => ?_)
 refine Calls_of_EC (args := [.slice ao l.length c, .int .i64 n]) Tryz.func203 rfl rfl rfl ?_
 refine EC_rseq ?_
 refine EL_run rfl (R_assign rfl) ?_
 refine EL_nil ?_
 refine EC_rseq ?_
 refine EL_run rfl (R_move rfl) ?_
 refine EL_run rfl (R_move rfl) ?_
 refine EL_op rfl (O_call hs [] [0] rfl rfl rfl Tryz.call273 (bsearch_spec ao c l n hl hv hn) (fun v es1 ds1 w hPhi hs => ?_))
 obtain ⟨⟨r, rfl⟩, rfl, rfl⟩ := hPhi
 refine EL_run rfl (R_move rfl) ?_
 refine EL_run rfl (R_extract rfl rfl) ?_
 refine EL_run rfl (R_extract rfl rfl) ?_
 refine EL_run rfl (R_assign rfl) ?_
 refine EL_run rfl (R_assign rfl) ?_
 refine EL_nil ?_
 refine EC_rseq ?_
 refine EL_run rfl (R_move rfl) ?_
 refine EL_run rfl (R_assign rfl) ?_
 refine EL_nil ?_
 refine EC_ret ?_
 exact ⟨[_], ⟨rfl, trivial⟩, _, _, ⟨rfl, rfl, rfl⟩, (hs.fin [] []).as rfl rfl⟩

set_option maxRecDepth 100000 in
theorem spReplace_spec (ao : Option Addr) (c : Nat) (l : List Sp) (a b : Nat) (ao2 : Option Addr) (c2 : Nat) (ins : List Sp) {w0 : World} (hl : l.length ≤ 1000000) (hi : ins.length ≤ 3000000) (ha : a ≤ l.length) (hb : b ≤ l.length) : Spec Tryz.prog 205 #[.slice ao l.length c, .int .i64 (a : Int), .int .i64 (b : Int), .slice ao2 ins.length c2] w0 [] [dS ao c l, dS ao2 c2 ins] (fun v es1 ds1 => es1 = [oSl v 211 2 (spReplace l a b ins).length ((spReplace l a b ins).flatMap Sp.l)] ∧ ds1 = []) := by
 refine Spec.intro (fun F D hs => ?_)
 refine Calls_of_EC (args := [.slice ao l.length c, .int .i64 (a : Int), .int .i64 (b : Int), .slice ao2 ins.length c2]) Tryz.func205 rfl rfl rfl ?_
 refine EC_rseq ?_
 refine EL_run rfl (R_assign rfl) ?_
 refine EL_nil ?_
 refine EC_rseq ?_
 refine EL_op rfl (O_buildSlice [] hs rfl ei_74 rfl rfl rfl (by simp) (by decide) (fun b10 w hb10 hs => ?_))
 refine EL_run rfl (R_move rfl) ?_
 refine EL_run rfl (R_move rfl) ?_
 refine EL_run rfl (R_sliceHi es_74 rfl rfl (by omega) (by have := (hs.rd (i := 0) rfl).1.1; omega)) ?_
 have hs := hs.dEtake (j := 0) rfl Sp.len a ha
 have hta : ((a : Int)).toNat = (l.take a).length := by rw [List.length_take]; omega
 rw [hta]
 refine EL_op rfl (O_append hs (i := 0) rfl rfl ei_74 rfl rfl (Src.data (hs.rd (i := 2) rfl)) (Sp.one _) (by rw [List.length_take]; omega) (by rw [List.length_take]; omega) (fun v14 w hs => ?_))
 refine EL_run rfl (R_assign rfl) ?_
 refine EL_nil ?_
 have hs := hs.dEdrop (j := 0) rfl Sp.len b hb
 refine EC_dseqS hs [2, 6] [] [] [] (.take 0 (.take 1 (.take 3 (.take 4 (.take 5 (.fork 2 (.fork 6 (.take 7 .done) (.done)) (.done))))))) mix_ok (by kernel_rfl) (fun w hs _ => ?_)
 refine EP_take rfl rfl rfl (fun _ => R_move rfl) ?_
 refine EP_take rfl rfl rfl (fun _ => R_move rfl) ?_
 refine EP_take rfl rfl rfl (fun _ => R_move rfl) ?_
 refine EP_take rfl rfl rfl (fun _ => R_move rfl) ?_
 refine EP_take rfl rfl rfl (fun _ => R_sliceLo es_74 rfl rfl (by omega) (by omega)) ?_
 rw [show l.length - ((b : Int)).toNat = (l.drop b).length by rw [List.length_drop]; omega]
 refine EP_act rfl rfl (O_append hs (i := 0) rfl rfl ei_74 rfl rfl (Src.data (hs.rd (i := 1) rfl)) (Sp.one _) (by rw [List.length_take]; omega) (by rw [List.length_take]; omega) (fun v17 w hs => ⟨(rq_no (by kernel_rfl)), ?_⟩))
 refine EP_act rfl rfl (O_append hs (i := 0) rfl rfl ei_74 rfl rfl (Src.data (hs.rd (i := 3) rfl)) (Sp.one _) (by rw [List.length_take, List.length_drop]; omega) (by rw [List.length_take, List.length_drop]; omega) (fun v21 w hs => ⟨(rq_no (by kernel_rfl)), ?_⟩))
 have hs := hs.asSl (i := 0) rfl (spReplace l a b ins).length ((spReplace l a b ins).flatMap Sp.l) (by simp [spReplace]; omega) (by simp [spReplace])
 refine EP_take rfl rfl rfl (fun _ => R_assign rfl) ?_
 refine EP_done ?_
 refine EC_ret ?_
 exact ⟨[_], ⟨rfl, trivial⟩, _, _, ⟨rfl, rfl⟩, (hs.fin [true] []).as rfl rfl⟩

set_option maxRecDepth 100000 in
theorem spAdd_spec (ao : Option Addr) (c : Nat) (l : List Sp) (s : Sp) {w0 : World} (hl : l.length ≤ 1000000) : Spec Tryz.prog 115 #[.slice ao l.length c, s.val] w0 [] [dS ao c l] (fun v es1 ds1 => es1 = [oSl v 211 2 (spAdd l s).length ((spAdd l s).flatMap Sp.l)] ∧ ds1 = []) := by
 refine Spec.intro (fun F D hs => ?_)
 refine Calls_of_EC (args := [.slice ao l.length c, s.val]) Tryz.func115 rfl rfl rfl ?_
 refine EC_rseq ?_
 refine EL_op rfl (O_box hs rfl rfl (fun b3 w hb3 hs => ?_))
 refine EL_run rfl (R_assign rfl) ?_
 refine EL_nil ?_
 refine EC_seq ?_
 refine EC_rseq ?_
 refine EL_run rfl (R_move rfl) ?_
 refine EL_op rfl (O_call hs [] [0] rfl rfl rfl Tryz.call116 (valid_spec ao c l hl) (fun v es1 ds1 w hPhi hs => ?_))
 obtain ⟨rfl, rfl, rfl⟩ := hPhi
 refine EL_run rfl (R_not rfl) ?_
 refine EL_run rfl (R_move rfl) ?_
 refine EL_split 10 rfl (fun hg3 => ?_) (fun hg3 => ?_)
 ·have hg3p := cvt hg3; try dsimp only at hg3p
  refine EL_pass rfl rfl rfl hg3 ?_
  refine EL_pass rfl rfl rfl hg3 ?_
  refine EL_pass rfl rfl rfl hg3 ?_
  refine EL_run rfl (R_pickT rfl hg3 rfl) ?_
  refine EL_nil ?_
  refine EC_cond rfl (fun hcx => ?_) (fun hcx => ?_)
  ·skip
   have hbad : ¬ (valid l = true ∧ s.right = true) := by
     rintro ⟨h1, h2⟩
     first | exact Bool.noConfusion (hg3p.symm.trans h1) | exact Bool.noConfusion (hc14p.symm.trans h2)
   refine EC_rseq ?_
   refine EL_run rfl (R_move rfl) ?_
   refine EL_op rfl (O_call hs [] [0] rfl rfl rfl Tryz.call204 (cloneSp_spec ao c l hl) (fun v es1 ds1 w hPhi hs => ?_))
   obtain ⟨rfl, rfl⟩ := hPhi
   refine EL_run rfl (R_assign rfl) ?_
   refine EL_nil ?_
   refine EC_ret ?_
   refine Then_r ?_
   exact ⟨[_], ⟨rfl, trivial⟩, _, _, ⟨rfl, rfl⟩, (hs.fin [false, true] []).as (by rw [spAdd, if_neg hbad]; rfl) rfl⟩
  ·exact Bool.noConfusion hcx
 ·have hg3p := cvt hg3; try dsimp only at hg3p
  refine EL_want rfl rfl hg3 ?_
  refine EL_run rfl (R_lw (hs.at (i := 0) rfl) Tryz.isAgg211 Tryz.sizeOf211 rfl rfl) ?_
  refine EL_want rfl rfl hg3 ?_
  refine EL_op rfl (O_call hs [] [] rfl rfl rfl Tryz.call202 (spRight_spec s) (fun v es1 ds1 w hPhi hs => ?_))
  obtain ⟨rfl, rfl, rfl⟩ := hPhi
  refine EL_want rfl rfl hg3 ?_
  refine EL_run rfl (R_not rfl) ?_
  refine EL_run rfl (R_pickF rfl hg3 rfl) ?_
  refine EL_nil ?_
  refine EC_cond rfl (fun hc14 => ?_) (fun hc14 => ?_)
  ·have hc14p := cvt hc14; try dsimp only at hc14p
   have hbad : ¬ (valid l = true ∧ s.right = true) := by
     rintro ⟨h1, h2⟩
     first | exact Bool.noConfusion (hg3p.symm.trans h1) | exact Bool.noConfusion (hc14p.symm.trans h2)
   have hbad : ¬ (valid l = true ∧ s.right = true) := by
     rintro ⟨h1, h2⟩
     first | exact Bool.noConfusion (hg3p.symm.trans h1) | exact Bool.noConfusion (hc14p.symm.trans h2)
   refine EC_rseq ?_
   refine EL_run rfl (R_move rfl) ?_
   refine EL_op rfl (O_call hs [] [0] rfl rfl rfl Tryz.call204 (cloneSp_spec ao c l hl) (fun v es1 ds1 w hPhi hs => ?_))
   obtain ⟨rfl, rfl⟩ := hPhi
   refine EL_run rfl (R_assign rfl) ?_
   refine EL_nil ?_
   refine EC_ret ?_
   refine Then_r ?_
   exact ⟨[_], ⟨rfl, trivial⟩, _, _, ⟨rfl, rfl⟩, (hs.fin [false, true] []).as (by rw [spAdd, if_neg hbad]; rfl) rfl⟩
  ·have hc14p := cvt hc14; try dsimp only at hc14p
   have hgood : valid l = true ∧ s.right = true := ⟨by first | exact hg3p | exact hg3, by first | exact hc14p⟩
   have hsr := Sp.right_iff.1 hgood.2
   refine EC_skip ?_
   refine Then_n ?_
   refine EC_rseq ?_
   refine EL_run rfl (R_move rfl) ?_
   refine EL_run rfl (R_field fo_211_0 rfl) ?_
   refine EL_run rfl (R_lb (hs.at (i := 0) rfl) Tryz.isAgg3 rfl rfl) ?_
   refine EL_op rfl (O_call hs [] [0] rfl rfl rfl Tryz.call203 (first_spec ao c l s.a hl hgood.1 (by omega)) (fun v es1 ds1 w hPhi hs => ?_))
   obtain ⟨rfl, rfl, rfl⟩ := hPhi
   have hfl := firstAt_le l s.a
   refine EL_run rfl (R_assign rfl) ?_
   refine EL_nil ?_
   refine EC_rseq ?_
   refine EL_run rfl (R_move rfl) ?_
   refine EL_run rfl (R_assign rfl) ?_
   refine EL_nil ?_
   refine EC_seq ?_
   refine EC_block ?_
   refine EC_loop (fun m ρ w => ∃ (k : Nat) (q : Sp), m = l.length - k ∧ k ≤ l.length ∧ firstAt l s.a ≤ k ∧ (absorb s (l.drop (firstAt l s.a))).1 = (absorb q (l.drop k)).1 ∧ firstAt l s.a + (absorb s (l.drop (firstAt l s.a))).2 = k + (absorb q (l.drop k)).2 ∧ Slots ρ [(0, .slice ao l.length c), (3, .pointer (some ⟨b3, 0, none⟩)), (5, .int .i64 (firstAt l s.a : Int)), (6, .int .i64 (k : Int))] ∧ St w0 F D [blk b3 q.l.toArray 211] [dS ao c l] w) (l.length - firstAt l s.a) (⟨firstAt l s.a, s, rfl, hfl, Nat.le_refl _, rfl, rfl, ⟨rfl, rfl, rfl, rfl, trivial⟩, (hs.fin [true] [0]).as rfl rfl⟩) ?_
   rintro m ρ w ⟨k, q, rfl, hk, hfk, ha1, ha2, hsl, hs⟩
   refine EC_slots _ hsl ?_
   refine EC_seq ?_
   refine EC_dseqS hs [] [9, 11] [0] [0] (.take 0 (.take 1 (.take 2 (.take 3 (.take 4 (.take 5 (.take 6 (.take 7 (.take 8 (.take 9 (.take 10 (.take 11 (.take 12 (.take 13 .done)))))))))))))) mix_ok (by kernel_rfl) (fun w hs _ => ?_)
   refine EP_take rfl rfl rfl (fun _ => R_move rfl) ?_
   refine EP_take rfl rfl rfl (fun _ => R_move rfl) ?_
   refine EP_take rfl rfl rfl (fun _ => R_lenS Tryz.underlying74 rfl) ?_
   refine EP_take rfl rfl rfl (fun _ => R_lss rfl rfl) ?_
   refine EP_take rfl rfl rfl (fun _ => R_move rfl) ?_
   refine EP_split 26 rfl (fun hg4 => ?_) (fun hg4 => ?_)
   ·have hg4p := cvt hg4; try dsimp only at hg4p
    have hib : k < l.length := by omega
    obtain ⟨bb, oo, rfl⟩ := dSlsomeF (hs.rd (i := 0) rfl) Sp.len (by decide) hib
    have hdr : l.drop k = l[k] :: l.drop (k + 1) := List.drop_eq_getElem_cons hib
    refine EP_takeG rfl rfl rfl hg4 rfl rfl (fun _ => R_move rfl) ?_
    refine EP_takeG rfl rfl rfl hg4 rfl rfl (fun _ => R_move rfl) ?_
    refine EP_takeG rfl rfl rfl hg4 rfl rfl (fun _ => R_idx es_74 rfl (by rfl) rfl (by omega) (by omega)) ?_
    refine EP_takeG rfl rfl rfl hg4 rfl rfl (fun _ => R_field fo_211_0 rfl) ?_
    refine EP_readG rfl rfl rfl hg4 rfl rfl (RdS.of hs rfl rfl) (fun _ hR => R_ldF (j := 0) (hR.d 0 rfl rfl) Sp.len Tryz.isAgg3 rfl (by simp <;> omega) (List.getElem?_eq_getElem hib) rfl) ?_
    refine EP_takeG rfl rfl rfl hg4 rfl rfl (fun _ => R_field fo_211_1 rfl) ?_
    refine EP_readG rfl rfl rfl hg4 rfl rfl (RdS.of hs rfl rfl) (fun _ hR => R_lb (hR.e 0 rfl rfl) Tryz.isAgg3 rfl rfl) ?_
    refine EP_takeG rfl rfl rfl hg4 rfl rfl (fun _ => R_leq rfl rfl) ?_
    refine EP_take rfl rfl rfl (fun _ => R_pickT rfl hg4 rfl) ?_
    refine EP_done ?_
    refine EC_cond rfl (fun hc35 => ?_) (fun hc35 => ?_)
    ·have hc35p := cvt hc35; try dsimp only at hc35p
     refine EC_skip ?_
     refine Then_n ?_
     refine EC_seq ?_
     refine EC_block ?_
     refine EC_drawS hs [17] [1, 6, 9, 14] [0] [0] (.take 0 (.take 1 (.take 2 (.take 3 (.take 4 (.take 5 (.take 6 (.take 7 (.take 8 (.take 9 (.take 10 (.take 11 (.take 12 (.take 13 (.take 14 (.take 15 (.take 16 (.fork 17 .done (.done))))))))))))))))))) mix_ok (by kernel_rfl) (fun w hs _ => ?_)
     refine EP_take rfl rfl rfl (fun _ => R_field fo_211_0 rfl) ?_
     refine EP_read rfl rfl rfl (RdS.of hs rfl rfl) (fun _ hR => R_lb (hR.e 0 rfl rfl) Tryz.isAgg3 rfl rfl) ?_
     refine EP_take rfl rfl rfl (fun _ => R_move rfl) ?_
     refine EP_take rfl rfl rfl (fun _ => R_move rfl) ?_
     refine EP_take rfl rfl rfl (fun _ => R_idx es_74 rfl (by rfl) rfl (by omega) (by omega)) ?_
     refine EP_take rfl rfl rfl (fun _ => R_field fo_211_0 rfl) ?_
     refine EP_read rfl rfl rfl (RdS.of hs rfl rfl) (fun _ hR => R_ldF (j := 0) (hR.d 0 rfl rfl) Sp.len Tryz.isAgg3 rfl (by simp <;> omega) (List.getElem?_eq_getElem hib) rfl) ?_
     refine EP_take rfl rfl rfl (fun _ => R_min rfl rfl) ?_
     refine EP_take rfl rfl rfl (fun _ => R_field fo_211_1 rfl) ?_
     refine EP_read rfl rfl rfl (RdS.of hs rfl rfl) (fun _ hR => R_lb (hR.e 0 rfl rfl) Tryz.isAgg3 rfl rfl) ?_
     refine EP_take rfl rfl rfl (fun _ => R_move rfl) ?_
     refine EP_take rfl rfl rfl (fun _ => R_move rfl) ?_
     refine EP_take rfl rfl rfl (fun _ => R_idx es_74 rfl (by rfl) rfl (by omega) (by omega)) ?_
     refine EP_take rfl rfl rfl (fun _ => R_field fo_211_1 rfl) ?_
     refine EP_read rfl rfl rfl (RdS.of hs rfl rfl) (fun _ hR => R_ldF (j := 1) (hR.d 0 rfl rfl) Sp.len Tryz.isAgg3 rfl (by simp <;> omega) (List.getElem?_eq_getElem hib) rfl) ?_
     refine EP_take rfl rfl rfl (fun _ => R_max rfl rfl) ?_
     refine EP_take rfl rfl rfl (fun _ => R_buildS (cs := (Sp.mk (min q.a l[k].a) (max q.b l[k].b)).l.toArray) [(0, .tmp 45), (1, .tmp 53)] pl_211 Tryz.zeroValue211 rfl rfl rfl) ?_
     refine EP_act rfl rfl (O_storeW hs (i := 0) rfl sz_211 rfl rfl rfl rfl (Sp.oneA _) (fun w hs => ⟨(rq_no (by kernel_rfl)), ?_⟩))
     refine EP_done ?_
     refine InBlock_n ?_
     refine Then_n ?_
     refine EC_region ?_
     refine EL_run rfl (R_move rfl) ?_
     refine EL_run rfl (R_addI rfl rfl (by omega)) ?_
     refine EL_run rfl (R_assign rfl) ?_
     refine EL_nil ?_
     refine Then_n ?_
     exact ⟨l.length - (k + 1), by omega, k + 1, ⟨min q.a l[k].a, max q.b l[k].b⟩, rfl, by omega, by omega, by rw [ha1, hdr, absorb, if_pos hc35p], by rw [ha2, hdr, absorb, if_pos hc35p]; simp only; omega, ⟨rfl, rfl, rfl, rfl, trivial⟩, (hs.fin [true] [0]).as rfl rfl⟩
    ·have hc35p := cvt hc35; try dsimp only at hc35p
     refine EC_exit ?_
     refine Then_e ?_
     refine Then_e ?_
     refine InBlock_hit rfl ?_
     refine Then_n ?_
     have hend : absorb q (l.drop k) = (q, 0) := by
       first
         | rw [hdr, absorb, if_neg hc35p]
         | rw [List.drop_eq_nil_of_le (by omega), absorb]
     rw [hend] at ha1 ha2
     simp only at ha1 ha2
     refine EC_rseq ?_
     refine EL_run rfl (R_move rfl) ?_
     refine EL_run rfl (R_move rfl) ?_
     refine EL_run rfl (R_move rfl) ?_
     refine EL_run rfl (R_lw (hs.at (i := 0) rfl) Tryz.isAgg211 Tryz.sizeOf211 rfl rfl) ?_
     refine EL_op rfl (O_buildSlice [.tmp 58] hs rfl ei_74 rfl rfl rfl (sizeN rfl) (by decide) (fun b59 w hb59 hs => ?_))
     have hs := hs.freezeAt (i := 1) rfl
     have hs := hs.as (es' := [blk b3 q.l.toArray 211]) (ds' := [dS _ c l, dS (some ⟨b59, 0, none⟩) 1 [q]]) rfl rfl
     refine EL_op rfl (O_call hs [] [0, 1] rfl rfl rfl Tryz.call205 (spReplace_spec _ c l (firstAt l s.a) k (some ⟨b59, 0, none⟩) 1 [q] hl (by simp) hfl hk) (fun v es1 ds1 w hPhi hs => ?_))
     obtain ⟨rfl, rfl⟩ := hPhi
     refine EL_run rfl (R_assign rfl) ?_
     refine EL_nil ?_
     refine EC_ret ?_
     exact ⟨[_], ⟨rfl, trivial⟩, _, _, ⟨rfl, rfl⟩, (hs.fin [false, true] []).as (by rw [spAdd, if_pos hgood, ha1, show firstAt l s.a + (absorb s (l.drop (firstAt l s.a))).2 = k by omega]; rfl) rfl⟩
   ·have hg4p := cvt hg4; try dsimp only at hg4p
    refine EP_passT rfl rfl rfl hg4 rfl (fun _ => RdS.of hs rfl rfl) ?_
    refine EP_passT rfl rfl rfl hg4 rfl (fun _ => RdS.of hs rfl rfl) ?_
    refine EP_passT rfl rfl rfl hg4 rfl (fun _ => RdS.of hs rfl rfl) ?_
    refine EP_passT rfl rfl rfl hg4 rfl (fun _ => RdS.of hs rfl rfl) ?_
    refine EP_passT rfl rfl rfl hg4 rfl (fun _ => RdS.of hs rfl rfl) ?_
    refine EP_passT rfl rfl rfl hg4 rfl (fun _ => RdS.of hs rfl rfl) ?_
    refine EP_passT rfl rfl rfl hg4 rfl (fun _ => RdS.of hs rfl rfl) ?_
    refine EP_passT rfl rfl rfl hg4 rfl (fun _ => RdS.of hs rfl rfl) ?_
    refine EP_take rfl rfl rfl (fun _ => R_pickF rfl hg4 rfl) ?_
    refine EP_done ?_
    refine EC_cond rfl (fun hcx => ?_) (fun hcx => ?_)
    ·exact Bool.noConfusion hcx
    ·skip
     refine EC_exit ?_
     refine Then_e ?_
     refine Then_e ?_
     refine InBlock_hit rfl ?_
     refine Then_n ?_
     have hend : absorb q (l.drop k) = (q, 0) := by
       first
         | rw [hdr, absorb, if_neg hc35p]
         | rw [List.drop_eq_nil_of_le (by omega), absorb]
     rw [hend] at ha1 ha2
     simp only at ha1 ha2
     refine EC_rseq ?_
     refine EL_run rfl (R_move rfl) ?_
     refine EL_run rfl (R_move rfl) ?_
     refine EL_run rfl (R_move rfl) ?_
     refine EL_run rfl (R_lw (hs.at (i := 0) rfl) Tryz.isAgg211 Tryz.sizeOf211 rfl rfl) ?_
     refine EL_op rfl (O_buildSlice [.tmp 58] hs rfl ei_74 rfl rfl rfl (sizeN rfl) (by decide) (fun b59 w hb59 hs => ?_))
     have hs := hs.freezeAt (i := 1) rfl
     have hs := hs.as (es' := [blk b3 q.l.toArray 211]) (ds' := [dS _ c l, dS (some ⟨b59, 0, none⟩) 1 [q]]) rfl rfl
     refine EL_op rfl (O_call hs [] [0, 1] rfl rfl rfl Tryz.call205 (spReplace_spec _ c l (firstAt l s.a) k (some ⟨b59, 0, none⟩) 1 [q] hl (by simp) hfl hk) (fun v es1 ds1 w hPhi hs => ?_))
     obtain ⟨rfl, rfl⟩ := hPhi
     refine EL_run rfl (R_assign rfl) ?_
     refine EL_nil ?_
     refine EC_ret ?_
     exact ⟨[_], ⟨rfl, trivial⟩, _, _, ⟨rfl, rfl⟩, (hs.fin [false, true] []).as (by rw [spAdd, if_pos hgood, ha1, show firstAt l s.a + (absorb s (l.drop (firstAt l s.a))).2 = k by omega]; rfl) rfl⟩

set_option maxRecDepth 100000 in
theorem spRemove_spec (ao : Option Addr) (c : Nat) (l : List Sp) (s : Sp) {w0 : World} (hl : l.length ≤ 1000000) : Spec Tryz.prog 242 #[.slice ao l.length c, s.val] w0 [] [dS ao c l] (fun v es1 ds1 => es1 = [oSl v 211 2 (spRemove l s).length ((spRemove l s).flatMap Sp.l)] ∧ ds1 = []) := by
 refine Spec.intro (fun F D hs => ?_)
 refine Calls_of_EC (args := [.slice ao l.length c, s.val]) Tryz.func242 rfl rfl rfl ?_
 refine EC_rseq ?_
 refine EL_op rfl (O_box hs rfl rfl (fun b3 w hb3 hs => ?_))
 refine EL_run rfl (R_assign rfl) ?_
 refine EL_nil ?_
 refine EC_seq ?_
 refine EC_rseq ?_
 refine EL_run rfl (R_move rfl) ?_
 refine EL_op rfl (O_call hs [] [0] rfl rfl rfl Tryz.call116 (valid_spec ao c l hl) (fun v es1 ds1 w hPhi hs => ?_))
 obtain ⟨rfl, rfl, rfl⟩ := hPhi
 refine EL_run rfl (R_not rfl) ?_
 refine EL_run rfl (R_move rfl) ?_
 refine EL_split 14 rfl (fun hg3 => ?_) (fun hg3 => ?_)
 ·have hg3p := cvt hg3; try dsimp only at hg3p
  refine EL_pass rfl rfl rfl hg3 ?_
  refine EL_pass rfl rfl rfl hg3 ?_
  refine EL_pass rfl rfl rfl hg3 ?_
  refine EL_run rfl (R_pickT rfl hg3 rfl) ?_
  refine EL_nil ?_
  refine EC_cond rfl (fun hcx => ?_) (fun hcx => ?_)
  ·skip
   have hbad : ¬ (valid l = true ∧ s.right = true) := by
     rintro ⟨h1, h2⟩
     first | exact Bool.noConfusion (hg3p.symm.trans h1) | exact Bool.noConfusion (hc18p.symm.trans h2)
   refine EC_rseq ?_
   refine EL_run rfl (R_move rfl) ?_
   refine EL_op rfl (O_call hs [] [0] rfl rfl rfl Tryz.call204 (cloneSp_spec ao c l hl) (fun v es1 ds1 w hPhi hs => ?_))
   obtain ⟨rfl, rfl⟩ := hPhi
   refine EL_run rfl (R_assign rfl) ?_
   refine EL_nil ?_
   refine EC_ret ?_
   refine Then_r ?_
   exact ⟨[_], ⟨rfl, trivial⟩, _, _, ⟨rfl, rfl⟩, (hs.fin [false, true] []).as (by rw [spRemove, if_neg hbad]; rfl) rfl⟩
  ·exact Bool.noConfusion hcx
 ·have hg3p := cvt hg3; try dsimp only at hg3p
  refine EL_want rfl rfl hg3 ?_
  refine EL_run rfl (R_lw (hs.at (i := 0) rfl) Tryz.isAgg211 Tryz.sizeOf211 rfl rfl) ?_
  refine EL_want rfl rfl hg3 ?_
  refine EL_op rfl (O_call hs [] [] rfl rfl rfl Tryz.call202 (spRight_spec s) (fun v es1 ds1 w hPhi hs => ?_))
  obtain ⟨rfl, rfl, rfl⟩ := hPhi
  refine EL_want rfl rfl hg3 ?_
  refine EL_run rfl (R_not rfl) ?_
  refine EL_run rfl (R_pickF rfl hg3 rfl) ?_
  refine EL_nil ?_
  refine EC_cond rfl (fun hc18 => ?_) (fun hc18 => ?_)
  ·have hc18p := cvt hc18; try dsimp only at hc18p
   have hbad : ¬ (valid l = true ∧ s.right = true) := by
     rintro ⟨h1, h2⟩
     first | exact Bool.noConfusion (hg3p.symm.trans h1) | exact Bool.noConfusion (hc18p.symm.trans h2)
   have hbad : ¬ (valid l = true ∧ s.right = true) := by
     rintro ⟨h1, h2⟩
     first | exact Bool.noConfusion (hg3p.symm.trans h1) | exact Bool.noConfusion (hc18p.symm.trans h2)
   refine EC_rseq ?_
   refine EL_run rfl (R_move rfl) ?_
   refine EL_op rfl (O_call hs [] [0] rfl rfl rfl Tryz.call204 (cloneSp_spec ao c l hl) (fun v es1 ds1 w hPhi hs => ?_))
   obtain ⟨rfl, rfl⟩ := hPhi
   refine EL_run rfl (R_assign rfl) ?_
   refine EL_nil ?_
   refine EC_ret ?_
   refine Then_r ?_
   exact ⟨[_], ⟨rfl, trivial⟩, _, _, ⟨rfl, rfl⟩, (hs.fin [false, true] []).as (by rw [spRemove, if_neg hbad]; rfl) rfl⟩
  ·have hc18p := cvt hc18; try dsimp only at hc18p
   have hgood : valid l = true ∧ s.right = true := ⟨by first | exact hg3p | exact hg3, by first | exact hc18p⟩
   have hsr := Sp.right_iff.1 hgood.2
   refine EC_skip ?_
   refine Then_n ?_
   refine EC_rseq ?_
   refine EL_run rfl (R_move rfl) ?_
   refine EL_run rfl (R_field fo_211_0 rfl) ?_
   refine EL_run rfl (R_lb (hs.at (i := 0) rfl) Tryz.isAgg3 rfl rfl) ?_
   refine EL_run rfl (R_addI rfl rfl (by omega)) ?_
   refine EL_op rfl (O_call hs [] [0] rfl rfl rfl Tryz.call203 (first_spec ao c l (s.a + 1) hl hgood.1 (by omega)) (fun v es1 ds1 w hPhi hs => ?_))
   obtain ⟨rfl, rfl, rfl⟩ := hPhi
   have hfl := firstAt_le l (s.a + 1)
   refine EL_run rfl (R_assign rfl) ?_
   refine EL_nil ?_
   refine EC_rseq ?_
   refine EL_run rfl (R_move rfl) ?_
   refine EL_run rfl (R_assign rfl) ?_
   refine EL_nil ?_
   refine EC_rseq ?_
   refine EL_run rfl (R_assign rfl) ?_
   have hs := hs.nilSl 211 2
   generalize hfa : firstAt l (s.a + 1) = fa at *
   refine EL_nil ?_
   refine EC_seq ?_
   refine EC_block ?_
   refine EC_loop (fun m ρ w => ∃ (k : Nat) (left : List Sp) (v : Value), m = l.length - k ∧ k ≤ l.length ∧ fa ≤ k ∧ left.length ≤ 2 * k ∧ (remGo s (l.drop fa)).1 = left ++ (remGo s (l.drop k)).1 ∧ fa + (remGo s (l.drop fa)).2 = k + (remGo s (l.drop k)).2 ∧ Slots ρ [(0, .slice ao l.length c), (3, .pointer (some ⟨b3, 0, none⟩)), (5, .int .i64 (fa : Int)), (6, .int .i64 (k : Int)), (7, v)] ∧ St w0 F D [blk b3 s.l.toArray 211, oSl v 211 2 left.length (left.flatMap Sp.l)] [dS ao c l] w) (l.length - fa) (⟨fa, [], _, rfl, hfl, Nat.le_refl _, by simp, rfl, rfl, ⟨rfl, rfl, rfl, rfl, rfl, trivial⟩, (hs.fin [true, true] [0]).as rfl rfl⟩) ?_
   rintro m ρ w ⟨k, left, v, rfl, hk, hfk, hll, ha1, ha2, hsl, hs⟩
   refine EC_slots _ hsl ?_
   refine EC_seq ?_
   refine EC_dseqS hs [] [9, 11] [0] [0] (.take 0 (.take 1 (.take 2 (.take 3 (.take 4 (.take 5 (.take 6 (.take 7 (.take 8 (.take 9 (.take 10 (.take 11 (.take 12 (.take 13 .done)))))))))))))) mix_ok (by kernel_rfl) (fun w hs _ => ?_)
   refine EP_take rfl rfl rfl (fun _ => R_move rfl) ?_
   refine EP_take rfl rfl rfl (fun _ => R_move rfl) ?_
   refine EP_take rfl rfl rfl (fun _ => R_lenS Tryz.underlying74 rfl) ?_
   refine EP_take rfl rfl rfl (fun _ => R_lss rfl rfl) ?_
   refine EP_take rfl rfl rfl (fun _ => R_move rfl) ?_
   refine EP_split 31 rfl (fun hg4 => ?_) (fun hg4 => ?_)
   ·have hg4p := cvt hg4; try dsimp only at hg4p
    have hib : k < l.length := by omega
    obtain ⟨bb, oo, rfl⟩ := dSlsomeF (hs.rd (i := 0) rfl) Sp.len (by decide) hib
    have hdr : l.drop k = l[k] :: l.drop (k + 1) := List.drop_eq_getElem_cons hib
    refine EP_takeG rfl rfl rfl hg4 rfl rfl (fun _ => R_move rfl) ?_
    refine EP_takeG rfl rfl rfl hg4 rfl rfl (fun _ => R_move rfl) ?_
    refine EP_takeG rfl rfl rfl hg4 rfl rfl (fun _ => R_idx es_74 rfl (by rfl) rfl (by omega) (by omega)) ?_
    refine EP_takeG rfl rfl rfl hg4 rfl rfl (fun _ => R_field fo_211_0 rfl) ?_
    refine EP_readG rfl rfl rfl hg4 rfl rfl (RdS.of hs rfl rfl) (fun _ hR => R_ldF (j := 0) (hR.d 0 rfl rfl) Sp.len Tryz.isAgg3 rfl (by simp <;> omega) (List.getElem?_eq_getElem hib) rfl) ?_
    refine EP_takeG rfl rfl rfl hg4 rfl rfl (fun _ => R_field fo_211_1 rfl) ?_
    refine EP_readG rfl rfl rfl hg4 rfl rfl (RdS.of hs rfl rfl) (fun _ hR => R_lb (hR.e 0 rfl rfl) Tryz.isAgg3 rfl rfl) ?_
    refine EP_takeG rfl rfl rfl hg4 rfl rfl (fun _ => R_lss rfl rfl) ?_
    refine EP_take rfl rfl rfl (fun _ => R_pickT rfl hg4 rfl) ?_
    refine EP_done ?_
    refine EC_cond rfl (fun hc40 => ?_) (fun hc40 => ?_)
    ·have hc40p := cvt hc40; try dsimp only at hc40p
     refine EC_skip ?_
     refine Then_n ?_
     refine EC_seq ?_
     refine EC_block ?_
     refine EC_rseq ?_
     refine EL_run rfl (R_move rfl) ?_
     refine EL_run rfl (R_move rfl) ?_
     refine EL_run rfl (R_idx es_74 rfl (by rfl) rfl (by omega) (by omega)) ?_
     refine EL_run rfl (R_ldE (hs.rd (i := 0) rfl) Sp.len Tryz.isAgg211 Tryz.sizeOf211 rfl (by simp <;> omega) (List.getElem?_eq_getElem hib) (by decide)) ?_
     refine EL_op rfl (O_alloc hs rfl Tryz.zeroValue211 (fun b8 w hb8 hs => ?_))
     refine EL_op rfl (O_storeW hs (i := 2) rfl sz_211 rfl rfl rfl rfl (Sp.oneA _) (fun w hs => ?_))
     refine EL_nil ?_
     refine EC_rseq ?_
     refine EL_run rfl (R_field fo_211_0 rfl) ?_
     refine EL_run rfl (R_lb (hs.at (i := 2) rfl) Tryz.isAgg3 rfl rfl) ?_
     refine EL_run rfl (R_field fo_211_0 rfl) ?_
     refine EL_run rfl (R_lb (hs.at (i := 0) rfl) Tryz.isAgg3 rfl rfl) ?_
     refine EL_run rfl (R_buildS (cs := (Sp.mk l[k].a s.a).l.toArray) [(0, .tmp 48), (1, .tmp 50)] pl_211 Tryz.zeroValue211 rfl rfl rfl) ?_
     refine EL_run rfl (R_field fo_211_1 rfl) ?_
     refine EL_run rfl (R_lb (hs.at (i := 0) rfl) Tryz.isAgg3 rfl rfl) ?_
     refine EL_run rfl (R_field fo_211_1 rfl) ?_
     refine EL_run rfl (R_lb (hs.at (i := 2) rfl) Tryz.isAgg3 rfl rfl) ?_
     refine EL_run rfl (R_buildS (cs := (Sp.mk s.b l[k].b).l.toArray) [(0, .tmp 53), (1, .tmp 55)] pl_211 Tryz.zeroValue211 rfl rfl rfl) ?_
     refine EL_run rfl (R_buildA (cs := (P2c l[k] s)) [.tmp 51, .tmp 56] Tryz.underlying369 Tryz.zeroValue369 Tryz.sizeOf211 rfl rfl (by intro u hu; simp only [List.mem_cons, List.not_mem_nil, or_false] at hu; rcases hu with rfl | rfl <;> rfl) rfl rfl) ?_
     refine EL_run rfl (R_move rfl) ?_
     refine EL_nil ?_
     refine EC_block ?_
     refine EC_loop (fun m ρ w => ∃ (i : Nat) (v : Value), m = 2 - i ∧ i ≤ 2 ∧ Slots ρ [(0, .slice (some ⟨bb, oo, none⟩) l.length c), (3, .pointer (some ⟨b3, 0, none⟩)), (5, .int .i64 (fa : Int)), (6, .int .i64 (k : Int)), (7, v), (8, .pointer (some ⟨b8, 0, none⟩)), (57, .agg (P2c l[k] s)), (58, .int .i64 (i : Int))] ∧ St w0 F D [blk b3 s.l.toArray 211, oSl v 211 2 (left ++ ((P2 l[k] s).take i).filter (P2ok l[k])).length ((left ++ ((P2 l[k] s).take i).filter (P2ok l[k])).flatMap Sp.l), blk b8 l[k].l.toArray 211] [dS (some ⟨bb, oo, none⟩) c l] w) (2) (⟨0, v, by omega, by omega, ⟨rfl, rfl, rfl, rfl, rfl, rfl, rfl, rfl, trivial⟩, (hs.fin [true, true, true] [0]).as (by simp; rfl) rfl⟩) ?_
     rintro m ρ w ⟨i, v, rfl, hi, hsl, hs⟩
     refine EC_slots _ hsl ?_
     have hfi : (((P2 l[k] s).take i).filter (P2ok l[k])).length ≤ 2 := Nat.le_trans (List.length_filter_le _ _) (by rw [List.length_take, P2_len]; omega)
     refine EC_rseq ?_
     refine EL_run rfl (R_lss rfl rfl) ?_
     refine EL_nil ?_
     refine EC_seq ?_
     refine EC_cond rfl (fun hc59 => ?_) (fun hc59 => ?_)
     ·have hc59p := cvt hc59; try dsimp only at hc59p
      have hi2 : i < (P2 l[k] s).length := by rw [P2_len]; omega
      refine EC_skip ?_
      refine Then_n ?_
      refine EC_seq ?_
      refine EC_block ?_
      refine EC_rseq ?_
      refine EL_run rfl (R_indexVA Tryz.underlying369 Tryz.sizeOf211 Tryz.isAgg211 rfl rfl (by omega) (by omega)) ?_
      rw [P2_ext l[k] s i hi2]
      refine EL_op rfl (O_alloc hs rfl Tryz.zeroValue211 (fun b10 w hb10 hs => ?_))
      refine EL_op rfl (O_storeW hs (i := 3) rfl sz_211 rfl rfl rfl rfl (Sp.oneA _) (fun w hs => ?_))
      refine EL_nil ?_
      refine EC_rseq ?_
      refine EL_run rfl (R_lw (hs.at (i := 3) rfl) Tryz.isAgg211 Tryz.sizeOf211 rfl rfl) ?_
      refine EL_op rfl (O_call hs [] [] rfl rfl rfl Tryz.call202 (spRight_spec (P2 l[k] s)[i]) (fun v es1 ds1 w hPhi hs => ?_))
      obtain ⟨rfl, rfl, rfl⟩ := hPhi
      refine EL_run rfl (R_move rfl) ?_
      refine EL_split 63 rfl (fun hg2 => ?_) (fun hg2 => ?_)
      ·have hg2p := cvt hg2; try dsimp only at hg2p
       refine EL_want rfl rfl hg2 ?_
       refine EL_run rfl (R_field fo_211_0 rfl) ?_
       refine EL_want rfl rfl hg2 ?_
       refine EL_run rfl (R_lb (hs.at (i := 3) rfl) Tryz.isAgg3 rfl rfl) ?_
       refine EL_want rfl rfl hg2 ?_
       refine EL_run rfl (R_field fo_211_0 rfl) ?_
       refine EL_want rfl rfl hg2 ?_
       refine EL_run rfl (R_lb (hs.at (i := 2) rfl) Tryz.isAgg3 rfl rfl) ?_
       refine EL_want rfl rfl hg2 ?_
       refine EL_run rfl (R_geq rfl rfl) ?_
       refine EL_run rfl (R_pickT rfl hg2 rfl) ?_
       refine EL_nil ?_
       refine EC_cond rfl (fun hc69 => ?_) (fun hc69 => ?_)
       ·have hc69p := cvt hc69; try dsimp only at hc69p
        refine EC_region ?_
        refine EL_run rfl (R_move rfl) ?_
        refine EL_run rfl (R_lw (hs.at (i := 3) rfl) Tryz.isAgg211 Tryz.sizeOf211 rfl rfl) ?_
        refine EL_op rfl (O_buildSlice [.tmp 71] hs rfl ei_74 rfl rfl rfl (sizeN rfl) (by decide) (fun b72 w hb72 hs => ?_))
        refine EL_op rfl (O_append hs (i := 1) rfl rfl ei_74 rfl rfl (Src.own (hs.at (i := 4) rfl)) (by intro u hu; exact Sp.one [(P2 l[k] s)[i]] u (by simpa [Value.cells] using hu)) (by rw [List.length_append]; omega) (by rw [List.length_append]; omega) (fun v73 w hs => ?_))
        refine EL_run rfl (R_assign rfl) ?_
        refine EL_nil ?_
        refine InBlock_n ?_
        refine Then_n ?_
        refine EC_region ?_
        refine EL_run rfl (R_addI rfl rfl (by omega)) ?_
        refine EL_run rfl (R_move rfl) ?_
        refine EL_nil ?_
        refine Then_n ?_
        first
          | exact ⟨2 - (i + 1), by omega, i + 1, _, rfl, by omega, ⟨rfl, rfl, rfl, rfl, rfl, rfl, rfl, rfl, trivial⟩, (hs.fin [true, true, true] [0]).as (by rw [P2_yes hi2 hg2p hc69p]; simp [Nat.add_assoc]; rfl) rfl⟩
          | exact ⟨2 - (i + 1), by omega, i + 1, _, rfl, by omega, ⟨rfl, rfl, rfl, rfl, rfl, rfl, rfl, rfl, trivial⟩, (hs.fin [true, true, true] [0]).as (by rw [P2_no hi2 (fun h => hc69p h.2)]; rfl) rfl⟩
          | exact ⟨2 - (i + 1), by omega, i + 1, _, rfl, by omega, ⟨rfl, rfl, rfl, rfl, rfl, rfl, rfl, rfl, trivial⟩, (hs.fin [true, true, true] [0]).as (by rw [P2_no hi2 (fun h => Bool.noConfusion (h.1.symm.trans hg2p))]; rfl) rfl⟩
       ·have hc69p := cvt hc69; try dsimp only at hc69p
        refine EC_skip ?_
        refine InBlock_n ?_
        refine Then_n ?_
        refine EC_region ?_
        refine EL_run rfl (R_addI rfl rfl (by omega)) ?_
        refine EL_run rfl (R_move rfl) ?_
        refine EL_nil ?_
        refine Then_n ?_
        first
          | exact ⟨2 - (i + 1), by omega, i + 1, _, rfl, by omega, ⟨rfl, rfl, rfl, rfl, rfl, rfl, rfl, rfl, trivial⟩, (hs.fin [true, true, true] [0]).as (by rw [P2_yes hi2 hg2p hc69p]; simp [Nat.add_assoc]; rfl) rfl⟩
          | exact ⟨2 - (i + 1), by omega, i + 1, _, rfl, by omega, ⟨rfl, rfl, rfl, rfl, rfl, rfl, rfl, rfl, trivial⟩, (hs.fin [true, true, true] [0]).as (by rw [P2_no hi2 (fun h => hc69p h.2)]; rfl) rfl⟩
          | exact ⟨2 - (i + 1), by omega, i + 1, _, rfl, by omega, ⟨rfl, rfl, rfl, rfl, rfl, rfl, rfl, rfl, trivial⟩, (hs.fin [true, true, true] [0]).as (by rw [P2_no hi2 (fun h => Bool.noConfusion (h.1.symm.trans hg2p))]; rfl) rfl⟩
      ·have hg2p := cvt hg2; try dsimp only at hg2p
       refine EL_pass rfl rfl rfl hg2 ?_
       refine EL_pass rfl rfl rfl hg2 ?_
       refine EL_pass rfl rfl rfl hg2 ?_
       refine EL_pass rfl rfl rfl hg2 ?_
       refine EL_pass rfl rfl rfl hg2 ?_
       refine EL_run rfl (R_pickF rfl hg2 rfl) ?_
       refine EL_nil ?_
       refine EC_cond rfl (fun hcx => ?_) (fun hcx => ?_)
       ·exact Bool.noConfusion hcx
       ·skip
        refine EC_skip ?_
        refine InBlock_n ?_
        refine Then_n ?_
        refine EC_region ?_
        refine EL_run rfl (R_addI rfl rfl (by omega)) ?_
        refine EL_run rfl (R_move rfl) ?_
        refine EL_nil ?_
        refine Then_n ?_
        first
          | exact ⟨2 - (i + 1), by omega, i + 1, _, rfl, by omega, ⟨rfl, rfl, rfl, rfl, rfl, rfl, rfl, rfl, trivial⟩, (hs.fin [true, true, true] [0]).as (by rw [P2_yes hi2 hg2p hc69p]; simp [Nat.add_assoc]; rfl) rfl⟩
          | exact ⟨2 - (i + 1), by omega, i + 1, _, rfl, by omega, ⟨rfl, rfl, rfl, rfl, rfl, rfl, rfl, rfl, trivial⟩, (hs.fin [true, true, true] [0]).as (by rw [P2_no hi2 (fun h => hc69p h.2)]; rfl) rfl⟩
          | exact ⟨2 - (i + 1), by omega, i + 1, _, rfl, by omega, ⟨rfl, rfl, rfl, rfl, rfl, rfl, rfl, rfl, trivial⟩, (hs.fin [true, true, true] [0]).as (by rw [P2_no hi2 (fun h => Bool.noConfusion (h.1.symm.trans hg2p))]; rfl) rfl⟩
     ·have hc59p := cvt hc59; try dsimp only at hc59p
      obtain rfl : i = 2 := by omega
      refine EC_exit ?_
      refine Then_e ?_
      refine Then_e ?_
      refine InBlock_hit rfl ?_
      refine InBlock_n ?_
      refine Then_n ?_
      refine EC_region ?_
      refine EL_run rfl (R_move rfl) ?_
      refine EL_run rfl (R_addI rfl rfl (by omega)) ?_
      refine EL_run rfl (R_assign rfl) ?_
      refine EL_nil ?_
      refine Then_n ?_
      exact ⟨l.length - (k + 1), by omega, k + 1, left ++ piecesOf l[k] s, v, rfl, by omega, by omega, by rw [List.length_append]; have h2 : (piecesOf l[k] s).length ≤ 2 := List.length_filter_le _ _; omega, by rw [ha1, hdr, remGo, if_pos hc40p, List.append_assoc], by rw [ha2, hdr, remGo, if_pos hc40p]; simp only; omega, ⟨rfl, rfl, rfl, rfl, rfl, trivial⟩, (hs.fin [true, true] [0]).as rfl rfl⟩
    ·have hc40p := cvt hc40; try dsimp only at hc40p
     refine EC_exit ?_
     refine Then_e ?_
     refine Then_e ?_
     refine InBlock_hit rfl ?_
     refine Then_n ?_
     have hend : remGo s (l.drop k) = ([], 0) := by
       first
         | rw [hdr, remGo, if_neg hc40p]
         | rw [List.drop_eq_nil_of_le (by omega), remGo]
     rw [hend] at ha1 ha2
     simp only [List.append_nil, Nat.add_zero] at ha1 ha2
     obtain ⟨ao9, c9, rfl, hs⟩ := hs.freezeSl (i := 1) rfl
     have hrl := (remGo_le s (l.drop fa)).2
     rw [List.length_drop] at hrl
     refine EC_rseq ?_
     refine EL_run rfl (R_move rfl) ?_
     refine EL_run rfl (R_move rfl) ?_
     refine EL_run rfl (R_move rfl) ?_
     refine EL_run rfl (R_move rfl) ?_
     refine EL_op rfl (O_call hs [] [0, 1] rfl rfl rfl Tryz.call205 (spReplace_spec _ c l fa k ao9 c9 left hl (by omega) hfl hk) (fun v es1 ds1 w hPhi hs => ?_))
     obtain ⟨rfl, rfl⟩ := hPhi
     refine EL_run rfl (R_assign rfl) ?_
     refine EL_nil ?_
     refine EC_ret ?_
     exact ⟨[_], ⟨rfl, trivial⟩, _, _, ⟨rfl, rfl⟩, (hs.fin [false, true] []).as (by rw [spRemove, if_pos hgood, hfa, ha1, show fa + (remGo s (l.drop fa)).2 = k by omega]; rfl) rfl⟩
   ·have hg4p := cvt hg4; try dsimp only at hg4p
    refine EP_passT rfl rfl rfl hg4 rfl (fun _ => RdS.of hs rfl rfl) ?_
    refine EP_passT rfl rfl rfl hg4 rfl (fun _ => RdS.of hs rfl rfl) ?_
    refine EP_passT rfl rfl rfl hg4 rfl (fun _ => RdS.of hs rfl rfl) ?_
    refine EP_passT rfl rfl rfl hg4 rfl (fun _ => RdS.of hs rfl rfl) ?_
    refine EP_passT rfl rfl rfl hg4 rfl (fun _ => RdS.of hs rfl rfl) ?_
    refine EP_passT rfl rfl rfl hg4 rfl (fun _ => RdS.of hs rfl rfl) ?_
    refine EP_passT rfl rfl rfl hg4 rfl (fun _ => RdS.of hs rfl rfl) ?_
    refine EP_passT rfl rfl rfl hg4 rfl (fun _ => RdS.of hs rfl rfl) ?_
    refine EP_take rfl rfl rfl (fun _ => R_pickF rfl hg4 rfl) ?_
    refine EP_done ?_
    refine EC_cond rfl (fun hcx => ?_) (fun hcx => ?_)
    ·exact Bool.noConfusion hcx
    ·skip
     refine EC_exit ?_
     refine Then_e ?_
     refine Then_e ?_
     refine InBlock_hit rfl ?_
     refine Then_n ?_
     have hend : remGo s (l.drop k) = ([], 0) := by
       first
         | rw [hdr, remGo, if_neg hc40p]
         | rw [List.drop_eq_nil_of_le (by omega), remGo]
     rw [hend] at ha1 ha2
     simp only [List.append_nil, Nat.add_zero] at ha1 ha2
     obtain ⟨ao9, c9, rfl, hs⟩ := hs.freezeSl (i := 1) rfl
     have hrl := (remGo_le s (l.drop fa)).2
     rw [List.length_drop] at hrl
     refine EC_rseq ?_
     refine EL_run rfl (R_move rfl) ?_
     refine EL_run rfl (R_move rfl) ?_
     refine EL_run rfl (R_move rfl) ?_
     refine EL_run rfl (R_move rfl) ?_
     refine EL_op rfl (O_call hs [] [0, 1] rfl rfl rfl Tryz.call205 (spReplace_spec _ c l fa k ao9 c9 left hl (by omega) hfl hk) (fun v es1 ds1 w hPhi hs => ?_))
     obtain ⟨rfl, rfl⟩ := hPhi
     refine EL_run rfl (R_assign rfl) ?_
     refine EL_nil ?_
     refine EC_ret ?_
     exact ⟨[_], ⟨rfl, trivial⟩, _, _, ⟨rfl, rfl⟩, (hs.fin [false, true] []).as (by rw [spRemove, if_pos hgood, hfa, ha1, show fa + (remGo s (l.drop fa)).2 = k by omega]; rfl) rfl⟩

set_option maxRecDepth 100000 in
theorem spMeets_spec (ao : Option Addr) (c : Nat) (l : List Sp) (s : Sp) {w0 : World} (hl : l.length ≤ 1000000) : Spec Tryz.prog 114 #[.slice ao l.length c, s.val] w0 [] [dS ao c l] (fun v es1 ds1 => v = .bool (spMeets l s) ∧ es1 = [] ∧ ds1 = []) := by
 refine Spec.intro (fun F D hs => ?_)
 refine Calls_of_EC (args := [.slice ao l.length c, s.val]) Tryz.func114 rfl rfl rfl ?_
 refine EC_rseq ?_
 refine EL_op rfl (O_box hs rfl rfl (fun b3 w hb3 hs => ?_))
 refine EL_run rfl (R_assign rfl) ?_
 refine EL_nil ?_
 refine EC_seq ?_
 refine EC_rseq ?_
 refine EL_run rfl (R_move rfl) ?_
 refine EL_op rfl (O_call hs [] [0] rfl rfl rfl Tryz.call116 (valid_spec ao c l hl) (fun v es1 ds1 w hPhi hs => ?_))
 obtain ⟨rfl, rfl, rfl⟩ := hPhi
 refine EL_run rfl (R_not rfl) ?_
 refine EL_run rfl (R_move rfl) ?_
 refine EL_split 9 rfl (fun hg3 => ?_) (fun hg3 => ?_)
 ·have hg3p := cvt hg3; try dsimp only at hg3p
  refine EL_pass rfl rfl rfl hg3 ?_
  refine EL_pass rfl rfl rfl hg3 ?_
  refine EL_pass rfl rfl rfl hg3 ?_
  refine EL_run rfl (R_pickT rfl hg3 rfl) ?_
  refine EL_nil ?_
  refine EC_cond rfl (fun hcx => ?_) (fun hcx => ?_)
  ·skip
   have hbad : ¬ (valid l = true ∧ s.right = true) := by
     rintro ⟨h1, h2⟩
     first | exact Bool.noConfusion (hg3p.symm.trans h1) | exact Bool.noConfusion (hc13p.symm.trans h2)
   refine EC_rseq ?_
   refine EL_run rfl (R_assign rfl) ?_
   refine EL_nil ?_
   refine EC_ret ?_
   refine Then_r ?_
   exact ⟨[_], ⟨rfl, trivial⟩, _, _, ⟨by simp only [tupleOf]; congr 1; rw [spMeets, Bool.eq_false_iff.2 (fun h : (valid l && s.right) = true => hbad (by simpa using h)), Bool.false_and], rfl, rfl⟩, (hs.fin [] []).as rfl rfl⟩
  ·exact Bool.noConfusion hcx
 ·have hg3p := cvt hg3; try dsimp only at hg3p
  refine EL_want rfl rfl hg3 ?_
  refine EL_run rfl (R_lw (hs.at (i := 0) rfl) Tryz.isAgg211 Tryz.sizeOf211 rfl rfl) ?_
  refine EL_want rfl rfl hg3 ?_
  refine EL_op rfl (O_call hs [] [] rfl rfl rfl Tryz.call202 (spRight_spec s) (fun v es1 ds1 w hPhi hs => ?_))
  obtain ⟨rfl, rfl, rfl⟩ := hPhi
  refine EL_want rfl rfl hg3 ?_
  refine EL_run rfl (R_not rfl) ?_
  refine EL_run rfl (R_pickF rfl hg3 rfl) ?_
  refine EL_nil ?_
  refine EC_cond rfl (fun hc13 => ?_) (fun hc13 => ?_)
  ·have hc13p := cvt hc13; try dsimp only at hc13p
   have hbad : ¬ (valid l = true ∧ s.right = true) := by
     rintro ⟨h1, h2⟩
     first | exact Bool.noConfusion (hg3p.symm.trans h1) | exact Bool.noConfusion (hc13p.symm.trans h2)
   have hbad : ¬ (valid l = true ∧ s.right = true) := by
     rintro ⟨h1, h2⟩
     first | exact Bool.noConfusion (hg3p.symm.trans h1) | exact Bool.noConfusion (hc13p.symm.trans h2)
   refine EC_rseq ?_
   refine EL_run rfl (R_assign rfl) ?_
   refine EL_nil ?_
   refine EC_ret ?_
   refine Then_r ?_
   exact ⟨[_], ⟨rfl, trivial⟩, _, _, ⟨by simp only [tupleOf]; congr 1; rw [spMeets, Bool.eq_false_iff.2 (fun h : (valid l && s.right) = true => hbad (by simpa using h)), Bool.false_and], rfl, rfl⟩, (hs.fin [] []).as rfl rfl⟩
  ·have hc13p := cvt hc13; try dsimp only at hc13p
   have hgood : valid l = true ∧ s.right = true := ⟨by first | exact hg3p | exact hg3, by first | exact hc13p⟩
   have hsr := Sp.right_iff.1 hgood.2
   refine EC_skip ?_
   refine Then_n ?_
   refine EC_rseq ?_
   refine EL_run rfl (R_move rfl) ?_
   refine EL_run rfl (R_field fo_211_0 rfl) ?_
   refine EL_run rfl (R_lb (hs.at (i := 0) rfl) Tryz.isAgg3 rfl rfl) ?_
   refine EL_run rfl (R_addI rfl rfl (by omega)) ?_
   refine EL_op rfl (O_call hs [] [0] rfl rfl rfl Tryz.call203 (first_spec ao c l (s.a + 1) hl hgood.1 (by omega)) (fun v es1 ds1 w hPhi hs => ?_))
   obtain ⟨rfl, rfl, rfl⟩ := hPhi
   have hfl := firstAt_le l (s.a + 1)
   generalize hfa : firstAt l (s.a + 1) = fa at *
   refine EL_run rfl (R_assign rfl) ?_
   refine EL_nil ?_
   skip
   refine EC_dseqS hs [] [9, 11] [0] [0] (.take 0 (.take 1 (.take 2 (.take 3 (.take 4 (.take 5 (.take 6 (.take 7 (.take 8 (.take 9 (.take 10 (.take 11 (.take 12 (.take 13 (.take 14 .done))))))))))))))) mix_ok (by kernel_rfl) (fun w hs _ => ?_)
   refine EP_take rfl rfl rfl (fun _ => R_move rfl) ?_
   refine EP_take rfl rfl rfl (fun _ => R_move rfl) ?_
   refine EP_take rfl rfl rfl (fun _ => R_lenS Tryz.underlying74 rfl) ?_
   refine EP_take rfl rfl rfl (fun _ => R_lss rfl rfl) ?_
   refine EP_take rfl rfl rfl (fun _ => R_move rfl) ?_
   refine EP_split 23 rfl (fun hg4 => ?_) (fun hg4 => ?_)
   ·have hg4p := cvt hg4; try dsimp only at hg4p
    have hib : fa < l.length := by omega
    obtain ⟨bb, oo, rfl⟩ := dSlsomeF (hs.rd (i := 0) rfl) Sp.len (by decide) hib
    refine EP_takeG rfl rfl rfl hg4 rfl rfl (fun _ => R_move rfl) ?_
    refine EP_takeG rfl rfl rfl hg4 rfl rfl (fun _ => R_move rfl) ?_
    refine EP_takeG rfl rfl rfl hg4 rfl rfl (fun _ => R_idx es_74 rfl (by rfl) rfl (by omega) (by omega)) ?_
    refine EP_takeG rfl rfl rfl hg4 rfl rfl (fun _ => R_field fo_211_0 rfl) ?_
    refine EP_readG rfl rfl rfl hg4 rfl rfl (RdS.of hs rfl rfl) (fun _ hR => R_ldF (j := 0) (hR.d 0 rfl rfl) Sp.len Tryz.isAgg3 rfl (by simp <;> omega) (List.getElem?_eq_getElem hib) rfl) ?_
    refine EP_takeG rfl rfl rfl hg4 rfl rfl (fun _ => R_field fo_211_1 rfl) ?_
    refine EP_readG rfl rfl rfl hg4 rfl rfl (RdS.of hs rfl rfl) (fun _ hR => R_lb (hR.e 0 rfl rfl) Tryz.isAgg3 rfl rfl) ?_
    refine EP_takeG rfl rfl rfl hg4 rfl rfl (fun _ => R_lss rfl rfl) ?_
    refine EP_take rfl rfl rfl (fun _ => R_pickT rfl hg4 rfl) ?_
    refine EP_take rfl rfl rfl (fun _ => R_assign rfl) ?_
    refine EP_done ?_
    refine EC_ret ?_
    exact ⟨[_], ⟨rfl, trivial⟩, _, _, ⟨by simp only [tupleOf]; congr 1; rw [spMeets, hgood.1, hgood.2, hfa]; first | rw [List.getElem?_eq_getElem hib]; rfl | rw [List.getElem?_eq_none (by omega)]; rfl, rfl, rfl⟩, (hs.fin [] []).as rfl rfl⟩
   ·have hg4p := cvt hg4; try dsimp only at hg4p
    refine EP_passT rfl rfl rfl hg4 rfl (fun _ => RdS.of hs rfl rfl) ?_
    refine EP_passT rfl rfl rfl hg4 rfl (fun _ => RdS.of hs rfl rfl) ?_
    refine EP_passT rfl rfl rfl hg4 rfl (fun _ => RdS.of hs rfl rfl) ?_
    refine EP_passT rfl rfl rfl hg4 rfl (fun _ => RdS.of hs rfl rfl) ?_
    refine EP_passT rfl rfl rfl hg4 rfl (fun _ => RdS.of hs rfl rfl) ?_
    refine EP_passT rfl rfl rfl hg4 rfl (fun _ => RdS.of hs rfl rfl) ?_
    refine EP_passT rfl rfl rfl hg4 rfl (fun _ => RdS.of hs rfl rfl) ?_
    refine EP_passT rfl rfl rfl hg4 rfl (fun _ => RdS.of hs rfl rfl) ?_
    refine EP_take rfl rfl rfl (fun _ => R_pickF rfl hg4 rfl) ?_
    refine EP_take rfl rfl rfl (fun _ => R_assign rfl) ?_
    refine EP_done ?_
    refine EC_ret ?_
    exact ⟨[_], ⟨rfl, trivial⟩, _, _, ⟨by simp only [tupleOf]; congr 1; rw [spMeets, hgood.1, hgood.2, hfa]; first | rw [List.getElem?_eq_getElem hib]; rfl | rw [List.getElem?_eq_none (by omega)]; rfl, rfl, rfl⟩, (hs.fin [] []).as rfl rfl⟩

set_option maxRecDepth 100000 in
theorem total_spec (ao : Option Addr) (c : Nat) (l : List Sp) {w0 : World} (hl : l.length ≤ 1000000) : Spec Tryz.prog 36 #[.slice ao l.length c] w0 [] [dS ao c l] (fun v es1 ds1 => v = .int .i64 (total l) ∧ es1 = [] ∧ ds1 = []) := by
 refine Spec.intro (fun F D hs => ?_)
 refine Calls_of_EC (args := [.slice ao l.length c]) Tryz.func36 rfl rfl rfl ?_
 refine EC_rseq ?_
 refine EL_run rfl (R_assign rfl) ?_
 refine EL_nil ?_
 refine EC_seq ?_
 refine EC_rseq ?_
 refine EL_run rfl (R_move rfl) ?_
 refine EL_op rfl (O_call hs [] [0] rfl rfl rfl Tryz.call116 (valid_spec ao c l hl) (fun v es1 ds1 w hPhi hs => ?_))
 obtain ⟨rfl, rfl, rfl⟩ := hPhi
 refine EL_run rfl (R_not rfl) ?_
 refine EL_nil ?_
 refine EC_cond rfl (fun hc8 => ?_) (fun hc8 => ?_)
 ·have hc8p := cvt hc8; try dsimp only at hc8p
  refine EC_rseq ?_
  refine EL_run rfl (R_assign rfl) ?_
  refine EL_nil ?_
  refine EC_ret ?_
  refine Then_r ?_
  exact ⟨[_], ⟨rfl, trivial⟩, _, _, ⟨by rw [total, if_neg (by rw [hc8p]; exact Bool.noConfusion)]; rfl, rfl, rfl⟩, (hs.fin [] []).as rfl rfl⟩
 ·have hc8p := cvt hc8; try dsimp only at hc8p
  refine EC_skip ?_
  refine Then_n ?_
  refine EC_rseq ?_
  refine EL_run rfl (R_assign rfl) ?_
  refine EL_nil ?_
  refine EC_seq ?_
  refine EC_rseq ?_
  refine EL_run rfl (R_move rfl) ?_
  refine EL_run rfl (R_lenS Tryz.underlying74 rfl) ?_
  refine EL_run rfl (R_move rfl) ?_
  refine EL_nil ?_
  refine EC_block ?_
  refine EC_loop (fun m ρ w => ∃ (i : Nat) (n : Int), m = l.length - i ∧ i ≤ l.length ∧ n = ((l.take i).map fun s => s.b - s.a).sum ∧ 0 ≤ n ∧ n ≤ (i : Int) * 1099511627776 ∧ Slots ρ [(3, .int .i64 n), (9, .slice ao l.length c), (10, .int .i64 (l.length : Int)), (11, .int .i64 (i : Int))] ∧ St w0 F D [] [dS ao c l] w) (l.length) (⟨0, 0, by omega, by omega, rfl, by omega, by omega, ⟨rfl, rfl, rfl, rfl, trivial⟩, (hs.fin [] [0]).as rfl rfl⟩) ?_
  rintro m ρ w ⟨i, n, rfl, hi, hn, hn0, hn1, hsl, hs⟩
  refine EC_slots _ hsl ?_
  refine EC_rseq ?_
  refine EL_run rfl (R_lss rfl rfl) ?_
  refine EL_nil ?_
  refine EC_seq ?_
  refine EC_cond rfl (fun hc12 => ?_) (fun hc12 => ?_)
  ·have hc12p := cvt hc12; try dsimp only at hc12p
   have hib : i < l.length := by omega
   obtain ⟨bb, oo, rfl⟩ := dSlsomeF (hs.rd (i := 0) rfl) Sp.len (by decide) hib
   have hg := valid_get hc8p i hib
   refine EC_skip ?_
   refine Then_n ?_
   refine EC_seq ?_
   refine EC_block ?_
   refine EC_rseq ?_
   refine EL_run rfl (R_idx es_74 rfl (by rfl) rfl (by omega) (by omega)) ?_
   refine EL_run rfl (R_ldE (hs.rd (i := 0) rfl) Sp.len Tryz.isAgg211 Tryz.sizeOf211 rfl (by simp <;> omega) (List.getElem?_eq_getElem hib) (by decide)) ?_
   refine EL_op rfl (O_alloc hs rfl Tryz.zeroValue211 (fun b5 w hb5 hs => ?_))
   refine EL_op rfl (O_storeW hs (i := 0) rfl sz_211 rfl rfl rfl rfl (Sp.oneA _) (fun w hs => ?_))
   refine EL_nil ?_
   refine EC_region ?_
   refine EL_run rfl (R_move rfl) ?_
   refine EL_run rfl (R_field fo_211_1 rfl) ?_
   refine EL_run rfl (R_lb (hs.at (i := 0) rfl) Tryz.isAgg3 rfl rfl) ?_
   refine EL_run rfl (R_field fo_211_0 rfl) ?_
   refine EL_run rfl (R_lb (hs.at (i := 0) rfl) Tryz.isAgg3 rfl rfl) ?_
   refine EL_run rfl (R_subI rfl rfl (by omega)) ?_
   refine EL_run rfl (R_addI rfl rfl (by omega)) ?_
   refine EL_run rfl (R_assign rfl) ?_
   refine EL_nil ?_
   refine InBlock_n ?_
   refine Then_n ?_
   refine EC_region ?_
   refine EL_run rfl (R_addI rfl rfl (by omega)) ?_
   refine EL_run rfl (R_move rfl) ?_
   refine EL_nil ?_
   refine Then_n ?_
   exact ⟨l.length - (i + 1), by omega, i + 1, n + (l[i].b - l[i].a), rfl, by omega, by rw [hn, List.take_succ_eq_append_getElem hib, List.map_append, List.sum_append]; simp only [List.map_cons, List.map_nil, List.sum_cons, List.sum_nil]; omega, by omega, by push_cast; omega, ⟨rfl, rfl, rfl, rfl, trivial⟩, (hs.fin [] [0]).as rfl rfl⟩
  ·have hc12p := cvt hc12; try dsimp only at hc12p
   refine EC_exit ?_
   refine Then_e ?_
   refine Then_e ?_
   refine InBlock_hit rfl ?_
   refine Then_n ?_
   obtain rfl : i = l.length := by omega
   rw [List.take_length] at hn
   refine EC_rseq ?_
   refine EL_run rfl (R_move rfl) ?_
   refine EL_run rfl (R_assign rfl) ?_
   refine EL_nil ?_
   refine EC_ret ?_
   exact ⟨[_], ⟨rfl, trivial⟩, _, _, ⟨by rw [total, if_pos hc8p, ← hn]; rfl, rfl, rfl⟩, (hs.fin [] []).as rfl rfl⟩

set_option maxRecDepth 100000 in
theorem findIs_spec (s : Sp) (b1 : Nat) (n : Int) {w0 : World} (h1 : 0 ≤ s.a ∧ s.a ≤ s.b ∧ s.b ≤ 1099511627776) : Spec Tryz.prog 303 #[s.val, .pointer (some ⟨b1, 0, none⟩)] w0 [blk b1 #[.int .i64 n] 3] [] (fun v es1 ds1 => v = .bool (decide (n ≤ s.b - s.a)) ∧ es1 = [blk b1 #[.int .i64 n] 3] ∧ ds1 = []) := by
 refine Spec.intro (fun F D hs => ?_)
 refine Calls_of_EC (args := [s.val, .pointer (some ⟨b1, 0, none⟩)]) Tryz.func303 rfl rfl rfl ?_
 refine EC_rseq ?_
 refine EL_op rfl (O_box hs rfl rfl (fun b2 w hb2 hs => ?_))
 refine EL_run rfl (R_assign rfl) ?_
 refine EL_nil ?_
 refine EC_rseq ?_
 refine EL_run rfl (R_field fo_211_1 rfl) ?_
 refine EL_run rfl (R_lb (hs.at (i := 1) rfl) Tryz.isAgg3 rfl rfl) ?_
 refine EL_run rfl (R_field fo_211_0 rfl) ?_
 refine EL_run rfl (R_lb (hs.at (i := 1) rfl) Tryz.isAgg3 rfl rfl) ?_
 refine EL_run rfl (R_subI rfl rfl (by omega)) ?_
 refine EL_run rfl (R_lb (hs.at (i := 0) rfl) Tryz.isAgg3 rfl rfl) ?_
 refine EL_run rfl (R_geq rfl rfl) ?_
 refine EL_run rfl (R_assign rfl) ?_
 refine EL_nil ?_
 refine EC_ret ?_
 exact ⟨[_], ⟨rfl, trivial⟩, _, _, ⟨rfl, rfl, rfl⟩, (hs.fin [true] []).as rfl rfl⟩

set_option maxRecDepth 100000 in
theorem indexSp_spec (ao : Option Addr) (c : Nat) (l : List Sp) (b1 : Nat) (n : Int) {w0 : World} (hl : l.length ≤ 1000000) (hv : valid l = true) : Spec Tryz.prog 302 #[.slice ao l.length c, .func (.func 303) #[] #[.pointer (some ⟨b1, 0, none⟩)]] w0 [blk b1 #[.int .i64 n] 3] [dS ao c l] (fun v es1 ds1 => (∃ r : Int, v = .int .i64 r ∧ ((r = -1 ∧ ∀ k (hk : k < l.length), ¬ n ≤ l[k].b - l[k].a) ∨ ∃ k, ∃ (hk : k < l.length), r = (k : Int) ∧ n ≤ l[k].b - l[k].a ∧ ∀ j (hj : j < l.length), j < k → ¬ n ≤ l[j].b - l[j].a)) ∧ es1 = [blk b1 #[.int .i64 n] 3] ∧ ds1 = []) := by
 refine Spec.intro (fun F D hs => ?_)
 refine Calls_of_EC (args := [.slice ao l.length c, .func (.func 303) #[] #[.pointer (some ⟨b1, 0, none⟩)]]) Tryz.func302 rfl rfl rfl ?_
 refine EC_rseq ?_
 refine EL_run rfl (R_assign rfl) ?_
 refine EL_nil ?_
 refine EC_seq ?_
 refine EC_rseq ?_
 refine EL_run rfl (R_move rfl) ?_
 refine EL_run rfl (R_lenS Tryz.underlying74 rfl) ?_
 refine EL_run rfl (R_move rfl) ?_
 refine EL_nil ?_
 refine EC_block ?_
 refine EC_loop (fun m ρ w => ∃ (i : Nat), m = l.length - i ∧ i ≤ l.length ∧ (∀ j (hj : j < l.length), j < i → ¬ n ≤ l[j].b - l[j].a) ∧ Slots ρ [(0, .slice ao l.length c), (1, .func (.func 303) #[] #[.pointer (some ⟨b1, 0, none⟩)]), (7, .int .i64 (l.length : Int)), (8, .int .i64 (i : Int))] ∧ St w0 F D [blk b1 #[.int .i64 n] 3] [dS ao c l] w) (l.length) (⟨0, by omega, by omega, fun j _ h => absurd h (Nat.not_lt_zero _), ⟨rfl, rfl, rfl, rfl, trivial⟩, hs⟩) ?_
 rintro m ρ w ⟨i, rfl, hi, hno, hsl, hs⟩
 refine EC_slots _ hsl ?_
 refine EC_rseq ?_
 refine EL_run rfl (R_lss rfl rfl) ?_
 refine EL_nil ?_
 refine EC_seq ?_
 refine EC_cond rfl (fun hc9 => ?_) (fun hc9 => ?_)
 ·have hc9p := cvt hc9; try dsimp only at hc9p
  have hib : i < l.length := by omega
  obtain ⟨bb, oo, rfl⟩ := dSlsomeF (hs.rd (i := 0) rfl) Sp.len (by decide) hib
  have hg := valid_get hv i hib
  refine EC_skip ?_
  refine Then_n ?_
  refine EC_seq ?_
  refine EC_block ?_
  refine EC_rseq ?_
  refine EL_run rfl (R_move rfl) ?_
  refine EL_run rfl (R_assign rfl) ?_
  refine EL_nil ?_
  refine EC_rseq ?_
  refine EL_run rfl (R_move rfl) ?_
  refine EL_run rfl (R_move rfl) ?_
  refine EL_run rfl (R_move rfl) ?_
  refine EL_run rfl (R_idx es_74 rfl (by rfl) rfl (by omega) (by omega)) ?_
  refine EL_run rfl (R_ldE (hs.rd (i := 0) rfl) Sp.len Tryz.isAgg211 Tryz.sizeOf211 rfl (by simp <;> omega) (List.getElem?_eq_getElem hib) (by decide)) ?_
  refine EL_op rfl (O_call hs [true] [] rfl rfl rfl Tryz.call303 (findIs_spec l[i] b1 n (by omega)) (fun v es1 ds1 w hPhi hs => ?_))
  obtain ⟨rfl, rfl, rfl⟩ := hPhi
  refine EL_nil ?_
  refine EC_cond rfl (fun hc16 => ?_) (fun hc16 => ?_)
  ·have hc16p := cvt hc16; try dsimp only at hc16p
   refine EC_rseq ?_
   refine EL_run rfl (R_move rfl) ?_
   refine EL_run rfl (R_assign rfl) ?_
   refine EL_nil ?_
   refine EC_ret ?_
   refine InBlock_r ?_
   refine Then_r ?_
   refine Then_r ?_
   refine InBlock_r ?_
   refine Then_r ?_
   exact ⟨[_], ⟨rfl, trivial⟩, _, _, ⟨⟨_, rfl, .inr ⟨i, hib, rfl, hc16p, hno⟩⟩, rfl, rfl⟩, (hs.fin [true] []).as rfl rfl⟩
  ·have hc16p := cvt hc16; try dsimp only at hc16p
   refine EC_skip ?_
   refine InBlock_n ?_
   refine Then_n ?_
   refine EC_region ?_
   refine EL_run rfl (R_addI rfl rfl (by omega)) ?_
   refine EL_run rfl (R_move rfl) ?_
   refine EL_nil ?_
   refine Then_n ?_
   exact ⟨l.length - (i + 1), by omega, i + 1, rfl, by omega, fun j hj h => by
     rcases Nat.lt_or_ge j i with h' | h'
     · exact hno j hj h'
     · obtain rfl : j = i := by omega
       exact hc16p, ⟨rfl, rfl, rfl, rfl, trivial⟩, (hs.fin [true] [0]).as rfl rfl⟩
 ·have hc9p := cvt hc9; try dsimp only at hc9p
  refine EC_exit ?_
  refine Then_e ?_
  refine Then_e ?_
  refine InBlock_hit rfl ?_
  refine Then_n ?_
  refine EC_rseq ?_
  refine EL_run rfl (R_assign rfl) ?_
  refine EL_nil ?_
  refine EC_ret ?_
  exact ⟨[_], ⟨rfl, trivial⟩, _, _, ⟨⟨_, rfl, .inl ⟨rfl, fun k hk => hno k hk (by omega)⟩⟩, rfl, rfl⟩, (hs.fin [true] []).as rfl rfl⟩

set_option maxRecDepth 100000 in
theorem spFind_spec (ao : Option Addr) (c : Nat) (l : List Sp) (n : Int) {w0 : World} (hl : l.length ≤ 1000000) (hv : valid l = true) : Spec Tryz.prog 257 #[.slice ao l.length c, .int .i64 n] w0 [] [dS ao c l] (fun v es1 ds1 => v = .int .i64 (spFind l n) ∧ es1 = [] ∧ ds1 = []) := by
 refine Spec.intro (fun F D hs => ?_)
 refine Calls_of_EC (args := [.slice ao l.length c, .int .i64 n]) Tryz.func257 rfl rfl rfl ?_
 refine EC_rseq ?_
 refine EL_op rfl (O_box hs rfl rfl (fun b3 w hb3 hs => ?_))
 refine EL_run rfl (R_assign rfl) ?_
 refine EL_nil ?_
 refine EC_rseq ?_
 refine EL_run rfl (R_move rfl) ?_
 refine EL_run rfl (R_makeFunc rfl rfl) ?_
 refine EL_op rfl (O_call hs [true] [0] rfl rfl rfl Tryz.call302 (indexSp_spec ao c l b3 n hl hv) (fun v es1 ds1 w hPhi hs => ?_))
 obtain ⟨⟨r, rfl, hr⟩, rfl, rfl⟩ := hPhi
 refine EL_run rfl (R_assign rfl) ?_
 refine EL_nil ?_
 refine EC_seq ?_
 refine EC_rseq ?_
 refine EL_run rfl (R_lb (hs.at (i := 0) rfl) Tryz.isAgg3 rfl rfl) ?_
 refine EL_run rfl (R_lss rfl rfl) ?_
 refine EL_run rfl (R_move rfl) ?_
 refine EL_split 11 rfl (fun hg2 => ?_) (fun hg2 => ?_)
 ·have hg2p := cvt hg2; try dsimp only at hg2p
  refine EL_pass rfl rfl rfl hg2 ?_
  refine EL_pass rfl rfl rfl hg2 ?_
  refine EL_run rfl (R_pickT rfl hg2 rfl) ?_
  refine EL_run rfl (R_move rfl) ?_
  refine EL_pass rfl rfl rfl rfl ?_
  refine EL_pass rfl rfl rfl rfl ?_
  refine EL_pass rfl rfl rfl rfl ?_
  refine EL_run rfl (R_pickT rfl rfl rfl) ?_
  refine EL_nil ?_
  refine EC_cond rfl (fun hcx => ?_) (fun hcx => ?_)
  ·skip
   have hres : spFind l n = -1 := by
     first
       | rw [spFind, if_pos hg2p]
       | exact spFind_none (hr.elim (fun h => h.2) (fun ⟨k, hk, h, _⟩ => by omega))
       | exact Bool.noConfusion (hv.symm.trans hc19p)
   refine EC_rseq ?_
   refine EL_run rfl (R_assign rfl) ?_
   refine EL_nil ?_
   refine EC_ret ?_
   refine Then_r ?_
   exact ⟨[_], ⟨rfl, trivial⟩, _, _, ⟨by rw [hres]; rfl, rfl, rfl⟩, (hs.fin [] []).as rfl rfl⟩
  ·exact Bool.noConfusion hcx
 ·have hg2p := cvt hg2; try dsimp only at hg2p
  refine EL_want rfl rfl hg2 ?_
  refine EL_run rfl (R_move rfl) ?_
  refine EL_want rfl rfl hg2 ?_
  refine EL_run rfl (R_lss rfl rfl) ?_
  refine EL_run rfl (R_pickF rfl hg2 rfl) ?_
  refine EL_run rfl (R_move rfl) ?_
  refine EL_split 15 rfl (fun hg6 => ?_) (fun hg6 => ?_)
  ·have hg6p := cvt hg6; try dsimp only at hg6p
   refine EL_pass rfl rfl rfl hg6 ?_
   refine EL_pass rfl rfl rfl hg6 ?_
   refine EL_pass rfl rfl rfl hg6 ?_
   refine EL_run rfl (R_pickT rfl hg6 rfl) ?_
   refine EL_nil ?_
   refine EC_cond rfl (fun hcx => ?_) (fun hcx => ?_)
   ·skip
    have hres : spFind l n = -1 := by
      first
        | rw [spFind, if_pos hg2p]
        | exact spFind_none (hr.elim (fun h => h.2) (fun ⟨k, hk, h, _⟩ => by omega))
        | exact Bool.noConfusion (hv.symm.trans hc19p)
    refine EC_rseq ?_
    refine EL_run rfl (R_assign rfl) ?_
    refine EL_nil ?_
    refine EC_ret ?_
    refine Then_r ?_
    exact ⟨[_], ⟨rfl, trivial⟩, _, _, ⟨by rw [hres]; rfl, rfl, rfl⟩, (hs.fin [] []).as rfl rfl⟩
   ·exact Bool.noConfusion hcx
  ·have hg6p := cvt hg6; try dsimp only at hg6p
   refine EL_want rfl rfl hg6 ?_
   refine EL_run rfl (R_move rfl) ?_
   refine EL_want rfl rfl hg6 ?_
   refine EL_op rfl (O_call hs [] [0] rfl rfl rfl Tryz.call116 (valid_spec ao c l hl) (fun v es1 ds1 w hPhi hs => ?_))
   obtain ⟨rfl, rfl, rfl⟩ := hPhi
   refine EL_want rfl rfl hg6 ?_
   refine EL_run rfl (R_not rfl) ?_
   refine EL_run rfl (R_pickF rfl hg6 rfl) ?_
   refine EL_nil ?_
   refine EC_cond rfl (fun hc19 => ?_) (fun hc19 => ?_)
   ·have hc19p := cvt hc19; try dsimp only at hc19p
    have hres : spFind l n = -1 := by
      first
        | rw [spFind, if_pos hg2p]
        | exact spFind_none (hr.elim (fun h => h.2) (fun ⟨k, hk, h, _⟩ => by omega))
        | exact Bool.noConfusion (hv.symm.trans hc19p)
    refine EC_rseq ?_
    refine EL_run rfl (R_assign rfl) ?_
    refine EL_nil ?_
    refine EC_ret ?_
    refine Then_r ?_
    exact ⟨[_], ⟨rfl, trivial⟩, _, _, ⟨by rw [hres]; rfl, rfl, rfl⟩, (hs.fin [] []).as rfl rfl⟩
   ·have hc19p := cvt hc19; try dsimp only at hc19p
    refine EC_skip ?_
    refine Then_n ?_
    obtain ⟨k, hk, rfl, hk1, hk2⟩ := hr.resolve_left (by rintro ⟨h, _⟩; omega)
    obtain ⟨bb, oo, rfl⟩ := dSlsomeF (hs.rd (i := 0) rfl) Sp.len (by decide) hk
    refine EC_rseq ?_
    refine EL_run rfl (R_move rfl) ?_
    refine EL_run rfl (R_move rfl) ?_
    refine EL_run rfl (R_idx es_74 rfl (by rfl) rfl (by omega) (by omega)) ?_
    refine EL_run rfl (R_field fo_211_0 rfl) ?_
    refine EL_run rfl (R_ldF (j := 0) (hs.rd (i := 0) rfl) Sp.len Tryz.isAgg3 rfl (by simp <;> omega) (List.getElem?_eq_getElem hk) rfl) ?_
    refine EL_run rfl (R_assign rfl) ?_
    refine EL_nil ?_
    refine EC_ret ?_
    exact ⟨[_], ⟨rfl, trivial⟩, _, _, ⟨by rw [spFind_some (by omega) hk hk1 hk2]; rfl, rfl, rfl⟩, (hs.fin [] []).as rfl rfl⟩
end Go.Proofs.YtpcojkbljgpecaaGreat
namespace Go.Proofs.YtpcojkbljgpecaaGreat
open Go
structure AlM where
  lo : Int
  hi : Int
  reserve : Int
  free : List Sp
  waits : List Sp
  was : List Sp
/-- Where it lies. -/
structure AlG where
  mb : Nat
  vo : Option Addr
  vc : Nat
  has : Bool
  fo : Option Addr
  fc : Nat
  wo : Option Addr
  wc : Nat
def alCells (g : AlG) (m : AlM) : Array Value := #[.int .i64 m.lo, .int .i64 m.hi, .bool true, .int .i64 m.reserve, .slice g.fo m.free.length g.fc, .map (some g.mb), .slice g.wo m.was.length g.wc]
def alW (g : AlG) (m : AlM) : Value := .slice g.vo m.waits.length g.vc
def alMap (g : AlG) (m : AlM) : List (Int × Value) := if g.has then [(1, alW g m)] else []
abbrev alE (a : Nat) (g : AlG) (m : AlM) : List Asn := [blk a (alCells g m) 217, mpA g.mb (alMap g m), oSl (alW g m) 211 2 m.waits.length (m.waits.flatMap Sp.l)]
abbrev alD (g : AlG) (m : AlM) : List Asn := [dS g.fo g.fc m.free, dS g.wo g.wc m.was]
/-- What the places say of what waits. -/
def AlG.ok (g : AlG) (m : AlM) : Prop := g.has = false → m.waits = [] ∧ g.vo = none ∧ g.vc = 0
structure AlM.ok (m : AlM) : Prop where
  lo : 0 ≤ m.lo ∧ m.lo ≤ m.hi ∧ m.hi ≤ 8192
  res : 0 ≤ m.reserve ∧ m.reserve ≤ 8192
  vf : valid m.free = true
  vw : valid m.was = true
  lf : m.free.length ≤ 100000
  lw : m.waits.length ≤ 100000
  lz : m.was.length ≤ 100000
def spFold (l : List Sp) : List Sp := l.foldl spAdd []
theorem spReplace_len (l : List Sp) (a b : Nat) (ins : List Sp) (h : a ≤ b) : (spReplace l a b ins).length ≤ l.length + ins.length := by
  simp only [spReplace, List.length_append, List.length_take, List.length_drop]; omega
theorem spAdd_len (l : List Sp) (s : Sp) : (spAdd l s).length ≤ l.length + 1 := by
  unfold spAdd
  split
  · exact spReplace_len _ _ _ _ (by omega)
  · omega
theorem spFold_len' : ∀ (l acc : List Sp), (l.foldl spAdd acc).length ≤ acc.length + l.length
  | [], acc => by simp
  | s :: l, acc => by
    have h1 := spFold_len' l (spAdd acc s)
    have h2 := spAdd_len acc s
    simp only [List.foldl_cons, List.length_cons]; omega
theorem spFold_len (l : List Sp) : (spFold l).length ≤ l.length := by
  have := spFold_len' l []
  unfold spFold
  simpa using this
def alWaiting (m : AlM) : List Sp := spFold m.waits
def alCheck (m : AlM) (s : Sp) : Int := if s.a < m.lo ∨ s.b ≤ s.a ∨ m.hi < s.b then 2 else 0
def alUsed (m : AlM) (s : Sp) : Int := if alCheck m s = 0 then (if spMeets m.free s = true ∨ spMeets (alWaiting m) s = true then 13 else 0) else alCheck m s
theorem sum_range : ∀ (l : List Sp), (∀ s ∈ l, 0 ≤ s.b - s.a ∧ s.b - s.a ≤ 1099511627776) → 0 ≤ (l.map fun s => s.b - s.a).sum ∧ (l.map fun s => s.b - s.a).sum ≤ (l.length : Int) * 1099511627776
  | [], _ => by simp
  | s :: l, h => by
    have h1 := sum_range l (fun x hx => h x (List.mem_cons_of_mem _ hx))
    have h2 := h s List.mem_cons_self
    simp only [List.map_cons, List.sum_cons, List.length_cons]
    push_cast
    omega
theorem total_range (l : List Sp) : 0 ≤ total l ∧ total l ≤ (l.length : Int) * 1099511627776 := by
  unfold total
  split
  · rename_i h
    exact sum_range l (fun s hs => by
      obtain ⟨i, hi, rfl⟩ := List.getElem_of_mem hs
      have := valid_get h i hi
      omega)
  · omega
def alTake (m : AlM) (n : Int) (spare : Bool) : AlM × Int × Int :=
  if n < 1 then (m, 0, 2) else if spFind m.free n < 0 ∨ (spare = false ∧ total m.free - n < m.reserve) then (m, 0, 15) else ({ m with free := spRemove m.free ⟨spFind m.free n, spFind m.free n + n⟩ }, spFind m.free n, 0)
def alGive (m : AlM) (s : Sp) : AlM × Int := if alUsed m s = 0 then ({ m with free := spAdd m.free s }, 0) else (m, alUsed m s)
def alLater (m : AlM) (s : Sp) : AlM × Int := if alUsed m s = 0 then ({ m with waits := m.waits ++ [s] }, 0) else (m, alUsed m s)
theorem spFind_le {l : List Sp} {n : Int} (h : valid l = true) : -1 ≤ spFind l n ∧ spFind l n ≤ 1099511627776 := by
  unfold spFind
  split
  · omega
  · split
    · rename_i s hs
      obtain ⟨i, hi, rfl⟩ := List.getElem_of_mem (List.mem_of_find?_eq_some hs)
      have := valid_get h i hi
      omega
    · omega
theorem alMap_get {g : AlG} {m : AlM} (h : g.ok m) : (mget (alMap g m) 1).getD (.slice none 0 0) = alW g m := by
  unfold alMap
  cases hb : g.has
  · obtain ⟨h1, h2, h3⟩ := h hb
    simp [mget, alW, h1, h2, h3]
  · simp [mget]
theorem alMap_put (g : AlG) (m : AlM) (v : Value) : mput (alMap g m) 1 v = [(1, v)] := by
  unfold alMap
  cases g.has <;> simp [mput]
def alUse (m : AlM) : Int := m.hi - m.lo - total m.free - total (alWaiting m)
end Go.Proofs.YtpcojkbljgpecaaGreat
namespace Go.Proofs.YtpcojkbljgpecaaGreat
open Go
set_option maxRecDepth 100000 in
theorem alNone_spec (a : Nat) (g : AlG) (m : AlM) {w0 : World} : Spec Tryz.prog 117 #[.pointer (some ⟨a, 0, none⟩)] w0 [blk a (alCells g m) 217] [] (fun v es1 ds1 => v = .bool false ∧ es1 = [blk a (alCells g m) 217] ∧ ds1 = []) := by
 refine Spec.intro (fun F D hs => ?_)
 refine Calls_of_EC (args := [.pointer (some ⟨a, 0, none⟩)]) Tryz.func117 rfl rfl rfl ?_
 refine EC_rseq ?_
 refine EL_run rfl (R_assign rfl) ?_
 refine EL_nil ?_
 refine EC_rseq ?_
 refine EL_run rfl (R_move rfl) ?_
 refine EL_run rfl (R_eqlPtrNil Tryz.underlying25 rfl rfl) ?_
 refine EL_run rfl (R_move rfl) ?_
 refine EL_split 5 rfl (fun hg2 => ?_) (fun hg2 => ?_)
 ·exact Bool.noConfusion hg2
 ·have hg2p := cvt hg2; try dsimp only at hg2p
  refine EL_want rfl rfl hg2 ?_
  refine EL_run rfl (R_move rfl) ?_
  refine EL_want rfl rfl hg2 ?_
  refine EL_run rfl (R_nilCheck rfl) ?_
  refine EL_want rfl rfl hg2 ?_
  refine EL_run rfl (R_field fo_217_1 rfl) ?_
  refine EL_want rfl rfl hg2 ?_
  refine EL_run rfl (R_lb (hs.at (i := 0) rfl) Tryz.isAgg4 rfl rfl) ?_
  refine EL_want rfl rfl hg2 ?_
  refine EL_run rfl (R_not rfl) ?_
  refine EL_run rfl (R_pickF rfl hg2 rfl) ?_
  refine EL_run rfl (R_assign rfl) ?_
  refine EL_nil ?_
  refine EC_ret ?_
  exact ⟨[_], ⟨rfl, trivial⟩, _, _, ⟨rfl, rfl, rfl⟩, (hs.fin [true] []).as rfl rfl⟩

set_option maxRecDepth 100000 in
theorem alWaiting_spec (a : Nat) (g : AlG) (m : AlM) {w0 : World} (hg : g.ok m) (hl : m.waits.length ≤ 100000) : Spec Tryz.prog 206 #[.pointer (some ⟨a, 0, none⟩)] w0 (alE a g m) [] (fun v es1 ds1 => ∃ vo vc, v = .slice vo (alWaiting m).length vc ∧ es1 = alE a g m ∧ ds1 = [dS vo vc (alWaiting m)]) := by
 refine Spec.intro (fun F D hs => ?_)
 refine Calls_of_EC (args := [.pointer (some ⟨a, 0, none⟩)]) Tryz.func206 rfl rfl rfl ?_
 refine EC_rseq ?_
 refine EL_run rfl (R_assign rfl) ?_
 refine EL_nil ?_
 refine EC_rseq ?_
 refine EL_run rfl (R_assign rfl) ?_
 refine EL_nil ?_
 refine EC_seq ?_
 refine EC_rseq ?_
 refine EL_run rfl (R_move rfl) ?_
 refine EL_run rfl (R_nilCheck rfl) ?_
 refine EL_run rfl (R_field fo_217_4 rfl) ?_
 refine EL_run rfl (R_lb (hs.at (i := 0) rfl) Tryz.isAgg215 rfl rfl) ?_
 refine EL_op rfl (O_range hs (i := 1) rfl rfl Tryz.underlying215 rfl (fun b12 w hb12 hs => ?_))
 have hs := hs.nilD 2
 have hw : ∀ (pre : List Sp), (pre.foldl spAdd []).length ≤ pre.length := fun pre => by have := spFold_len' pre []; simpa using this
 refine EL_nil ?_
 refine EC_block ?_
 refine EC_loop (fun mm ρ w => ∃ (rest : List (Int × Value)) (cur : Option (Int × Value)) (out : List Sp) (oo : Option Addr) (oc : Nat), mm = rest.length ∧ (rest = alMap g m ∧ out = [] ∨ rest = [] ∧ out = alWaiting m) ∧ Slots ρ [(3, .slice oo out.length oc), (12, .pointer (some ⟨b12, 0, none⟩))] ∧ St w0 F D [blk a (alCells g m) 217, rngA b12 g.mb (alMap g m) rest cur, oSl (alW g m) 211 2 m.waits.length (m.waits.flatMap Sp.l)] [dS oo oc out] w) ((alMap g m).length) (⟨alMap g m, none, [], none, 0, rfl, .inl ⟨rfl, rfl⟩, ⟨rfl, rfl, trivial⟩, hs⟩) ?_
 rintro mm ρ w ⟨rest, cur, out, oo, oc, rfl, hro, hsl, hs⟩
 refine EC_slots _ hsl ?_
 refine EC_rseq ?_
 refine EL_op rfl (O_next hs (i := 1) rfl rfl rfl (fun hrest w hs => ?_) (fun p rest2 w hperm hs => ?_))
 ·skip
  refine EL_run rfl (R_extract rfl rfl) ?_
  refine EL_nil ?_
  refine EC_seq ?_
  refine EC_cond rfl (fun hcx => ?_) (fun hcx => ?_)
  ·exact Bool.noConfusion hcx
  ·skip
   refine EC_exit ?_
   refine Then_e ?_
   refine Then_e ?_
   refine InBlock_hit rfl ?_
   refine Then_n ?_
   have hout : out = alWaiting m := by
     rcases hro with ⟨h1, h2⟩ | ⟨_, h2⟩
     · rw [hrest] at h1
       have hh : g.has = false := by
         cases hb : g.has
         · rfl
         · unfold alMap at h1; rw [hb] at h1; cases h1
       have h3 := (hg hh).1
       rw [h2, alWaiting, h3]; rfl
     · exact h2
   subst hout
   have hs := hs.unrange (i := 1) rfl
   refine EC_rseq ?_
   refine EL_run rfl (R_move rfl) ?_
   refine EL_run rfl (R_assign rfl) ?_
   refine EL_nil ?_
   refine EC_ret ?_
   exact ⟨[_], ⟨rfl, trivial⟩, _, _, ⟨_, _, rfl, rfl, rfl⟩, (hs.fin [true, true, true] [0]).as rfl rfl⟩
 ·skip
  have hr2 : rest = alMap g m ∧ out = [] := hro.resolve_right (fun h => by rw [h.1] at hperm; have := hperm.length_eq; simp at this)
  have hout := hr2.2
  subst hout
  have hmap : p = (1, alW g m) ∧ rest2 = [] := by
    have h1 := hr2.1 ▸ hperm
    unfold alMap at h1
    split at h1
    · have hl1 := h1.length_eq
      have : rest2 = [] := List.eq_nil_of_length_eq_zero (by simpa using hl1.symm)
      subst this
      exact ⟨(List.singleton_perm_singleton.1 h1).symm, rfl⟩
    · have := h1.length_eq; simp at this
  obtain ⟨hp, hr0⟩ := hmap
  subst hr0
  subst hp
  refine EL_run rfl (R_extract rfl rfl) ?_
  refine EL_nil ?_
  refine EC_seq ?_
  refine EC_cond rfl (fun hcx => ?_) (fun hcx => ?_)
  ·skip
   refine EC_skip ?_
   refine Then_n ?_
   refine EC_block ?_
   refine EC_rseq ?_
   refine EL_run rfl (R_entry (hs.at (i := 1) rfl) rfl) ?_
   refine EL_run rfl (R_extract rfl rfl) ?_
   refine EL_run rfl (R_assign rfl) ?_
   refine EL_nil ?_
   refine EC_rseq ?_
   refine EL_run rfl (R_move rfl) ?_
   refine EL_run rfl (R_lenS Tryz.underlying74 rfl) ?_
   refine EL_run rfl (R_move rfl) ?_
   refine EL_nil ?_
   refine EC_block ?_
   refine EC_loop (fun mm ρ w => ∃ (i : Nat) (oo : Option Addr) (oc : Nat), mm = m.waits.length - i ∧ i ≤ m.waits.length ∧ Slots ρ [(3, .slice oo ((m.waits.take i).foldl spAdd []).length oc), (12, .pointer (some ⟨b12, 0, none⟩)), (17, .slice g.vo m.waits.length g.vc), (18, .int .i64 (m.waits.length : Int)), (19, .int .i64 (i : Int))] ∧ St w0 F D [blk a (alCells g m) 217, rngA b12 g.mb (alMap g m) [] (some (1, alW g m)), oSl (.slice g.vo m.waits.length g.vc) 211 2 m.waits.length (m.waits.flatMap Sp.l)] [dS oo oc ((m.waits.take i).foldl spAdd [])] w) (m.waits.length) (⟨0, oo, oc, by omega, by omega, ⟨rfl, rfl, rfl, rfl, rfl, trivial⟩, hs⟩) ?_
   rintro mm ρ w ⟨i, oo1, oc1, rfl, hi, hsl, hs⟩
   refine EC_slots _ hsl ?_
   have hwi := hw (m.waits.take i)
   rw [List.length_take] at hwi
   refine EC_rseq ?_
   refine EL_run rfl (R_lss rfl rfl) ?_
   refine EL_nil ?_
   refine EC_seq ?_
   refine EC_cond rfl (fun hc20 => ?_) (fun hc20 => ?_)
   ·have hc20p := cvt hc20; try dsimp only at hc20p
    have hib : i < m.waits.length := by omega
    obtain ⟨bb, oo9, hvo⟩ := dSlsomeF (oSl.toD (hs.at (i := 2) rfl)) Sp.len (by decide) hib
    rw [hvo] at hs
    refine EC_skip ?_
    refine Then_n ?_
    refine EC_seq ?_
    refine EC_block ?_
    refine EC_rseq ?_
    refine EL_run rfl (R_idx es_74 rfl hvo rfl (by omega) (by omega)) ?_
    refine EL_run rfl (R_ldE (oSl.toD (hs.at (i := 2) rfl)) Sp.len Tryz.isAgg211 Tryz.sizeOf211 rfl (by simp <;> omega) (List.getElem?_eq_getElem hib) (by decide)) ?_
    refine EL_op rfl (O_alloc hs rfl Tryz.zeroValue211 (fun b7 w hb7 hs => ?_))
    refine EL_op rfl (O_storeW hs (i := 3) rfl sz_211 rfl rfl rfl rfl (Sp.oneA _) (fun w hs => ?_))
    refine EL_nil ?_
    refine EC_region ?_
    refine EL_run rfl (R_move rfl) ?_
    refine EL_run rfl (R_lw (hs.at (i := 3) rfl) Tryz.isAgg211 Tryz.sizeOf211 rfl rfl) ?_
    refine EL_op rfl (O_call hs [] [0] rfl rfl rfl Tryz.call115 (spAdd_spec oo1 oc1 _ m.waits[i] (by omega)) (fun v es1 ds1 w hPhi hs => ?_))
    obtain ⟨rfl, rfl⟩ := hPhi
    refine EL_run rfl (R_assign rfl) ?_
    obtain ⟨ao9, c9, rfl, hs⟩ := hs.freezeSl (i := 4) rfl
    rw [← hvo] at hs
    refine EL_nil ?_
    refine InBlock_n ?_
    refine Then_n ?_
    refine EC_region ?_
    refine EL_run rfl (R_addI rfl rfl (by omega)) ?_
    refine EL_run rfl (R_move rfl) ?_
    refine EL_nil ?_
    refine Then_n ?_
    exact ⟨m.waits.length - (i + 1), by omega, i + 1, ao9, c9, rfl, by omega, ⟨by rw [List.take_succ_eq_append_getElem hib, List.foldl_append]; rfl, rfl, rfl, rfl, rfl, trivial⟩, (hs.fin [true, true, true] [1]).as rfl (by rw [List.take_succ_eq_append_getElem hib, List.foldl_append]; rfl)⟩
   ·have hc20p := cvt hc20; try dsimp only at hc20p
    obtain rfl : i = m.waits.length := by omega
    rw [List.take_length] at hs
    obtain ⟨oo2, hoo2⟩ : ∃ z, z = oo1 := ⟨_, rfl⟩
    obtain ⟨oc2, hoc2⟩ : ∃ z, z = oc1 := ⟨_, rfl⟩
    rw [List.take_length]
    subst hoo2
    subst hoc2
    refine EC_exit ?_
    refine Then_e ?_
    refine Then_e ?_
    refine InBlock_hit rfl ?_
    refine InBlock_n ?_
    refine Then_n ?_
    exact ⟨0, by rw [hperm.length_eq]; simp, [], some (1, alW g m), alWaiting m, oo2, oc2, rfl, .inr ⟨rfl, rfl⟩, ⟨rfl, rfl, trivial⟩, hs⟩
  ·exact Bool.noConfusion hcx

set_option maxRecDepth 100000 in
theorem alFree_spec (a : Nat) (g : AlG) (m : AlM) {w0 : World} (hm : m.ok) : Spec Tryz.prog 118 #[.pointer (some ⟨a, 0, none⟩)] w0 [blk a (alCells g m) 217] [dS g.fo g.fc m.free] (fun v es1 ds1 => v = .int .i64 (total m.free) ∧ es1 = [blk a (alCells g m) 217] ∧ ds1 = []) := by
 refine Spec.intro (fun F D hs => ?_)
 refine Calls_of_EC (args := [.pointer (some ⟨a, 0, none⟩)]) Tryz.func118 rfl rfl rfl ?_
 refine EC_rseq ?_
 refine EL_run rfl (R_assign rfl) ?_
 refine EL_nil ?_
 refine EC_seq ?_
 refine EC_rseq ?_
 refine EL_run rfl (R_move rfl) ?_
 refine EL_op rfl (O_call hs [true] [] rfl rfl rfl Tryz.call117 (alNone_spec a g m) (fun v es1 ds1 w hPhi hs => ?_))
 obtain ⟨rfl, rfl, rfl⟩ := hPhi
 refine EL_nil ?_
 refine EC_cond rfl (fun hc4 => ?_) (fun hc4 => ?_)
 ·exact Bool.noConfusion hc4
 ·have hc4p := cvt hc4; try dsimp only at hc4p
  refine EC_skip ?_
  refine Then_n ?_
  refine EC_rseq ?_
  refine EL_run rfl (R_move rfl) ?_
  refine EL_run rfl (R_nilCheck rfl) ?_
  refine EL_run rfl (R_field fo_217_3 rfl) ?_
  refine EL_run rfl (R_lb (hs.at (i := 0) rfl) Tryz.isAgg74 rfl rfl) ?_
  refine EL_op rfl (O_call hs [] [0] rfl rfl rfl Tryz.call36 (total_spec g.fo g.fc m.free (by have := hm.lf; omega)) (fun v es1 ds1 w hPhi hs => ?_))
  obtain ⟨rfl, rfl, rfl⟩ := hPhi
  refine EL_run rfl (R_assign rfl) ?_
  refine EL_nil ?_
  refine EC_ret ?_
  exact ⟨[_], ⟨rfl, trivial⟩, _, _, ⟨rfl, rfl, rfl⟩, (hs.fin [true] []).as rfl rfl⟩

set_option maxRecDepth 100000 in
theorem alWait_spec (a : Nat) (g : AlG) (m : AlM) {w0 : World} (hg : g.ok m) (hm : m.ok) : Spec Tryz.prog 119 #[.pointer (some ⟨a, 0, none⟩)] w0 (alE a g m) [] (fun v es1 ds1 => v = .int .i64 (total (alWaiting m)) ∧ es1 = alE a g m ∧ ds1 = []) := by
 refine Spec.intro (fun F D hs => ?_)
 refine Calls_of_EC (args := [.pointer (some ⟨a, 0, none⟩)]) Tryz.func119 rfl rfl rfl ?_
 refine EC_rseq ?_
 refine EL_run rfl (R_assign rfl) ?_
 refine EL_nil ?_
 refine EC_seq ?_
 refine EC_rseq ?_
 refine EL_run rfl (R_move rfl) ?_
 refine EL_op rfl (O_call hs [true] [] rfl rfl rfl Tryz.call117 (alNone_spec a g m) (fun v es1 ds1 w hPhi hs => ?_))
 obtain ⟨rfl, rfl, rfl⟩ := hPhi
 refine EL_nil ?_
 refine EC_cond rfl (fun hc4 => ?_) (fun hc4 => ?_)
 ·exact Bool.noConfusion hc4
 ·have hc4p := cvt hc4; try dsimp only at hc4p
  refine EC_skip ?_
  refine Then_n ?_
  refine EC_rseq ?_
  refine EL_run rfl (R_move rfl) ?_
  refine EL_op rfl (O_call hs [true, true, true] [] rfl rfl rfl Tryz.call206 (alWaiting_spec a g m hg hm.lw) (fun v es1 ds1 w hPhi hs => ?_))
  obtain ⟨vo, vc, rfl, rfl, rfl⟩ := hPhi
  refine EL_op rfl (O_call hs [] [0] rfl rfl rfl Tryz.call36 (total_spec vo vc (alWaiting m) (by have := hm.lw; have := spFold_len m.waits; unfold alWaiting; omega)) (fun v es1 ds1 w hPhi hs => ?_))
  obtain ⟨rfl, rfl, rfl⟩ := hPhi
  refine EL_run rfl (R_assign rfl) ?_
  refine EL_nil ?_
  refine EC_ret ?_
  exact ⟨[_], ⟨rfl, trivial⟩, _, _, ⟨rfl, rfl, rfl⟩, (hs.fin [true, true, true] []).as rfl rfl⟩

set_option maxRecDepth 100000 in
theorem alUse_spec (a : Nat) (g : AlG) (m : AlM) {w0 : World} (hg : g.ok m) (hm : m.ok) : Spec Tryz.prog 37 #[.pointer (some ⟨a, 0, none⟩)] w0 (alE a g m) [dS g.fo g.fc m.free] (fun v es1 ds1 => v = .int .i64 (alUse m) ∧ es1 = alE a g m ∧ ds1 = []) := by
 refine Spec.intro (fun F D hs => ?_)
 have hr1 := total_range m.free
 have hr2 := total_range (alWaiting m)
 have hlf := hm.lf
 have hlw := hm.lw
 have hfl := spFold_len m.waits
 have hwl : (alWaiting m).length ≤ m.waits.length := hfl
 have hlo := hm.lo
 refine Calls_of_EC (args := [.pointer (some ⟨a, 0, none⟩)]) Tryz.func37 rfl rfl rfl ?_
 refine EC_rseq ?_
 refine EL_run rfl (R_assign rfl) ?_
 refine EL_nil ?_
 refine EC_seq ?_
 refine EC_rseq ?_
 refine EL_run rfl (R_move rfl) ?_
 refine EL_op rfl (O_call hs [true] [] rfl rfl rfl Tryz.call117 (alNone_spec a g m) (fun v es1 ds1 w hPhi hs => ?_))
 obtain ⟨rfl, rfl, rfl⟩ := hPhi
 refine EL_nil ?_
 refine EC_cond rfl (fun hc4 => ?_) (fun hc4 => ?_)
 ·exact Bool.noConfusion hc4
 ·have hc4p := cvt hc4; try dsimp only at hc4p
  refine EC_skip ?_
  refine Then_n ?_
  refine EC_dseqS hs [12, 15] [4, 9] [0] [] (.take 0 (.take 1 (.take 2 (.take 3 (.take 4 (.take 5 (.take 6 (.take 7 (.take 8 (.take 9 (.take 10 (.take 11 (.take 14 (.fork 12 (.take 13 (.fork 15 (.take 16 (.take 17 .done)) (.done))) (.done))))))))))))))) mix_ok (by kernel_rfl) (fun w hs _ => ?_)
  refine EP_take rfl rfl rfl (fun _ => R_move rfl) ?_
  refine EP_take rfl rfl rfl (fun _ => R_nilCheck rfl) ?_
  refine EP_take rfl rfl rfl (fun _ => R_field fo_217_0 rfl) ?_
  refine EP_take rfl rfl rfl (fun _ => R_field fo_211_1 rfl) ?_
  refine EP_read rfl rfl rfl (RdS.of hs rfl rfl) (fun _ hR => R_lb (hR.e 0 rfl rfl) Tryz.isAgg3 rfl rfl) ?_
  refine EP_take rfl rfl rfl (fun _ => R_move rfl) ?_
  refine EP_take rfl rfl rfl (fun _ => R_nilCheck rfl) ?_
  refine EP_take rfl rfl rfl (fun _ => R_field fo_217_0 rfl) ?_
  refine EP_take rfl rfl rfl (fun _ => R_field fo_211_0 rfl) ?_
  refine EP_read rfl rfl rfl (RdS.of hs rfl rfl) (fun _ hR => R_lb (hR.e 0 rfl rfl) Tryz.isAgg3 rfl rfl) ?_
  refine EP_take rfl rfl rfl (fun _ => R_subI rfl rfl (by omega)) ?_
  refine EP_take rfl rfl rfl (fun _ => R_move rfl) ?_
  refine EP_take rfl rfl rfl (fun _ => R_move rfl) ?_
  refine EP_act rfl rfl (O_call hs [true] [0] rfl rfl rfl Tryz.call118 (alFree_spec a g m hm) (fun v es1 ds1 w hPhi hs => ?_))
  obtain ⟨rfl, rfl, rfl⟩ := hPhi
  refine ⟨(fun _ => RdS.of hs rfl rfl), ?_⟩
  refine EP_take rfl rfl rfl (fun _ => R_subI rfl rfl (by omega)) ?_
  refine EP_act rfl rfl (O_call hs [true, true, true] [] rfl rfl rfl Tryz.call119 (alWait_spec a g m hg hm) (fun v es1 ds1 w hPhi hs => ?_))
  obtain ⟨rfl, rfl, rfl⟩ := hPhi
  refine ⟨(fun _ => RdS.of hs rfl rfl), ?_⟩
  refine EP_take rfl rfl rfl (fun _ => R_subI rfl rfl (by omega)) ?_
  refine EP_take rfl rfl rfl (fun _ => R_assign rfl) ?_
  refine EP_done ?_
  refine EC_ret ?_
  exact ⟨[_], ⟨rfl, trivial⟩, _, _, ⟨rfl, rfl, rfl⟩, (hs.fin [true, true, true] []).as rfl rfl⟩

set_option maxRecDepth 100000 in
theorem alCheck_spec (a : Nat) (g : AlG) (m : AlM) (s : Sp) {w0 : World} : Spec Tryz.prog 240 #[.pointer (some ⟨a, 0, none⟩), s.val] w0 [blk a (alCells g m) 217] [] (fun v es1 ds1 => v = .int .i64 (alCheck m s) ∧ es1 = [blk a (alCells g m) 217] ∧ ds1 = []) := by
 refine Spec.intro (fun F D hs => ?_)
 refine Calls_of_EC (args := [.pointer (some ⟨a, 0, none⟩), s.val]) Tryz.func240 rfl rfl rfl ?_
 refine EC_rseq ?_
 refine EL_op rfl (O_box hs rfl rfl (fun b3 w hb3 hs => ?_))
 refine EL_run rfl (R_assign rfl) ?_
 refine EL_nil ?_
 refine EC_seq ?_
 refine EC_block ?_
 refine EC_rseq ?_
 refine EL_run rfl (R_move rfl) ?_
 refine EL_op rfl (O_call hs [true] [] rfl rfl rfl Tryz.call117 (alNone_spec a g m) (fun v es1 ds1 w hPhi hs => ?_))
 obtain ⟨rfl, rfl, rfl⟩ := hPhi
 refine EL_run rfl (R_assign rfl) ?_
 refine EL_nil ?_
 refine EC_cond rfl (fun hc5 => ?_) (fun hc5 => ?_)
 ·exact Bool.noConfusion hc5
 ·have hc5p := cvt hc5; try dsimp only at hc5p
  refine EC_dseqS hs [] [1, 6, 10, 12, 17, 22] [0, 1] [] (.take 0 (.take 1 (.take 2 (.take 3 (.take 4 (.take 5 (.take 6 (.take 7 (.take 8 (.take 9 (.take 10 (.take 11 (.take 12 (.take 13 (.take 14 (.take 15 (.take 16 (.take 17 (.take 18 (.take 19 (.take 20 (.take 21 (.take 22 (.take 23 (.take 24 (.take 25 .done)))))))))))))))))))))))))) mix_ok (by kernel_rfl) (fun w hs _ => ?_)
  refine EP_take rfl rfl rfl (fun _ => R_field fo_211_0 rfl) ?_
  refine EP_read rfl rfl rfl (RdS.of hs rfl rfl) (fun _ hR => R_lb (hR.e 1 rfl rfl) Tryz.isAgg3 rfl rfl) ?_
  refine EP_take rfl rfl rfl (fun _ => R_move rfl) ?_
  refine EP_take rfl rfl rfl (fun _ => R_nilCheck rfl) ?_
  refine EP_take rfl rfl rfl (fun _ => R_field fo_217_0 rfl) ?_
  refine EP_take rfl rfl rfl (fun _ => R_field fo_211_0 rfl) ?_
  refine EP_read rfl rfl rfl (RdS.of hs rfl rfl) (fun _ hR => R_lb (hR.e 0 rfl rfl) Tryz.isAgg3 rfl rfl) ?_
  refine EP_take rfl rfl rfl (fun _ => R_lss rfl rfl) ?_
  refine EP_take rfl rfl rfl (fun _ => R_move rfl) ?_
  refine EP_split 17 rfl (fun hg8 => ?_) (fun hg8 => ?_)
  ·have hg8p := cvt hg8; try dsimp only at hg8p
   refine EP_passT rfl rfl rfl hg8 rfl (fun _ => RdS.of hs rfl rfl) ?_
   refine EP_passT rfl rfl rfl hg8 rfl (fun _ => RdS.of hs rfl rfl) ?_
   refine EP_passT rfl rfl rfl hg8 rfl (fun _ => RdS.of hs rfl rfl) ?_
   refine EP_passT rfl rfl rfl hg8 rfl (fun _ => RdS.of hs rfl rfl) ?_
   refine EP_passT rfl rfl rfl hg8 rfl (fun _ => RdS.of hs rfl rfl) ?_
   refine EP_take rfl rfl rfl (fun _ => R_pickT rfl hg8 rfl) ?_
   refine EP_take rfl rfl rfl (fun _ => R_move rfl) ?_
   refine EP_passT rfl rfl rfl rfl rfl (fun _ => RdS.of hs rfl rfl) ?_
   refine EP_passT rfl rfl rfl rfl rfl (fun _ => RdS.of hs rfl rfl) ?_
   refine EP_passT rfl rfl rfl rfl rfl (fun _ => RdS.of hs rfl rfl) ?_
   refine EP_passT rfl rfl rfl rfl rfl (fun _ => RdS.of hs rfl rfl) ?_
   refine EP_passT rfl rfl rfl rfl rfl (fun _ => RdS.of hs rfl rfl) ?_
   refine EP_passT rfl rfl rfl rfl rfl (fun _ => RdS.of hs rfl rfl) ?_
   refine EP_passT rfl rfl rfl rfl rfl (fun _ => RdS.of hs rfl rfl) ?_
   refine EP_passT rfl rfl rfl rfl rfl (fun _ => RdS.of hs rfl rfl) ?_
   refine EP_take rfl rfl rfl (fun _ => R_pickT rfl rfl rfl) ?_
   refine EP_take rfl rfl rfl (fun _ => R_assign rfl) ?_
   refine EP_done ?_
   refine EC_cond rfl (fun hcx => ?_) (fun hcx => ?_)
   ·skip
    refine EC_rseq ?_
    refine EL_run rfl (R_assign rfl) ?_
    refine EL_nil ?_
    refine EC_ret ?_
    refine InBlock_r ?_
    refine Then_r ?_
    exact ⟨[_], ⟨rfl, trivial⟩, _, _, ⟨by simp only [tupleOf, alCheck]; rw [if_pos (by omega)], rfl, rfl⟩, (hs.fin [true] []).as rfl rfl⟩
   ·exact Bool.noConfusion hcx
  ·have hg8p := cvt hg8; try dsimp only at hg8p
   refine EP_takeG rfl rfl rfl hg8 rfl rfl (fun _ => R_field fo_211_0 rfl) ?_
   refine EP_readG rfl rfl rfl hg8 rfl rfl (RdS.of hs rfl rfl) (fun _ hR => R_lb (hR.e 1 rfl rfl) Tryz.isAgg3 rfl rfl) ?_
   refine EP_takeG rfl rfl rfl hg8 rfl rfl (fun _ => R_field fo_211_1 rfl) ?_
   refine EP_readG rfl rfl rfl hg8 rfl rfl (RdS.of hs rfl rfl) (fun _ hR => R_lb (hR.e 1 rfl rfl) Tryz.isAgg3 rfl rfl) ?_
   refine EP_takeG rfl rfl rfl hg8 rfl rfl (fun _ => R_geq rfl rfl) ?_
   refine EP_take rfl rfl rfl (fun _ => R_pickF rfl hg8 rfl) ?_
   refine EP_take rfl rfl rfl (fun _ => R_move rfl) ?_
   refine EP_split 24 rfl (fun hg15 => ?_) (fun hg15 => ?_)
   ·have hg15p := cvt hg15; try dsimp only at hg15p
    refine EP_passT rfl rfl rfl hg15 rfl (fun _ => RdS.of hs rfl rfl) ?_
    refine EP_passT rfl rfl rfl hg15 rfl (fun _ => RdS.of hs rfl rfl) ?_
    refine EP_passT rfl rfl rfl hg15 rfl (fun _ => RdS.of hs rfl rfl) ?_
    refine EP_passT rfl rfl rfl hg15 rfl (fun _ => RdS.of hs rfl rfl) ?_
    refine EP_passT rfl rfl rfl hg15 rfl (fun _ => RdS.of hs rfl rfl) ?_
    refine EP_passT rfl rfl rfl hg15 rfl (fun _ => RdS.of hs rfl rfl) ?_
    refine EP_passT rfl rfl rfl hg15 rfl (fun _ => RdS.of hs rfl rfl) ?_
    refine EP_passT rfl rfl rfl hg15 rfl (fun _ => RdS.of hs rfl rfl) ?_
    refine EP_take rfl rfl rfl (fun _ => R_pickT rfl hg15 rfl) ?_
    refine EP_take rfl rfl rfl (fun _ => R_assign rfl) ?_
    refine EP_done ?_
    refine EC_cond rfl (fun hcx => ?_) (fun hcx => ?_)
    ·skip
     refine EC_rseq ?_
     refine EL_run rfl (R_assign rfl) ?_
     refine EL_nil ?_
     refine EC_ret ?_
     refine InBlock_r ?_
     refine Then_r ?_
     exact ⟨[_], ⟨rfl, trivial⟩, _, _, ⟨by simp only [tupleOf, alCheck]; rw [if_pos (by omega)], rfl, rfl⟩, (hs.fin [true] []).as rfl rfl⟩
    ·exact Bool.noConfusion hcx
   ·have hg15p := cvt hg15; try dsimp only at hg15p
    refine EP_takeG rfl rfl rfl hg15 rfl rfl (fun _ => R_field fo_211_1 rfl) ?_
    refine EP_readG rfl rfl rfl hg15 rfl rfl (RdS.of hs rfl rfl) (fun _ hR => R_lb (hR.e 1 rfl rfl) Tryz.isAgg3 rfl rfl) ?_
    refine EP_takeG rfl rfl rfl hg15 rfl rfl (fun _ => R_move rfl) ?_
    refine EP_takeG rfl rfl rfl hg15 rfl rfl (fun _ => R_nilCheck rfl) ?_
    refine EP_takeG rfl rfl rfl hg15 rfl rfl (fun _ => R_field fo_217_0 rfl) ?_
    refine EP_takeG rfl rfl rfl hg15 rfl rfl (fun _ => R_field fo_211_1 rfl) ?_
    refine EP_readG rfl rfl rfl hg15 rfl rfl (RdS.of hs rfl rfl) (fun _ hR => R_lb (hR.e 0 rfl rfl) Tryz.isAgg3 rfl rfl) ?_
    refine EP_takeG rfl rfl rfl hg15 rfl rfl (fun _ => R_gtr rfl rfl) ?_
    refine EP_take rfl rfl rfl (fun _ => R_pickF rfl hg15 rfl) ?_
    refine EP_take rfl rfl rfl (fun _ => R_assign rfl) ?_
    refine EP_done ?_
    refine EC_cond rfl (fun hc8 => ?_) (fun hc8 => ?_)
    ·have hc8p := cvt hc8; try dsimp only at hc8p
     refine EC_rseq ?_
     refine EL_run rfl (R_assign rfl) ?_
     refine EL_nil ?_
     refine EC_ret ?_
     refine InBlock_r ?_
     refine Then_r ?_
     exact ⟨[_], ⟨rfl, trivial⟩, _, _, ⟨by simp only [tupleOf, alCheck]; rw [if_pos (by omega)], rfl, rfl⟩, (hs.fin [true] []).as rfl rfl⟩
    ·have hc8p := cvt hc8; try dsimp only at hc8p
     refine EC_skip ?_
     refine InBlock_n ?_
     refine Then_n ?_
     refine EC_rseq ?_
     refine EL_run rfl (R_assign rfl) ?_
     refine EL_nil ?_
     refine EC_ret ?_
     exact ⟨[_], ⟨rfl, trivial⟩, _, _, ⟨by simp only [tupleOf, alCheck]; rw [if_neg (by omega)], rfl, rfl⟩, (hs.fin [true] []).as rfl rfl⟩

set_option maxRecDepth 100000 in
theorem alUsed_spec (a : Nat) (g : AlG) (m : AlM) (s : Sp) {w0 : World} (hg : g.ok m) (hm : m.ok) : Spec Tryz.prog 247 #[.pointer (some ⟨a, 0, none⟩), s.val] w0 (alE a g m) [dS g.fo g.fc m.free] (fun v es1 ds1 => v = .int .i64 (alUsed m s) ∧ es1 = alE a g m ∧ ds1 = []) := by
 refine Spec.intro (fun F D hs => ?_)
 refine Calls_of_EC (args := [.pointer (some ⟨a, 0, none⟩), s.val]) Tryz.func247 rfl rfl rfl ?_
 refine EC_rseq ?_
 refine EL_op rfl (O_box hs rfl rfl (fun b3 w hb3 hs => ?_))
 refine EL_run rfl (R_assign rfl) ?_
 refine EL_nil ?_
 refine EC_rseq ?_
 refine EL_run rfl (R_move rfl) ?_
 refine EL_run rfl (R_lw (hs.at (i := 3) rfl) Tryz.isAgg211 Tryz.sizeOf211 rfl rfl) ?_
 refine EL_op rfl (O_call hs [true] [] rfl rfl rfl Tryz.call240 (alCheck_spec a g m s) (fun v es1 ds1 w hPhi hs => ?_))
 obtain ⟨rfl, rfl, rfl⟩ := hPhi
 refine EL_run rfl (R_assign rfl) ?_
 refine EL_nil ?_
 refine EC_seq ?_
 refine EC_dseqS hs [8, 11, 13] [6, 7, 12] [0, 3] [] (.take 0 (.take 1 (.take 2 (.take 3 (.take 4 (.take 5 (.take 6 (.take 7 (.fork 8 (.take 9 (.take 10 (.take 12 (.fork 11 (.fork 13 (.take 14 (.take 15 .done)) (.done)) (.done))))) (.done)))))))))) mix_ok (by kernel_rfl) (fun w hs _ => ?_)
 refine EP_take rfl rfl rfl (fun _ => R_move rfl) ?_
 refine EP_take rfl rfl rfl (fun _ => R_eql rfl rfl) ?_
 refine EP_take rfl rfl rfl (fun _ => R_move rfl) ?_
 refine EP_split 11 rfl (fun hg2 => ?_) (fun hg2 => ?_)
 ·have hg2p := cvt hg2; try dsimp only at hg2p
  refine EP_takeG rfl rfl rfl hg2 rfl rfl (fun _ => R_move rfl) ?_
  refine EP_takeG rfl rfl rfl hg2 rfl rfl (fun _ => R_nilCheck rfl) ?_
  refine EP_takeG rfl rfl rfl hg2 rfl rfl (fun _ => R_field fo_217_3 rfl) ?_
  refine EP_readG rfl rfl rfl hg2 rfl rfl (RdS.of hs rfl rfl) (fun _ hR => R_lb (hR.e 0 rfl rfl) Tryz.isAgg74 rfl rfl) ?_
  refine EP_readG rfl rfl rfl hg2 rfl rfl (RdS.of hs rfl rfl) (fun _ hR => R_lw (hR.e 3 rfl rfl) Tryz.isAgg211 Tryz.sizeOf211 rfl rfl) ?_
  refine EP_actG rfl rfl rfl hg2 rfl (O_call hs [] [0] rfl rfl rfl Tryz.call114 (spMeets_spec g.fo g.fc m.free s (by have := hm.lf; omega)) (fun v es1 ds1 w hPhi hs => ?_))
  obtain ⟨rfl, rfl, rfl⟩ := hPhi
  refine ⟨(fun _ => RdS.of hs rfl rfl), ?_⟩
  refine EP_takeG rfl rfl rfl hg2 rfl rfl (fun _ => R_move rfl) ?_
  refine EP_split 18 rfl (fun hg9 => ?_) (fun hg9 => ?_)
  ·have hg9p := cvt hg9; try dsimp only at hg9p
   refine EP_passT rfl rfl rfl hg9 rfl (fun _ => RdS.of hs rfl rfl) ?_
   refine EP_passT rfl rfl rfl hg9 rfl (fun _ => RdS.of hs rfl rfl) ?_
   refine EP_passF rfl rfl rfl hg9 rfl (fun _ => RdS.of hs rfl rfl) ?_
   refine EP_passF rfl rfl rfl hg9 rfl (fun _ => RdS.of hs rfl rfl) ?_
   refine EP_takeG rfl rfl rfl hg2 rfl rfl (fun _ => R_pickT rfl hg9 rfl) ?_
   refine EP_take rfl rfl rfl (fun _ => R_pickT rfl hg2 rfl) ?_
   refine EP_done ?_
   refine EC_cond rfl (fun hcx => ?_) (fun hcx => ?_)
   ·skip
    have hres : alUsed m s = 13 := by
      unfold alUsed
      rw [if_pos hg2p, if_pos (by first | exact .inl hg9p | exact .inr hc24p)]
    refine EC_region ?_
    refine EL_run rfl (R_assign rfl) ?_
    refine EL_nil ?_
    refine Then_n ?_
    first
      | (have hres : alUsed m s = alCheck m s := by
          unfold alUsed
          rw [if_neg hg2p])
      | (have hres : alUsed m s = alCheck m s := by
          unfold alUsed
          rw [if_pos hg2p, if_neg (fun h => h.elim (fun h => Bool.noConfusion (hg9p.symm.trans h)) (fun h => Bool.noConfusion (hc24p.symm.trans h))), hg2p])
      | skip
    refine EC_rseq ?_
    refine EL_run rfl (R_move rfl) ?_
    refine EL_run rfl (R_assign rfl) ?_
    refine EL_nil ?_
    refine EC_ret ?_
    exact ⟨[_], ⟨rfl, trivial⟩, _, _, ⟨by rw [hres]; rfl, rfl, rfl⟩, (hs.fin [true, true, true] []).as rfl rfl⟩
   ·exact Bool.noConfusion hcx
  ·have hg9p := cvt hg9; try dsimp only at hg9p
   refine EP_takeG rfl rfl rfl hg9 rfl rfl (fun _ => R_move rfl) ?_
   refine EP_readG rfl rfl rfl hg9 rfl rfl (RdS.of hs rfl rfl) (fun _ hR => R_lw (hR.e 3 rfl rfl) Tryz.isAgg211 Tryz.sizeOf211 rfl rfl) ?_
   refine EP_actG rfl rfl rfl hg9 rfl (O_call hs [true, true, true] [] rfl rfl rfl Tryz.call206 (alWaiting_spec a g m hg hm.lw) (fun v es1 ds1 w hPhi hs => ?_))
   obtain ⟨vo, vc, rfl, rfl, rfl⟩ := hPhi
   refine ⟨(fun _ => RdS.of hs rfl rfl), ?_⟩
   refine EP_actG rfl rfl rfl hg9 rfl (O_call hs [] [1] rfl rfl rfl Tryz.call114 (spMeets_spec vo vc (alWaiting m) s (by have := hm.lw; have := spFold_len m.waits; unfold alWaiting; omega)) (fun v es1 ds1 w hPhi hs => ?_))
   obtain ⟨rfl, rfl, rfl⟩ := hPhi
   refine ⟨(fun _ => RdS.of hs rfl rfl), ?_⟩
   refine EP_takeG rfl rfl rfl hg2 rfl rfl (fun _ => R_pickF rfl hg9 rfl) ?_
   refine EP_take rfl rfl rfl (fun _ => R_pickT rfl hg2 rfl) ?_
   refine EP_done ?_
   refine EC_cond rfl (fun hc24 => ?_) (fun hc24 => ?_)
   ·have hc24p := cvt hc24; try dsimp only at hc24p
    have hres : alUsed m s = 13 := by
      unfold alUsed
      rw [if_pos hg2p, if_pos (by first | exact .inl hg9p | exact .inr hc24p)]
    refine EC_region ?_
    refine EL_run rfl (R_assign rfl) ?_
    refine EL_nil ?_
    refine Then_n ?_
    first
      | (have hres : alUsed m s = alCheck m s := by
          unfold alUsed
          rw [if_neg hg2p])
      | (have hres : alUsed m s = alCheck m s := by
          unfold alUsed
          rw [if_pos hg2p, if_neg (fun h => h.elim (fun h => Bool.noConfusion (hg9p.symm.trans h)) (fun h => Bool.noConfusion (hc24p.symm.trans h))), hg2p])
      | skip
    refine EC_rseq ?_
    refine EL_run rfl (R_move rfl) ?_
    refine EL_run rfl (R_assign rfl) ?_
    refine EL_nil ?_
    refine EC_ret ?_
    exact ⟨[_], ⟨rfl, trivial⟩, _, _, ⟨by rw [hres]; rfl, rfl, rfl⟩, (hs.fin [true, true, true] []).as rfl rfl⟩
   ·have hc24p := cvt hc24; try dsimp only at hc24p
    refine EC_skip ?_
    refine Then_n ?_
    first
      | (have hres : alUsed m s = alCheck m s := by
          unfold alUsed
          rw [if_neg hg2p])
      | (have hres : alUsed m s = alCheck m s := by
          unfold alUsed
          rw [if_pos hg2p, if_neg (fun h => h.elim (fun h => Bool.noConfusion (hg9p.symm.trans h)) (fun h => Bool.noConfusion (hc24p.symm.trans h))), hg2p])
      | skip
    refine EC_rseq ?_
    refine EL_run rfl (R_move rfl) ?_
    refine EL_run rfl (R_assign rfl) ?_
    refine EL_nil ?_
    refine EC_ret ?_
    exact ⟨[_], ⟨rfl, trivial⟩, _, _, ⟨by rw [hres]; rfl, rfl, rfl⟩, (hs.fin [true, true, true] []).as rfl rfl⟩
 ·have hg2p := cvt hg2; try dsimp only at hg2p
  refine EP_passT rfl rfl rfl hg2 rfl (fun _ => RdS.of hs rfl rfl) ?_
  refine EP_passT rfl rfl rfl hg2 rfl (fun _ => RdS.of hs rfl rfl) ?_
  refine EP_passT rfl rfl rfl hg2 rfl (fun _ => RdS.of hs rfl rfl) ?_
  refine EP_passT rfl rfl rfl hg2 rfl (fun _ => RdS.of hs rfl rfl) ?_
  refine EP_passT rfl rfl rfl hg2 rfl (fun _ => RdS.of hs rfl rfl) ?_
  refine EP_passF rfl rfl rfl hg2 rfl (fun _ => RdS.of hs rfl rfl) ?_
  refine EP_passT rfl rfl rfl hg2 rfl (fun _ => RdS.of hs rfl rfl) ?_
  refine EP_passTU rfl rfl rfl rfl (fun _ => RdS.of hs rfl rfl) ?_
  refine EP_passTU rfl rfl rfl rfl (fun _ => RdS.of hs rfl rfl) ?_
  refine EP_passFU rfl rfl rfl rfl (fun _ => RdS.of hs rfl rfl) ?_
  refine EP_passFU rfl rfl rfl rfl (fun _ => RdS.of hs rfl rfl) ?_
  refine EP_passT rfl rfl rfl hg2 rfl (fun _ => RdS.of hs rfl rfl) ?_
  refine EP_take rfl rfl rfl (fun _ => R_pickF rfl hg2 rfl) ?_
  refine EP_done ?_
  refine EC_cond rfl (fun hcx => ?_) (fun hcx => ?_)
  ·exact Bool.noConfusion hcx
  ·skip
   refine EC_skip ?_
   refine Then_n ?_
   first
     | (have hres : alUsed m s = alCheck m s := by
         unfold alUsed
         rw [if_neg hg2p])
     | (have hres : alUsed m s = alCheck m s := by
         unfold alUsed
         rw [if_pos hg2p, if_neg (fun h => h.elim (fun h => Bool.noConfusion (hg9p.symm.trans h)) (fun h => Bool.noConfusion (hc24p.symm.trans h))), hg2p])
     | skip
   refine EC_rseq ?_
   refine EL_run rfl (R_move rfl) ?_
   refine EL_run rfl (R_assign rfl) ?_
   refine EL_nil ?_
   refine EC_ret ?_
   exact ⟨[_], ⟨rfl, trivial⟩, _, _, ⟨by rw [hres]; rfl, rfl, rfl⟩, (hs.fin [true, true, true] []).as rfl rfl⟩

set_option maxRecDepth 100000 in
theorem alGive_spec (a : Nat) (g : AlG) (m : AlM) (s : Sp) {w0 : World} (hg : g.ok m) (hm : m.ok) : Spec Tryz.prog 184 #[.pointer (some ⟨a, 0, none⟩), s.val] w0 (alE a g m) [dS g.fo g.fc m.free] (fun v es1 ds1 => ∃ fo fc, v = .int .i64 (alGive m s).2 ∧ es1 = alE a { g with fo := fo, fc := fc } (alGive m s).1 ∧ ds1 = [dS fo fc (alGive m s).1.free]) := by
 refine Spec.intro (fun F D hs => ?_)
 refine Calls_of_EC (args := [.pointer (some ⟨a, 0, none⟩), s.val]) Tryz.func184 rfl rfl rfl ?_
 refine EC_rseq ?_
 refine EL_op rfl (O_box hs rfl rfl (fun b3 w hb3 hs => ?_))
 refine EL_run rfl (R_assign rfl) ?_
 refine EL_nil ?_
 refine EC_rseq ?_
 refine EL_run rfl (R_move rfl) ?_
 refine EL_run rfl (R_lw (hs.at (i := 3) rfl) Tryz.isAgg211 Tryz.sizeOf211 rfl rfl) ?_
 refine EL_op rfl (O_call hs [true, true, true] [0] rfl rfl rfl Tryz.call247 (alUsed_spec a g m s hg hm) (fun v es1 ds1 w hPhi hs => ?_))
 obtain ⟨rfl, rfl, rfl⟩ := hPhi
 refine EL_run rfl (R_assign rfl) ?_
 refine EL_nil ?_
 refine EC_seq ?_
 refine EC_rseq ?_
 refine EL_run rfl (R_move rfl) ?_
 refine EL_run rfl (R_eql rfl rfl) ?_
 refine EL_nil ?_
 refine EC_cond rfl (fun hc10 => ?_) (fun hc10 => ?_)
 ·have hc10p := cvt hc10; try dsimp only at hc10p
  refine EC_drawS hs [6, 9] [4, 5] [0, 3] [] (.take 0 (.take 1 (.take 2 (.take 3 (.take 4 (.take 5 (.fork 6 (.take 7 (.take 8 (.fork 9 .done (.done)))) (.done)))))))) mix_ok (by kernel_rfl) (fun w hs _ => ?_)
  refine EP_take rfl rfl rfl (fun _ => R_move rfl) ?_
  refine EP_take rfl rfl rfl (fun _ => R_move rfl) ?_
  refine EP_take rfl rfl rfl (fun _ => R_nilCheck rfl) ?_
  refine EP_take rfl rfl rfl (fun _ => R_field fo_217_3 rfl) ?_
  refine EP_read rfl rfl rfl (RdS.of hs rfl rfl) (fun _ hR => R_lb (hR.e 0 rfl rfl) Tryz.isAgg74 rfl rfl) ?_
  refine EP_read rfl rfl rfl (RdS.of hs rfl rfl) (fun _ hR => R_lw (hR.e 3 rfl rfl) Tryz.isAgg211 Tryz.sizeOf211 rfl rfl) ?_
  refine EP_act rfl rfl (O_call hs [] [0] rfl rfl rfl Tryz.call115 (spAdd_spec g.fo g.fc m.free s (by have := hm.lf; omega)) (fun v es1 ds1 w hPhi hs => ?_))
  obtain ⟨rfl, rfl⟩ := hPhi
  obtain ⟨ao9, c9, rfl, hs⟩ := hs.freezeSl (i := 4) rfl
  refine ⟨(rq_no (by kernel_rfl)), ?_⟩
  refine EP_take rfl rfl rfl (fun _ => R_nilCheck rfl) ?_
  refine EP_take rfl rfl rfl (fun _ => R_field fo_217_3 rfl) ?_
  refine EP_act rfl rfl (O_store hs (i := 0) rfl Tryz.sizeOf74 rfl rfl rfl rfl (fun w hs => ⟨(rq_no (by kernel_rfl)), ?_⟩))
  refine EP_done ?_
  refine Then_n ?_
  first
    | (have hgv : alGive m s = ({ m with free := spAdd m.free s }, 0) := by rw [alGive, if_pos hc10p])
    | (have hgv : alGive m s = (m, alUsed m s) := by rw [alGive, if_neg hc10p])
  refine EC_rseq ?_
  refine EL_run rfl (R_move rfl) ?_
  refine EL_run rfl (R_assign rfl) ?_
  refine EL_nil ?_
  refine EC_ret ?_
  first
    | exact ⟨[_], ⟨rfl, trivial⟩, _, _, ⟨ao9, c9, by rw [hgv, hc10p]; rfl, rfl, rfl⟩, (hs.fin [true, true, true] [1]).as (by rw [hgv]; rfl) (by rw [hgv]; rfl)⟩
    | exact ⟨[_], ⟨rfl, trivial⟩, _, _, ⟨g.fo, g.fc, by rw [hgv]; rfl, rfl, rfl⟩, (hs.fin [true, true, true] [0]).as (by rw [hgv]; rfl) (by rw [hgv]; rfl)⟩
 ·have hc10p := cvt hc10; try dsimp only at hc10p
  refine EC_skip ?_
  refine Then_n ?_
  first
    | (have hgv : alGive m s = ({ m with free := spAdd m.free s }, 0) := by rw [alGive, if_pos hc10p])
    | (have hgv : alGive m s = (m, alUsed m s) := by rw [alGive, if_neg hc10p])
  refine EC_rseq ?_
  refine EL_run rfl (R_move rfl) ?_
  refine EL_run rfl (R_assign rfl) ?_
  refine EL_nil ?_
  refine EC_ret ?_
  first
    | exact ⟨[_], ⟨rfl, trivial⟩, _, _, ⟨ao9, c9, by rw [hgv, hc10p]; rfl, rfl, rfl⟩, (hs.fin [true, true, true] [1]).as (by rw [hgv]; rfl) (by rw [hgv]; rfl)⟩
    | exact ⟨[_], ⟨rfl, trivial⟩, _, _, ⟨g.fo, g.fc, by rw [hgv]; rfl, rfl, rfl⟩, (hs.fin [true, true, true] [0]).as (by rw [hgv]; rfl) (by rw [hgv]; rfl)⟩

set_option maxRecDepth 100000 in
theorem alLater_spec (a : Nat) (g : AlG) (m : AlM) (s : Sp) {w0 : World} (hg : g.ok m) (hm : m.ok) : Spec Tryz.prog 172 #[.pointer (some ⟨a, 0, none⟩), s.val] w0 (alE a g m) [dS g.fo g.fc m.free] (fun v es1 ds1 => ∃ g2 : AlG, v = .int .i64 (alLater m s).2 ∧ g2.ok (alLater m s).1 ∧ (g2.fo = g.fo ∧ g2.fc = g.fc ∧ g2.wo = g.wo ∧ g2.wc = g.wc) ∧ es1 = alE a g2 (alLater m s).1 ∧ ds1 = []) := by
 refine Spec.intro (fun F D hs => ?_)
 refine Calls_of_EC (args := [.pointer (some ⟨a, 0, none⟩), s.val]) Tryz.func172 rfl rfl rfl ?_
 refine EC_rseq ?_
 refine EL_op rfl (O_box hs rfl rfl (fun b3 w hb3 hs => ?_))
 refine EL_run rfl (R_assign rfl) ?_
 refine EL_nil ?_
 refine EC_rseq ?_
 refine EL_run rfl (R_move rfl) ?_
 refine EL_run rfl (R_lw (hs.at (i := 3) rfl) Tryz.isAgg211 Tryz.sizeOf211 rfl rfl) ?_
 refine EL_op rfl (O_call hs [true, true, true] [0] rfl rfl rfl Tryz.call247 (alUsed_spec a g m s hg hm) (fun v es1 ds1 w hPhi hs => ?_))
 obtain ⟨rfl, rfl, rfl⟩ := hPhi
 refine EL_run rfl (R_assign rfl) ?_
 refine EL_nil ?_
 refine EC_seq ?_
 refine EC_rseq ?_
 refine EL_run rfl (R_move rfl) ?_
 refine EL_run rfl (R_eql rfl rfl) ?_
 refine EL_nil ?_
 refine EC_cond rfl (fun hc10 => ?_) (fun hc10 => ?_)
 ·have hc10p := cvt hc10; try dsimp only at hc10p
  refine EC_drawS hs [10, 11, 12] [3, 7, 8, 9] [0, 1, 3] [] (.take 0 (.take 1 (.take 2 (.take 3 (.take 4 (.take 5 (.take 6 (.take 7 (.take 8 (.take 9 (.fork 10 (.fork 11 (.fork 12 .done (.done)) (.done)) (.done)))))))))))) mix_ok (by kernel_rfl) (fun w hs _ => ?_)
  refine EP_take rfl rfl rfl (fun _ => R_move rfl) ?_
  refine EP_take rfl rfl rfl (fun _ => R_nilCheck rfl) ?_
  refine EP_take rfl rfl rfl (fun _ => R_field fo_217_4 rfl) ?_
  refine EP_read rfl rfl rfl (RdS.of hs rfl rfl) (fun _ hR => R_lb (hR.e 0 rfl rfl) Tryz.isAgg215 rfl rfl) ?_
  refine EP_take rfl rfl rfl (fun _ => R_move rfl) ?_
  refine EP_take rfl rfl rfl (fun _ => R_nilCheck rfl) ?_
  refine EP_take rfl rfl rfl (fun _ => R_field fo_217_4 rfl) ?_
  refine EP_read rfl rfl rfl (RdS.of hs rfl rfl) (fun _ hR => R_lb (hR.e 0 rfl rfl) Tryz.isAgg215 rfl rfl) ?_
  refine EP_read rfl rfl rfl (RdS.of hs rfl rfl) (fun _ hR => R_lookup (hR.e 1 rfl rfl) Tryz.underlying215 Tryz.underlying3 Tryz.zeroValue74 rfl rfl) ?_
  rw [alMap_get hg]
  refine EP_read rfl rfl rfl (RdS.of hs rfl rfl) (fun _ hR => R_lw (hR.e 3 rfl rfl) Tryz.isAgg211 Tryz.sizeOf211 rfl rfl) ?_
  refine EP_act rfl rfl (O_buildSlice [.tmp 20] hs rfl ei_74 rfl rfl rfl (sizeN rfl) (by decide) (fun b21 w hb21 hs => ⟨(fun _ => RdS.of hs rfl rfl), ?_⟩))
  refine EP_act rfl rfl (O_append hs (i := 2) rfl rfl ei_74 rfl rfl (Src.own (hs.at (i := 4) rfl)) (by intro u hu; exact Sp.one [s] u (by simpa [Value.cells, Sp.val] using hu)) (by have := hm.lw; omega) (by have := hm.lw; omega) (fun v22 w hs => ?_))
  have hs := hs.asSl (i := 2) rfl (m.waits ++ [s]).length ((m.waits ++ [s]).flatMap Sp.l) (by simp) (by simp [Value.cells, Sp.val])
  obtain ⟨ao9, c9, hv9⟩ := oSl.val (hs.at (i := 2) rfl)
  subst hv9
  refine ⟨(fun _ => RdS.of hs rfl rfl), ?_⟩
  refine EP_act rfl rfl (O_mapUpdate hs (i := 1) rfl Tryz.underlying215 Tryz.underlying3 rfl rfl rfl (fun w hs => ⟨(rq_no (by kernel_rfl)), ?_⟩))
  rw [alMap_put] at hs
  refine EP_done ?_
  refine Then_n ?_
  have hgv : alLater m s = ({ m with waits := m.waits ++ [s] }, 0) := by rw [alLater, if_pos hc10p]
  refine EC_rseq ?_
  refine EL_run rfl (R_move rfl) ?_
  refine EL_run rfl (R_assign rfl) ?_
  refine EL_nil ?_
  refine EC_ret ?_
  exact ⟨[_], ⟨rfl, trivial⟩, _, _, ⟨{ g with vo := ao9, vc := c9, has := true }, by rw [hgv]; show Value.int .i64 _ = Value.int .i64 0; rw [hc10p], (by intro h; cases h), ⟨rfl, rfl, rfl, rfl⟩, rfl, rfl⟩, (hs.fin [true, true, true] []).as (by rw [hgv]; rfl) rfl⟩
 ·have hc10p := cvt hc10; try dsimp only at hc10p
  refine EC_skip ?_
  refine Then_n ?_
  have hgv : alLater m s = (m, alUsed m s) := by rw [alLater, if_neg hc10p]
  refine EC_rseq ?_
  refine EL_run rfl (R_move rfl) ?_
  refine EL_run rfl (R_assign rfl) ?_
  refine EL_nil ?_
  refine EC_ret ?_
  exact ⟨[_], ⟨rfl, trivial⟩, _, _, ⟨g, by rw [hgv]; rfl, by rw [hgv]; exact hg, ⟨rfl, rfl, rfl, rfl⟩, rfl, rfl⟩, (hs.fin [true, true, true] []).as (by rw [hgv]; rfl) rfl⟩

set_option maxRecDepth 100000 in
theorem alTake_spec (a : Nat) (g : AlG) (m : AlM) (n : Int) (sp : Bool) {w0 : World} (hm : m.ok) (hn : -1 ≤ n ∧ n ≤ 1000000) : Spec Tryz.prog 182 #[.pointer (some ⟨a, 0, none⟩), .int .i64 n, .bool sp] w0 [blk a (alCells g m) 217] [dS g.fo g.fc m.free] (fun v es1 ds1 => ∃ fo fc, v = .tuple #[.int .i64 (alTake m n sp).2.1, .int .i64 (alTake m n sp).2.2] ∧ es1 = [blk a (alCells { g with fo := fo, fc := fc } (alTake m n sp).1) 217] ∧ ds1 = [dS fo fc (alTake m n sp).1.free]) := by
 refine Spec.intro (fun F D hs => ?_)
 refine Calls_of_EC (args := [.pointer (some ⟨a, 0, none⟩), .int .i64 n, .bool sp]) Tryz.func182 rfl rfl rfl ?_
 refine EC_rseq ?_
 refine EL_run rfl (R_assign rfl) ?_
 refine EL_run rfl (R_assign rfl) ?_
 refine EL_nil ?_
 refine EC_seq ?_
 refine EC_block ?_
 refine EC_rseq ?_
 refine EL_run rfl (R_move rfl) ?_
 refine EL_op rfl (O_call hs [true] [] rfl rfl rfl Tryz.call117 (alNone_spec a g m) (fun v es1 ds1 w hPhi hs => ?_))
 obtain ⟨rfl, rfl, rfl⟩ := hPhi
 refine EL_run rfl (R_assign rfl) ?_
 refine EL_nil ?_
 refine EC_cond rfl (fun hc9 => ?_) (fun hc9 => ?_)
 ·exact Bool.noConfusion hc9
 ·have hc9p := cvt hc9; try dsimp only at hc9p
  refine EC_rseq ?_
  refine EL_run rfl (R_move rfl) ?_
  refine EL_run rfl (R_lss rfl rfl) ?_
  refine EL_run rfl (R_assign rfl) ?_
  refine EL_nil ?_
  refine EC_cond rfl (fun hc12 => ?_) (fun hc12 => ?_)
  ·have hc12p := cvt hc12; try dsimp only at hc12p
   have hgv : alTake m n sp = (m, 0, 2) := by rw [alTake, if_pos hc12p]
   refine EC_rseq ?_
   refine EL_run rfl (R_assign rfl) ?_
   refine EL_run rfl (R_assign rfl) ?_
   refine EL_nil ?_
   refine EC_ret ?_
   refine InBlock_r ?_
   refine Then_r ?_
   exact ⟨[_, _], ⟨rfl, rfl, trivial⟩, _, _, ⟨g.fo, g.fc, by rw [hgv]; rfl, rfl, rfl⟩, (hs.fin [true] [0]).as (by rw [hgv]; rfl) (by rw [hgv]; rfl)⟩
  ·have hc12p := cvt hc12; try dsimp only at hc12p
   refine EC_skip ?_
   refine InBlock_n ?_
   refine Then_n ?_
   refine EC_rseq ?_
   refine EL_run rfl (R_move rfl) ?_
   refine EL_run rfl (R_nilCheck rfl) ?_
   refine EL_run rfl (R_field fo_217_3 rfl) ?_
   refine EL_run rfl (R_lb (hs.at (i := 0) rfl) Tryz.isAgg74 rfl rfl) ?_
   refine EL_run rfl (R_move rfl) ?_
   refine EL_op rfl (O_call hs [] [0] rfl rfl rfl Tryz.call257 (spFind_spec g.fo g.fc m.free n (by have := hm.lf; omega) hm.vf) (fun v es1 ds1 w hPhi hs => ?_))
   obtain ⟨rfl, rfl, rfl⟩ := hPhi
   refine EL_run rfl (R_assign rfl) ?_
   refine EL_nil ?_
   refine EC_seq ?_
   have hfr := spFind_le (n := n) hm.vf
   have hr1 := total_range m.free
   have hlf := hm.lf
   generalize hat : spFind m.free n = at_ at *
   generalize htt : total m.free = tt at *
   refine EC_dseqS hs [10] [9, 16] [0] [] (.take 0 (.take 1 (.take 2 (.take 3 (.take 4 (.take 5 (.take 6 (.take 7 (.take 8 (.take 9 (.take 11 (.take 13 (.take 14 (.take 15 (.take 16 (.fork 10 (.take 12 (.take 17 (.take 18 (.take 19 .done)))) (.done))))))))))))))))) mix_ok (by kernel_rfl) (fun w hs _ => ?_)
   refine EP_take rfl rfl rfl (fun _ => R_move rfl) ?_
   refine EP_take rfl rfl rfl (fun _ => R_lss rfl rfl) ?_
   refine EP_take rfl rfl rfl (fun _ => R_move rfl) ?_
   refine EP_split 23 rfl (fun hg2 => ?_) (fun hg2 => ?_)
   ·have hg2p := cvt hg2; try dsimp only at hg2p
    refine EP_passT rfl rfl rfl hg2 rfl (fun _ => RdS.of hs rfl rfl) ?_
    refine EP_passT rfl rfl rfl hg2 rfl (fun _ => RdS.of hs rfl rfl) ?_
    refine EP_passT rfl rfl rfl hg2 rfl (fun _ => RdS.of hs rfl rfl) ?_
    refine EP_passTU rfl rfl rfl rfl (fun _ => RdS.of hs rfl rfl) ?_
    refine EP_passTU rfl rfl rfl rfl (fun _ => RdS.of hs rfl rfl) ?_
    refine EP_passTU rfl rfl rfl rfl (fun _ => RdS.of hs rfl rfl) ?_
    refine EP_passTU rfl rfl rfl rfl (fun _ => RdS.of hs rfl rfl) ?_
    refine EP_passTU rfl rfl rfl rfl (fun _ => RdS.of hs rfl rfl) ?_
    refine EP_passTU rfl rfl rfl rfl (fun _ => RdS.of hs rfl rfl) ?_
    refine EP_passTU rfl rfl rfl rfl (fun _ => RdS.of hs rfl rfl) ?_
    refine EP_passTU rfl rfl rfl rfl (fun _ => RdS.of hs rfl rfl) ?_
    refine EP_passTU rfl rfl rfl rfl (fun _ => RdS.of hs rfl rfl) ?_
    refine EP_passFU rfl rfl rfl rfl (fun _ => RdS.of hs rfl rfl) ?_
    refine EP_passTU rfl rfl rfl rfl (fun _ => RdS.of hs rfl rfl) ?_
    refine EP_passTU rfl rfl rfl rfl (fun _ => RdS.of hs rfl rfl) ?_
    refine EP_passT rfl rfl rfl hg2 rfl (fun _ => RdS.of hs rfl rfl) ?_
    refine EP_take rfl rfl rfl (fun _ => R_pickT rfl hg2 rfl) ?_
    refine EP_done ?_
    refine EC_cond rfl (fun hcx => ?_) (fun hcx => ?_)
    ·skip
     have hgv : alTake m n sp = (m, 0, 15) := by
       rw [alTake, if_neg hc12p, hat, htt, if_pos (by first | exact .inl hg2p | exact .inr ⟨hg5p, hc40p⟩)]
     refine EC_rseq ?_
     refine EL_run rfl (R_assign rfl) ?_
     refine EL_run rfl (R_assign rfl) ?_
     refine EL_nil ?_
     refine EC_ret ?_
     refine Then_r ?_
     exact ⟨[_, _], ⟨rfl, rfl, trivial⟩, _, _, ⟨g.fo, g.fc, by rw [hgv]; rfl, rfl, rfl⟩, (hs.fin [true] [0]).as (by rw [hgv]; rfl) (by rw [hgv]; rfl)⟩
    ·exact Bool.noConfusion hcx
   ·have hg2p := cvt hg2; try dsimp only at hg2p
    refine EP_takeG rfl rfl rfl hg2 rfl rfl (fun _ => R_move rfl) ?_
    refine EP_takeG rfl rfl rfl hg2 rfl rfl (fun _ => R_not rfl) ?_
    refine EP_takeG rfl rfl rfl hg2 rfl rfl (fun _ => R_move rfl) ?_
    refine EP_split 26 rfl (fun hg5 => ?_) (fun hg5 => ?_)
    ·have hg5p := cvt hg5; try dsimp only at hg5p
     refine EP_takeG rfl rfl rfl hg5 rfl rfl (fun _ => R_move rfl) ?_
     refine EP_takeG rfl rfl rfl hg5 rfl rfl (fun _ => R_nilCheck rfl) ?_
     refine EP_takeG rfl rfl rfl hg5 rfl rfl (fun _ => R_field fo_217_3 rfl) ?_
     refine EP_readG rfl rfl rfl hg5 rfl rfl (RdS.of hs rfl rfl) (fun _ hR => R_lb (hR.e 0 rfl rfl) Tryz.isAgg74 rfl rfl) ?_
     refine EP_takeG rfl rfl rfl hg5 rfl rfl (fun _ => R_move rfl) ?_
     refine EP_takeG rfl rfl rfl hg5 rfl rfl (fun _ => R_move rfl) ?_
     refine EP_takeG rfl rfl rfl hg5 rfl rfl (fun _ => R_nilCheck rfl) ?_
     refine EP_takeG rfl rfl rfl hg5 rfl rfl (fun _ => R_field fo_217_2 rfl) ?_
     refine EP_readG rfl rfl rfl hg5 rfl rfl (RdS.of hs rfl rfl) (fun _ hR => R_lb (hR.e 0 rfl rfl) Tryz.isAgg3 rfl rfl) ?_
     refine EP_actG rfl rfl rfl hg5 rfl (O_call hs [] [0] rfl rfl rfl Tryz.call36 ((htt ▸ total_spec g.fo g.fc m.free (by omega))) (fun v es1 ds1 w hPhi hs => ?_))
     obtain ⟨rfl, rfl, rfl⟩ := hPhi
     refine ⟨(fun _ => RdS.of hs rfl rfl), ?_⟩
     refine EP_takeG rfl rfl rfl hg5 rfl rfl (fun _ => R_subI rfl rfl (by omega)) ?_
     refine EP_takeG rfl rfl rfl hg5 rfl rfl (fun _ => R_lss rfl rfl) ?_
     refine EP_takeG rfl rfl rfl hg2 rfl rfl (fun _ => R_pickT rfl hg5 rfl) ?_
     refine EP_take rfl rfl rfl (fun _ => R_pickF rfl hg2 rfl) ?_
     refine EP_done ?_
     refine EC_cond rfl (fun hc40 => ?_) (fun hc40 => ?_)
     ·have hc40p := cvt hc40; try dsimp only at hc40p
      have hgv : alTake m n sp = (m, 0, 15) := by
        rw [alTake, if_neg hc12p, hat, htt, if_pos (by first | exact .inl hg2p | exact .inr ⟨hg5p, hc40p⟩)]
      refine EC_rseq ?_
      refine EL_run rfl (R_assign rfl) ?_
      refine EL_run rfl (R_assign rfl) ?_
      refine EL_nil ?_
      refine EC_ret ?_
      refine Then_r ?_
      exact ⟨[_, _], ⟨rfl, rfl, trivial⟩, _, _, ⟨g.fo, g.fc, by rw [hgv]; rfl, rfl, rfl⟩, (hs.fin [true] [0]).as (by rw [hgv]; rfl) (by rw [hgv]; rfl)⟩
     ·have hc40p := cvt hc40; try dsimp only at hc40p
      refine EC_skip ?_
      refine Then_n ?_
      have hgv : alTake m n sp = ({ m with free := spRemove m.free ⟨at_, at_ + n⟩ }, at_, 0) := by
        rw [alTake, if_neg hc12p, hat, htt, if_neg (by rintro (h | ⟨h1, h2⟩); exact hg2p h; first | exact hc40p h2 | exact Bool.noConfusion (h1.symm.trans hg5p))]
      refine EC_rseq ?_
      refine EL_run rfl (R_move rfl) ?_
      refine EL_run rfl (R_move rfl) ?_
      refine EL_run rfl (R_nilCheck rfl) ?_
      refine EL_run rfl (R_field fo_217_3 rfl) ?_
      refine EL_run rfl (R_lb (hs.at (i := 0) rfl) Tryz.isAgg74 rfl rfl) ?_
      refine EL_run rfl (R_move rfl) ?_
      refine EL_run rfl (R_move rfl) ?_
      refine EL_run rfl (R_move rfl) ?_
      refine EL_run rfl (R_addI rfl rfl (by omega)) ?_
      refine EL_run rfl (R_buildS (cs := (Sp.mk at_ (at_ + n)).l.toArray) [(0, .tmp 46), (1, .tmp 49)] pl_211 Tryz.zeroValue211 rfl rfl rfl) ?_
      refine EL_op rfl (O_call hs [] [0] rfl rfl rfl Tryz.call242 (spRemove_spec g.fo g.fc m.free ⟨at_, at_ + n⟩ (by omega)) (fun v es1 ds1 w hPhi hs => ?_))
      obtain ⟨rfl, rfl⟩ := hPhi
      obtain ⟨ao9, c9, rfl, hs⟩ := hs.freezeSl (i := 1) rfl
      refine EL_run rfl (R_nilCheck rfl) ?_
      refine EL_run rfl (R_field fo_217_3 rfl) ?_
      refine EL_op rfl (O_store hs (i := 0) rfl Tryz.sizeOf74 rfl rfl rfl rfl (fun w hs => ?_))
      refine EL_nil ?_
      refine EC_rseq ?_
      refine EL_run rfl (R_move rfl) ?_
      refine EL_run rfl (R_assign rfl) ?_
      refine EL_run rfl (R_assign rfl) ?_
      refine EL_nil ?_
      refine EC_ret ?_
      exact ⟨[_, _], ⟨rfl, rfl, trivial⟩, _, _, ⟨ao9, c9, by rw [hgv]; rfl, rfl, rfl⟩, (hs.fin [true] [1]).as (by rw [hgv]; rfl) (by rw [hgv]; rfl)⟩
    ·have hg5p := cvt hg5; try dsimp only at hg5p
     refine EP_passT rfl rfl rfl hg5 rfl (fun _ => RdS.of hs rfl rfl) ?_
     refine EP_passT rfl rfl rfl hg5 rfl (fun _ => RdS.of hs rfl rfl) ?_
     refine EP_passT rfl rfl rfl hg5 rfl (fun _ => RdS.of hs rfl rfl) ?_
     refine EP_passT rfl rfl rfl hg5 rfl (fun _ => RdS.of hs rfl rfl) ?_
     refine EP_passT rfl rfl rfl hg5 rfl (fun _ => RdS.of hs rfl rfl) ?_
     refine EP_passT rfl rfl rfl hg5 rfl (fun _ => RdS.of hs rfl rfl) ?_
     refine EP_passT rfl rfl rfl hg5 rfl (fun _ => RdS.of hs rfl rfl) ?_
     refine EP_passT rfl rfl rfl hg5 rfl (fun _ => RdS.of hs rfl rfl) ?_
     refine EP_passT rfl rfl rfl hg5 rfl (fun _ => RdS.of hs rfl rfl) ?_
     refine EP_passF rfl rfl rfl hg5 rfl (fun _ => RdS.of hs rfl rfl) ?_
     refine EP_passT rfl rfl rfl hg5 rfl (fun _ => RdS.of hs rfl rfl) ?_
     refine EP_passT rfl rfl rfl hg5 rfl (fun _ => RdS.of hs rfl rfl) ?_
     refine EP_takeG rfl rfl rfl hg2 rfl rfl (fun _ => R_pickF rfl hg5 rfl) ?_
     refine EP_take rfl rfl rfl (fun _ => R_pickF rfl hg2 rfl) ?_
     refine EP_done ?_
     refine EC_cond rfl (fun hcx => ?_) (fun hcx => ?_)
     ·exact Bool.noConfusion hcx
     ·skip
      refine EC_skip ?_
      refine Then_n ?_
      have hgv : alTake m n sp = ({ m with free := spRemove m.free ⟨at_, at_ + n⟩ }, at_, 0) := by
        rw [alTake, if_neg hc12p, hat, htt, if_neg (by rintro (h | ⟨h1, h2⟩); exact hg2p h; first | exact hc40p h2 | exact Bool.noConfusion (h1.symm.trans hg5p))]
      refine EC_rseq ?_
      refine EL_run rfl (R_move rfl) ?_
      refine EL_run rfl (R_move rfl) ?_
      refine EL_run rfl (R_nilCheck rfl) ?_
      refine EL_run rfl (R_field fo_217_3 rfl) ?_
      refine EL_run rfl (R_lb (hs.at (i := 0) rfl) Tryz.isAgg74 rfl rfl) ?_
      refine EL_run rfl (R_move rfl) ?_
      refine EL_run rfl (R_move rfl) ?_
      refine EL_run rfl (R_move rfl) ?_
      refine EL_run rfl (R_addI rfl rfl (by omega)) ?_
      refine EL_run rfl (R_buildS (cs := (Sp.mk at_ (at_ + n)).l.toArray) [(0, .tmp 46), (1, .tmp 49)] pl_211 Tryz.zeroValue211 rfl rfl rfl) ?_
      refine EL_op rfl (O_call hs [] [0] rfl rfl rfl Tryz.call242 (spRemove_spec g.fo g.fc m.free ⟨at_, at_ + n⟩ (by omega)) (fun v es1 ds1 w hPhi hs => ?_))
      obtain ⟨rfl, rfl⟩ := hPhi
      obtain ⟨ao9, c9, rfl, hs⟩ := hs.freezeSl (i := 1) rfl
      refine EL_run rfl (R_nilCheck rfl) ?_
      refine EL_run rfl (R_field fo_217_3 rfl) ?_
      refine EL_op rfl (O_store hs (i := 0) rfl Tryz.sizeOf74 rfl rfl rfl rfl (fun w hs => ?_))
      refine EL_nil ?_
      refine EC_rseq ?_
      refine EL_run rfl (R_move rfl) ?_
      refine EL_run rfl (R_assign rfl) ?_
      refine EL_run rfl (R_assign rfl) ?_
      refine EL_nil ?_
      refine EC_ret ?_
      exact ⟨[_, _], ⟨rfl, rfl, trivial⟩, _, _, ⟨ao9, c9, by rw [hgv]; rfl, rfl, rfl⟩, (hs.fin [true] [1]).as (by rw [hgv]; rfl) (by rw [hgv]; rfl)⟩

set_option maxRecDepth 100000 in
theorem alNew_spec (lo hi res : Int) {w0 : World} (h : 0 ≤ lo ∧ lo ≤ hi ∧ hi ≤ 8192 ∧ 0 ≤ res ∧ res ≤ hi - lo) : Spec Tryz.prog 93 #[.int .i64 lo, .int .i64 hi, .int .i64 res] w0 [] [] (fun v es1 ds1 => ∃ a g, v = .tuple #[.pointer (some ⟨a, 0, none⟩), .int .i64 0] ∧ g.ok ⟨lo, hi, res, spAdd [] ⟨lo, hi⟩, [], spAdd [] ⟨lo, hi⟩⟩ ∧ es1 = alE a g ⟨lo, hi, res, spAdd [] ⟨lo, hi⟩, [], spAdd [] ⟨lo, hi⟩⟩ ∧ ds1 = alD g ⟨lo, hi, res, spAdd [] ⟨lo, hi⟩, [], spAdd [] ⟨lo, hi⟩⟩) := by
 refine Spec.intro (fun F D hs => ?_)
 refine Calls_of_EC (args := [.int .i64 lo, .int .i64 hi, .int .i64 res]) Tryz.func93 rfl rfl rfl ?_
 refine EC_rseq ?_
 refine EL_run rfl (R_assign rfl) ?_
 refine EL_run rfl (R_assign rfl) ?_
 refine EL_nil ?_
 refine EC_seq ?_
 refine EC_rseq ?_
 refine EL_run rfl (R_move rfl) ?_
 refine EL_run rfl (R_lss rfl rfl) ?_
 refine EL_run rfl (R_move rfl) ?_
 refine EL_split 12 rfl (fun hg2 => ?_) (fun hg2 => ?_)
 ·exact absurd (of_decide_eq_true hg2) (by omega)
 ·have hg2p := cvt hg2; try dsimp only at hg2p
  refine EL_want rfl rfl hg2 ?_
  refine EL_run rfl (R_move rfl) ?_
  refine EL_want rfl rfl hg2 ?_
  refine EL_run rfl (R_move rfl) ?_
  refine EL_want rfl rfl hg2 ?_
  refine EL_run rfl (R_lss rfl rfl) ?_
  refine EL_run rfl (R_pickF rfl hg2 rfl) ?_
  refine EL_run rfl (R_move rfl) ?_
  refine EL_split 17 rfl (fun hg7 => ?_) (fun hg7 => ?_)
  ·exact absurd (of_decide_eq_true hg7) (by omega)
  ·have hg7p := cvt hg7; try dsimp only at hg7p
   refine EL_want rfl rfl hg7 ?_
   refine EL_run rfl (R_move rfl) ?_
   refine EL_want rfl rfl hg7 ?_
   refine EL_run rfl (R_gtr rfl rfl) ?_
   refine EL_run rfl (R_pickF rfl hg7 rfl) ?_
   refine EL_run rfl (R_move rfl) ?_
   refine EL_split 21 rfl (fun hg11 => ?_) (fun hg11 => ?_)
   ·exact absurd (of_decide_eq_true hg11) (by omega)
   ·have hg11p := cvt hg11; try dsimp only at hg11p
    refine EL_want rfl rfl hg11 ?_
    refine EL_run rfl (R_move rfl) ?_
    refine EL_want rfl rfl hg11 ?_
    refine EL_run rfl (R_lss rfl rfl) ?_
    refine EL_run rfl (R_pickF rfl hg11 rfl) ?_
    refine EL_run rfl (R_move rfl) ?_
    refine EL_split 25 rfl (fun hg15 => ?_) (fun hg15 => ?_)
    ·exact absurd (of_decide_eq_true hg15) (by omega)
    ·have hg15p := cvt hg15; try dsimp only at hg15p
     refine EL_want rfl rfl hg15 ?_
     refine EL_run rfl (R_move rfl) ?_
     refine EL_want rfl rfl hg15 ?_
     refine EL_run rfl (R_move rfl) ?_
     refine EL_want rfl rfl hg15 ?_
     refine EL_run rfl (R_move rfl) ?_
     refine EL_want rfl rfl hg15 ?_
     refine EL_run rfl (R_subI rfl rfl (by omega)) ?_
     refine EL_want rfl rfl hg15 ?_
     refine EL_run rfl (R_gtr rfl rfl) ?_
     refine EL_run rfl (R_pickF rfl hg15 rfl) ?_
     refine EL_nil ?_
     refine EC_cond rfl (fun hc31 => ?_) (fun hc31 => ?_)
     ·exact absurd (of_decide_eq_true hc31) (by omega)
     ·have hc31p := cvt hc31; try dsimp only at hc31p
      refine EC_skip ?_
      refine Then_n ?_
      refine EC_rseq ?_
      refine EL_run rfl (R_move rfl) ?_
      refine EL_run rfl (R_move rfl) ?_
      refine EL_run rfl (R_buildS (cs := (Sp.mk lo hi).l.toArray) [(0, .tmp 32), (1, .tmp 33)] pl_211 Tryz.zeroValue211 rfl rfl rfl) ?_
      refine EL_op rfl (O_alloc hs rfl Tryz.zeroValue211 (fun b8 w hb8 hs => ?_))
      refine EL_op rfl (O_storeW hs (i := 0) rfl sz_211 rfl rfl rfl rfl (Sp.oneA _) (fun w hs => ?_))
      refine EL_nil ?_
      have hs := hs.nilD 2
      refine EC_rseq ?_
      refine EL_run rfl (R_lw (hs.at (i := 0) rfl) Tryz.isAgg211 Tryz.sizeOf211 rfl rfl) ?_
      refine EL_op rfl (O_call hs [] [0] rfl rfl rfl Tryz.call115 (spAdd_spec none 0 [] ⟨lo, hi⟩ (by simp)) (fun v es1 ds1 w hPhi hs => ?_))
      obtain ⟨rfl, rfl⟩ := hPhi
      obtain ⟨ao9, c9, rfl, hs⟩ := hs.freezeSl (i := 1) rfl
      generalize spAdd [] ⟨lo, hi⟩ = fr at *
      refine EL_run rfl (R_assign rfl) ?_
      refine EL_nil ?_
      refine EC_rseq ?_
      refine EL_run rfl (R_lw (hs.at (i := 0) rfl) Tryz.isAgg211 Tryz.sizeOf211 rfl rfl) ?_
      refine EL_run rfl (R_move rfl) ?_
      refine EL_run rfl (R_move rfl) ?_
      refine EL_op rfl (O_makeMap hs rfl (fun b40 w hb40 hs => ?_))
      refine EL_run rfl (R_move rfl) ?_
      refine EL_run rfl (R_buildS (cs := (alCells ⟨b40, none, 0, false, ao9, c9, ao9, c9⟩ ⟨lo, hi, res, fr, [], fr⟩)) [(0, .tmp 37), (1, .const (.bool true)), (2, .tmp 38), (3, .tmp 39), (4, .tmp 40), (5, .tmp 41)] pl_217 Tryz.zeroValue217 rfl rfl (by kernel_rfl)) ?_
      refine EL_op rfl (O_box hs rfl rfl (fun b43 w hb43 hs => ?_))
      refine EL_run rfl (R_assign rfl) ?_
      have hs := ((hs.nilSl 211 2).fin [false, true, true, true] [1]).swap01
      refine EL_run rfl (R_assign rfl) ?_
      refine EL_nil ?_
      refine EC_ret ?_
      exact ⟨[_, _], ⟨rfl, rfl, trivial⟩, _, _, ⟨b43, ⟨b40, none, 0, false, ao9, c9, ao9, c9⟩, rfl, (fun _ => ⟨rfl, rfl, rfl⟩), rfl, rfl⟩, (hs.fin [true, true, true] [0, 0]).as rfl rfl⟩
end Go.Proofs.YtpcojkbljgpecaaGreat
namespace Go.Proofs.YtpcojkbljgpecaaGreat
open Go
structure PoM where
  di : DiM
  al : AlM
  epoch : Int
  spare : Bool
  killed : List Ptr
structure PoG where
  d : Nat
  dg : DiG
  a : Nat
  ag : AlG
  ko : Option Addr
  kc : Nat
def poKs (g : PoG) (m : PoM) : Value := .slice g.ko m.killed.length g.kc
def poCells (g : PoG) (m : PoM) : Array Value := #[.pointer (some ⟨g.d, 0, none⟩), .pointer (some ⟨g.a, 0, none⟩), .int .i64 m.epoch, .bool m.spare, poKs g m]
abbrev poE (p : Nat) (g : PoG) (m : PoM) : List Asn := blk p (poCells g m) 28 :: oSl (poKs g m) 32 36 m.killed.length (m.killed.flatMap Ptr.l) :: (diE g.d g.dg m.di ++ alE g.a g.ag m.al)
abbrev poD (g : PoG) (m : PoM) : List Asn := [dS g.ag.fo g.ag.fc m.al.free]
structure PoM.ok (g : PoG) (m : PoM) : Prop where
  di : m.di.ok
  al : m.al.ok
  ag : g.ag.ok m.al
  some : m.al.lo < m.al.hi
  kl : m.killed.length ≤ 100000
def Ptr.span (p : Ptr) : Sp := ⟨p.pos, p.pos + sectors p.len⟩
def poKill (m : PoM) (p : Ptr) : PoM × Int :=
  if p.right = false then (m, 2)
  else if p.birth = m.epoch then ({ m with al := (alGive m.al p.span).1 }, (alGive m.al p.span).2)
  else ({ m with killed := m.killed ++ [p] }, 0)
def poLay (m : PoM) (b : BL) : PoM × Ptr × Int :=
  if sectors b.length = 0 ∨ (Ptr.bare 2 m.epoch b.length).right = false then (m, Ptr.none, 2)
  else if (alTake m.al (sectors b.length) m.spare).2.2 ≠ 0 then ({ m with al := (alTake m.al (sectors b.length) m.spare).1 }, Ptr.none, (alTake m.al (sectors b.length) m.spare).2.2)
  else if (blkWrite m.di (alTake m.al (sectors b.length) m.spare).2.1 m.epoch b).2.2 ≠ 0 then
    ({ m with di := (blkWrite m.di (alTake m.al (sectors b.length) m.spare).2.1 m.epoch b).1, al := (alGive (alTake m.al (sectors b.length) m.spare).1 ⟨(alTake m.al (sectors b.length) m.spare).2.1, (alTake m.al (sectors b.length) m.spare).2.1 + sectors b.length⟩).1 }, (blkWrite m.di (alTake m.al (sectors b.length) m.spare).2.1 m.epoch b).2)
  else ({ m with di := (blkWrite m.di (alTake m.al (sectors b.length) m.spare).2.1 m.epoch b).1, al := (alTake m.al (sectors b.length) m.spare).1 }, (blkWrite m.di (alTake m.al (sectors b.length) m.spare).2.1 m.epoch b).2)
theorem poLay_take (m : PoM) (b : BL) (h : ¬ (sectors (b.length : Int) = 0 ∨ (Ptr.bare 2 m.epoch b.length).right = false)) : poLay m b =
    if (alTake m.al (sectors b.length) m.spare).2.2 ≠ 0 then ({ m with al := (alTake m.al (sectors b.length) m.spare).1 }, Ptr.none, (alTake m.al (sectors b.length) m.spare).2.2)
    else if (blkWrite m.di (alTake m.al (sectors b.length) m.spare).2.1 m.epoch b).2.2 ≠ 0 then
      ({ m with di := (blkWrite m.di (alTake m.al (sectors b.length) m.spare).2.1 m.epoch b).1, al := (alGive (alTake m.al (sectors b.length) m.spare).1 ⟨(alTake m.al (sectors b.length) m.spare).2.1, (alTake m.al (sectors b.length) m.spare).2.1 + sectors b.length⟩).1 }, (blkWrite m.di (alTake m.al (sectors b.length) m.spare).2.1 m.epoch b).2)
    else ({ m with di := (blkWrite m.di (alTake m.al (sectors b.length) m.spare).2.1 m.epoch b).1, al := (alTake m.al (sectors b.length) m.spare).1 }, (blkWrite m.di (alTake m.al (sectors b.length) m.spare).2.1 m.epoch b).2) := by
  rw [poLay, if_neg h]
theorem alTake_waits (m : AlM) (n : Int) (sp : Bool) : (alTake m n sp).1.waits = m.waits := by
  unfold alTake
  repeat' split
  all_goals rfl
theorem alTake_gok {g : AlG} {m : AlM} {n : Int} {sp : Bool} {fo : Option Addr} {fc : Nat} (h : g.ok m) : AlG.ok { g with fo := fo, fc := fc } (alTake m n sp).1 := by
  intro hh
  rw [alTake_waits]
  exact h hh
theorem alGive_gok {g : AlG} {m : AlM} {s : Sp} {fo : Option Addr} {fc : Nat} (h : g.ok m) : AlG.ok { g with fo := fo, fc := fc } (alGive m s).1 := by
  intro hh
  have hw : (alGive m s).1.waits = m.waits := by
    unfold alGive
    split <;> rfl
  rw [hw]
  exact h hh
theorem alTake_range {m : AlM} (h : valid m.free = true) (n : Int) (sp : Bool) : 0 ≤ (alTake m n sp).2.1 ∧ (alTake m n sp).2.1 ≤ 1099511627776 := by
  have := spFind_le (n := n) h
  unfold alTake
  repeat' split
  all_goals simp only
  all_goals omega
theorem alE_of {a : Nat} {g : AlG} {m m1 : AlM} {fo : Option Addr} {fc : Nat} (hw : m1.waits = m.waits) : alE a { g with fo := fo, fc := fc } m1 = [blk a (alCells { g with fo := fo, fc := fc } m1) 217, mpA g.mb (alMap g m), oSl (alW g m) 211 2 m.waits.length (m.waits.flatMap Sp.l)] := by
  unfold alE alMap alW
  rw [hw]
theorem poE_of {p : Nat} {g : PoG} {m : PoM} {m1 : AlM} {fo : Option Addr} {fc : Nat} (hw : m1.waits = m.al.waits) : poE p { g with ag := { g.ag with fo := fo, fc := fc } } { m with al := m1 } = blk p (poCells g m) 28 :: oSl (poKs g m) 32 36 m.killed.length (m.killed.flatMap Ptr.l) :: (diE g.d g.dg m.di ++ [blk g.a (alCells { g.ag with fo := fo, fc := fc } m1) 217, mpA g.ag.mb (alMap g.ag m.al), oSl (alW g.ag m.al) 211 2 m.al.waits.length (m.al.waits.flatMap Sp.l)]) := by
  unfold poE
  simp only
  rw [alE_of hw]
  rfl
theorem spRemove_len (l : List Sp) (s : Sp) : (spRemove l s).length ≤ 3 * l.length := by
  unfold spRemove
  split
  · have h1 := remGo_le s (l.drop (firstAt l (s.a + 1)))
    rw [List.length_drop] at h1
    have h2 := spReplace_len l (firstAt l (s.a + 1)) (firstAt l (s.a + 1) + (remGo s (l.drop (firstAt l (s.a + 1)))).2) (remGo s (l.drop (firstAt l (s.a + 1)))).1 (by omega)
    omega
  · omega
theorem alUse_sum (m : AlM) : total m.free + alUse m + total (alWaiting m) = m.hi - m.lo := by unfold alUse; omega
end Go.Proofs.YtpcojkbljgpecaaGreat
namespace Go.Proofs.YtpcojkbljgpecaaGreat
open Go
set_option maxRecDepth 100000 in
theorem ready_spec (p : Nat) (g : PoG) (m : PoM) {w0 : World} (hm : m.ok g) : Spec Tryz.prog 94 #[.pointer (some ⟨p, 0, none⟩)] w0 (poE p g m) (poD g m) (fun v es1 ds1 => v = .int .i64 0 ∧ es1 = (poE p g m) ∧ ds1 = []) := by
 refine Spec.intro (fun F D hs => ?_)
 refine Calls_of_EC (args := [.pointer (some ⟨p, 0, none⟩)]) Tryz.func94 rfl rfl rfl ?_
 refine EC_rseq ?_
 refine EL_run rfl (R_assign rfl) ?_
 refine EL_nil ?_
 refine EC_seq ?_
 have hsum := alUse_sum m.al
 have hr1 := total_range m.al.free
 have hr2 := total_range (alWaiting m.al)
 have hlf := hm.al.lf
 have hlw := hm.al.lw
 have hfl : (alWaiting m.al).length ≤ m.al.waits.length := spFold_len m.al.waits
 have hlo := hm.al.lo
 have hso := hm.some
 refine EC_dseqS hs [7, 15, 20, 26] [6, 14, 19, 25] [0] [] (.take 0 (.take 1 (.take 2 (.take 3 (.take 4 (.take 5 (.take 6 (.fork 7 (.take 8 (.take 9 (.take 10 (.take 11 (.take 12 (.take 13 (.take 14 (.take 16 (.take 17 (.take 18 (.take 19 (.take 22 (.take 23 (.take 24 (.take 25 (.fork 15 (.fork 20 (.take 21 (.fork 26 (.take 27 (.take 28 (.take 29 .done))) (.done))) (.done)) (.done))))))))))))))))) (.done))))))))) mix_ok (by kernel_rfl) (fun w hs _ => ?_)
 refine EP_take rfl rfl rfl (fun _ => R_move rfl) ?_
 refine EP_take rfl rfl rfl (fun _ => R_eqlPtrNil Tryz.underlying22 rfl rfl) ?_
 refine EP_take rfl rfl rfl (fun _ => R_move rfl) ?_
 refine EP_split 5 rfl (fun hg2 => ?_) (fun hg2 => ?_)
 ·exact Bool.noConfusion hg2
 ·have hg2p := cvt hg2; try dsimp only at hg2p
  refine EP_takeG rfl rfl rfl hg2 rfl rfl (fun _ => R_move rfl) ?_
  refine EP_takeG rfl rfl rfl hg2 rfl rfl (fun _ => R_nilCheck rfl) ?_
  refine EP_takeG rfl rfl rfl hg2 rfl rfl (fun _ => R_field fo_28_0 rfl) ?_
  refine EP_readG rfl rfl rfl hg2 rfl rfl (RdS.of hs rfl rfl) (fun _ hR => R_lb (hR.e 0 rfl rfl) Tryz.isAgg24 rfl rfl) ?_
  refine EP_actG rfl rfl rfl hg2 rfl (O_call hs [false, false, true] [] rfl rfl rfl Tryz.call159 (diLen_spec g.d g.dg m.di) (fun v es1 ds1 w hPhi hs => ?_))
  obtain ⟨rfl, rfl, rfl⟩ := hPhi
  refine ⟨(fun _ => RdS.of hs rfl rfl), ?_⟩
  refine EP_takeG rfl rfl rfl hg2 rfl rfl (fun _ => R_eql rfl rfl) ?_
  refine EP_take rfl rfl rfl (fun _ => R_pickF rfl hg2 rfl) ?_
  refine EP_take rfl rfl rfl (fun _ => R_move rfl) ?_
  refine EP_split 13 rfl (fun hg10 => ?_) (fun hg10 => ?_)
  ·exact absurd (of_decide_eq_true hg10) (by have := hm.di.len; omega)
  ·have hg10p := cvt hg10; try dsimp only at hg10p
   refine EP_takeG rfl rfl rfl hg10 rfl rfl (fun _ => R_move rfl) ?_
   refine EP_takeG rfl rfl rfl hg10 rfl rfl (fun _ => R_nilCheck rfl) ?_
   refine EP_takeG rfl rfl rfl hg10 rfl rfl (fun _ => R_field fo_28_1 rfl) ?_
   refine EP_readG rfl rfl rfl hg10 rfl rfl (RdS.of hs rfl rfl) (fun _ hR => R_lb (hR.e 0 rfl rfl) Tryz.isAgg25 rfl rfl) ?_
   refine EP_takeG rfl rfl rfl hg10 rfl rfl (fun _ => R_move rfl) ?_
   refine EP_takeG rfl rfl rfl hg10 rfl rfl (fun _ => R_nilCheck rfl) ?_
   refine EP_takeG rfl rfl rfl hg10 rfl rfl (fun _ => R_field fo_28_1 rfl) ?_
   refine EP_readG rfl rfl rfl hg10 rfl rfl (RdS.of hs rfl rfl) (fun _ hR => R_lb (hR.e 0 rfl rfl) Tryz.isAgg25 rfl rfl) ?_
   refine EP_takeG rfl rfl rfl hg10 rfl rfl (fun _ => R_move rfl) ?_
   refine EP_takeG rfl rfl rfl hg10 rfl rfl (fun _ => R_nilCheck rfl) ?_
   refine EP_takeG rfl rfl rfl hg10 rfl rfl (fun _ => R_field fo_28_1 rfl) ?_
   refine EP_readG rfl rfl rfl hg10 rfl rfl (RdS.of hs rfl rfl) (fun _ hR => R_lb (hR.e 0 rfl rfl) Tryz.isAgg25 rfl rfl) ?_
   refine EP_actG rfl rfl rfl hg10 rfl (O_call hs [false, false, false, false, false, true] [0] rfl rfl rfl Tryz.call118 (alFree_spec g.a g.ag m.al hm.al) (fun v es1 ds1 w hPhi hs => ?_))
   obtain ⟨rfl, rfl, rfl⟩ := hPhi
   refine ⟨(fun _ => RdS.of hs rfl rfl), ?_⟩
   refine EP_actG rfl rfl rfl hg10 rfl (O_call hs [false, false, false, false, false, true, true, true] [0] rfl rfl rfl Tryz.call37 (alUse_spec g.a g.ag m.al hm.ag hm.al) (fun v es1 ds1 w hPhi hs => ?_))
   obtain ⟨rfl, rfl, rfl⟩ := hPhi
   refine ⟨(fun _ => RdS.of hs rfl rfl), ?_⟩
   refine EP_takeG rfl rfl rfl hg10 rfl rfl (fun _ => R_addI rfl rfl (by omega)) ?_
   refine EP_actG rfl rfl rfl hg10 rfl (O_call hs [false, false, false, false, false, true, true, true] [] rfl rfl rfl Tryz.call119 (alWait_spec g.a g.ag m.al hm.ag hm.al) (fun v es1 ds1 w hPhi hs => ?_))
   obtain ⟨rfl, rfl, rfl⟩ := hPhi
   refine ⟨(fun _ => RdS.of hs rfl rfl), ?_⟩
   refine EP_takeG rfl rfl rfl hg10 rfl rfl (fun _ => R_addI rfl rfl (by omega)) ?_
   refine EP_takeG rfl rfl rfl hg10 rfl rfl (fun _ => R_eql rfl rfl) ?_
   refine EP_take rfl rfl rfl (fun _ => R_pickF rfl hg10 rfl) ?_
   refine EP_done ?_
   refine EC_cond rfl (fun hc32 => ?_) (fun hc32 => ?_)
   ·exact absurd (of_decide_eq_true hc32) (by omega)
   ·have hc32p := cvt hc32; try dsimp only at hc32p
    refine EC_skip ?_
    refine Then_n ?_
    refine EC_rseq ?_
    refine EL_run rfl (R_assign rfl) ?_
    refine EL_nil ?_
    refine EC_ret ?_
    exact ⟨[_], ⟨rfl, trivial⟩, _, _, ⟨rfl, rfl, rfl⟩, (hs.fin [true, true, true, true, true, true, true, true] []).as rfl rfl⟩

set_option maxRecDepth 100000 in
theorem span_spec (q : Ptr) {w0 : World} (hq : q.right = true) : Spec Tryz.prog 250 #[q.val] w0 [] [] (fun v es1 ds1 => v = q.span.val ∧ es1 = [] ∧ ds1 = []) := by
 refine Spec.intro (fun F D hs => ?_)
 refine Calls_of_EC (args := [q.val]) Tryz.func250 rfl rfl rfl ?_
 refine EC_rseq ?_
 refine EL_op rfl (O_box hs rfl rfl (fun b1 w hb1 hs => ?_))
 refine EL_op rfl (O_alloc hs rfl Tryz.zeroValue211 (fun b2 w hb2 hs => ?_))
 refine EL_nil ?_
 refine EC_dseqS hs [5, 8] [1, 3, 4] [0] [] (.take 0 (.take 1 (.take 2 (.take 3 (.take 4 (.fork 5 (.take 6 (.take 7 (.fork 8 .done (.done)))) (.done))))))) mix_ok (by kernel_rfl) (fun w hs _ => ?_)
 refine EP_take rfl rfl rfl (fun _ => R_field fo_32_0 rfl) ?_
 refine EP_read rfl rfl rfl (RdS.of hs rfl rfl) (fun _ hR => R_lb (hR.e 0 rfl rfl) Tryz.isAgg3 rfl rfl) ?_
 refine EP_take rfl rfl rfl (fun _ => R_field fo_32_0 rfl) ?_
 refine EP_read rfl rfl rfl (RdS.of hs rfl rfl) (fun _ hR => R_lb (hR.e 0 rfl rfl) Tryz.isAgg3 rfl rfl) ?_
 refine EP_read rfl rfl rfl (RdS.of hs rfl rfl) (fun _ hR => R_lw (hR.e 0 rfl rfl) Tryz.isAgg32 Tryz.sizeOf32 rfl (Ptr.size q)) ?_
 refine EP_act rfl rfl (O_call hs [] [] rfl rfl rfl Tryz.call113 (sectors_spec q) (fun v es1 ds1 w hPhi hs => ?_))
 obtain ⟨rfl, rfl, rfl⟩ := hPhi
 have hsr := sectors_range q.len
 have hri := Ptr.right_iff.1 hq
 refine ⟨(fun _ => RdS.of hs rfl rfl), ?_⟩
 refine EP_take rfl rfl rfl (fun _ => R_addI rfl rfl (by omega)) ?_
 refine EP_take rfl rfl rfl (fun _ => R_buildS (cs := q.span.l.toArray) [(0, .tmp 4), (1, .tmp 9)] pl_211 Tryz.zeroValue211 rfl rfl rfl) ?_
 refine EP_act rfl rfl (O_storeW hs (i := 1) rfl sz_211 rfl rfl rfl rfl (Sp.oneA _) (fun w hs => ⟨(rq_no (by kernel_rfl)), ?_⟩))
 refine EP_done ?_
 refine EC_ret ?_
 exact ⟨[_], ⟨res_cell hs (i := 1) rfl Tryz.sizeOf211 Tryz.isAgg211 rfl rfl, trivial⟩, _, _, ⟨rfl, rfl, rfl⟩, (hs.fin [] []).as rfl rfl⟩

set_option maxRecDepth 100000 in
theorem kill_spec (p : Nat) (g : PoG) (m : PoM) (q : Ptr) {w0 : World} (hm : m.ok g) : Spec Tryz.prog 174 #[.pointer (some ⟨p, 0, none⟩), q.val] w0 (poE p g m) (poD g m) (fun v es1 ds1 => ∃ g2 : PoG, v = .int .i64 (poKill m q).2 ∧ g2.ag.ok (poKill m q).1.al ∧ es1 = poE p g2 (poKill m q).1 ∧ ds1 = poD g2 (poKill m q).1) := by
 refine Spec.intro (fun F D hs => ?_)
 refine Calls_of_EC (args := [.pointer (some ⟨p, 0, none⟩), q.val]) Tryz.func174 rfl rfl rfl ?_
 refine EC_rseq ?_
 refine EL_op rfl (O_box hs rfl rfl (fun b3 w hb3 hs => ?_))
 refine EL_run rfl (R_assign rfl) ?_
 refine EL_nil ?_
 refine EC_seq ?_
 refine EC_rseq ?_
 refine EL_run rfl (R_move rfl) ?_
 refine EL_op rfl (O_call hs [true, true, true, true, true, true, true, true] [0] rfl rfl rfl Tryz.call94 (ready_spec p g m hm) (fun v es1 ds1 w hPhi hs => ?_))
 obtain ⟨rfl, rfl, rfl⟩ := hPhi
 refine EL_run rfl (R_assign rfl) ?_
 refine EL_nil ?_
 refine EC_block ?_
 refine EC_rseq ?_
 refine EL_run rfl (R_move rfl) ?_
 refine EL_run rfl (R_neq rfl rfl) ?_
 refine EL_run rfl (R_assign rfl) ?_
 refine EL_nil ?_
 refine EC_cond rfl (fun hc8 => ?_) (fun hc8 => ?_)
 ·exact absurd (of_decide_eq_true hc8) (by omega)
 ·have hc8p := cvt hc8; try dsimp only at hc8p
  refine EC_rseq ?_
  refine EL_run rfl (R_lw (hs.at (i := 8) rfl) Tryz.isAgg32 Tryz.sizeOf32 rfl (Ptr.size q)) ?_
  refine EL_op rfl (O_call hs [] [] rfl rfl rfl Tryz.call112 (right_spec q) (fun v es1 ds1 w hPhi hs => ?_))
  obtain ⟨rfl, rfl, rfl⟩ := hPhi
  refine EL_run rfl (R_not rfl) ?_
  refine EL_run rfl (R_assign rfl) ?_
  refine EL_nil ?_
  refine EC_cond rfl (fun hc12 => ?_) (fun hc12 => ?_)
  ·have hc12p := cvt hc12; try dsimp only at hc12p
   have hgv : poKill m q = (m, 2) := by rw [poKill, if_pos hc12p]
   refine EC_rseq ?_
   refine EL_run rfl (R_assign rfl) ?_
   refine EL_nil ?_
   refine EC_ret ?_
   refine InBlock_r ?_
   refine Then_r ?_
   exact ⟨[_], ⟨rfl, trivial⟩, _, _, ⟨g, by rw [hgv]; rfl, by rw [hgv]; exact hm.ag, rfl, rfl⟩, (hs.fin [true, true, true, true, true, true, true, true] [0]).as (by rw [hgv]; rfl) (by rw [hgv]; rfl)⟩
  ·have hc12p := cvt hc12; try dsimp only at hc12p
   refine EC_dseqS hs [] [1, 5] [0, 8] [] (.take 0 (.take 1 (.take 2 (.take 3 (.take 4 (.take 5 (.take 6 (.take 7 .done)))))))) mix_ok (by kernel_rfl) (fun w hs _ => ?_)
   refine EP_take rfl rfl rfl (fun _ => R_field fo_32_1 rfl) ?_
   refine EP_read rfl rfl rfl (RdS.of hs rfl rfl) (fun _ hR => R_lb (hR.e 8 rfl rfl) Tryz.isAgg3 rfl rfl) ?_
   refine EP_take rfl rfl rfl (fun _ => R_move rfl) ?_
   refine EP_take rfl rfl rfl (fun _ => R_nilCheck rfl) ?_
   refine EP_take rfl rfl rfl (fun _ => R_field fo_28_2 rfl) ?_
   refine EP_read rfl rfl rfl (RdS.of hs rfl rfl) (fun _ hR => R_lb (hR.e 0 rfl rfl) Tryz.isAgg3 rfl rfl) ?_
   refine EP_take rfl rfl rfl (fun _ => R_eql rfl rfl) ?_
   refine EP_take rfl rfl rfl (fun _ => R_assign rfl) ?_
   refine EP_done ?_
   refine EC_cond rfl (fun hc16 => ?_) (fun hc16 => ?_)
   ·have hc16p := cvt hc16; try dsimp only at hc16p
    have hgv : poKill m q = ({ m with al := (alGive m.al q.span).1 }, (alGive m.al q.span).2) := by rw [poKill, if_neg (by rw [hc12p]; exact Bool.noConfusion), if_pos hc16p]
    refine EC_dseqS hs [5, 6] [3, 4] [0, 8] [] (.take 0 (.take 1 (.take 2 (.take 3 (.take 4 (.fork 5 (.fork 6 (.take 7 .done) (.done)) (.done))))))) mix_ok (by kernel_rfl) (fun w hs _ => ?_)
    refine EP_take rfl rfl rfl (fun _ => R_move rfl) ?_
    refine EP_take rfl rfl rfl (fun _ => R_nilCheck rfl) ?_
    refine EP_take rfl rfl rfl (fun _ => R_field fo_28_1 rfl) ?_
    refine EP_read rfl rfl rfl (RdS.of hs rfl rfl) (fun _ hR => R_lb (hR.e 0 rfl rfl) Tryz.isAgg25 rfl rfl) ?_
    refine EP_read rfl rfl rfl (RdS.of hs rfl rfl) (fun _ hR => R_lw (hR.e 8 rfl rfl) Tryz.isAgg32 Tryz.sizeOf32 rfl (Ptr.size q)) ?_
    refine EP_act rfl rfl (O_call hs [] [] rfl rfl rfl Tryz.call250 (span_spec q hc12p) (fun v es1 ds1 w hPhi hs => ?_))
    obtain ⟨rfl, rfl, rfl⟩ := hPhi
    refine ⟨(fun _ => RdS.of hs rfl rfl), ?_⟩
    refine EP_act rfl rfl (O_call hs [false, false, false, false, false, true, true, true] [0] rfl rfl rfl Tryz.call184 (alGive_spec g.a g.ag m.al q.span hm.ag hm.al) (fun v es1 ds1 w hPhi hs => ?_))
    obtain ⟨fo, fc, rfl, rfl, rfl⟩ := hPhi
    refine ⟨(fun _ => RdS.of hs rfl rfl), ?_⟩
    refine EP_take rfl rfl rfl (fun _ => R_assign rfl) ?_
    refine EP_done ?_
    refine EC_ret ?_
    refine InBlock_r ?_
    refine Then_r ?_
    exact ⟨[_], ⟨rfl, trivial⟩, _, _, ⟨{ g with ag := { g.ag with fo := fo, fc := fc } }, by rw [hgv]; rfl, by rw [hgv]; exact alGive_gok hm.ag, rfl, rfl⟩, (hs.fin [true, true, true, true, true, true, true, true] [1]).as (by rw [hgv]; rfl) (by rw [hgv]; rfl)⟩
   ·have hc16p := cvt hc16; try dsimp only at hc16p
    refine EC_skip ?_
    refine InBlock_n ?_
    refine Then_n ?_
    have hgv : poKill m q = ({ m with killed := m.killed ++ [q] }, 0) := by rw [poKill, if_neg (by rw [hc12p]; exact Bool.noConfusion), if_neg hc16p]
    refine EC_dseqS hs [6, 7, 10] [4, 5] [0, 8] [] (.take 0 (.take 1 (.take 2 (.take 3 (.take 4 (.take 5 (.fork 6 (.fork 7 (.take 8 (.take 9 (.fork 10 .done (.done)))) (.done)) (.done)))))))) mix_ok (by kernel_rfl) (fun w hs _ => ?_)
    refine EP_take rfl rfl rfl (fun _ => R_move rfl) ?_
    refine EP_take rfl rfl rfl (fun _ => R_move rfl) ?_
    refine EP_take rfl rfl rfl (fun _ => R_nilCheck rfl) ?_
    refine EP_take rfl rfl rfl (fun _ => R_field fo_28_4 rfl) ?_
    refine EP_read rfl rfl rfl (RdS.of hs rfl rfl) (fun _ hR => R_lb (hR.e 0 rfl rfl) Tryz.isAgg26 rfl rfl) ?_
    refine EP_read rfl rfl rfl (RdS.of hs rfl rfl) (fun _ hR => R_lw (hR.e 8 rfl rfl) Tryz.isAgg32 Tryz.sizeOf32 rfl (Ptr.size q)) ?_
    refine EP_act rfl rfl (O_buildSlice [.tmp 36] hs rfl ei_26 rfl rfl rfl (sizeN (Ptr.size q)) (by decide) (fun b37 w hb37 hs => ⟨(fun _ => RdS.of hs rfl rfl), ?_⟩))
    refine EP_act rfl rfl (O_append hs (i := 1) rfl rfl ei_26 rfl rfl (Src.own (hs.at (i := 9) rfl)) (by intro u hu; exact Ptr.one_l q u (by simpa [Value.cells, Ptr.val, Ptr.cells] using hu)) (by have := hm.kl; omega) (by have := hm.kl; omega) (fun v38 w hs => ?_))
    have hs := hs.asSl (i := 1) rfl (m.killed ++ [q]).length ((m.killed ++ [q]).flatMap Ptr.l) (by simp) (by simp [Value.cells, Ptr.val, Ptr.cells])
    obtain ⟨ao9, c9, hv9⟩ := oSl.val (hs.at (i := 1) rfl)
    subst hv9
    refine ⟨(fun _ => RdS.of hs rfl rfl), ?_⟩
    refine EP_take rfl rfl rfl (fun _ => R_nilCheck rfl) ?_
    refine EP_take rfl rfl rfl (fun _ => R_field fo_28_4 rfl) ?_
    refine EP_act rfl rfl (O_store hs (i := 0) rfl Tryz.sizeOf26 rfl rfl rfl rfl (fun w hs => ⟨(rq_no (by kernel_rfl)), ?_⟩))
    refine EP_done ?_
    refine EC_rseq ?_
    refine EL_run rfl (R_assign rfl) ?_
    refine EL_nil ?_
    refine EC_ret ?_
    exact ⟨[_], ⟨rfl, trivial⟩, _, _, ⟨{ g with ko := ao9, kc := c9 }, by rw [hgv]; rfl, by rw [hgv]; exact hm.ag, rfl, rfl⟩, (hs.fin [true, true, true, true, true, true, true, true] [0]).as (by rw [hgv]; rfl) (by rw [hgv]; rfl)⟩

set_option maxRecDepth 100000 in
theorem lay_spec (p : Nat) (g : PoG) (m : PoM) (ao : Option Addr) (c : Nat) (b : BL) {w0 : World} (hm : m.ok g) (hok : (alTake m.al (sectors b.length) m.spare).1.ok) (hb : b.length ≤ 1000000) : Spec Tryz.prog 96 #[.pointer (some ⟨p, 0, none⟩), .slice ao b.length c] w0 (poE p g m) (poD g m ++ [dB ao c b]) (fun v es1 ds1 => ∃ g2 : PoG, v = .tuple #[(poLay m b).2.1.val, .int .i64 (poLay m b).2.2] ∧ g2.ag.ok (poLay m b).1.al ∧ es1 = poE p g2 (poLay m b).1 ∧ ds1 = poD g2 (poLay m b).1) := by
 refine Spec.intro (fun F D hs => ?_)
 refine Calls_of_EC (args := [.pointer (some ⟨p, 0, none⟩), .slice ao b.length c]) Tryz.func96 rfl rfl rfl ?_
 refine EC_rseq ?_
 refine EL_op rfl (O_alloc hs rfl Tryz.zeroValue32 (fun b4 w hb4 hs => ?_))
 refine EL_run rfl (R_assign rfl) ?_
 refine EL_nil ?_
 refine EC_seq ?_
 refine EC_rseq ?_
 refine EL_run rfl (R_move rfl) ?_
 refine EL_op rfl (O_call hs [true, true, true, true, true, true, true, true] [0] rfl rfl rfl Tryz.call94 (ready_spec p g m hm) (fun v es1 ds1 w hPhi hs => ?_))
 obtain ⟨rfl, rfl, rfl⟩ := hPhi
 refine EL_run rfl (R_assign rfl) ?_
 refine EL_nil ?_
 refine EC_rseq ?_
 refine EL_run rfl (R_move rfl) ?_
 refine EL_run rfl (R_neq rfl rfl) ?_
 refine EL_nil ?_
 refine EC_cond rfl (fun hc14 => ?_) (fun hc14 => ?_)
 ·exact absurd (of_decide_eq_true hc14) (by omega)
 ·have hc14p := cvt hc14; try dsimp only at hc14p
  refine EC_skip ?_
  refine Then_n ?_
  refine EC_rseq ?_
  refine EL_run rfl (R_move rfl) ?_
  refine EL_run rfl (R_lenS Tryz.underlying36 rfl) ?_
  refine EL_run rfl (R_buildS (cs := (Ptr.bare 0 0 b.length).cells) [(2, .tmp 18)] pl_32 Tryz.zeroValue32 rfl rfl (by kernel_rfl)) ?_
  refine EL_op rfl (O_call hs [] [] rfl rfl rfl Tryz.call113 (sectors_spec (Ptr.bare 0 0 b.length)) (fun v es1 ds1 w hPhi hs => ?_))
  obtain ⟨hv, rfl, rfl⟩ := hPhi
  replace hv : v = .int .i64 (sectors (b.length : Int)) := hv
  subst hv
  have hsr := sectors_range (b.length : Int)
  refine EL_run rfl (R_assign rfl) ?_
  refine EL_nil ?_
  refine EC_seq ?_
  refine EC_rseq ?_
  refine EL_run rfl (R_move rfl) ?_
  refine EL_run rfl (R_eql rfl rfl) ?_
  refine EL_run rfl (R_move rfl) ?_
  refine EL_split 23 rfl (fun hg2 => ?_) (fun hg2 => ?_)
  ·have hg2p := cvt hg2; try dsimp only at hg2p
   refine EL_pass rfl rfl rfl hg2 ?_
   refine EL_pass rfl rfl rfl hg2 ?_
   refine EL_pass rfl rfl rfl hg2 ?_
   refine EL_pass rfl rfl rfl hg2 ?_
   refine EL_pass rfl rfl rfl hg2 ?_
   refine EL_pass rfl rfl rfl hg2 ?_
   refine EL_pass rfl rfl rfl hg2 ?_
   refine EL_pass rfl rfl rfl hg2 ?_
   refine EL_pass rfl rfl rfl hg2 ?_
   refine EL_run rfl (R_pickT rfl hg2 rfl) ?_
   refine EL_nil ?_
   refine EC_cond rfl (fun hcx => ?_) (fun hcx => ?_)
   ·skip
    have hgv : poLay m b = (m, Ptr.none, 2) := by rw [poLay, if_pos (by first | exact .inl hg2p | exact .inr hc33p)]
    refine EC_rseq ?_
    refine EL_run rfl (R_buildS (cs := Ptr.none.cells) [] pl_32 Tryz.zeroValue32 rfl rfl rfl) ?_
    refine EL_op rfl (O_storeW hs (i := 8) rfl sz_32 rfl rfl rfl rfl (Ptr.oneA _) (fun w hs => ?_))
    refine EL_run rfl (R_assign rfl) ?_
    refine EL_nil ?_
    refine EC_ret ?_
    refine Then_r ?_
    exact ⟨[_, _], ⟨res_cell hs (i := 8) rfl Tryz.sizeOf32 Tryz.isAgg32 rfl (Ptr.size _), rfl, trivial⟩, _, _, ⟨g, by rw [hgv]; rfl, by rw [hgv]; exact hm.ag, rfl, rfl⟩, (hs.fin [true, true, true, true, true, true, true, true] [0]).as (by rw [hgv]; rfl) (by rw [hgv]; rfl)⟩
   ·exact Bool.noConfusion hcx
  ·have hg2p := cvt hg2; try dsimp only at hg2p
   refine EL_want rfl rfl hg2 ?_
   refine EL_run rfl (R_move rfl) ?_
   refine EL_want rfl rfl hg2 ?_
   refine EL_run rfl (R_nilCheck rfl) ?_
   refine EL_want rfl rfl hg2 ?_
   refine EL_run rfl (R_field fo_28_2 rfl) ?_
   refine EL_want rfl rfl hg2 ?_
   refine EL_run rfl (R_lb (hs.at (i := 0) rfl) Tryz.isAgg3 rfl rfl) ?_
   refine EL_want rfl rfl hg2 ?_
   refine EL_run rfl (R_move rfl) ?_
   refine EL_want rfl rfl hg2 ?_
   refine EL_run rfl (R_lenS Tryz.underlying36 rfl) ?_
   refine EL_want rfl rfl hg2 ?_
   refine EL_run rfl (R_buildS (cs := (Ptr.bare 2 m.epoch b.length).cells) [(0, .const (.int .i64 2)), (1, .tmp 27), (2, .tmp 29)] pl_32 Tryz.zeroValue32 rfl rfl (by kernel_rfl)) ?_
   refine EL_want rfl rfl hg2 ?_
   refine EL_op rfl (O_call hs [] [] rfl rfl rfl Tryz.call112 (right_spec (Ptr.bare 2 m.epoch b.length)) (fun v es1 ds1 w hPhi hs => ?_))
   obtain ⟨rfl, rfl, rfl⟩ := hPhi
   refine EL_want rfl rfl hg2 ?_
   refine EL_run rfl (R_not rfl) ?_
   refine EL_run rfl (R_pickF rfl hg2 rfl) ?_
   refine EL_nil ?_
   refine EC_cond rfl (fun hc33 => ?_) (fun hc33 => ?_)
   ·have hc33p := cvt hc33; try dsimp only at hc33p
    have hgv : poLay m b = (m, Ptr.none, 2) := by rw [poLay, if_pos (by first | exact .inl hg2p | exact .inr hc33p)]
    refine EC_rseq ?_
    refine EL_run rfl (R_buildS (cs := Ptr.none.cells) [] pl_32 Tryz.zeroValue32 rfl rfl rfl) ?_
    refine EL_op rfl (O_storeW hs (i := 8) rfl sz_32 rfl rfl rfl rfl (Ptr.oneA _) (fun w hs => ?_))
    refine EL_run rfl (R_assign rfl) ?_
    refine EL_nil ?_
    refine EC_ret ?_
    refine Then_r ?_
    exact ⟨[_, _], ⟨res_cell hs (i := 8) rfl Tryz.sizeOf32 Tryz.isAgg32 rfl (Ptr.size _), rfl, trivial⟩, _, _, ⟨g, by rw [hgv]; rfl, by rw [hgv]; exact hm.ag, rfl, rfl⟩, (hs.fin [true, true, true, true, true, true, true, true] [0]).as (by rw [hgv]; rfl) (by rw [hgv]; rfl)⟩
   ·have hc33p := cvt hc33; try dsimp only at hc33p
    refine EC_skip ?_
    refine Then_n ?_
    have hno : ¬ (sectors (b.length : Int) = 0 ∨ (Ptr.bare 2 m.epoch b.length).right = false) := by rintro (h | h); exact hg2p h; exact Bool.noConfusion (hc33p.symm.trans h)
    refine EC_dseqS hs [9] [3, 8] [0] [] (.take 0 (.take 1 (.take 2 (.take 3 (.take 4 (.take 5 (.take 6 (.take 7 (.take 8 (.fork 9 (.take 10 (.take 11 (.take 12 (.take 13 (.take 14 .done))))) (.done))))))))))) mix_ok (by kernel_rfl) (fun w hs _ => ?_)
    refine EP_take rfl rfl rfl (fun _ => R_move rfl) ?_
    refine EP_take rfl rfl rfl (fun _ => R_nilCheck rfl) ?_
    refine EP_take rfl rfl rfl (fun _ => R_field fo_28_1 rfl) ?_
    refine EP_read rfl rfl rfl (RdS.of hs rfl rfl) (fun _ hR => R_lb (hR.e 0 rfl rfl) Tryz.isAgg25 rfl rfl) ?_
    refine EP_take rfl rfl rfl (fun _ => R_move rfl) ?_
    refine EP_take rfl rfl rfl (fun _ => R_move rfl) ?_
    refine EP_take rfl rfl rfl (fun _ => R_nilCheck rfl) ?_
    refine EP_take rfl rfl rfl (fun _ => R_field fo_28_3 rfl) ?_
    refine EP_read rfl rfl rfl (RdS.of hs rfl rfl) (fun _ hR => R_lb (hR.e 0 rfl rfl) Tryz.isAgg4 rfl rfl) ?_
    refine EP_act rfl rfl (O_call hs [false, false, false, false, false, true] [0] rfl rfl rfl Tryz.call182 (alTake_spec g.a g.ag m.al (sectors (b.length : Int)) m.spare hm.al (by omega)) (fun v es1 ds1 w hPhi hs => ?_))
    obtain ⟨fo, fc, rfl, rfl, rfl⟩ := hPhi
    have hw1 := alTake_waits m.al (sectors (b.length : Int)) m.spare
    have har := alTake_range hm.al.vf (sectors (b.length : Int)) m.spare
    have hgo1 := alTake_gok (sp := m.spare) (n := sectors (b.length : Int)) (fo := fo) (fc := fc) hm.ag
    have hlay := poLay_take m b hno
    obtain ⟨⟨m1, at1, e1⟩, htk⟩ : ∃ z, z = alTake m.al (sectors (b.length : Int)) m.spare := ⟨_, rfl⟩
    rw [← htk] at hs hok hw1 har hgo1 hlay
    rw [← htk]
    dsimp only at hok hw1 har hgo1 hlay
    have hs := hs.as (es' := poE p { g with ag := { g.ag with fo := fo, fc := fc } } { m with al := m1 } ++ [blk b4 Ptr.none.cells 32]) (by rw [poE_of hw1]; rfl) rfl
    refine ⟨(rq_no (by kernel_rfl)), ?_⟩
    refine EP_take rfl rfl rfl (fun _ => R_move rfl) ?_
    refine EP_take rfl rfl rfl (fun _ => R_extract rfl rfl) ?_
    refine EP_take rfl rfl rfl (fun _ => R_extract rfl rfl) ?_
    refine EP_take rfl rfl rfl (fun _ => R_assign rfl) ?_
    refine EP_take rfl rfl rfl (fun _ => R_assign rfl) ?_
    refine EP_done ?_
    refine EC_seq ?_
    refine EC_rseq ?_
    refine EL_run rfl (R_move rfl) ?_
    refine EL_run rfl (R_neq rfl rfl) ?_
    refine EL_nil ?_
    refine EC_cond rfl (fun hc49 => ?_) (fun hc49 => ?_)
    ·have hc49p := cvt hc49; try dsimp only at hc49p
     have hgv : poLay m b = ({ m with al := m1 }, Ptr.none, e1) := by rw [hlay, if_pos hc49p]
     refine EC_rseq ?_
     refine EL_run rfl (R_buildS (cs := Ptr.none.cells) [] pl_32 Tryz.zeroValue32 rfl rfl rfl) ?_
     refine EL_run rfl (R_move rfl) ?_
     refine EL_op rfl (O_storeW hs (i := 8) rfl sz_32 rfl rfl rfl rfl (Ptr.oneA _) (fun w hs => ?_))
     refine EL_run rfl (R_assign rfl) ?_
     refine EL_nil ?_
     refine EC_ret ?_
     refine Then_r ?_
     exact ⟨[_, _], ⟨res_cell hs (i := 8) rfl Tryz.sizeOf32 Tryz.isAgg32 rfl (Ptr.size _), rfl, trivial⟩, _, _, ⟨{ g with ag := { g.ag with fo := fo, fc := fc } }, by rw [hgv]; rfl, by rw [hgv]; exact hgo1, rfl, rfl⟩, (hs.fin [true, true, true, true, true, true, true, true] [2]).as (by rw [hgv]; rfl) (by rw [hgv]; rfl)⟩
    ·have hc49p := cvt hc49; try dsimp only at hc49p
     refine EC_skip ?_
     refine Then_n ?_
     refine EC_dseqS hs [10, 14, 15] [3, 8] [0] [] (.take 0 (.take 1 (.take 2 (.take 3 (.take 4 (.take 5 (.take 6 (.take 7 (.take 8 (.take 9 (.fork 10 (.take 11 (.take 12 (.take 13 (.fork 14 (.fork 15 (.take 16 .done) (.done)) (.done))))) (.fork 14 (.fork 10 (.take 11 (.take 12 (.take 13 (.fork 15 (.take 16 .done) (.done))))) (.done)) (.done))))))))))))) mix_ok (by kernel_rfl) (fun w hs _ => ?_)
     refine EP_take rfl rfl rfl (fun _ => R_move rfl) ?_
     refine EP_take rfl rfl rfl (fun _ => R_nilCheck rfl) ?_
     refine EP_take rfl rfl rfl (fun _ => R_field fo_28_0 rfl) ?_
     refine EP_read rfl rfl rfl (RdS.of hs rfl rfl) (fun _ hR => R_lb (hR.e 0 rfl rfl) Tryz.isAgg24 rfl rfl) ?_
     refine EP_take rfl rfl rfl (fun _ => R_move rfl) ?_
     refine EP_take rfl rfl rfl (fun _ => R_move rfl) ?_
     refine EP_take rfl rfl rfl (fun _ => R_nilCheck rfl) ?_
     refine EP_take rfl rfl rfl (fun _ => R_field fo_28_2 rfl) ?_
     refine EP_read rfl rfl rfl (RdS.of hs rfl rfl) (fun _ hR => R_lb (hR.e 0 rfl rfl) Tryz.isAgg3 rfl rfl) ?_
     refine EP_take rfl rfl rfl (fun _ => R_move rfl) ?_
     refine EP_fork rfl rfl (O_call hs [false, false, true, true, true] [1] rfl rfl rfl Tryz.call183 (blkWrite_spec g.d g.dg m.di at1 m.epoch ao c b hm.di hb) (fun v es1 ds1 w hPhi hs => ?_)) ?_
     ·skip
      obtain ⟨rfl, rfl, rfl⟩ := hPhi
      refine ⟨(rq_no (by kernel_rfl)), ?_⟩
      refine EP_take rfl rfl rfl (fun _ => R_move rfl) ?_
      refine EP_take rfl rfl rfl (fun _ => R_extract rfl rfl) ?_
      refine EP_take rfl rfl rfl (fun _ => R_extract rfl rfl) ?_
      refine EP_act rfl rfl (O_alloc hs rfl Tryz.zeroValue32 (fun b10 w hb10 hs => ⟨(fun _ => RdS.of hs rfl rfl), ?_⟩))
      refine EP_act rfl rfl (O_storeW hs (i := 9) rfl sz_32 rfl rfl rfl (Ptr.size _) (Ptr.oneA _) (fun w hs => ⟨(rq_no (by kernel_rfl)), ?_⟩))
      refine EP_take rfl rfl rfl (fun _ => R_assign rfl) ?_
      refine EP_done ?_
      refine EC_seq ?_
      refine EC_rseq ?_
      refine EL_run rfl (R_move rfl) ?_
      refine EL_run rfl (R_neq rfl rfl) ?_
      refine EL_nil ?_
      refine EC_cond rfl (fun hc67 => ?_) (fun hc67 => ?_)
      ·have hc67p := cvt hc67; try dsimp only at hc67p
       have hgv : poLay m b = ({ m with di := (blkWrite m.di at1 m.epoch b).1, al := (alGive m1 ⟨at1, at1 + sectors b.length⟩).1 }, (blkWrite m.di at1 m.epoch b).2) := by rw [hlay, if_neg hc49p, if_pos hc67p]
       refine EC_region ?_
       refine EL_run rfl (R_move rfl) ?_
       refine EL_run rfl (R_nilCheck rfl) ?_
       refine EL_run rfl (R_field fo_28_1 rfl) ?_
       refine EL_run rfl (R_lb (hs.at (i := 0) rfl) Tryz.isAgg25 rfl rfl) ?_
       refine EL_run rfl (R_move rfl) ?_
       refine EL_run rfl (R_move rfl) ?_
       refine EL_run rfl (R_move rfl) ?_
       refine EL_run rfl (R_addI rfl rfl (by dsimp only; omega)) ?_
       refine EL_run rfl (R_buildS (cs := (Sp.mk at1 (at1 + sectors b.length)).l.toArray) [(0, .tmp 72), (1, .tmp 75)] pl_211 Tryz.zeroValue211 rfl rfl rfl) ?_
       refine EL_op rfl (O_call hs [false, false, false, false, false, true, true, true] [2] rfl rfl rfl Tryz.call184 (alGive_spec g.a { g.ag with fo := fo, fc := fc } m1 ⟨at1, at1 + sectors b.length⟩ hgo1 hok) (fun v es1 ds1 w hPhi hs => ?_))
       obtain ⟨fo2, fc2, rfl, rfl, rfl⟩ := hPhi
       refine EL_nil ?_
       refine Then_n ?_
       refine EC_rseq ?_
       refine EL_run rfl (R_lw (hs.at (i := 9) rfl) Tryz.isAgg32 Tryz.sizeOf32 rfl (Ptr.size _)) ?_
       refine EL_run rfl (R_move rfl) ?_
       refine EL_op rfl (O_storeW hs (i := 8) rfl sz_32 rfl rfl rfl (Ptr.size _) (Ptr.oneA _) (fun w hs => ?_))
       refine EL_run rfl (R_assign rfl) ?_
       refine EL_nil ?_
       refine EC_ret ?_
       exact ⟨[_, _], ⟨res_cell hs (i := 8) rfl Tryz.sizeOf32 Tryz.isAgg32 rfl (Ptr.size _), rfl, trivial⟩, _, _, ⟨{ g with ag := { g.ag with fo := fo2, fc := fc2 } }, by rw [hgv]; rfl, by rw [hgv]; exact alGive_gok hgo1, rfl, rfl⟩, (hs.fin [true, true, true, true, true, true, true, true] [3]).as (by rw [hgv]; rfl) (by rw [hgv]; rfl)⟩
      ·have hc67p := cvt hc67; try dsimp only at hc67p
       refine EC_skip ?_
       refine Then_n ?_
       have hgv : poLay m b = ({ m with di := (blkWrite m.di at1 m.epoch b).1, al := m1 }, (blkWrite m.di at1 m.epoch b).2) := by rw [hlay, if_neg hc49p, if_neg hc67p]
       refine EC_rseq ?_
       refine EL_run rfl (R_lw (hs.at (i := 9) rfl) Tryz.isAgg32 Tryz.sizeOf32 rfl (Ptr.size _)) ?_
       refine EL_run rfl (R_move rfl) ?_
       refine EL_op rfl (O_storeW hs (i := 8) rfl sz_32 rfl rfl rfl (Ptr.size _) (Ptr.oneA _) (fun w hs => ?_))
       refine EL_run rfl (R_assign rfl) ?_
       refine EL_nil ?_
       refine EC_ret ?_
       exact ⟨[_, _], ⟨res_cell hs (i := 8) rfl Tryz.sizeOf32 Tryz.isAgg32 rfl (Ptr.size _), rfl, trivial⟩, _, _, ⟨{ g with ag := { g.ag with fo := fo, fc := fc } }, by rw [hgv]; rfl, by rw [hgv]; exact hgo1, rfl, rfl⟩, (hs.fin [true, true, true, true, true, true, true, true] [2]).as (by rw [hgv]; rfl) (by rw [hgv]; rfl)⟩
     refine EP_fork rfl rfl (O_alloc hs rfl Tryz.zeroValue32 (fun b10 w hb10 hs => ⟨(fun _ => RdS.of hs rfl rfl), ?_⟩)) ?_
     ·skip
      refine EP_act rfl rfl (O_call hs [false, false, true, true, true] [1] rfl rfl rfl Tryz.call183 (blkWrite_spec g.d g.dg m.di at1 m.epoch ao c b hm.di hb) (fun v es1 ds1 w hPhi hs => ?_))
      obtain ⟨rfl, rfl, rfl⟩ := hPhi
      refine ⟨(rq_no (by kernel_rfl)), ?_⟩
      refine EP_take rfl rfl rfl (fun _ => R_move rfl) ?_
      refine EP_take rfl rfl rfl (fun _ => R_extract rfl rfl) ?_
      refine EP_take rfl rfl rfl (fun _ => R_extract rfl rfl) ?_
      refine EP_act rfl rfl (O_storeW hs (i := 9) rfl sz_32 rfl rfl rfl (Ptr.size _) (Ptr.oneA _) (fun w hs => ⟨(rq_no (by kernel_rfl)), ?_⟩))
      refine EP_take rfl rfl rfl (fun _ => R_assign rfl) ?_
      refine EP_done ?_
      refine EC_seq ?_
      refine EC_rseq ?_
      refine EL_run rfl (R_move rfl) ?_
      refine EL_run rfl (R_neq rfl rfl) ?_
      refine EL_nil ?_
      refine EC_cond rfl (fun hc67 => ?_) (fun hc67 => ?_)
      ·have hc67p := cvt hc67; try dsimp only at hc67p
       have hgv : poLay m b = ({ m with di := (blkWrite m.di at1 m.epoch b).1, al := (alGive m1 ⟨at1, at1 + sectors b.length⟩).1 }, (blkWrite m.di at1 m.epoch b).2) := by rw [hlay, if_neg hc49p, if_pos hc67p]
       refine EC_region ?_
       refine EL_run rfl (R_move rfl) ?_
       refine EL_run rfl (R_nilCheck rfl) ?_
       refine EL_run rfl (R_field fo_28_1 rfl) ?_
       refine EL_run rfl (R_lb (hs.at (i := 0) rfl) Tryz.isAgg25 rfl rfl) ?_
       refine EL_run rfl (R_move rfl) ?_
       refine EL_run rfl (R_move rfl) ?_
       refine EL_run rfl (R_move rfl) ?_
       refine EL_run rfl (R_addI rfl rfl (by dsimp only; omega)) ?_
       refine EL_run rfl (R_buildS (cs := (Sp.mk at1 (at1 + sectors b.length)).l.toArray) [(0, .tmp 72), (1, .tmp 75)] pl_211 Tryz.zeroValue211 rfl rfl rfl) ?_
       refine EL_op rfl (O_call hs [false, false, false, false, false, true, true, true] [2] rfl rfl rfl Tryz.call184 (alGive_spec g.a { g.ag with fo := fo, fc := fc } m1 ⟨at1, at1 + sectors b.length⟩ hgo1 hok) (fun v es1 ds1 w hPhi hs => ?_))
       obtain ⟨fo2, fc2, rfl, rfl, rfl⟩ := hPhi
       refine EL_nil ?_
       refine Then_n ?_
       refine EC_rseq ?_
       refine EL_run rfl (R_lw (hs.at (i := 9) rfl) Tryz.isAgg32 Tryz.sizeOf32 rfl (Ptr.size _)) ?_
       refine EL_run rfl (R_move rfl) ?_
       refine EL_op rfl (O_storeW hs (i := 8) rfl sz_32 rfl rfl rfl (Ptr.size _) (Ptr.oneA _) (fun w hs => ?_))
       refine EL_run rfl (R_assign rfl) ?_
       refine EL_nil ?_
       refine EC_ret ?_
       exact ⟨[_, _], ⟨res_cell hs (i := 8) rfl Tryz.sizeOf32 Tryz.isAgg32 rfl (Ptr.size _), rfl, trivial⟩, _, _, ⟨{ g with ag := { g.ag with fo := fo2, fc := fc2 } }, by rw [hgv]; rfl, by rw [hgv]; exact alGive_gok hgo1, rfl, rfl⟩, (hs.fin [true, true, true, true, true, true, true, true] [3]).as (by rw [hgv]; rfl) (by rw [hgv]; rfl)⟩
      ·have hc67p := cvt hc67; try dsimp only at hc67p
       refine EC_skip ?_
       refine Then_n ?_
       have hgv : poLay m b = ({ m with di := (blkWrite m.di at1 m.epoch b).1, al := m1 }, (blkWrite m.di at1 m.epoch b).2) := by rw [hlay, if_neg hc49p, if_neg hc67p]
       refine EC_rseq ?_
       refine EL_run rfl (R_lw (hs.at (i := 9) rfl) Tryz.isAgg32 Tryz.sizeOf32 rfl (Ptr.size _)) ?_
       refine EL_run rfl (R_move rfl) ?_
       refine EL_op rfl (O_storeW hs (i := 8) rfl sz_32 rfl rfl rfl (Ptr.size _) (Ptr.oneA _) (fun w hs => ?_))
       refine EL_run rfl (R_assign rfl) ?_
       refine EL_nil ?_
       refine EC_ret ?_
       exact ⟨[_, _], ⟨res_cell hs (i := 8) rfl Tryz.sizeOf32 Tryz.isAgg32 rfl (Ptr.size _), rfl, trivial⟩, _, _, ⟨{ g with ag := { g.ag with fo := fo, fc := fc } }, by rw [hgv]; rfl, by rw [hgv]; exact hgo1, rfl, rfl⟩, (hs.fin [true, true, true, true, true, true, true, true] [2]).as (by rw [hgv]; rfl) (by rw [hgv]; rfl)⟩
     exact EP_end
end Go.Proofs.YtpcojkbljgpecaaGreat
namespace Go.Proofs.YtpcojkbljgpecaaGreat
open Go
noncomputable def poLoad (m : PoM) (q : Ptr) : NdM × Int := if (blkRead m.di q).2 ≠ 0 then (NdM.zero, (blkRead m.di q).2) else leafRd (blkRead m.di q).1
noncomputable def poStore (m : PoM) (n : NdM) : PoM × Ptr × Int := if (leafPut n).2 ≠ 0 then (m, Ptr.none, (leafPut n).2) else poLay m (leafPut n).1
theorem leafRd_right {b : BL} (h : (leafRd b).2 = 0) : (leafRd b).1.right := by
  unfold leafRd at h ⊢
  split at h
  · cases h
  · rename_i h1
    rw [if_neg h1]
    exact Classical.byContradiction (fun h2 => h1 (.inr (.inr (.inr (.inl h2)))))
theorem poLoad_right {m : PoM} {q : Ptr} (h : (poLoad m q).2 = 0) : (poLoad m q).1.right := by
  unfold poLoad at h ⊢
  split at h
  · exact absurd h (by assumption)
  · rename_i h1
    rw [if_neg h1]
    exact leafRd_right h
/-- A child that is still to be gone into. -/
structure PlM where
  at_ : Ptr
  lvl : Int
  birth : Int
  fr : BL
  be : BL
  ends : Bool
/-- The same, as it lies. -/
structure Pl where
  at_ : Ptr
  lvl : Int
  birth : Int
  fr : SB
  be : SB
  ends : Bool
def Pl.m (x : Pl) : PlM := ⟨x.at_, x.lvl, x.birth, x.fr.b, x.be.b, x.ends⟩
def Pl.l (x : Pl) : List Value := x.at_.l ++ [.int .i64 x.lvl, .int .i64 x.birth, x.fr.val, x.be.val, .bool x.ends]
def Pl.val (x : Pl) : Value := .agg x.l.toArray
def Pl.D (x : Pl) : Asn := x.fr.D.and x.be.D
theorem Pl.len (x : Pl) : x.l.length = 41 := by simp [Pl.l, Ptr.len_l]
theorem Pl.size (x : Pl) : x.l.toArray.size = 41 := by simp [Pl.len]
theorem Pl.one (l : List Pl) : ∀ u ∈ l.flatMap Pl.l, u.oneCell' = true := by
  intro u hu
  obtain ⟨x, _, hx⟩ := List.mem_flatMap.1 hu
  rcases List.mem_append.1 hx with h | h
  · exact Ptr.one_l _ _ h
  · simp only [List.mem_cons, List.not_mem_nil, or_false] at h
    rcases h with rfl | rfl | rfl | rfl | rfl <;> rfl
theorem Pl.oneA (x : Pl) : (x.l.toArray.all (·.oneCell')) = true := by
  simp only [List.all_toArray, List.all_eq_true]
  intro u hu
  exact Pl.one [x] u (by simpa using hu)
theorem Pl.cell (x : Pl) (k : Nat) {o : Nat} {v : Value} (ho : o = 36 + k) (h : [Value.int .i64 x.lvl, .int .i64 x.birth, x.fr.val, x.be.val, .bool x.ends][k]? = some v) : x.l.toArray[o]? = some v := by
  subst ho
  rw [List.getElem?_toArray, Pl.l, List.getElem?_append_right (by rw [Ptr.len_l]; omega), Ptr.len_l, Nat.add_sub_cancel_left]
  exact h
theorem Pl.ptr (x : Pl) : ∀ i u, x.at_.l[i]? = some u → x.l.toArray[0 + i]? = some u := by
  intro i u hu
  rw [List.getElem?_toArray, Nat.zero_add, Pl.l, List.getElem?_append_left (List.getElem?_eq_some_iff.1 hu).1]
  exact hu
theorem Pl.setBe (x : Pl) (s : SB) {o : Nat} (ho : o = 39) : x.l.toArray.setIfInBounds o s.val = (Pl.l { x with be := s }).toArray := by
  subst ho
  apply Array.toList_inj.1
  simp only [Array.toList_setIfInBounds, Pl.l]
  rw [List.set_append, if_neg (by rw [Ptr.len_l]; omega), Ptr.len_l]
  rfl
theorem Pl.setEnds (x : Pl) (b : Bool) {o : Nat} (ho : o = 40) : x.l.toArray.setIfInBounds o (.bool b) = (Pl.l { x with ends := b }).toArray := by
  subst ho
  apply Array.toList_inj.1
  simp only [Array.toList_setIfInBounds, Pl.l]
  rw [List.set_append, if_neg (by rw [Ptr.len_l]; omega), Ptr.len_l]
  rfl
def Pl.zero : Pl := ⟨Ptr.none, 0, 0, ⟨none, 0, []⟩, ⟨none, 0, []⟩, false⟩
theorem Pl.fill1 {pl : List (Nat × Nat)} {q : Ptr} {t : List Value} (hpl : pl[0]? = some (0, 36)) (ht : t.length = 5) {rest : List (Nat × Value)} :
    Instr.fill (fun i => pl[i]?) (Ptr.none.l ++ t).toArray ((0, q.val) :: rest) = Instr.fill (fun i => pl[i]?) (q.l ++ t).toArray rest := by
  rw [fill_cons (i := 0) (v := q.val) hpl (vs := q.l) (by simp [Ptr.val, Value.cells, Ptr.cells]) (Ptr.len_l q) (by simp [Ptr.len_l, ht]), setSeg_append_left (by simp [Ptr.len_l]), setSeg_all (by simp [Ptr.len_l])]
theorem Pl.fill2 {pl : List (Nat × Nat)} {q : Ptr} {t : List Value} {i k : Nat} {v : Value} (hpl : pl[i]? = some (36 + k, 1)) (hv : v.cells.toList = [v]) (ht : k < t.length) {rest : List (Nat × Value)} :
    Instr.fill (fun i => pl[i]?) (q.l ++ t).toArray ((i, v) :: rest) = Instr.fill (fun i => pl[i]?) (q.l ++ setSeg t k [v]).toArray rest := by
  rw [fill_cons (i := i) (v := v) hpl (vs := [v]) hv rfl (by simp [Ptr.len_l]; omega), setSeg_append_right (o := k) (by rw [Ptr.len_l])]
theorem Pl.fill {pl : List (Nat × Nat)} (hpl : pl = [(0, 36), (36, 1), (37, 1), (38, 1), (39, 1), (40, 1)]) {z : Array Value} (hz : z = Pl.zero.l.toArray) (q : Ptr) (a b : Int) (s u : SB) (e : Bool) :
    Instr.fill (fun i => pl[i]?) z [(0, q.val), (1, .int .i64 a), (2, .int .i64 b), (3, s.val), (4, u.val), (5, .bool e)] = some (Pl.l ⟨q, a, b, s, u, e⟩).toArray := by
  subst hpl hz
  rw [show Pl.zero.l = Ptr.none.l ++ [.int .i64 0, .int .i64 0, .slice none 0 0, .slice none 0 0, .bool false] from rfl, Pl.fill1 rfl rfl,
    Pl.fill2 (k := 0) rfl rfl (by simp [setSeg]), Pl.fill2 (k := 1) rfl rfl (by simp [setSeg]), Pl.fill2 (k := 2) rfl rfl (by simp [setSeg]), Pl.fill2 (k := 3) rfl rfl (by simp [setSeg]), Pl.fill2 (k := 4) rfl rfl (by simp [setSeg])]
  rfl
theorem Pl.fillRoot {pl : List (Nat × Nat)} (hpl : pl = [(0, 36), (36, 1), (37, 1), (38, 1), (39, 1), (40, 1)]) {z : Array Value} (hz : z = Pl.zero.l.toArray) (q : Ptr) :
    Instr.fill (fun i => pl[i]?) z [(0, q.val), (1, .int .i64 (-1))] = some (Pl.l ⟨q, -1, 0, ⟨none, 0, []⟩, ⟨none, 0, []⟩, false⟩).toArray := by
  subst hpl hz
  rw [show Pl.zero.l = Ptr.none.l ++ [.int .i64 0, .int .i64 0, .slice none 0 0, .slice none 0 0, .bool false] from rfl, Pl.fill1 rfl rfl,
    Pl.fill2 (k := 0) rfl rfl (by decide)]
  rfl
/-- Is a node the one of a place? -/
def fits (x : PlM) (n : NdM) : Prop := x.lvl < 0 ∨ (n.lvl = x.lvl ∧ x.at_.birth ≤ x.birth ∧ n.keys.getD 0 [] = x.fr ∧ (x.ends = true → bl (n.keys.getD (n.keys.length - 1) []) x.be = true))
def kidAt (x : PlM) (n : NdM) (i : Nat) : PlM :=
  ⟨n.kids.getD i Ptr.none, n.lvl - 1, x.at_.birth, n.keys.getD i [], if i + 1 < n.keys.length then n.keys.getD (i + 1) [] else x.be, if i + 1 < n.keys.length then true else x.ends⟩
def kidsOf (x : PlM) (n : NdM) : List PlM := (List.range n.kids.length).map (kidAt x n)
structure RpM where
  blocks : List Ptr
  pairs : Int
  height : Int
def RpM.zero : RpM := ⟨[], 0, 0⟩
def met (r : RpM) (q : Ptr) (n : NdM) : RpM := ⟨r.blocks ++ [q], if n.lvl = 0 then r.pairs + (n.keys.length : Int) else r.pairs, max r.height (n.lvl + 1)⟩
/-- What a walk over what is still to be gone into ends with, in so many steps. -/
inductive VW (m : PoM) : Nat → List PlM → RpM → RpM × Int → Prop
  | done (r : RpM) : VW m 0 [] r (r, 0)
  | bad {x : PlM} {s : List PlM} {r : RpM} (h : (poLoad m x.at_).2 ≠ 0) : VW m 0 (x :: s) r (r, (poLoad m x.at_).2)
  | form {x : PlM} {s : List PlM} {r : RpM} (h : (poLoad m x.at_).2 = 0) (h2 : ¬ fits x (poLoad m x.at_).1) : VW m 0 (x :: s) r (r, 11)
  | step {k : Nat} {x : PlM} {s : List PlM} {r : RpM} {o : RpM × Int} (h : (poLoad m x.at_).2 = 0) (h2 : fits x (poLoad m x.at_).1) (h3 : VW m k (kidsOf x (poLoad m x.at_).1 ++ s) (met r x.at_ (poLoad m x.at_).1) o) : VW m (k + 1) (x :: s) r o
theorem VW.done_inv {m : PoM} {k : Nat} {r : RpM} {o : RpM × Int} (h : VW m k [] r o) : o = (r, 0) := by
  cases h; rfl
theorem VW.bad_inv {m : PoM} {k : Nat} {x : PlM} {s : List PlM} {r : RpM} {o : RpM × Int} (h : VW m k (x :: s) r o) (hb : (poLoad m x.at_).2 ≠ 0) : o = (r, (poLoad m x.at_).2) := by
  cases h with
  | bad => rfl
  | form h => exact absurd h hb
  | step h => exact absurd h hb
theorem VW.form_inv {m : PoM} {k : Nat} {x : PlM} {s : List PlM} {r : RpM} {o : RpM × Int} (h : VW m k (x :: s) r o) (h0 : (poLoad m x.at_).2 = 0) (hf : ¬ fits x (poLoad m x.at_).1) : o = (r, 11) := by
  cases h with
  | bad h => exact absurd h0 h
  | form => rfl
  | step _ h2 => exact absurd h2 hf
theorem VW.step_inv {m : PoM} {k : Nat} {x : PlM} {s : List PlM} {r : RpM} {o : RpM × Int} (h : VW m k (x :: s) r o) (h0 : (poLoad m x.at_).2 = 0) (hf : fits x (poLoad m x.at_).1) : ∃ j, k = j + 1 ∧ VW m j (kidsOf x (poLoad m x.at_).1 ++ s) (met r x.at_ (poLoad m x.at_).1) o := by
  cases h with
  | bad h => exact absurd h0 h
  | form _ h2 => exact absurd hf h2
  | step _ _ h3 => exact ⟨_, rfl, h3⟩
theorem VW.mono {m : PoM} {k : Nat} {s : List PlM} {r : RpM} {o : RpM × Int} (h : VW m k s r o) : r.blocks.length ≤ o.1.blocks.length := by
  induction h with
  | done => exact Nat.le_refl _
  | bad => exact Nat.le_refl _
  | form => exact Nat.le_refl _
  | step _ _ _ ih => simp only [met, List.length_append] at ih; omega
/-- What a walk tells. -/
def repOf (o : RpM × Int) : RpM := if o.2 = 0 then o.1 else RpM.zero
end Go.Proofs.YtpcojkbljgpecaaGreat
namespace Go.Proofs.YtpcojkbljgpecaaGreat
open Go
theorem leafPut_len (n : NdM) : (leafPut n).1.length ≤ 4096 := by
  unfold leafPut
  split
  · split
    · simp
    · simp only []; omega
  · simp
set_option maxRecDepth 100000 in
theorem load_spec (p : Nat) (g : PoG) (m : PoM) (q : Ptr) {w0 : World} (hm : m.ok g) : Spec Tryz.prog 103 #[.pointer (some ⟨p, 0, none⟩), q.val] w0 (poE p g m) (poD g m) (fun v es1 ds1 => ∃ n : Nd, n.m = (poLoad m q).1 ∧ v = .tuple #[n.val, .int .i64 (poLoad m q).2] ∧ es1 = (poE p g m) ∧ ds1 = n.ds) := by
 refine Spec.intro (fun F D hs => ?_)
 refine Calls_of_EC (args := [.pointer (some ⟨p, 0, none⟩), q.val]) Tryz.func103 rfl rfl rfl ?_
 refine EC_rseq ?_
 refine EL_op rfl (O_box hs rfl rfl (fun b3 w hb3 hs => ?_))
 refine EL_op rfl (O_alloc hs rfl Tryz.zeroValue39 (fun b4 w hb4 hs => ?_))
 have hs := hs.as (es' := poE p g m ++ [blk b3 q.cells 32, blk b4 Nd.zero.cells 39]) (ds' := poD g m) (by kernel_rfl) rfl
 refine EL_run rfl (R_assign rfl) ?_
 refine EL_nil ?_
 refine EC_seq ?_
 refine EC_rseq ?_
 refine EL_run rfl (R_move rfl) ?_
 refine EL_op rfl (O_call hs [true, true, true, true, true, true, true, true] [0] rfl rfl rfl Tryz.call94 (ready_spec p g m hm) (fun v es1 ds1 w hPhi hs => ?_))
 obtain ⟨rfl, rfl, rfl⟩ := hPhi
 refine EL_run rfl (R_assign rfl) ?_
 refine EL_nil ?_
 refine EC_rseq ?_
 refine EL_run rfl (R_move rfl) ?_
 refine EL_run rfl (R_neq rfl rfl) ?_
 refine EL_nil ?_
 refine EC_cond rfl (fun hc12 => ?_) (fun hc12 => ?_)
 ·exact absurd (of_decide_eq_true hc12) (by omega)
 ·have hc12p := cvt hc12; try dsimp only at hc12p
  refine EC_skip ?_
  refine Then_n ?_
  refine EC_dseqS hs [5] [3, 4] [0, 8] [] (.take 0 (.take 1 (.take 2 (.take 3 (.take 4 (.fork 5 (.take 6 (.take 7 (.take 8 (.take 9 (.take 10 .done))))) (.done))))))) mix_ok (by kernel_rfl) (fun w hs _ => ?_)
  refine EP_take rfl rfl rfl (fun _ => R_move rfl) ?_
  refine EP_take rfl rfl rfl (fun _ => R_nilCheck rfl) ?_
  refine EP_take rfl rfl rfl (fun _ => R_field fo_28_0 rfl) ?_
  refine EP_read rfl rfl rfl (RdS.of hs rfl rfl) (fun _ hR => R_lb (hR.e 0 rfl rfl) Tryz.isAgg24 rfl rfl) ?_
  refine EP_read rfl rfl rfl (RdS.of hs rfl rfl) (fun _ hR => R_lw (hR.e 8 rfl rfl) Tryz.isAgg32 Tryz.sizeOf32 rfl (Ptr.size q)) ?_
  refine EP_act rfl rfl (O_call hs [false, false, true, true, true] [] rfl rfl rfl Tryz.call191 (blkRead_spec g.d g.dg m.di q hm.di) (fun v es1 ds1 w hPhi hs => ?_))
  obtain ⟨a1, c1, rfl, rfl, rfl⟩ := hPhi
  refine ⟨(rq_no (by kernel_rfl)), ?_⟩
  refine EP_take rfl rfl rfl (fun _ => R_move rfl) ?_
  refine EP_take rfl rfl rfl (fun _ => R_extract rfl rfl) ?_
  refine EP_take rfl rfl rfl (fun _ => R_extract rfl rfl) ?_
  refine EP_take rfl rfl rfl (fun _ => R_assign rfl) ?_
  refine EP_take rfl rfl rfl (fun _ => R_assign rfl) ?_
  refine EP_done ?_
  refine EC_seq ?_
  refine EC_rseq ?_
  refine EL_run rfl (R_move rfl) ?_
  refine EL_run rfl (R_neq rfl rfl) ?_
  refine EL_nil ?_
  refine EC_cond rfl (fun hc25 => ?_) (fun hc25 => ?_)
  ·have hc25p := cvt hc25; try dsimp only at hc25p
   have hv : poLoad m q = (NdM.zero, (blkRead m.di q).2) := by rw [poLoad, if_pos hc25p]
   have hs := ((hs.nilDp SB.l SB.D 1).nilDp SB.l SB.D 1).nilD 36
   refine EC_rseq ?_
   refine EL_run rfl (R_buildS (cs := Nd.zero.cells) [] pl_39 Tryz.zeroValue39 rfl rfl rfl) ?_
   refine EL_run rfl (R_move rfl) ?_
   refine EL_op rfl (O_storeW hs (i := 9) rfl sz_39 rfl rfl rfl rfl (Nd.oneA _) (fun w hs => ?_))
   refine EL_run rfl (R_assign rfl) ?_
   refine EL_nil ?_
   refine EC_ret ?_
   refine Then_r ?_
   exact ⟨[_, _], ⟨res_cell hs (i := 9) rfl Tryz.sizeOf39 Tryz.isAgg39 rfl rfl, rfl, trivial⟩, _, _, ⟨Nd.zero, by rw [hv]; rfl, by rw [hv]; rfl, rfl, rfl⟩, (hs.fin [true, true, true, true, true, true, true, true] [2, 3, 4]).as rfl rfl⟩
  ·have hc25p := cvt hc25; try dsimp only at hc25p
   refine EC_skip ?_
   refine Then_n ?_
   have hv : poLoad m q = leafRd (blkRead m.di q).1 := by rw [poLoad, if_neg hc25p]
   refine EC_rseq ?_
   refine EL_run rfl (R_move rfl) ?_
   refine EL_op rfl (O_call hs [] [1] rfl rfl rfl Tryz.call192 (leafRead_spec a1 c1 (blkRead m.di q).1) (fun v es1 ds1 w hPhi hs => ?_))
   obtain ⟨nn, hnm, rfl, rfl, rfl⟩ := hPhi
   refine EL_run rfl (R_extract rfl rfl) ?_
   refine EL_run rfl (R_extract rfl rfl) ?_
   refine EL_op rfl (O_storeW hs (i := 9) rfl sz_39 rfl rfl rfl rfl (Nd.oneA nn) (fun w hs => ?_))
   refine EL_run rfl (R_assign rfl) ?_
   refine EL_nil ?_
   refine EC_ret ?_
   exact ⟨[_, _], ⟨res_cell hs (i := 9) rfl Tryz.sizeOf39 Tryz.isAgg39 rfl rfl, rfl, trivial⟩, _, _, ⟨nn, by rw [hv]; exact hnm, by rw [hv]; rfl, rfl, rfl⟩, (hs.fin [true, true, true, true, true, true, true, true] [2, 3, 4]).as rfl rfl⟩

set_option maxRecDepth 100000 in
theorem store_spec (p : Nat) (g : PoG) (m : PoM) (n : Nd) {w0 : World} (hm : m.ok g) (hok : (leafPut n.m).2 = 0 → (alTake m.al (sectors (leafPut n.m).1.length) m.spare).1.ok) : Spec Tryz.prog 20 #[.pointer (some ⟨p, 0, none⟩), n.val] w0 (poE p g m) (poD g m ++ n.ds) (fun v es1 ds1 => ∃ g2 : PoG, v = .tuple #[(poStore m n.m).2.1.val, .int .i64 (poStore m n.m).2.2] ∧ g2.ag.ok (poStore m n.m).1.al ∧ es1 = poE p g2 (poStore m n.m).1 ∧ ds1 = poD g2 (poStore m n.m).1) := by
 refine Spec.intro (fun F D hs => ?_)
 refine Calls_of_EC (args := [.pointer (some ⟨p, 0, none⟩), n.val]) Tryz.func20 rfl rfl rfl ?_
 refine EC_rseq ?_
 refine EL_op rfl (O_box hs rfl rfl (fun b3 w hb3 hs => ?_))
 refine EL_op rfl (O_alloc hs rfl Tryz.zeroValue32 (fun b4 w hb4 hs => ?_))
 have hs := hs.as (es' := poE p g m ++ [blk b3 n.cells 39, blk b4 Ptr.none.cells 32]) (ds' := poD g m ++ n.ds) (by kernel_rfl) rfl
 refine EL_run rfl (R_assign rfl) ?_
 refine EL_nil ?_
 refine EC_seq ?_
 refine EC_rseq ?_
 refine EL_run rfl (R_move rfl) ?_
 refine EL_op rfl (O_call hs [true, true, true, true, true, true, true, true] [0] rfl rfl rfl Tryz.call94 (ready_spec p g m hm) (fun v es1 ds1 w hPhi hs => ?_))
 obtain ⟨rfl, rfl, rfl⟩ := hPhi
 refine EL_run rfl (R_assign rfl) ?_
 refine EL_nil ?_
 refine EC_rseq ?_
 refine EL_run rfl (R_move rfl) ?_
 refine EL_run rfl (R_neq rfl rfl) ?_
 refine EL_nil ?_
 refine EC_cond rfl (fun hc12 => ?_) (fun hc12 => ?_)
 ·exact absurd (of_decide_eq_true hc12) (by omega)
 ·have hc12p := cvt hc12; try dsimp only at hc12p
  refine EC_skip ?_
  refine Then_n ?_
  refine EC_rseq ?_
  refine EL_run rfl (R_lw (hs.at (i := 8) rfl) Tryz.isAgg39 Tryz.sizeOf39 rfl rfl) ?_
  refine EL_op rfl (O_call hs [] [1, 2, 3] rfl rfl rfl Tryz.call95 (nPut_spec n) (fun v es1 ds1 w hPhi hs => ?_))
  obtain ⟨v1, rfl, rfl, rfl⟩ := hPhi
  obtain ⟨r, hr⟩ : ∃ r, r = leafPut n.m := ⟨_, rfl⟩
  rw [← hr] at hs hok
  rw [← hr]
  refine EL_run rfl (R_move rfl) ?_
  refine EL_run rfl (R_extract rfl rfl) ?_
  refine EL_run rfl (R_extract rfl rfl) ?_
  refine EL_run rfl (R_assign rfl) ?_
  refine EL_run rfl (R_assign rfl) ?_
  refine EL_nil ?_
  refine EC_seq ?_
  refine EC_rseq ?_
  refine EL_run rfl (R_move rfl) ?_
  refine EL_run rfl (R_neq rfl rfl) ?_
  refine EL_nil ?_
  refine EC_cond rfl (fun hc21 => ?_) (fun hc21 => ?_)
  ·have hc21p := cvt hc21; try dsimp only at hc21p
   have hv : poStore m n.m = (m, Ptr.none, r.2) := by rw [poStore, ← hr, if_pos hc21p]
   refine EC_rseq ?_
   refine EL_run rfl (R_buildS (cs := Ptr.none.cells) [] pl_32 Tryz.zeroValue32 rfl rfl rfl) ?_
   refine EL_run rfl (R_move rfl) ?_
   refine EL_op rfl (O_storeW hs (i := 9) rfl sz_32 rfl rfl rfl rfl (Ptr.oneA _) (fun w hs => ?_))
   refine EL_run rfl (R_assign rfl) ?_
   refine EL_nil ?_
   refine EC_ret ?_
   refine Then_r ?_
   exact ⟨[_, _], ⟨res_cell hs (i := 9) rfl Tryz.sizeOf32 Tryz.isAgg32 rfl (Ptr.size _), rfl, trivial⟩, _, _, ⟨g, by rw [hv]; rfl, by rw [hv]; exact hm.ag, rfl, rfl⟩, (hs.fin [true, true, true, true, true, true, true, true] [0]).as (by rw [hv]; rfl) (by rw [hv]; rfl)⟩
  ·have hc21p := cvt hc21; try dsimp only at hc21p
   refine EC_skip ?_
   refine Then_n ?_
   have hv : poStore m n.m = poLay m r.1 := by rw [poStore, ← hr, if_neg hc21p]
   obtain ⟨a1, c1, rfl, hs⟩ := hs.freezeSl (i := 10) rfl
   have hrl := leafPut_len n.m
   rw [← hr] at hrl
   refine EC_rseq ?_
   refine EL_run rfl (R_move rfl) ?_
   refine EL_run rfl (R_move rfl) ?_
   refine EL_op rfl (O_call hs [true, true, true, true, true, true, true, true] [0, 4] rfl rfl rfl Tryz.call96 (lay_spec p g m a1 c1 r.1 hm (hok (by omega)) (by omega)) (fun v es1 ds1 w hPhi hs => ?_))
   obtain ⟨g2, rfl, hg2, rfl, rfl⟩ := hPhi
   refine EL_run rfl (R_extract rfl rfl) ?_
   refine EL_run rfl (R_extract rfl rfl) ?_
   refine EL_op rfl (O_storeW hs (i := 9) rfl sz_32 rfl rfl (Ptr.size _) (Ptr.size _) (Ptr.oneA _) (fun w hs => ?_))
   refine EL_run rfl (R_assign rfl) ?_
   refine EL_nil ?_
   refine EC_ret ?_
   exact ⟨[_, _], ⟨res_cell hs (i := 9) rfl Tryz.sizeOf32 Tryz.isAgg32 rfl (Ptr.size _), rfl, trivial⟩, _, _, ⟨g2, by rw [hv]; rfl, by rw [hv]; exact hg2, rfl, rfl⟩, (hs.fin [true, true, true, true, true, true, true, true] [5]).as (by rw [hv]; rfl) (by rw [hv]; rfl)⟩

set_option maxRecDepth 100000 in
theorem fits_spec (x : Pl) (n : Nd) {w0 : World} (hn : 0 < n.keys.length) (hl : n.keys.length ≤ 100000) : Spec Tryz.prog 185 #[x.val, n.val] w0 [] (n.ds ++ [x.be.D, x.fr.D]) (fun v es1 ds1 => ∃ b : Bool, v = .bool b ∧ (b = true ↔ fits x.m n.m) ∧ es1 = [] ∧ ds1 = []) := by
 refine Spec.intro (fun F D hs => ?_)
 obtain ⟨lvl, ko, kc, keys, vo, vc, vals, po, pc, kids⟩ := n
 refine Calls_of_EC (args := [x.val, .agg #[.int .i64 lvl, .slice ko keys.length kc, .slice vo vals.length vc, .slice po kids.length pc]]) Tryz.func185 rfl rfl rfl ?_
 refine EC_rseq ?_
 refine EL_op rfl (O_box hs rfl rfl (fun b2 w hb2 hs => ?_))
 refine EL_op rfl (O_box hs rfl rfl (fun b3 w hb3 hs => ?_))
 refine EL_run rfl (R_assign rfl) ?_
 have hs := hs.as (es' := [blk b2 x.l.toArray 278, blk b3 #[.int .i64 lvl, .slice ko keys.length kc, .slice vo vals.length vc, .slice po kids.length pc] 39]) (ds' := [dSS ko kc keys, dSS vo vc vals, dP po pc kids, x.be.D, x.fr.D]) rfl rfl
 refine EL_nil ?_
 refine EC_seq ?_
 refine EC_rseq ?_
 refine EL_run rfl (R_field fo_278_1 rfl) ?_
 refine EL_run rfl (R_lb (hs.at (i := 0) rfl) Tryz.isAgg3 rfl (x.cell 0 rfl rfl)) ?_
 refine EL_run rfl (R_lss rfl rfl) ?_
 refine EL_nil ?_
 refine EC_cond rfl (fun hc8 => ?_) (fun hc8 => ?_)
 ·have hc8p := cvt hc8; try dsimp only at hc8p
  refine EC_rseq ?_
  refine EL_run rfl (R_assign rfl) ?_
  refine EL_nil ?_
  refine EC_ret ?_
  refine Then_r ?_
  exact ⟨[_], ⟨rfl, trivial⟩, _, _, ⟨_, rfl, ⟨fun _ => .inl hc8p, fun _ => rfl⟩, rfl, rfl⟩, (hs.fin [] []).as rfl rfl⟩
 ·have hc8p := cvt hc8; try dsimp only at hc8p
  refine EC_skip ?_
  refine Then_n ?_
  have hib : keys.length - 1 < keys.length := Nat.sub_lt hn (by decide)
  obtain ⟨bk, ok, rfl⟩ := dSlsomeF (hs.rd (i := 0) rfl).1 SB.len (by decide) hn
  have hs := (hs.dDpGet (j := 0) rfl (List.getElem_mem hib)).dDpGet (j := 0) rfl (List.getElem_mem hn)
  have hf : fits x.m (Nd.m ⟨lvl, some ⟨bk, ok, none⟩, kc, keys, vo, vc, vals, po, pc, kids⟩) ↔ (lvl = x.lvl ∧ x.at_.birth ≤ x.birth ∧ keys[0].b = x.fr.b ∧ (x.ends = true → bl keys[keys.length - 1].b x.be.b = true)) := by
    unfold fits
    rw [show (Nd.m ⟨lvl, some ⟨bk, ok, none⟩, kc, keys, vo, vc, vals, po, pc, kids⟩).keys.getD 0 [] = keys[0].b by simp [Nd.m, hn], show (Nd.m ⟨lvl, some ⟨bk, ok, none⟩, kc, keys, vo, vc, vals, po, pc, kids⟩).keys.getD ((Nd.m ⟨lvl, some ⟨bk, ok, none⟩, kc, keys, vo, vc, vals, po, pc, kids⟩).keys.length - 1) [] = keys[keys.length - 1].b by simp [Nd.m, hib]]
    exact ⟨fun h => h.resolve_left hc8p, .inr⟩
  change keys.length ≤ 100000 at hl
  change 0 < keys.length at hn
  refine EC_rseq ?_
  refine EL_run rfl (R_field fo_39_1 rfl) ?_
  refine EL_run rfl (R_lb (hs.at (i := 1) rfl) Tryz.isAgg37 rfl rfl) ?_
  refine EL_run rfl (R_field fo_39_1 rfl) ?_
  refine EL_run rfl (R_lb (hs.at (i := 1) rfl) Tryz.isAgg37 rfl rfl) ?_
  refine EL_run rfl (R_lenS Tryz.underlying37 rfl) ?_
  refine EL_run rfl (R_subI rfl rfl (by omega)) ?_
  refine EL_run rfl (R_idx es_37 rfl (by rfl) rfl (by omega) (by omega)) ?_
  refine EL_run rfl (R_ldF (j := 0) (hs.rd (i := 0) rfl).1 SB.len Tryz.isAgg36 rfl (by simp <;> omega) (List.getElem?_eq_getElem hib) rfl) ?_
  refine EL_run rfl (R_assign rfl) ?_
  refine EL_nil ?_
  refine EC_dseqS hs [] [1, 3, 8, 10, 15, 17, 18, 20, 21, 26, 30, 32, 33] [0, 1] [0, 3, 4, 5, 6] (.take 0 (.take 1 (.take 2 (.take 3 (.take 4 (.take 5 (.take 6 (.take 7 (.take 8 (.take 9 (.take 10 (.take 11 (.take 12 (.take 13 (.take 14 (.take 15 (.take 16 (.take 17 (.take 18 (.take 19 (.take 20 (.take 21 (.take 22 (.take 23 (.take 24 (.take 25 (.take 26 (.take 27 (.take 28 (.take 29 (.take 30 (.take 31 (.take 32 (.take 33 (.take 34 (.take 35 (.take 36 (.take 37 .done)))))))))))))))))))))))))))))))))))))) mix_ok (by kernel_rfl) (fun w hs _ => ?_)
  refine EP_take rfl rfl rfl (fun _ => R_field fo_39_0 rfl) ?_
  refine EP_read rfl rfl rfl (RdS.of hs rfl rfl) (fun _ hR => R_lb (hR.e 1 rfl rfl) Tryz.isAgg3 rfl rfl) ?_
  refine EP_take rfl rfl rfl (fun _ => R_field fo_278_1 rfl) ?_
  refine EP_read rfl rfl rfl (RdS.of hs rfl rfl) (fun _ hR => R_lb (hR.e 0 rfl rfl) Tryz.isAgg3 rfl (x.cell 0 rfl rfl)) ?_
  refine EP_take rfl rfl rfl (fun _ => R_eql rfl rfl) ?_
  refine EP_take rfl rfl rfl (fun _ => R_move rfl) ?_
  refine EP_split 22 rfl (fun hg5 => ?_) (fun hg5 => ?_)
  ·have hg5p := cvt hg5; try dsimp only at hg5p
   refine EP_takeG rfl rfl rfl hg5 rfl rfl (fun _ => R_field fo_278_0 rfl) ?_
   refine EP_takeG rfl rfl rfl hg5 rfl rfl (fun _ => R_field fo_32_1 rfl) ?_
   refine EP_readG rfl rfl rfl hg5 rfl rfl (RdS.of hs rfl rfl) (fun _ hR => R_lb (hR.e 0 rfl rfl) Tryz.isAgg3 rfl (by rfl)) ?_
   refine EP_takeG rfl rfl rfl hg5 rfl rfl (fun _ => R_field fo_278_2 rfl) ?_
   refine EP_readG rfl rfl rfl hg5 rfl rfl (RdS.of hs rfl rfl) (fun _ hR => R_lb (hR.e 0 rfl rfl) Tryz.isAgg3 rfl (x.cell 1 rfl rfl)) ?_
   refine EP_takeG rfl rfl rfl hg5 rfl rfl (fun _ => R_leq rfl rfl) ?_
   refine EP_take rfl rfl rfl (fun _ => R_pickT rfl hg5 rfl) ?_
   refine EP_take rfl rfl rfl (fun _ => R_move rfl) ?_
   refine EP_split 30 rfl (fun hg13 => ?_) (fun hg13 => ?_)
   ·have hg13p := cvt hg13; try dsimp only at hg13p
    refine EP_takeG rfl rfl rfl hg13 rfl rfl (fun _ => R_field fo_39_1 rfl) ?_
    refine EP_readG rfl rfl rfl hg13 rfl rfl (RdS.of hs rfl rfl) (fun _ hR => R_lb (hR.e 1 rfl rfl) Tryz.isAgg37 rfl rfl) ?_
    refine EP_takeG rfl rfl rfl hg13 rfl rfl (fun _ => R_idx es_37 rfl (by rfl) rfl (by omega) (by omega)) ?_
    refine EP_readG rfl rfl rfl hg13 rfl rfl (RdS.of hs rfl rfl) (fun _ hR => R_ldF (j := 0) (hR.d 0 rfl rfl).1 SB.len Tryz.isAgg36 rfl (by simp <;> omega) (List.getElem?_eq_getElem hn) rfl) ?_
    refine EP_readG rfl rfl rfl hg13 rfl rfl (RdS.of hs rfl rfl) (fun _ hR => R_convStr Tryz.underlying36 Tryz.underlying5 Tryz.underlying9 rfl (hR.d 6 rfl rfl)) ?_
    refine EP_takeG rfl rfl rfl hg13 rfl rfl (fun _ => R_field fo_278_3 rfl) ?_
    refine EP_readG rfl rfl rfl hg13 rfl rfl (RdS.of hs rfl rfl) (fun _ hR => R_lb (hR.e 0 rfl rfl) Tryz.isAgg36 rfl (x.cell 2 rfl rfl)) ?_
    refine EP_readG rfl rfl rfl hg13 rfl rfl (RdS.of hs rfl rfl) (fun _ hR => R_convStr Tryz.underlying36 Tryz.underlying5 Tryz.underlying9 rfl (hR.d 4 rfl rfl)) ?_
    refine EP_takeG rfl rfl rfl hg13 rfl rfl (fun _ => R_strEql rfl rfl) ?_
    refine EP_take rfl rfl rfl (fun _ => R_pickT rfl hg13 rfl) ?_
    refine EP_take rfl rfl rfl (fun _ => R_move rfl) ?_
    refine EP_split 41 rfl (fun hg24 => ?_) (fun hg24 => ?_)
    ·have hg24p := cvt hg24; try dsimp only at hg24p
     refine EP_takeG rfl rfl rfl hg24 rfl rfl (fun _ => R_field fo_278_5 rfl) ?_
     refine EP_readG rfl rfl rfl hg24 rfl rfl (RdS.of hs rfl rfl) (fun _ hR => R_lb (hR.e 0 rfl rfl) Tryz.isAgg4 rfl (x.cell 4 rfl rfl)) ?_
     refine EP_takeG rfl rfl rfl hg24 rfl rfl (fun _ => R_not rfl) ?_
     refine EP_takeG rfl rfl rfl hg24 rfl rfl (fun _ => R_move rfl) ?_
     refine EP_split 45 rfl (fun hg28 => ?_) (fun hg28 => ?_)
     ·have hg28p := cvt hg28; try dsimp only at hg28p
      refine EP_passT rfl rfl rfl hg28 rfl (fun _ => RdS.of hs rfl rfl) ?_
      refine EP_passT rfl rfl rfl hg28 rfl (fun _ => RdS.of hs rfl rfl) ?_
      refine EP_passT rfl rfl rfl hg28 rfl (fun _ => RdS.of hs rfl rfl) ?_
      refine EP_passT rfl rfl rfl hg28 rfl (fun _ => RdS.of hs rfl rfl) ?_
      refine EP_passT rfl rfl rfl hg28 rfl (fun _ => RdS.of hs rfl rfl) ?_
      refine EP_passT rfl rfl rfl hg28 rfl (fun _ => RdS.of hs rfl rfl) ?_
      refine EP_takeG rfl rfl rfl hg24 rfl rfl (fun _ => R_pickT rfl hg28 rfl) ?_
      refine EP_take rfl rfl rfl (fun _ => R_pickT rfl hg24 rfl) ?_
      refine EP_take rfl rfl rfl (fun _ => R_assign rfl) ?_
      refine EP_done ?_
      refine EC_ret ?_
      refine ⟨[_], ⟨rfl, trivial⟩, _, _, ⟨_, rfl, ?_, rfl, rfl⟩, (hs.fin [] []).as rfl rfl⟩
      rw [hf]
      constructor
      · intro h
        first
          | exact ⟨hg5p, hg13p, hg24p, fun _ => h⟩
          | exact ⟨hg5p, hg13p, hg24p, fun h2 => absurd (hg28p.symm.trans h2) (by decide)⟩
          | exact Bool.noConfusion h
      · rintro ⟨h1, h2, h3, h4⟩
        first
          | rfl
          | exact absurd h1 hg5p
          | exact absurd h2 hg13p
          | exact absurd h3 hg24p
          | exact h4 hg28p
     ·have hg28p := cvt hg28; try dsimp only at hg28p
      refine EP_takeG rfl rfl rfl hg28 rfl rfl (fun _ => R_move rfl) ?_
      refine EP_readG rfl rfl rfl hg28 rfl rfl (RdS.of hs rfl rfl) (fun _ hR => R_convStr Tryz.underlying36 Tryz.underlying5 Tryz.underlying9 rfl (hR.d 5 rfl rfl)) ?_
      refine EP_takeG rfl rfl rfl hg28 rfl rfl (fun _ => R_field fo_278_4 rfl) ?_
      refine EP_readG rfl rfl rfl hg28 rfl rfl (RdS.of hs rfl rfl) (fun _ hR => R_lb (hR.e 0 rfl rfl) Tryz.isAgg36 rfl (x.cell 3 rfl rfl)) ?_
      refine EP_readG rfl rfl rfl hg28 rfl rfl (RdS.of hs rfl rfl) (fun _ hR => R_convStr Tryz.underlying36 Tryz.underlying5 Tryz.underlying9 rfl (hR.d 3 rfl rfl)) ?_
      refine EP_takeG rfl rfl rfl hg28 rfl rfl (fun _ => R_strLss rfl rfl) ?_
      refine EP_takeG rfl rfl rfl hg24 rfl rfl (fun _ => R_pickF rfl hg28 rfl) ?_
      refine EP_take rfl rfl rfl (fun _ => R_pickT rfl hg24 rfl) ?_
      refine EP_take rfl rfl rfl (fun _ => R_assign rfl) ?_
      refine EP_done ?_
      refine EC_ret ?_
      refine ⟨[_], ⟨rfl, trivial⟩, _, _, ⟨_, rfl, ?_, rfl, rfl⟩, (hs.fin [] []).as rfl rfl⟩
      rw [hf]
      constructor
      · intro h
        first
          | exact ⟨hg5p, hg13p, hg24p, fun _ => h⟩
          | exact ⟨hg5p, hg13p, hg24p, fun h2 => absurd (hg28p.symm.trans h2) (by decide)⟩
          | exact Bool.noConfusion h
      · rintro ⟨h1, h2, h3, h4⟩
        first
          | rfl
          | exact absurd h1 hg5p
          | exact absurd h2 hg13p
          | exact absurd h3 hg24p
          | exact h4 hg28p
    ·have hg24p := cvt hg24; try dsimp only at hg24p
     refine EP_passT rfl rfl rfl hg24 rfl (fun _ => RdS.of hs rfl rfl) ?_
     refine EP_passT rfl rfl rfl hg24 rfl (fun _ => RdS.of hs rfl rfl) ?_
     refine EP_passT rfl rfl rfl hg24 rfl (fun _ => RdS.of hs rfl rfl) ?_
     refine EP_passT rfl rfl rfl hg24 rfl (fun _ => RdS.of hs rfl rfl) ?_
     refine EP_passTU rfl rfl rfl rfl (fun _ => RdS.of hs rfl rfl) ?_
     refine EP_passTU rfl rfl rfl rfl (fun _ => RdS.of hs rfl rfl) ?_
     refine EP_passTU rfl rfl rfl rfl (fun _ => RdS.of hs rfl rfl) ?_
     refine EP_passTU rfl rfl rfl rfl (fun _ => RdS.of hs rfl rfl) ?_
     refine EP_passTU rfl rfl rfl rfl (fun _ => RdS.of hs rfl rfl) ?_
     refine EP_passTU rfl rfl rfl rfl (fun _ => RdS.of hs rfl rfl) ?_
     refine EP_passT rfl rfl rfl hg24 rfl (fun _ => RdS.of hs rfl rfl) ?_
     refine EP_take rfl rfl rfl (fun _ => R_pickF rfl hg24 rfl) ?_
     refine EP_take rfl rfl rfl (fun _ => R_assign rfl) ?_
     refine EP_done ?_
     refine EC_ret ?_
     refine ⟨[_], ⟨rfl, trivial⟩, _, _, ⟨_, rfl, ?_, rfl, rfl⟩, (hs.fin [] []).as rfl rfl⟩
     rw [hf]
     constructor
     · intro h
       first
         | exact ⟨hg5p, hg13p, hg24p, fun _ => h⟩
         | exact ⟨hg5p, hg13p, hg24p, fun h2 => absurd (hg28p.symm.trans h2) (by decide)⟩
         | exact Bool.noConfusion h
     · rintro ⟨h1, h2, h3, h4⟩
       first
         | rfl
         | exact absurd h1 hg5p
         | exact absurd h2 hg13p
         | exact absurd h3 hg24p
         | exact h4 hg28p
   ·have hg13p := cvt hg13; try dsimp only at hg13p
    refine EP_passT rfl rfl rfl hg13 rfl (fun _ => RdS.of hs rfl rfl) ?_
    refine EP_passT rfl rfl rfl hg13 rfl (fun _ => RdS.of hs rfl rfl) ?_
    refine EP_passT rfl rfl rfl hg13 rfl (fun _ => RdS.of hs rfl rfl) ?_
    refine EP_passT rfl rfl rfl hg13 rfl (fun _ => RdS.of hs rfl rfl) ?_
    refine EP_passT rfl rfl rfl hg13 rfl (fun _ => RdS.of hs rfl rfl) ?_
    refine EP_passT rfl rfl rfl hg13 rfl (fun _ => RdS.of hs rfl rfl) ?_
    refine EP_passT rfl rfl rfl hg13 rfl (fun _ => RdS.of hs rfl rfl) ?_
    refine EP_passT rfl rfl rfl hg13 rfl (fun _ => RdS.of hs rfl rfl) ?_
    refine EP_passT rfl rfl rfl hg13 rfl (fun _ => RdS.of hs rfl rfl) ?_
    refine EP_take rfl rfl rfl (fun _ => R_pickF rfl hg13 rfl) ?_
    refine EP_take rfl rfl rfl (fun _ => R_move rfl) ?_
    refine EP_passT rfl rfl rfl rfl rfl (fun _ => RdS.of hs rfl rfl) ?_
    refine EP_passT rfl rfl rfl rfl rfl (fun _ => RdS.of hs rfl rfl) ?_
    refine EP_passT rfl rfl rfl rfl rfl (fun _ => RdS.of hs rfl rfl) ?_
    refine EP_passT rfl rfl rfl rfl rfl (fun _ => RdS.of hs rfl rfl) ?_
    refine EP_passTU rfl rfl rfl rfl (fun _ => RdS.of hs rfl rfl) ?_
    refine EP_passTU rfl rfl rfl rfl (fun _ => RdS.of hs rfl rfl) ?_
    refine EP_passTU rfl rfl rfl rfl (fun _ => RdS.of hs rfl rfl) ?_
    refine EP_passTU rfl rfl rfl rfl (fun _ => RdS.of hs rfl rfl) ?_
    refine EP_passTU rfl rfl rfl rfl (fun _ => RdS.of hs rfl rfl) ?_
    refine EP_passTU rfl rfl rfl rfl (fun _ => RdS.of hs rfl rfl) ?_
    refine EP_passT rfl rfl rfl rfl rfl (fun _ => RdS.of hs rfl rfl) ?_
    refine EP_take rfl rfl rfl (fun _ => R_pickF rfl rfl rfl) ?_
    refine EP_take rfl rfl rfl (fun _ => R_assign rfl) ?_
    refine EP_done ?_
    refine EC_ret ?_
    refine ⟨[_], ⟨rfl, trivial⟩, _, _, ⟨_, rfl, ?_, rfl, rfl⟩, (hs.fin [] []).as rfl rfl⟩
    rw [hf]
    constructor
    · intro h
      first
        | exact ⟨hg5p, hg13p, hg24p, fun _ => h⟩
        | exact ⟨hg5p, hg13p, hg24p, fun h2 => absurd (hg28p.symm.trans h2) (by decide)⟩
        | exact Bool.noConfusion h
    · rintro ⟨h1, h2, h3, h4⟩
      first
        | rfl
        | exact absurd h1 hg5p
        | exact absurd h2 hg13p
        | exact absurd h3 hg24p
        | exact h4 hg28p
  ·have hg5p := cvt hg5; try dsimp only at hg5p
   refine EP_passT rfl rfl rfl hg5 rfl (fun _ => RdS.of hs rfl rfl) ?_
   refine EP_passT rfl rfl rfl hg5 rfl (fun _ => RdS.of hs rfl rfl) ?_
   refine EP_passT rfl rfl rfl hg5 rfl (fun _ => RdS.of hs rfl rfl) ?_
   refine EP_passT rfl rfl rfl hg5 rfl (fun _ => RdS.of hs rfl rfl) ?_
   refine EP_passT rfl rfl rfl hg5 rfl (fun _ => RdS.of hs rfl rfl) ?_
   refine EP_passT rfl rfl rfl hg5 rfl (fun _ => RdS.of hs rfl rfl) ?_
   refine EP_take rfl rfl rfl (fun _ => R_pickF rfl hg5 rfl) ?_
   refine EP_take rfl rfl rfl (fun _ => R_move rfl) ?_
   refine EP_passT rfl rfl rfl rfl rfl (fun _ => RdS.of hs rfl rfl) ?_
   refine EP_passT rfl rfl rfl rfl rfl (fun _ => RdS.of hs rfl rfl) ?_
   refine EP_passT rfl rfl rfl rfl rfl (fun _ => RdS.of hs rfl rfl) ?_
   refine EP_passT rfl rfl rfl rfl rfl (fun _ => RdS.of hs rfl rfl) ?_
   refine EP_passT rfl rfl rfl rfl rfl (fun _ => RdS.of hs rfl rfl) ?_
   refine EP_passT rfl rfl rfl rfl rfl (fun _ => RdS.of hs rfl rfl) ?_
   refine EP_passT rfl rfl rfl rfl rfl (fun _ => RdS.of hs rfl rfl) ?_
   refine EP_passT rfl rfl rfl rfl rfl (fun _ => RdS.of hs rfl rfl) ?_
   refine EP_passT rfl rfl rfl rfl rfl (fun _ => RdS.of hs rfl rfl) ?_
   refine EP_take rfl rfl rfl (fun _ => R_pickF rfl rfl rfl) ?_
   refine EP_take rfl rfl rfl (fun _ => R_move rfl) ?_
   refine EP_passT rfl rfl rfl rfl rfl (fun _ => RdS.of hs rfl rfl) ?_
   refine EP_passT rfl rfl rfl rfl rfl (fun _ => RdS.of hs rfl rfl) ?_
   refine EP_passT rfl rfl rfl rfl rfl (fun _ => RdS.of hs rfl rfl) ?_
   refine EP_passT rfl rfl rfl rfl rfl (fun _ => RdS.of hs rfl rfl) ?_
   refine EP_passTU rfl rfl rfl rfl (fun _ => RdS.of hs rfl rfl) ?_
   refine EP_passTU rfl rfl rfl rfl (fun _ => RdS.of hs rfl rfl) ?_
   refine EP_passTU rfl rfl rfl rfl (fun _ => RdS.of hs rfl rfl) ?_
   refine EP_passTU rfl rfl rfl rfl (fun _ => RdS.of hs rfl rfl) ?_
   refine EP_passTU rfl rfl rfl rfl (fun _ => RdS.of hs rfl rfl) ?_
   refine EP_passTU rfl rfl rfl rfl (fun _ => RdS.of hs rfl rfl) ?_
   refine EP_passT rfl rfl rfl rfl rfl (fun _ => RdS.of hs rfl rfl) ?_
   refine EP_take rfl rfl rfl (fun _ => R_pickF rfl rfl rfl) ?_
   refine EP_take rfl rfl rfl (fun _ => R_assign rfl) ?_
   refine EP_done ?_
   refine EC_ret ?_
   refine ⟨[_], ⟨rfl, trivial⟩, _, _, ⟨_, rfl, ?_, rfl, rfl⟩, (hs.fin [] []).as rfl rfl⟩
   rw [hf]
   constructor
   · intro h
     first
       | exact ⟨hg5p, hg13p, hg24p, fun _ => h⟩
       | exact ⟨hg5p, hg13p, hg24p, fun h2 => absurd (hg28p.symm.trans h2) (by decide)⟩
       | exact Bool.noConfusion h
   · rintro ⟨h1, h2, h3, h4⟩
     first
       | rfl
       | exact absurd h1 hg5p
       | exact absurd h2 hg13p
       | exact absurd h3 hg24p
       | exact h4 hg28p

set_option maxRecDepth 100000 in
theorem kids_spec (x : Pl) (n : Nd) {w0 : World} (hn : n.kids.length ≤ n.keys.length) (hl : n.keys.length ≤ 100000) (hlv : -1000000 ≤ n.lvl ∧ n.lvl ≤ 1000000) : Spec Tryz.prog 186 #[x.val, n.val] w0 [] (n.ds ++ [x.be.D]) (fun v es1 ds1 => ∃ L : List Pl, L.map Pl.m = (kidsOf x.m n.m).reverse ∧ es1 = [oSl v 278 41 L.length (L.flatMap Pl.l)] ∧ ds1 = [dAll Pl.D L]) := by
 refine Spec.intro (fun F D hs => ?_)
 obtain ⟨lvl, ko, kc, keys, vo, vc, vals, po, pc, kids⟩ := n
 refine Calls_of_EC (args := [x.val, .agg #[.int .i64 lvl, .slice ko keys.length kc, .slice vo vals.length vc, .slice po kids.length pc]]) Tryz.func186 rfl rfl rfl ?_
 refine EC_rseq ?_
 refine EL_op rfl (O_box hs rfl rfl (fun b2 w hb2 hs => ?_))
 refine EL_op rfl (O_box hs rfl rfl (fun b3 w hb3 hs => ?_))
 refine EL_run rfl (R_assign rfl) ?_
 have hs := hs.as (es' := [blk b2 x.l.toArray 278, blk b3 #[.int .i64 lvl, .slice ko keys.length kc, .slice vo vals.length vc, .slice po kids.length pc] 39]) (ds' := [dSS ko kc keys, dSS vo vc vals, dP po pc kids, x.be.D]) rfl rfl
 refine EL_nil ?_
 have hs := (hs.nilSl 278 41).dAllNil Pl.D
 change kids.length ≤ keys.length at hn
 change keys.length ≤ 100000 at hl
 change -1000000 ≤ lvl ∧ lvl ≤ 1000000 at hlv
 obtain ⟨M, hM⟩ : ∃ M, M = Nd.m ⟨lvl, ko, kc, keys, vo, vc, vals, po, pc, kids⟩ := ⟨_, rfl⟩
 refine EC_rseq ?_
 refine EL_run rfl (R_assign rfl) ?_
 refine EL_nil ?_
 refine EC_seq ?_
 refine EC_rseq ?_
 refine EL_run rfl (R_field fo_39_3 rfl) ?_
 refine EL_run rfl (R_lb (hs.at (i := 1) rfl) Tryz.isAgg26 rfl rfl) ?_
 refine EL_run rfl (R_lenS Tryz.underlying26 rfl) ?_
 refine EL_run rfl (R_subI rfl rfl (by omega)) ?_
 refine EL_run rfl (R_assign rfl) ?_
 refine EL_nil ?_
 refine EC_block ?_
 refine EC_loop (fun mm ρ w => ∃ (L : List Pl) (v : Value), mm ≤ kids.length ∧ L.length ≤ kids.length ∧ L.map Pl.m = ((kidsOf x.m M).drop mm).reverse ∧ Slots ρ [(2, .pointer (some ⟨b2, 0, none⟩)), (3, .pointer (some ⟨b3, 0, none⟩)), (5, v), (6, .int .i64 ((mm : Int) - 1))] ∧ St w0 F D [blk b2 x.l.toArray 278, blk b3 #[.int .i64 lvl, .slice ko keys.length kc, .slice vo vals.length vc, .slice po kids.length pc] 39, oSl v 278 41 L.length (L.flatMap Pl.l)] [dSS ko kc keys, dSS vo vc vals, dP po pc kids, x.be.D, dAll Pl.D L] w) (kids.length) (⟨[], _, by omega, by simp, by simp [kidsOf, hM, Nd.m], ⟨rfl, rfl, rfl, rfl, trivial⟩, hs⟩) ?_
 rintro mm ρ w ⟨L, v, hi, hLl, hL, hsl, hs⟩
 refine EC_slots _ hsl ?_
 refine EC_seq ?_
 refine EC_rseq ?_
 refine EL_run rfl (R_move rfl) ?_
 refine EL_run rfl (R_geq rfl rfl) ?_
 refine EL_nil ?_
 refine EC_cond rfl (fun hc13 => ?_) (fun hc13 => ?_)
 ·have hc13p := cvt hc13; try dsimp only at hc13p
  obtain ⟨i, rfl⟩ : ∃ i, mm = i + 1 := ⟨mm - 1, by omega⟩
  have hik : i < keys.length := by omega
  have hip : i < kids.length := by omega
  have hdr : (kidsOf x.m M).drop i = kidAt x.m M i :: (kidsOf x.m M).drop (i + 1) := by
    rw [List.drop_eq_getElem_cons (by simp [kidsOf, hM, Nd.m]; omega)]
    congr 1
    simp [kidsOf]
  obtain ⟨bk, ok, rfl⟩ := dSlsomeF (hs.rd (i := 0) rfl).1 SB.len (by decide) hik
  obtain ⟨bp, op, rfl⟩ := dSlsomeF (hs.rd (i := 2) rfl) Ptr.len_l (by decide) hip
  have hs := hs.dDpGet (j := 0) rfl (List.getElem_mem hik)
  rw [show (((i + 1 : Nat) : Int) - 1) = (i : Int) by omega]
  refine EC_skip ?_
  refine Then_n ?_
  refine EC_seq ?_
  refine EC_block ?_
  refine EC_dseqS hs [21, 22] [1, 4, 6, 10, 12, 15, 17, 19] [0, 1] [0, 2] (.take 0 (.take 1 (.take 2 (.take 3 (.take 4 (.take 5 (.take 6 (.take 7 (.take 8 (.take 9 (.take 10 (.take 11 (.take 12 (.take 13 (.take 14 (.take 15 (.take 16 (.take 17 (.take 18 (.take 19 (.take 20 (.fork 21 (.fork 22 .done (.done)) (.done))))))))))))))))))))))) mix_ok (by kernel_rfl) (fun w hs _ => ?_)
  refine EP_take rfl rfl rfl (fun _ => R_field fo_39_3 rfl) ?_
  refine EP_read rfl rfl rfl (RdS.of hs rfl rfl) (fun _ hR => R_lb (hR.e 1 rfl rfl) Tryz.isAgg26 rfl rfl) ?_
  refine EP_take rfl rfl rfl (fun _ => R_move rfl) ?_
  refine EP_take rfl rfl rfl (fun _ => R_idx es_26 rfl (by rfl) rfl (by omega) (by omega)) ?_
  refine EP_read rfl rfl rfl (RdS.of hs rfl rfl) (fun _ hR => R_ldE (hR.d 2 rfl rfl) Ptr.len_l Tryz.isAgg32 Tryz.sizeOf32 rfl (by simp <;> omega) (List.getElem?_eq_getElem hip) (by decide)) ?_
  refine EP_take rfl rfl rfl (fun _ => R_field fo_39_0 rfl) ?_
  refine EP_read rfl rfl rfl (RdS.of hs rfl rfl) (fun _ hR => R_lb (hR.e 1 rfl rfl) Tryz.isAgg3 rfl rfl) ?_
  refine EP_take rfl rfl rfl (fun _ => R_subI rfl rfl (by omega)) ?_
  refine EP_take rfl rfl rfl (fun _ => R_field fo_278_0 rfl) ?_
  refine EP_take rfl rfl rfl (fun _ => R_field fo_32_1 rfl) ?_
  refine EP_read rfl rfl rfl (RdS.of hs rfl rfl) (fun _ hR => R_lb (hR.e 0 rfl rfl) Tryz.isAgg3 rfl (by rfl)) ?_
  refine EP_take rfl rfl rfl (fun _ => R_field fo_39_1 rfl) ?_
  refine EP_read rfl rfl rfl (RdS.of hs rfl rfl) (fun _ hR => R_lb (hR.e 1 rfl rfl) Tryz.isAgg37 rfl rfl) ?_
  refine EP_take rfl rfl rfl (fun _ => R_move rfl) ?_
  refine EP_take rfl rfl rfl (fun _ => R_idx es_37 rfl (by rfl) rfl (by omega) (by omega)) ?_
  refine EP_read rfl rfl rfl (RdS.of hs rfl rfl) (fun _ hR => R_ldF (j := 0) (hR.d 0 rfl rfl).1 SB.len Tryz.isAgg36 rfl (by simp <;> omega) (List.getElem?_eq_getElem hik) rfl) ?_
  refine EP_take rfl rfl rfl (fun _ => R_field fo_278_4 rfl) ?_
  refine EP_read rfl rfl rfl (RdS.of hs rfl rfl) (fun _ hR => R_lb (hR.e 0 rfl rfl) Tryz.isAgg36 rfl (x.cell 3 rfl rfl)) ?_
  refine EP_take rfl rfl rfl (fun _ => R_field fo_278_5 rfl) ?_
  refine EP_read rfl rfl rfl (RdS.of hs rfl rfl) (fun _ hR => R_lb (hR.e 0 rfl rfl) Tryz.isAgg4 rfl (x.cell 4 rfl rfl)) ?_
  refine EP_take rfl rfl rfl (fun _ => R_buildS (cs := (Pl.l ⟨kids[i], lvl - 1, x.at_.birth, keys[i], x.be, x.ends⟩).toArray) [(0, .tmp 20), (1, .tmp 23), (2, .tmp 26), (3, .tmp 31), (4, .tmp 33), (5, .tmp 35)] pl_278 Tryz.zeroValue278 rfl rfl (Pl.fill rfl (by kernel_rfl) kids[i] (lvl - 1) x.at_.birth keys[i] x.be x.ends)) ?_
  refine EP_act rfl rfl (O_alloc hs rfl Tryz.zeroValue278 (fun b7 w hb7 hs => ⟨(fun _ => RdS.of hs rfl rfl), ?_⟩))
  refine EP_act rfl rfl (O_storeW hs (i := 3) rfl sz_278 rfl rfl (by kernel_rfl) (Pl.size _) (Pl.oneA _) (fun w hs => ⟨(rq_no (by kernel_rfl)), ?_⟩))
  refine EP_done ?_
  refine EC_cut (fun ρ w => ∃ y : Pl, y.m = kidAt x.m M i ∧ Slots ρ [(2, .pointer (some ⟨b2, 0, none⟩)), (3, .pointer (some ⟨b3, 0, none⟩)), (5, v), (6, .int .i64 (i : Int)), (7, .pointer (some ⟨b7, 0, none⟩))] ∧ St w0 F D [blk b2 x.l.toArray 278, blk b3 #[.int .i64 lvl, .slice (some ⟨bk, ok, none⟩) keys.length kc, .slice vo vals.length vc, .slice (some ⟨bp, op, none⟩) kids.length pc] 39, oSl v 278 41 L.length (L.flatMap Pl.l), blk b7 y.l.toArray 278] [dSS (some ⟨bk, ok, none⟩) kc keys, dSS vo vc vals, dP (some ⟨bp, op, none⟩) pc kids, x.be.D, dAll Pl.D L, y.D] w) ?_ ?_
  ·skip
   refine EC_rseq ?_
   refine EL_run rfl (R_move rfl) ?_
   refine EL_run rfl (R_addI rfl rfl (by omega)) ?_
   refine EL_run rfl (R_field fo_39_1 rfl) ?_
   refine EL_run rfl (R_lb (hs.at (i := 1) rfl) Tryz.isAgg37 rfl rfl) ?_
   refine EL_run rfl (R_lenS Tryz.underlying37 rfl) ?_
   refine EL_run rfl (R_lss rfl rfl) ?_
   refine EL_nil ?_
   refine EC_cond rfl (fun hc42 => ?_) (fun hc42 => ?_)
   ·have hc42p := cvt hc42; try dsimp only at hc42p
    have hib2 : i + 1 < keys.length := by omega
    have hs := hs.dDpGet (j := 0) rfl (List.getElem_mem hib2)
    refine EC_region ?_
    refine EL_run rfl (R_field fo_39_1 rfl) ?_
    refine EL_run rfl (R_lb (hs.at (i := 1) rfl) Tryz.isAgg37 rfl rfl) ?_
    refine EL_run rfl (R_move rfl) ?_
    refine EL_run rfl (R_addI rfl rfl (by omega)) ?_
    refine EL_run rfl (R_idx es_37 rfl (by rfl) rfl (by omega) (by omega)) ?_
    refine EL_run rfl (R_ldF (j := 0) (hs.rd (i := 0) rfl).1 SB.len Tryz.isAgg36 rfl (by simp <;> omega) (List.getElem?_eq_getElem hib2) rfl) ?_
    refine EL_run rfl (R_field fo_278_4 rfl) ?_
    refine EL_op rfl (O_store hs (i := 3) rfl Tryz.sizeOf36 rfl rfl rfl (by rw [Pl.size]; decide) (fun w hs => ?_))
    rw [Pl.setBe _ _ rfl] at hs
    refine EL_run rfl (R_field fo_278_5 rfl) ?_
    refine EL_op rfl (O_store hs (i := 3) rfl Tryz.sizeOf4 rfl rfl rfl (by rw [Pl.size]; decide) (fun w hs => ?_))
    rw [Pl.setEnds _ _ rfl] at hs
    refine EL_nil ?_
    refine Then_n ?_
    first
      | (have hs := hs.mkAnd (j := 5) (k := 6) (a := keys[i].D) (b := keys[i + 1].D) rfl rfl
         exact ⟨⟨kids[i], lvl - 1, x.at_.birth, keys[i], keys[i + 1], true⟩, by subst hM; simp [Pl.m, kidAt, Nd.m, hik, hip, hib2], ⟨rfl, rfl, rfl, rfl, rfl, trivial⟩, (hs.fin [true, true, true, true] [0, 1, 2, 3, 4, 7]).as rfl rfl⟩)
      | (have hs := hs.mkAnd (j := 5) (k := 3) (a := keys[i].D) (b := x.be.D) rfl rfl
         exact ⟨⟨kids[i], lvl - 1, x.at_.birth, keys[i], x.be, x.ends⟩, by
           have hno : ¬ i + 1 < keys.length := by omega
           subst hM; simp [Pl.m, kidAt, Nd.m, hik, hip, hno], ⟨rfl, rfl, rfl, rfl, rfl, trivial⟩, (hs.fin [true, true, true, true] [0, 1, 2, 3, 4, 6]).as rfl rfl⟩)
   ·have hc42p := cvt hc42; try dsimp only at hc42p
    refine EC_skip ?_
    refine Then_n ?_
    first
      | (have hs := hs.mkAnd (j := 5) (k := 6) (a := keys[i].D) (b := keys[i + 1].D) rfl rfl
         exact ⟨⟨kids[i], lvl - 1, x.at_.birth, keys[i], keys[i + 1], true⟩, by subst hM; simp [Pl.m, kidAt, Nd.m, hik, hip, hib2], ⟨rfl, rfl, rfl, rfl, rfl, trivial⟩, (hs.fin [true, true, true, true] [0, 1, 2, 3, 4, 7]).as rfl rfl⟩)
      | (have hs := hs.mkAnd (j := 5) (k := 3) (a := keys[i].D) (b := x.be.D) rfl rfl
         exact ⟨⟨kids[i], lvl - 1, x.at_.birth, keys[i], x.be, x.ends⟩, by
           have hno : ¬ i + 1 < keys.length := by omega
           subst hM; simp [Pl.m, kidAt, Nd.m, hik, hip, hno], ⟨rfl, rfl, rfl, rfl, rfl, trivial⟩, (hs.fin [true, true, true, true] [0, 1, 2, 3, 4, 6]).as rfl rfl⟩)
  ·rintro ρ w ⟨y, hy, hsl, hs⟩
   refine EC_slots _ hsl ?_
   refine EC_region ?_
   refine EL_run rfl (R_move rfl) ?_
   refine EL_run rfl (R_lw (hs.at (i := 3) rfl) Tryz.isAgg278 Tryz.sizeOf278 rfl (Pl.size _)) ?_
   refine EL_op rfl (O_buildSlice [.tmp 52] hs rfl ei_279 rfl rfl rfl (sizeN (Pl.size _)) (by decide) (fun b53 w hb53 hs => ?_))
   refine EL_op rfl (O_append hs (i := 2) rfl rfl ei_279 rfl rfl (Src.own (hs.at (i := 4) rfl)) (by intro u hu; exact Pl.one [y] u (by simpa [Value.cells] using hu)) (by omega) (by omega) (fun v54 w hs => ?_))
   have hs := hs.pushed (i := 2) rfl y rfl
   have hs := hs.dAllSnoc (g := Pl.D) (l := L) (x := y) (j := 4) (k := 5) rfl rfl
   refine EL_run rfl (R_assign rfl) ?_
   refine EL_nil ?_
   refine InBlock_n ?_
   refine Then_n ?_
   refine EC_region ?_
   refine EL_run rfl (R_move rfl) ?_
   refine EL_run rfl (R_subI rfl rfl (by omega)) ?_
   refine EL_run rfl (R_assign rfl) ?_
   refine EL_nil ?_
   refine Then_n ?_
   exact ⟨i, by omega, L ++ [y], _, by omega, by rw [List.length_append, ← List.length_map (f := Pl.m), hL]; simp [kidsOf, hM, Nd.m]; omega, by
     rw [List.map_append, hL, hdr, List.reverse_cons, List.map_cons, List.map_nil, hy], ⟨rfl, rfl, rfl, sI (by omega), trivial⟩, (hs.fin [true, true, true] [0, 1, 2, 3, 6]).as rfl rfl⟩
 ·have hc13p := cvt hc13; try dsimp only at hc13p
  obtain rfl : mm = 0 := by omega
  rw [List.drop_zero] at hL
  refine EC_exit ?_
  refine Then_e ?_
  refine Then_e ?_
  refine InBlock_hit rfl ?_
  refine Then_n ?_
  refine EC_rseq ?_
  refine EL_run rfl (R_move rfl) ?_
  refine EL_run rfl (R_assign rfl) ?_
  refine EL_nil ?_
  refine EC_ret ?_
  exact ⟨[_], ⟨rfl, trivial⟩, _, _, ⟨L, by rw [hL, hM], rfl, rfl⟩, (hs.fin [false, false, true] [4]).as rfl rfl⟩
end Go.Proofs.YtpcojkbljgpecaaGreat
namespace Go.Proofs.YtpcojkbljgpecaaGreat
open Go
set_option maxRecDepth 100000 in
theorem getNone_spec (p : Nat) (g : PoG) (m : PoM) {w0 : World} (hm : m.ok g) : Spec Tryz.prog 32 #[.pointer (some ⟨p, 0, none⟩), Ptr.none.val, .slice none 0 0] w0 (poE p g m) (poD g m) (fun v es1 ds1 => v = .tuple #[.slice none 0 0, .bool false, .int .i64 0] ∧ es1 = (poE p g m) ∧ ds1 = []) := by
 refine Spec.intro (fun F D hs => ?_)
 refine Calls_of_EC (args := [.pointer (some ⟨p, 0, none⟩), Ptr.none.val, .slice none 0 0]) Tryz.func32 rfl rfl rfl ?_
 refine EC_rseq ?_
 refine EL_op rfl (O_box hs rfl rfl (fun b4 w hb4 hs => ?_))
 refine EL_run rfl (R_assign rfl) ?_
 refine EL_run rfl (R_assign rfl) ?_
 refine EL_run rfl (R_assign rfl) ?_
 refine EL_nil ?_
 refine EC_seq ?_
 refine EC_rseq ?_
 refine EL_run rfl (R_move rfl) ?_
 refine EL_op rfl (O_call hs [true, true, true, true, true, true, true, true] [0] rfl rfl rfl Tryz.call94 (ready_spec p g m hm) (fun v es1 ds1 w hPhi hs => ?_))
 obtain ⟨rfl, rfl, rfl⟩ := hPhi
 refine EL_run rfl (R_assign rfl) ?_
 refine EL_nil ?_
 refine EC_rseq ?_
 refine EL_run rfl (R_move rfl) ?_
 refine EL_run rfl (R_neq rfl rfl) ?_
 refine EL_run rfl (R_move rfl) ?_
 refine EL_split 20 rfl (fun hg2 => ?_) (fun hg2 => ?_)
 ·exact absurd (of_decide_eq_true hg2) (by omega)
 ·have hg2p := cvt hg2; try dsimp only at hg2p
  refine EL_want rfl rfl hg2 ?_
  refine EL_run rfl (R_lw (hs.at (i := 8) rfl) Tryz.isAgg32 Tryz.sizeOf32 rfl (Ptr.size _)) ?_
  refine EL_want rfl rfl hg2 ?_
  refine EL_op rfl (O_call hs [] [] rfl rfl rfl Tryz.call29 (ptrNone_spec Ptr.none) (fun v es1 ds1 w hPhi hs => ?_))
  obtain ⟨rfl, rfl, rfl⟩ := hPhi
  refine EL_run rfl (R_pickF rfl hg2 rfl) ?_
  refine EL_nil ?_
  refine EC_cond rfl (fun hc23 => ?_) (fun hc23 => ?_)
  ·have hc23p := cvt hc23; try dsimp only at hc23p
   refine EC_rseq ?_
   refine EL_run rfl (R_move rfl) ?_
   refine EL_run rfl (R_assign rfl) ?_
   refine EL_run rfl (R_assign rfl) ?_
   refine EL_run rfl (R_assign rfl) ?_
   refine EL_nil ?_
   refine EC_ret ?_
   refine Then_r ?_
   exact ⟨[_, _, _], ⟨rfl, rfl, rfl, trivial⟩, _, _, ⟨rfl, rfl, rfl⟩, (hs.fin [true, true, true, true, true, true, true, true] []).as rfl rfl⟩
  ·exact absurd rfl (of_decide_eq_false hc23)

set_option maxRecDepth 100000 in
theorem wanted_spec (q : Ptr) {w0 : World} : Spec Tryz.prog 98 #[q.val] w0 [] [] (fun v es1 ds1 => v = .bool true ∧ es1 = [] ∧ ds1 = []) := by
 refine Spec.intro (fun F D hs => ?_)
 refine Calls_of_EC (args := [q.val]) Tryz.func98 rfl rfl rfl ?_
 refine EC_rseq ?_
 refine EL_op rfl (O_box hs rfl rfl (fun b1 w hb1 hs => ?_))
 refine EL_run rfl (R_assign rfl) ?_
 refine EL_nil ?_
 refine EC_rseq ?_
 refine EL_run rfl (R_assign rfl) ?_
 refine EL_nil ?_
 refine EC_ret ?_
 exact ⟨[_], ⟨rfl, trivial⟩, _, _, ⟨rfl, rfl, rfl⟩, (hs.fin [] []).as rfl rfl⟩

set_option maxRecDepth 100000 in
theorem met_spec (rb : Nat) (rv : Value) (r : RpM) (q : Ptr) (n : Nd) {w0 : World} (hr : r.blocks.length ≤ 1000000 ∧ 0 ≤ r.pairs ∧ r.pairs ≤ 1000000000000 ∧ 0 ≤ r.height ∧ r.height ≤ 1000) (hl : 0 ≤ n.lvl ∧ n.lvl ≤ 100) (hk : n.keys.length ≤ 1000000) : Spec Tryz.prog 99 #[q.val, n.val, .pointer (some ⟨rb, 0, none⟩)] w0 [blk rb #[rv, .int .i64 r.pairs, .int .i64 r.height] 41, oSl rv 32 36 r.blocks.length (r.blocks.flatMap Ptr.l)] [] (fun v es1 ds1 => ∃ rv', v = .tuple #[] ∧ es1 = [blk rb #[rv', .int .i64 (met r q n.m).pairs, .int .i64 (met r q n.m).height] 41, oSl rv' 32 36 (met r q n.m).blocks.length ((met r q n.m).blocks.flatMap Ptr.l)] ∧ ds1 = []) := by
 refine Spec.intro (fun F D hs => ?_)
 obtain ⟨lvl, ko, kc, keys, vo, vc, vals, po, pc, kids⟩ := n
 refine Calls_of_EC (args := [q.val, .agg #[.int .i64 lvl, .slice ko keys.length kc, .slice vo vals.length vc, .slice po kids.length pc], .pointer (some ⟨rb, 0, none⟩)]) Tryz.func99 rfl rfl rfl ?_
 refine EC_rseq ?_
 refine EL_op rfl (O_box hs rfl rfl (fun b3 w hb3 hs => ?_))
 refine EL_op rfl (O_box hs rfl rfl (fun b4 w hb4 hs => ?_))
 refine EL_nil ?_
 change 0 ≤ lvl ∧ lvl ≤ 100 at hl
 change keys.length ≤ 1000000 at hk
 refine EC_rseq ?_
 refine EL_run rfl (R_field fo_41_0 rfl) ?_
 refine EL_run rfl (R_lb (hs.at (i := 0) rfl) Tryz.isAgg26 rfl rfl) ?_
 refine EL_run rfl (R_lw (hs.at (i := 2) rfl) Tryz.isAgg32 Tryz.sizeOf32 rfl (Ptr.size _)) ?_
 refine EL_op rfl (O_buildSlice [.tmp 7] hs rfl ei_26 rfl rfl rfl (sizeN (Ptr.size _)) (by decide) (fun b8 w hb8 hs => ?_))
 refine EL_op rfl (O_append hs (i := 1) rfl rfl ei_26 rfl rfl (Src.own (hs.at (i := 4) rfl)) (ptr_oneF _) (by omega) (by omega) (fun v9 w hs => ?_))
 obtain ⟨z1, z2, rfl⟩ := oSl.val (hs.at (i := 1) rfl)
 have hs := hs.pushed (i := 1) rfl q rfl
 refine EL_run rfl (R_field fo_41_0 rfl) ?_
 refine EL_op rfl (O_store hs (i := 0) rfl Tryz.sizeOf26 rfl rfl rfl rfl (fun w hs => ?_))
 refine EL_nil ?_
 refine EC_rseq ?_
 refine EL_run rfl (R_field fo_41_2 rfl) ?_
 refine EL_run rfl (R_lb (hs.at (i := 0) rfl) Tryz.isAgg3 rfl rfl) ?_
 refine EL_run rfl (R_field fo_39_0 rfl) ?_
 refine EL_run rfl (R_lb (hs.at (i := 3) rfl) Tryz.isAgg3 rfl rfl) ?_
 refine EL_run rfl (R_addI rfl rfl (by omega)) ?_
 refine EL_run rfl (R_max rfl rfl) ?_
 refine EL_run rfl (R_field fo_41_2 rfl) ?_
 refine EL_op rfl (O_store hs (i := 0) rfl Tryz.sizeOf3 rfl rfl rfl rfl (fun w hs => ?_))
 refine EL_nil ?_
 refine EC_rseq ?_
 refine EL_run rfl (R_field fo_39_0 rfl) ?_
 refine EL_run rfl (R_lb (hs.at (i := 3) rfl) Tryz.isAgg3 rfl rfl) ?_
 refine EL_run rfl (R_eql rfl rfl) ?_
 refine EL_nil ?_
 refine EC_cond rfl (fun hc20 => ?_) (fun hc20 => ?_)
 ·have hc20p := cvt hc20; try dsimp only at hc20p
  refine EC_region ?_
  refine EL_run rfl (R_field fo_41_1 rfl) ?_
  refine EL_run rfl (R_lb (hs.at (i := 0) rfl) Tryz.isAgg3 rfl rfl) ?_
  refine EL_run rfl (R_field fo_39_1 rfl) ?_
  refine EL_run rfl (R_lb (hs.at (i := 3) rfl) Tryz.isAgg37 rfl rfl) ?_
  refine EL_run rfl (R_lenS Tryz.underlying37 rfl) ?_
  refine EL_run rfl (R_addI rfl rfl (by omega)) ?_
  refine EL_run rfl (R_field fo_41_1 rfl) ?_
  refine EL_op rfl (O_store hs (i := 0) rfl Tryz.sizeOf3 rfl rfl rfl rfl (fun w hs => ?_))
  refine EL_nil ?_
  exact ⟨[], trivial, _, _, ⟨_, rfl, rfl, rfl⟩, (hs.fin [true, true] []).as (by rw [show (met r q (Nd.m ⟨lvl, ko, kc, keys, vo, vc, vals, po, pc, kids⟩)).pairs = r.pairs + (keys.length : Int) from (if_pos hc20p).trans (by simp [Nd.m])]; rfl) rfl⟩
 ·have hc20p := cvt hc20; try dsimp only at hc20p
  refine EC_skip ?_
  exact ⟨[], trivial, _, _, ⟨_, rfl, rfl, rfl⟩, (hs.fin [true, true] []).as (by rw [show (met r q (Nd.m ⟨lvl, ko, kc, keys, vo, vc, vals, po, pc, kids⟩)).pairs = r.pairs from if_neg hc20p]; rfl) rfl⟩

set_option maxRecDepth 100000 in
set_option maxHeartbeats 1000000 in
theorem vwalk_spec (p : Nat) (g : PoG) (m : PoM) (root : Ptr) (rb : Nat) (rv : Value) (k : Nat) (o : RpM × Int) {w0 : World} (hm : m.ok g) (ho : (root = Ptr.none ∧ o = (RpM.zero, 0)) ∨ (root ≠ Ptr.none ∧ VW m k [⟨root, -1, 0, [], [], false⟩] RpM.zero o)) (hb : o.1.blocks.length ≤ 500000) : Spec Tryz.prog 97 #[.pointer (some ⟨p, 0, none⟩), root.val, .func (.func 98) #[] #[], .func (.func 99) #[] #[.pointer (some ⟨rb, 0, none⟩)]] w0 (poE p g m ++ [blk rb #[rv, .int .i64 RpM.zero.pairs, .int .i64 RpM.zero.height] 41, oSl rv 32 36 RpM.zero.blocks.length (RpM.zero.blocks.flatMap Ptr.l)]) (poD g m) (fun v es1 ds1 => ∃ rv', v = .int .i64 o.2 ∧ es1 = poE p g m ++ [blk rb #[rv', .int .i64 o.1.pairs, .int .i64 o.1.height] 41, oSl rv' 32 36 o.1.blocks.length (o.1.blocks.flatMap Ptr.l)] ∧ ds1 = []) := by
 refine Spec.intro (fun F D hs => ?_)
 refine Calls_of_EC (args := [.pointer (some ⟨p, 0, none⟩), root.val, .func (.func 98) #[] #[], .func (.func 99) #[] #[.pointer (some ⟨rb, 0, none⟩)]]) Tryz.func97 rfl rfl rfl ?_
 refine EC_rseq ?_
 refine EL_op rfl (O_box hs rfl rfl (fun b5 w hb5 hs => ?_))
 refine EL_run rfl (R_assign rfl) ?_
 refine EL_nil ?_
 refine EC_seq ?_
 refine EC_rseq ?_
 refine EL_run rfl (R_move rfl) ?_
 refine EL_run rfl (R_buildS (cs := Ptr.none.cells) [] pl_32 Tryz.zeroValue32 rfl rfl rfl) ?_
 refine EL_op rfl (O_call hs [true, true, true, true, true, true, true, true] [0] rfl rfl rfl Tryz.call32 (getNone_spec p g m hm) (fun v es1 ds1 w hPhi hs => ?_))
 obtain ⟨rfl, rfl, rfl⟩ := hPhi
 refine EL_run rfl (R_move rfl) ?_
 refine EL_run rfl (R_extract rfl rfl) ?_
 refine EL_run rfl (R_extract rfl rfl) ?_
 refine EL_run rfl (R_extract rfl rfl) ?_
 refine EL_run rfl (R_assign rfl) ?_
 refine EL_run rfl (R_assign rfl) ?_
 refine EL_run rfl (R_assign rfl) ?_
 refine EL_nil ?_
 refine EC_rseq ?_
 refine EL_run rfl (R_move rfl) ?_
 refine EL_run rfl (R_neq rfl rfl) ?_
 refine EL_run rfl (R_move rfl) ?_
 refine EL_split 25 rfl (fun hg2 => ?_) (fun hg2 => ?_)
 ·exact absurd (of_decide_eq_true hg2) (by omega)
 ·have hg2p := cvt hg2; try dsimp only at hg2p
  refine EL_want rfl rfl hg2 ?_
  refine EL_run rfl (R_lw (hs.at (i := 10) rfl) Tryz.isAgg32 Tryz.sizeOf32 rfl (Ptr.size _)) ?_
  refine EL_want rfl rfl hg2 ?_
  refine EL_op rfl (O_call hs [] [] rfl rfl rfl Tryz.call29 (ptrNone_spec root) (fun v es1 ds1 w hPhi hs => ?_))
  obtain ⟨rfl, rfl, rfl⟩ := hPhi
  refine EL_run rfl (R_pickF rfl hg2 rfl) ?_
  refine EL_nil ?_
  refine EC_cond rfl (fun hc28 => ?_) (fun hc28 => ?_)
  ·have hc28p := cvt hc28; try dsimp only at hc28p
   refine EC_rseq ?_
   refine EL_run rfl (R_move rfl) ?_
   refine EL_run rfl (R_assign rfl) ?_
   refine EL_nil ?_
   refine EC_ret ?_
   refine Then_r ?_
   obtain ⟨_, rfl⟩ : root = Ptr.none ∧ o = (RpM.zero, 0) := ho.resolve_right (fun h => h.1 hc28p)
   exact ⟨[_], ⟨rfl, trivial⟩, _, _, ⟨_, rfl, rfl, rfl⟩, (hs.fin [true, true, true, true, true, true, true, true, true, true] []).as rfl rfl⟩
  ·have hc28p := cvt hc28; try dsimp only at hc28p
   refine EC_skip ?_
   refine Then_n ?_
   have hvw := (ho.resolve_left (fun h => hc28p h.1)).2
   have hs := hs.nilD 1
   have hs := (hs.mkAnd (j := 1) (k := 1) rfl rfl).dAllNil Pl.D
   have hs := hs.dAllSnoc (g := Pl.D) (l := []) (x := ⟨root, -1, 0, ⟨none, 0, []⟩, ⟨none, 0, []⟩, false⟩) (j := 3) (k := 2) rfl rfl
   refine EC_rseq ?_
   refine EL_run rfl (R_lw (hs.at (i := 10) rfl) Tryz.isAgg32 Tryz.sizeOf32 rfl (Ptr.size _)) ?_
   refine EL_run rfl (R_buildS (cs := (Pl.l ⟨root, -1, 0, ⟨none, 0, []⟩, ⟨none, 0, []⟩, false⟩).toArray) [(0, .tmp 30), (1, .const (.int .i64 (-1)))] pl_278 Tryz.zeroValue278 rfl rfl (Pl.fillRoot rfl (by kernel_rfl) root)) ?_
   refine EL_op rfl (O_buildSlice [.tmp 31] hs rfl ei_279 rfl rfl rfl (sizeN (Pl.size _)) (by decide) (fun b32 w hb32 hs => ?_))
   refine EL_run rfl (R_assign rfl) ?_
   refine EL_nil ?_
   refine EC_seq ?_
   refine EC_block ?_
   refine EC_loop (fun mm ρ w => ∃ (L : List Pl) (v rv : Value) (r : RpM), VW m mm (L.reverse.map Pl.m) r o ∧ (L.length ≤ r.blocks.length * 4096 + 1 ∧ 0 ≤ r.pairs ∧ r.pairs ≤ r.blocks.length * 4096 ∧ 0 ≤ r.height ∧ r.height ≤ 100) ∧ Slots ρ [(0, .pointer (some ⟨p, 0, none⟩)), (2, .func (.func 98) #[] #[]), (3, .func (.func 99) #[] #[.pointer (some ⟨rb, 0, none⟩)]), (12, v)] ∧ St w0 F D (poE p g m ++ [blk rb #[rv, .int .i64 r.pairs, .int .i64 r.height] 41, oSl rv 32 36 r.blocks.length (r.blocks.flatMap Ptr.l), oSl v 278 41 L.length (L.flatMap Pl.l)]) (poD g m ++ [dAll Pl.D L]) w) (k) (⟨[⟨root, -1, 0, ⟨none, 0, []⟩, ⟨none, 0, []⟩, false⟩], _, rv, RpM.zero, hvw, ⟨by simp [RpM.zero], by simp [RpM.zero], by simp [RpM.zero], by simp [RpM.zero], by simp [RpM.zero]⟩, ⟨rfl, rfl, rfl, rfl, trivial⟩, (hs.fin [true, true, true, true, true, true, true, true, true, true, false, true] [0, 4]).as rfl rfl⟩) ?_
   rintro mm ρ w ⟨L, v, rv, r, hv, hr, hsl, hs⟩
   refine EC_slots _ hsl ?_
   have hmo := hv.mono
   obtain ⟨zo, zc, rfl⟩ := oSl.val (hs.at (i := 10) rfl)
   refine EC_seq ?_
   refine EC_rseq ?_
   refine EL_run rfl (R_move rfl) ?_
   refine EL_run rfl (R_lenS Tryz.underlying279 rfl) ?_
   refine EL_run rfl (R_gtr rfl rfl) ?_
   refine EL_nil ?_
   refine EC_cond rfl (fun hc35 => ?_) (fun hc35 => ?_)
   ·have hc35p := cvt hc35; try dsimp only at hc35p
    obtain ⟨L1, x, rfl⟩ : ∃ L1 x, L = L1 ++ [x] := by
      rcases List.eq_nil_or_concat L with h | ⟨a, b, h⟩
      · rw [h] at hc35p; exact absurd hc35p (by decide)
      · exact ⟨a, b, by rw [h, List.concat_eq_append]⟩
    obtain ⟨zb, rfl⟩ := oSl.some (hs.at (i := 10) rfl) (by simp)
    have hl1 : (L1 ++ [x]).length = L1.length + 1 := by simp
    rw [List.reverse_append] at hv
    have hs := hs.dAllGet (j := 1) rfl (show x ∈ L1 ++ [x] by simp)
    have hs := (hs.dAnd1 (j := 2) (a := x.fr.D) (b := x.be.D) rfl).dAnd2 (j := 2) (a := x.fr.D) (b := x.be.D) rfl
    refine EC_skip ?_
    refine Then_n ?_
    refine EC_block ?_
    refine EC_rseq ?_
    refine EL_run rfl (R_move rfl) ?_
    refine EL_run rfl (R_move rfl) ?_
    refine EL_run rfl (R_lenS Tryz.underlying279 rfl) ?_
    refine EL_run rfl (R_subI rfl rfl (by omega)) ?_
    refine EL_run rfl (R_idx es_279 rfl rfl rfl (by omega) (by omega)) ?_
    refine EL_run rfl (R_ldE (i := L1.length) (f := Pl.l) (oSl.toD (hs.at (i := 10) rfl)) Pl.len Tryz.isAgg278 Tryz.sizeOf278 rfl (by simp <;> omega) (get_last _ _) (by decide)) ?_
    refine EL_op rfl (O_alloc hs rfl Tryz.zeroValue278 (fun b13 w hb13 hs => ?_))
    refine EL_op rfl (O_storeW hs (i := 11) rfl sz_278 rfl rfl (by kernel_rfl) (Pl.size x) (Pl.oneA x) (fun w hs => ?_))
    refine EL_nil ?_
    refine EC_rseq ?_
    refine EL_run rfl (R_move rfl) ?_
    refine EL_run rfl (R_move rfl) ?_
    refine EL_run rfl (R_lenS Tryz.underlying279 rfl) ?_
    refine EL_run rfl (R_subI rfl rfl (by omega)) ?_
    refine EL_run rfl (R_sliceHi es_279 rfl rfl (by omega) (by have := (oSl.toD (hs.at (i := 10) rfl)).1.1; omega)) ?_
    rw [show (((L1 ++ [x]).length : Int) - 1).toNat = L1.length by omega]
    have hs := hs.cutOwn (i := 10) rfl (k := L1.length) (by omega)
    have hs := hs.asSl (i := 10) rfl L1.length (L1.flatMap Pl.l) rfl (by rw [flat_take 41 Pl.l Pl.len, List.take_left])
    refine EL_run rfl (R_assign rfl) ?_
    refine EL_nil ?_
    refine EC_seq ?_
    refine EC_rseq ?_
    refine EL_run rfl (R_move rfl) ?_
    refine EL_run rfl (R_field fo_278_0 rfl) ?_
    refine EL_run rfl (R_lp (cs := x.at_.l) (hs.at (i := 11) rfl) Tryz.isAgg32 Tryz.sizeOf32 rfl (Ptr.len_l _) x.ptr) ?_
    refine EL_op rfl (O_call hs [] [] rfl rfl rfl Tryz.call98 (wanted_spec x.at_) (fun v es1 ds1 w hPhi hs => ?_))
    obtain ⟨rfl, rfl, rfl⟩ := hPhi
    refine EL_run rfl (R_not rfl) ?_
    refine EL_nil ?_
    refine EC_cond rfl (fun hc51 => ?_) (fun hc51 => ?_)
    ·exact Bool.noConfusion hc51
    ·have hc51p := cvt hc51; try dsimp only at hc51p
     refine EC_skip ?_
     refine Then_n ?_
     refine EC_rseq ?_
     refine EL_run rfl (R_move rfl) ?_
     refine EL_run rfl (R_field fo_278_0 rfl) ?_
     refine EL_run rfl (R_lp (cs := x.at_.l) (hs.at (i := 11) rfl) Tryz.isAgg32 Tryz.sizeOf32 rfl (Ptr.len_l _) x.ptr) ?_
     refine EL_op rfl (O_call hs [true, true, true, true, true, true, true, true] [0] rfl rfl rfl Tryz.call103 (load_spec p g m x.at_ hm) (fun v es1 ds1 w hPhi hs => ?_))
     obtain ⟨nn, hnm, rfl, rfl, rfl⟩ := hPhi
     refine EL_run rfl (R_move rfl) ?_
     refine EL_run rfl (R_extract rfl rfl) ?_
     refine EL_run rfl (R_extract rfl rfl) ?_
     refine EL_op rfl (O_alloc hs rfl Tryz.zeroValue39 (fun b14 w hb14 hs => ?_))
     refine EL_op rfl (O_storeW hs (i := 12) rfl sz_39 rfl rfl rfl rfl (Nd.oneA nn) (fun w hs => ?_))
     refine EL_run rfl (R_assign rfl) ?_
     refine EL_nil ?_
     refine EC_seq ?_
     refine EC_rseq ?_
     refine EL_run rfl (R_move rfl) ?_
     refine EL_run rfl (R_neq rfl rfl) ?_
     refine EL_nil ?_
     refine EC_cond rfl (fun hc60 => ?_) (fun hc60 => ?_)
     ·have hc60p := cvt hc60; try dsimp only at hc60p
      refine EC_rseq ?_
      refine EL_run rfl (R_move rfl) ?_
      refine EL_run rfl (R_assign rfl) ?_
      refine EL_nil ?_
      refine EC_ret ?_
      refine Then_r ?_
      refine InBlock_r ?_
      refine Then_r ?_
      refine InBlock_r ?_
      refine Then_r ?_
      obtain rfl := hv.bad_inv hc60p
      exact ⟨[_], ⟨rfl, trivial⟩, _, _, ⟨_, rfl, rfl, rfl⟩, (hs.fin [true, true, true, true, true, true, true, true, true, true] []).as rfl rfl⟩
     ·have hc60p := cvt hc60; try dsimp only at hc60p
      refine EC_skip ?_
      refine Then_n ?_
      refine EC_seq ?_
      have hp0 : (poLoad m x.at_).2 = 0 := by omega
      have hnx : nn.m = (poLoad m x.m.at_).1 := hnm
      have hri := poLoad_right hp0
      rw [← hnm] at hri
      have hk1 : nn.m.keys.length = nn.keys.length := by simp [Nd.m]
      have hk2 : nn.m.kids.length = nn.kids.length := rfl
      have hk3 := hri.1.some
      have hk4 := hri.1.lvl
      have hk5 : nn.m.lvl = nn.lvl := rfl
      have hk6 := hri.1.lists
      unfold NdM.lists at hk6
      refine EC_rseq ?_
      refine EL_run rfl (R_lw (hs.at (i := 11) rfl) Tryz.isAgg278 Tryz.sizeOf278 rfl (Pl.size x)) ?_
      refine EL_run rfl (R_lw (hs.at (i := 12) rfl) Tryz.isAgg39 Tryz.sizeOf39 rfl rfl) ?_
      refine EL_op rfl (O_call hs [] [5, 6, 7, 4, 3] rfl rfl rfl Tryz.call185 (fits_spec x nn (by omega) (by omega)) (fun v es1 ds1 w hPhi hs => ?_))
      obtain ⟨bf, rfl, hbf, rfl, rfl⟩ := hPhi
      refine EL_run rfl (R_not rfl) ?_
      refine EL_nil ?_
      refine EC_cond rfl (fun hc65 => ?_) (fun hc65 => ?_)
      ·have hc65p := cvt hc65; try dsimp only at hc65p
       refine EC_rseq ?_
       refine EL_run rfl (R_assign rfl) ?_
       refine EL_nil ?_
       refine EC_ret ?_
       refine Then_r ?_
       refine InBlock_r ?_
       refine Then_r ?_
       refine InBlock_r ?_
       refine Then_r ?_
       obtain rfl := hv.form_inv hp0 (fun h => by rw [← hnx] at h; rw [hbf.2 h] at hc65p; cases hc65p)
       exact ⟨[_], ⟨rfl, trivial⟩, _, _, ⟨_, rfl, rfl, rfl⟩, (hs.fin [true, true, true, true, true, true, true, true, true, true] []).as rfl rfl⟩
      ·have hc65p := cvt hc65; try dsimp only at hc65p
       refine EC_skip ?_
       refine Then_n ?_
       obtain ⟨j, rfl, hvj⟩ := hv.step_inv hp0 (by rw [← hnx]; exact hbf.1 hc65p)
       have hmo2 := hvj.mono
       have hmo3 : r.blocks.length + 1 ≤ o.1.blocks.length := by simp only [met, List.length_append, List.length_cons, List.length_nil] at hmo2; omega
       have hq1 : 0 ≤ (met r x.at_ nn.m).pairs := by
         simp only [met]
         split <;> omega
       have hq2 : (met r x.at_ nn.m).pairs ≤ ((met r x.at_ nn.m).blocks.length : Int) * 4096 := by
         simp only [met, List.length_append, List.length_cons, List.length_nil]
         split <;> omega
       have hq3 : 0 ≤ (met r x.at_ nn.m).height := by simp only [met]; omega
       have hq4 : (met r x.at_ nn.m).height ≤ 100 := by simp only [met]; omega
       refine EC_rseq ?_
       refine EL_run rfl (R_move rfl) ?_
       refine EL_run rfl (R_field fo_278_0 rfl) ?_
       refine EL_run rfl (R_lp (cs := x.at_.l) (hs.at (i := 11) rfl) Tryz.isAgg32 Tryz.sizeOf32 rfl (Ptr.len_l _) x.ptr) ?_
       refine EL_run rfl (R_lw (hs.at (i := 12) rfl) Tryz.isAgg39 Tryz.sizeOf39 rfl rfl) ?_
       refine EL_op rfl (O_call hs [false, false, false, false, false, false, false, false, true, true] [] rfl rfl rfl Tryz.call99 (met_spec rb rv r x.at_ nn (by omega) (by omega) (by omega)) (fun v es1 ds1 w hPhi hs => ?_))
       obtain ⟨rv', rfl, rfl, rfl⟩ := hPhi
       refine EL_nil ?_
       refine EC_region ?_
       refine EL_run rfl (R_move rfl) ?_
       refine EL_run rfl (R_lw (hs.at (i := 11) rfl) Tryz.isAgg278 Tryz.sizeOf278 rfl (Pl.size x)) ?_
       refine EL_run rfl (R_lw (hs.at (i := 12) rfl) Tryz.isAgg39 Tryz.sizeOf39 rfl rfl) ?_
       refine EL_op rfl (O_call hs [] [5, 6, 7, 4] rfl rfl rfl Tryz.call186 (kids_spec x nn (by split at hk6 <;> omega) (by omega) (by omega)) (fun v es1 ds1 w hPhi hs => ?_))
       obtain ⟨Lk, hLk, rfl, rfl⟩ := hPhi
       have hLl : Lk.length ≤ 4096 := by rw [← List.length_map (f := Pl.m), hLk, List.length_reverse, kidsOf, List.length_map, List.length_range]; split at hk6 <;> omega
       refine EL_op rfl (O_append hs (i := 10) rfl rfl ei_279 rfl rfl (Src.own (hs.at (i := 13) rfl)) (Pl.one Lk) (by omega) (by omega) (fun v75 w hs => ?_))
       have hs := hs.asSl (i := 10) rfl (L1 ++ Lk).length ((L1 ++ Lk).flatMap Pl.l) (by simp) (by simp)
       have hs := hs.dAllSub (j := 1) (l' := L1) rfl (fun y hy => List.mem_append_left _ hy)
       have hs := hs.dAllApp (j := 9) (k := 8) rfl rfl
       refine EL_run rfl (R_assign rfl) ?_
       refine EL_nil ?_
       refine InBlock_n ?_
       refine Then_n ?_
       exact ⟨j, by omega, L1 ++ Lk, _, rv', met r x.at_ nn.m, by
         rw [hnm, List.reverse_append, List.map_append, List.map_reverse (l := Lk), hLk, List.reverse_reverse, hnm]; exact hvj, ⟨by simp only [met, List.length_append, List.length_cons, List.length_nil]; omega, hq1, hq2, hq3, hq4⟩, ⟨rfl, rfl, rfl, rfl, trivial⟩, (hs.fin [true, true, true, true, true, true, true, true, true, true, true] [0, 10]).as rfl rfl⟩
   ·have hc35p := cvt hc35; try dsimp only at hc35p
    obtain rfl : L = [] := List.eq_nil_of_length_eq_zero (by omega)
    refine EC_exit ?_
    refine Then_e ?_
    refine Then_e ?_
    refine InBlock_hit rfl ?_
    refine Then_n ?_
    refine EC_rseq ?_
    refine EL_run rfl (R_assign rfl) ?_
    refine EL_nil ?_
    refine EC_ret ?_
    obtain rfl := hv.done_inv
    exact ⟨[_], ⟨rfl, trivial⟩, _, _, ⟨_, rfl, rfl, rfl⟩, (hs.fin [true, true, true, true, true, true, true, true, true, true] []).as rfl rfl⟩

set_option maxRecDepth 100000 in
theorem vWalkAll_spec (p : Nat) (g : PoG) (m : PoM) (root : Ptr) (k : Nat) (o : RpM × Int) {w0 : World} (hm : m.ok g) (ho : (root = Ptr.none ∧ o = (RpM.zero, 0)) ∨ (root ≠ Ptr.none ∧ VW m k [⟨root, -1, 0, [], [], false⟩] RpM.zero o)) (hb : o.1.blocks.length ≤ 500000) : Spec Tryz.prog 21 #[.pointer (some ⟨p, 0, none⟩), root.val] w0 (poE p g m) (poD g m) (fun v es1 ds1 => ∃ ao c, v = .tuple #[.agg #[.slice ao (repOf o).blocks.length c, .int .i64 (repOf o).pairs, .int .i64 (repOf o).height], .int .i64 o.2] ∧ es1 = (poE p g m) ∧ ds1 = [dP ao c (repOf o).blocks]) := by
 refine Spec.intro (fun F D hs => ?_)
 refine Calls_of_EC (args := [.pointer (some ⟨p, 0, none⟩), root.val]) Tryz.func21 rfl rfl rfl ?_
 refine EC_rseq ?_
 refine EL_op rfl (O_box hs rfl rfl (fun b3 w hb3 hs => ?_))
 refine EL_op rfl (O_alloc hs rfl Tryz.zeroValue41 (fun b4 w hb4 hs => ?_))
 refine EL_run rfl (R_assign rfl) ?_
 refine EL_nil ?_
 refine EC_rseq ?_
 refine EL_op rfl (O_alloc hs rfl Tryz.zeroValue41 (fun b6 w hb6 hs => ?_))
 have hs := hs.as (es' := poE p g m ++ [blk b3 root.cells 32, blk b4 #[.slice none 0 0, .int .i64 0, .int .i64 0] 41, blk b6 #[.slice none 0 0, .int .i64 0, .int .i64 0] 41]) (ds' := poD g m) (by kernel_rfl) rfl
 have hs := hs.nilSl 32 36
 refine EL_nil ?_
 refine EC_rseq ?_
 refine EL_run rfl (R_move rfl) ?_
 refine EL_run rfl (R_lw (hs.at (i := 8) rfl) Tryz.isAgg32 Tryz.sizeOf32 rfl (Ptr.size _)) ?_
 refine EL_run rfl (R_makeFunc rfl rfl) ?_
 refine EL_op rfl (O_call hs [true, true, true, true, true, true, true, true, false, false, true, true] [0] rfl rfl rfl Tryz.call97 (vwalk_spec p g m root b6 (.slice none 0 0) k o hm ho hb) (fun v es1 ds1 w hPhi hs => ?_))
 obtain ⟨rv, rfl, rfl, rfl⟩ := hPhi
 refine EL_run rfl (R_assign rfl) ?_
 refine EL_nil ?_
 refine EC_seq ?_
 refine EC_rseq ?_
 refine EL_run rfl (R_move rfl) ?_
 refine EL_run rfl (R_neq rfl rfl) ?_
 refine EL_nil ?_
 refine EC_cond rfl (fun hc13 => ?_) (fun hc13 => ?_)
 ·have hc13p := cvt hc13; try dsimp only at hc13p
  have hs := hs.nilD 36
  have hro : repOf o = RpM.zero := if_neg hc13p
  refine EC_rseq ?_
  refine EL_run rfl (R_buildS (cs := #[.slice none 0 0, .int .i64 0, .int .i64 0]) [] pl_41 Tryz.zeroValue41 rfl rfl rfl) ?_
  refine EL_run rfl (R_move rfl) ?_
  refine EL_op rfl (O_storeW hs (i := 9) rfl sz_41 rfl rfl rfl rfl (by simp [Value.oneCell']) (fun w hs => ?_))
  refine EL_run rfl (R_assign rfl) ?_
  refine EL_nil ?_
  refine EC_ret ?_
  refine Then_r ?_
  exact ⟨[_, _], ⟨res_cell hs (i := 9) rfl Tryz.sizeOf41 Tryz.isAgg41 rfl rfl, rfl, trivial⟩, _, _, ⟨none, 0, by rw [hro]; rfl, rfl, rfl⟩, (hs.fin [true, true, true, true, true, true, true, true] [1]).as rfl (by rw [hro]; rfl)⟩
 ·have hc13p := cvt hc13; try dsimp only at hc13p
  refine EC_skip ?_
  refine Then_n ?_
  have hro : repOf o = o.1 := if_pos (by omega)
  obtain ⟨a2, c2, rfl, hs⟩ := hs.freezeSl (i := 11) rfl
  refine EC_rseq ?_
  refine EL_run rfl (R_lw (hs.at (i := 10) rfl) Tryz.isAgg41 Tryz.sizeOf41 rfl rfl) ?_
  refine EL_op rfl (O_storeW hs (i := 9) rfl sz_41 rfl rfl rfl rfl (by simp [Value.oneCell']) (fun w hs => ?_))
  refine EL_run rfl (R_assign rfl) ?_
  refine EL_nil ?_
  refine EC_ret ?_
  exact ⟨[_, _], ⟨res_cell hs (i := 9) rfl Tryz.sizeOf41 Tryz.isAgg41 rfl rfl, rfl, trivial⟩, _, _, ⟨a2, c2, by rw [hro, show o.2 = 0 by omega]; rfl, rfl, rfl⟩, (hs.fin [true, true, true, true, true, true, true, true] [1]).as rfl (by rw [hro]; rfl)⟩
end Go.Proofs.YtpcojkbljgpecaaGreat
namespace Go.Proofs.YtpcojkbljgpecaaGreat
open Go
def freshM (n : Nat) : PoM := ⟨diNew n, ⟨2, n, 0, [⟨2, n⟩], [], [⟨2, n⟩]⟩, 1, false, []⟩
theorem spAdd_nil {s : Sp} (h : s.right = true) : spAdd [] s = [s] := by
  unfold spAdd
  rw [if_pos ⟨rfl, h⟩]
  rfl
theorem freshM_ok {n : Nat} {d : Nat} {dg : DiG} {a : Nat} {ag : AlG} {ko : Option Addr} {kc : Nat} (hn : 3 ≤ n ∧ n ≤ 8192) (hag : ag.ok ⟨2, n, 0, [⟨2, n⟩], [], [⟨2, n⟩]⟩) : (freshM n).ok ⟨d, dg, a, ag, ko, kc⟩ := by
  have hv : valid [(⟨2, n⟩ : Sp)] = true := by
    unfold valid validFrom
    rw [show (Sp.mk 2 (n : Int)).right = true by rw [Sp.right_iff]; dsimp only; omega]
    simp [validFrom]
  refine ⟨⟨by simp [freshM, diNew]; omega, by simp [freshM, diNew]⟩, ⟨by simp [freshM]; omega, by simp [freshM], hv, hv, by simp [freshM], by simp [freshM], by simp [freshM]⟩, hag, by simp [freshM]; omega, by simp [freshM]⟩
set_option maxRecDepth 100000 in
theorem fresh_spec (n : Nat) {w0 : World} (hn : 3 ≤ n ∧ n ≤ 8192) : Spec Tryz.prog 19 #[.int .i64 (n : Int)] w0 [] [] (fun v es1 ds1 => ∃ (p : Nat) (g : PoG), v = .pointer (some ⟨p, 0, none⟩) ∧ (freshM n).ok g ∧ es1 = poE p g (freshM n) ∧ ds1 = poD g (freshM n)) := by
 refine Spec.intro (fun F D hs => ?_)
 refine Calls_of_EC (args := [.int .i64 (n : Int)]) Tryz.func19 rfl rfl rfl ?_
 refine EC_rseq ?_
 refine EL_run rfl (R_assign rfl) ?_
 refine EL_nil ?_
 refine EC_rseq ?_
 refine EL_run rfl (R_move rfl) ?_
 refine EL_op rfl (O_call hs [] [] rfl rfl rfl Tryz.call58 (diNew_spec n (by omega)) (fun v es1 ds1 w hPhi hs => ?_))
 obtain ⟨d, dg, rfl, rfl, rfl⟩ := hPhi
 refine EL_run rfl (R_move rfl) ?_
 refine EL_run rfl (R_extract rfl rfl) ?_
 refine EL_run rfl (R_extract rfl rfl) ?_
 refine EL_run rfl (R_assign rfl) ?_
 refine EL_run rfl (R_assign rfl) ?_
 refine EL_nil ?_
 refine EC_rseq ?_
 refine EL_run rfl (R_move rfl) ?_
 refine EL_op rfl (O_call hs [] [] rfl rfl rfl Tryz.call93 (alNew_spec 2 n 0 (by omega)) (fun v es1 ds1 w hPhi hs => ?_))
 obtain ⟨a, ag, rfl, hag, rfl, rfl⟩ := hPhi
 rw [spAdd_nil (s := ⟨2, n⟩) (by rw [Sp.right_iff]; dsimp only; omega)] at hs hag
 refine EL_run rfl (R_move rfl) ?_
 refine EL_run rfl (R_extract rfl rfl) ?_
 refine EL_run rfl (R_extract rfl rfl) ?_
 refine EL_run rfl (R_assign rfl) ?_
 refine EL_run rfl (R_assign rfl) ?_
 refine EL_nil ?_
 refine EC_seq ?_
 refine EC_rseq ?_
 refine EL_run rfl (R_move rfl) ?_
 refine EL_run rfl (R_neq rfl rfl) ?_
 refine EL_run rfl (R_move rfl) ?_
 refine EL_split 19 rfl (fun hg2 => ?_) (fun hg2 => ?_)
 ·exact absurd (of_decide_eq_true hg2) (by simp)
 ·have hg2p := cvt hg2; try dsimp only at hg2p
  refine EL_want rfl rfl hg2 ?_
  refine EL_run rfl (R_move rfl) ?_
  refine EL_want rfl rfl hg2 ?_
  refine EL_run rfl (R_neq rfl rfl) ?_
  refine EL_run rfl (R_pickF rfl hg2 rfl) ?_
  refine EL_nil ?_
  refine EC_cond rfl (fun hc22 => ?_) (fun hc22 => ?_)
  ·exact absurd (of_decide_eq_true hc22) (by simp)
  ·have hc22p := cvt hc22; try dsimp only at hc22p
   refine EC_skip ?_
   refine Then_n ?_
   refine EC_rseq ?_
   refine EL_run rfl (R_move rfl) ?_
   refine EL_run rfl (R_move rfl) ?_
   refine EL_run rfl (R_buildS (cs := (poCells ⟨d, dg, a, ag, none, 0⟩ (freshM n))) [(0, .tmp 23), (1, .tmp 24), (2, .const (.int .i64 1))] pl_28 Tryz.zeroValue28 rfl rfl (by kernel_rfl)) ?_
   refine EL_op rfl (O_box hs rfl rfl (fun b26 w hb26 hs => ?_))
   refine EL_run rfl (R_assign rfl) ?_
   have hs := ((hs.nilSl 32 36).perm (es' := [_, _, _, _, _, _, _, _]) (List.perm_append_comm (l₁ := [_, _, _, _, _, _]) (l₂ := [_, _])))
   refine EL_nil ?_
   refine EC_ret ?_
   exact ⟨[_], ⟨rfl, trivial⟩, _, _, ⟨b26, ⟨d, dg, a, ag, none, 0⟩, rfl, freshM_ok hn hag, rfl, rfl⟩, (hs.fin [true, true, true, true, true, true, true, true] [0]).as rfl rfl⟩
end Go.Proofs.YtpcojkbljgpecaaGreat
namespace Go.Proofs.YtpcojkbljgpecaaGreat
open Go
section
variable {P : Program} {n : Nat} {ρ : Env} {K : Env → World → Prop} {W w : World} {F D : Nat → Prop} {es ds : List Asn} {d : Nat} {ty : TypeId} {pos : String} {aft : Array Edge} {x : Operand} {t : TypeId}
theorem O_convConst {i b m c e : Nat} {l : BL} (hs : St W F D es ds w) (hi : es[i]? = some (oSl (.slice (some ⟨b, 0, none⟩) m c) e 1 m (u8s l))) (hd : Nat.blt d n = true) (hu : P.underlying t = some (.slice e)) (he : P.underlying e = some (.int .u8)) (hx : evO ρ x = some (.slice (some ⟨b, 0, none⟩) m c)) (hl : l.length = m)
    (hK : ∀ w', St W F D (es.eraseIdx i) (ds ++ [dB (some ⟨b, 0, none⟩) c l]) w' → K (upd ρ d (.slice (some ⟨b, 0, none⟩) l.length c)) w') : EOp P n ⟨some d, .convert t t x, ty, pos, aft, none⟩ K ρ w := fun a ha => by
  subst hl
  have hown := hs.at hi
  obtain ⟨_, hmc, hlen, hcells, _⟩ := own_cells hown rfl
  rcases hown.2 with ⟨hv, _⟩ | ⟨g, cap, cur, hv, _, hg, hrest⟩
  · cases hv
  · injection hv with h1 h2 h3
    injection h1 with h1
    injection h1 with h1
    subst h1
    subst h3
    have hsh : w.shape? b = some (e, cur.size) := by unfold World.shape?; rw [hg]
    have hrun : (execOp a.eval ⟨some d, .convert t t x, ty, pos, aft, none⟩).run P w = .ok (.value (.slice (some ⟨b, 0, none⟩) l.length c)) (w.freeze ⟨b, cur.size, none⟩ 1) := by
      simp [execOp, ha.eval hx, convert, run_underlying hu, run_underlying he, markStringish, hsh, Sem.run_bind]
    have hb' : (w.freeze ⟨b, cur.size, none⟩ 1).heap[b]? = some (.cells cur e (cur.size, cur.size + 1)) := by
      simp [World.freeze, Array.getElem?_modify, hg]
    have ho' : ∀ k, k ≠ b → (w.freeze ⟨b, cur.size, none⟩ 1).heap[k]? = w.heap[k]? := fun k hk => by
      simp [World.freeze, Array.getElem?_modify, Ne.symm hk]
    have hsz : (w.freeze ⟨b, cur.size, none⟩ 1).heap.size = w.heap.size := by simp [World.freeze]
    unfold Oper.wp
    rw [hrun]
    have hD : (dB (some ⟨b, 0, none⟩) c l).P (w.freeze ⟨b, cur.size, none⟩ 1) := by
      refine ⟨⟨hmc, (fun h => nomatch h), (fun ad had _ => by cases had; rfl)⟩, by simp [u8s], fun _ => ⟨b, 0, rfl, fun j u hu => ?_⟩⟩
      obtain ⟨g, hgg, hcc⟩ := hcells _ rfl
      simp only [Addr.mk.injEq, and_true] at hgg
      subst hgg
      have := hcc j u hu
      rw [cell_blk hb']
      rw [cell_blk hg] at this
      exact this
    have h1 := hs.change hi (dB (some ⟨b, 0, none⟩) c l) (by simp [World.freeze]) (by simp [World.freeze]) (by simp [World.freeze]) (by omega) (fun k _ hk => ho' k (fun e => hk (by simp [oSl, Value.ownBlock, e]))) hD (fun k hk => by
      obtain ⟨_, ad, had, rfl⟩ := hk
      cases had
      exact ⟨.inl (by simp [oSl, Value.ownBlock]), by rw [hsz]; exact (Array.getElem?_eq_some_iff.1 hg).1⟩)
    have hil : i < es.length := (List.getElem?_eq_some_iff.1 hi).1
    have h2 := h1.freeze (i := i) (a := dB (some ⟨b, 0, none⟩) c l) (by simp [hil]) (dB (some ⟨b, 0, none⟩) c l) id (fun k hk => hk)
    rw [List.eraseIdx_set_eq] at h2
    exact ⟨_, ha.put hd _, hK _ h2⟩
theorem and_one (p : Int) : IntKind.i64.wrap (((BitVec.ofInt 64 p &&& BitVec.ofInt 64 1).toNat : Nat) : Int) = p % 2 := by
  have h1 : (BitVec.ofInt 64 1 : BitVec 64) = 1#64 := by decide
  have h2 : (BitVec.ofInt 64 p &&& 1#64).toNat = (p % 2).toNat := by
    rw [BitVec.toNat_and, BitVec.toNat_ofInt]
    have h3 : (1#64).toNat = 2 ^ 1 - 1 := by decide
    rw [h3, Nat.and_two_pow_sub_one_eq_mod]
    omega
  rw [h1, h2]
  rw [wrap_i64] <;> omega
theorem R_and1 {do_ : Option Nat} {y : Operand} {t' : TypeId} {p : Int} (hx : evO ρ x = some (.int .i64 p)) (hy : evO ρ y = some (.int .i64 1)) : RunV P n ⟨do_, .binOp .and t x y t', ty, pos, aft, none⟩ ρ w (.int .i64 (p % 2)) := fun ac hr => by
  have := and_one p
  simp only [execOp, hr.eval hx, hr.eval hy, eqGuard, binOp, Op.intBits, ne_eq, not_true, if_false]
  show Sem.run P (pure (Next.value (Value.int .i64 _))) w = _
  exact congrArg (fun z => Result.ok (Next.value (Value.int .i64 z)) w) this
end
end Go.Proofs.YtpcojkbljgpecaaGreat
namespace Go.Proofs.YtpcojkbljgpecaaGreat
open Go
theorem bit_low (n : Nat) : (n % 256 ||| 128) % 128 = n % 128 ∧ 128 ≤ (n % 256 ||| 128) ∧ (n % 256 ||| 128) < 256 := by
  refine ⟨?_, Nat.right_le_or, Nat.or_lt_two_pow (n := 8) (by omega) (by omega)⟩
  have h := Nat.or_mod_two_pow (a := n % 256) (b := 128) (n := 7)
  rw [show (2 : Nat) ^ 7 = 128 from rfl] at h
  rw [h, show 128 % 128 = 0 from rfl, Nat.or_zero]
  omega
theorem rsLoop_short (long : Bool) (N : Nat) (hN : N < 2 ^ 64) (r : BL) : ∀ (k i n acc : Nat), acc + n * 2 ^ (7 * i) = N → acc < 2 ^ (7 * i) → groups N = i + k + 1 → n < 2 ^ (7 * (k + 1)) → rsLoop long (shortLoop k n ++ r) i acc = (N, i + k + 1, 0)
  | 0, i, n, acc, h1, h2, h3, h4 => by
    have hi : i ≤ 9 := by have := groups_le N hN; omega
    have h5 : n < 128 := h4
    have h6 : (UInt8.ofNat n).toNat = n := by rw [UInt8.toNat_ofNat']; omega
    have h7 : bitLen n + 7 * i ≤ 64 := by
      have h8 : bitLen n ≤ 64 - 7 * i := (bitLen_le _ _).2 (by
        have h9 : 2 ^ 64 = 2 ^ (64 - 7 * i) * 2 ^ (7 * i) := by rw [← Nat.pow_add]; congr 1; omega
        have h10 : n * 2 ^ (7 * i) < 2 ^ (64 - 7 * i) * 2 ^ (7 * i) := by omega
        exact Nat.lt_of_mul_lt_mul_right h10)
      omega
    simp only [shortLoop, List.cons_append, List.nil_append, rsLoop]
    rw [h6, Nat.mod_eq_of_lt h5, if_neg (by omega), if_pos h5, h1, if_pos (by omega)]
  | k + 1, i, n, acc, h1, h2, h3, h4 => by
    have hi : i + k + 2 ≤ 10 := by have := groups_le N hN; omega
    obtain ⟨b1, b2, b3⟩ := bit_low n
    have h6 : (UInt8.ofNat (n % 256 ||| 128)).toNat = (n % 256 ||| 128) := by rw [UInt8.toNat_ofNat']; omega
    have h7 : bitLen (n % 128) + 7 * i ≤ 64 := by
      have : bitLen (n % 128) ≤ 7 := (bitLen_le _ _).2 (by have : (2 : Nat) ^ 7 = 128 := rfl; omega)
      omega
    have hp : 2 ^ (7 * (i + 1)) = 128 * 2 ^ (7 * i) := by rw [show 7 * (i + 1) = 7 + 7 * i by omega, Nat.pow_add]
    simp only [shortLoop, List.cons_append, rsLoop]
    rw [h6, b1, if_neg (by omega), if_neg (by omega)]
    rw [rsLoop_short long N hN r k (i + 1) (n / 128) (acc + n % 128 * 2 ^ (7 * i)) ?_ ?_ (by omega) ?_]
    · congr 2; omega
    · rw [hp, ← h1, ← Nat.mul_assoc, Nat.add_assoc, ← Nat.add_mul]
      congr 2
      omega
    · exact part_sum_lt7 h2
    · rw [Nat.div_lt_iff_lt_mul (by decide)]
      have : 2 ^ (7 * (k + 1 + 1)) = 2 ^ (7 * (k + 1)) * 128 := by rw [show 7 * (k + 1 + 1) = 7 * (k + 1) + 7 by omega, Nat.pow_add]
      omega
theorem readShort_short {n : Nat} (h : n < 2 ^ 64) (r : BL) : readShort (short n ++ r) = (n, (short n).length, 0) := by
  have hl := short_len n
  have hg := groups_le n h
  have hg1 := groups_pos n
  have ht : (short n ++ r).take 10 = short n ++ r.take (10 - (short n).length) := by
    rw [List.take_append, List.take_of_length_le (by omega)]
  unfold readShort
  rw [ht]
  unfold short
  rw [rsLoop_short _ n h _ _ 0 n 0 (by simp) (by simp) (by omega) (by
    refine (bitLen_le _ _).1 ?_
    unfold groups
    omega)]
  rw [shortLoop_len]
  congr 2; omega
theorem rdNum_short {n most : Nat} (h : n ≤ most) (hm : most < 2 ^ 64) (r : BL) (bad : Bool) : rdNum (short n ++ r) bad most = (n, r, bad) := by
  unfold rdNum
  rw [readShort_short (by omega), if_neg (by simp; omega)]
  simp
theorem readText_text {s : BL} {most : Nat} (h : s.length ≤ most) (hm : most < 2 ^ 64) (r : BL) : readText (textB s ++ r) most = (s, (textB s).length, 0) := by
  unfold readText textB
  rw [List.append_assoc, readShort_short (by omega)]
  simp only
  rw [if_neg (by simp), if_neg (by omega), if_neg (by simp [List.length_append])]
  simp
theorem rdText_text {s : BL} {most : Nat} (h : s.length ≤ most) (hm : most < 2 ^ 64) (r : BL) (bad : Bool) : rdText (textB s ++ r) bad most = (s, r, bad) := by
  unfold rdText
  rw [readText_text h hm, if_neg (by simp)]
  simp
theorem leNat_fixed1 (n : Nat) : ∀ size, leNat (fixed1 size n) = n % 2 ^ (8 * size)
  | 0 => by simp [fixed1, leNat, Nat.mod_one]
  | k + 1 => by
    have h1 : fixed1 (k + 1) n = fixed1 k n ++ [UInt8.ofNat (n / 2 ^ (8 * k))] := by simp [fixed1, List.range_succ]
    have h2 : (UInt8.ofNat (n / 2 ^ (8 * k))).toNat = n / 2 ^ (8 * k) % 256 := by rw [UInt8.toNat_ofNat']
    rw [h1, leNat_snoc, leNat_fixed1 n k, fixed1_len, h2, show 8 * (k + 1) = 8 * k + 8 by omega, Nat.pow_add, show (2 : Nat) ^ 8 = 256 from rfl, Nat.mod_mul, Nat.mul_comm (2 ^ (8 * k))]
theorem ptrP_ptrB {p : Ptr} (h : p.right = true) (r : BL) : ptrP (ptrB p ++ r) = p := by
  have hr := Ptr.right_iff.1 h
  have hc := p.crc.toNat_lt
  have hsr := sectors_range p.len
  have e0 : ptrB p ++ r = fixed1 4 p.pos.toNat ++ (fixed1 4 p.len.toNat ++ (fixed1 8 p.birth.toNat ++ (fixed1 4 p.crc.toNat ++ (p.sha ++ r)))) := by
    simp [ptrB]
  have t1 : ∀ (a : BL) (k : Nat) (x : BL), a.length = k → (a ++ x).take k = a := fun a k x h => by rw [← h]; exact List.take_left
  have d1 : ∀ (a : BL) (k : Nat) (x : BL), a.length = k → (a ++ x).drop k = x := fun a k x h => by rw [← h]; exact List.drop_left
  have g4 : ∀ n, (fixed1 4 n).length = 4 := fixed1_len 4
  have g8 : ∀ n, (fixed1 8 n).length = 8 := fixed1_len 8
  have x4 : ((ptrB p ++ r).drop 4) = fixed1 4 p.len.toNat ++ (fixed1 8 p.birth.toNat ++ (fixed1 4 p.crc.toNat ++ (p.sha ++ r))) := by rw [e0, d1 _ _ _ (g4 _)]
  have x8 : ((ptrB p ++ r).drop 8) = fixed1 8 p.birth.toNat ++ (fixed1 4 p.crc.toNat ++ (p.sha ++ r)) := by
    rw [show 8 = 4 + 4 from rfl, ← List.drop_drop, x4, d1 _ _ _ (g4 _)]
  have x16 : ((ptrB p ++ r).drop 16) = fixed1 4 p.crc.toNat ++ (p.sha ++ r) := by
    rw [show 16 = 8 + 8 from rfl, ← List.drop_drop, x8, d1 _ _ _ (g8 _)]
  have x20 : ((ptrB p ++ r).drop 20) = p.sha ++ r := by
    rw [show 20 = 16 + 4 from rfl, ← List.drop_drop, x16, d1 _ _ _ (g4 _)]
  have p64 : (2 : Nat) ^ (8 * 8) = 18446744073709551616 := rfl
  have p32 : (2 : Nat) ^ (8 * 4) = 4294967296 := rfl
  rw [Ptr.ext_iff']
  simp only [ptrP, x4, x8, x16, x20]
  rw [e0, t1 _ _ _ (g4 _), t1 _ _ _ (g4 _), t1 _ _ _ (g8 _), t1 _ _ _ (g4 _), t1 _ _ _ p.hsha, leNat_fixed1, leNat_fixed1, leNat_fixed1, leNat_fixed1, p64, p32]
  refine ⟨by omega, ?_, by omega, ?_, by rw [p.hsha]; simp⟩
  · rw [IntWalk.i64_in _ (by omega)]; omega
  · rw [Nat.mod_eq_of_lt (by omega), UInt32.ofNat_toNat]
theorem ptrRead_ptrB {p : Ptr} (h : p.right = true) (r : BL) : ptrRead (ptrB p ++ r) = (p, 0) := by
  unfold ptrRead
  rw [if_neg (by rw [List.length_append, ptrB_len]; omega), ptrP_ptrB h, if_neg (by rw [h]; simp)]
theorem rdKid_ptrB {p : Ptr} (h : p.right = true) (r : BL) (bad : Bool) : rdKid (ptrB p ++ r) bad = (p, r, bad) := by
  unfold rdKid
  rw [ptrRead_ptrB h, if_neg (by simp)]
  have := ptrB_len p
  simp only
  rw [← this, List.drop_left]
theorem rdKey_entB {last k body r : BL} (hl : last.length ≤ 1000000) (hk : k.length ≤ 160) (bad : Bool) : rdKey (entB last k body ++ r) bad last = (k, body ++ r, bad) := by
  have h1 := shr_le last k
  have h2 : last.take (shr last k) = k.take (shr last k) := shr_take last k
  simp only [rdKey, entB, List.append_assoc]
  rw [rdNum_short h1.1 (by omega)]
  simp only
  rw [rdText_text (by rw [List.length_drop]; omega) (by decide)]
  simp only
  rw [h2, List.take_append_drop]
theorem rdAll_leaf (r : BL) : ∀ (ks vs : List BL) (last : BL) (K V : List BL) (C : List Ptr), ks.length = vs.length → last.length ≤ 1000000 → (∀ k, k ∈ ks → k.length ≤ 160) → (∀ v, v ∈ vs → v.length ≤ 1024) →
    rdAll 0 ks.length ⟨last, K, V, C, entsB last (ks.zip (vs.map textB)) ++ r, false⟩ = ⟨lastK last (ks.zip (vs.map textB)), K ++ ks, V ++ vs, C, r, false⟩
  | [], [], last, K, V, C, _, _, _, _ => by simp [rdAll, entsB, lastK]
  | [], _ :: _, _, _, _, _, h, _, _, _ => by cases h
  | _ :: _, [], _, _, _, _, h, _, _, _ => by cases h
  | k :: ks, v :: vs, last, K, V, C, h, hl, hk, hv => by
    have hk1 := hk k List.mem_cons_self
    have hv1 := hv v List.mem_cons_self
    rw [List.length_cons, rdAll, if_neg (by simp), List.map_cons, List.zip_cons_cons, entsB]
    simp only [rdStep]
    rw [List.append_assoc, rdKey_entB hl hk1]
    simp only
    rw [if_pos trivial, rdText_text hv1 (by decide)]
    simp only
    rw [rdAll_leaf r ks vs k (K ++ [k]) (V ++ [v]) C (by simpa using h) (by omega) (fun x hx => hk x (List.mem_cons_of_mem _ hx)) (fun x hx => hv x (List.mem_cons_of_mem _ hx))]
    simp [lastK]
theorem rdAll_node {L : Nat} (hL : ¬ L = 0) (r : BL) : ∀ (ks : List BL) (vs : List Ptr) (last : BL) (K V : List BL) (C : List Ptr), ks.length = vs.length → last.length ≤ 1000000 → (∀ k, k ∈ ks → k.length ≤ 160) → (∀ v, v ∈ vs → v.right = true) →
    rdAll L ks.length ⟨last, K, V, C, entsB last (ks.zip (vs.map ptrB)) ++ r, false⟩ = ⟨lastK last (ks.zip (vs.map ptrB)), K ++ ks, V, C ++ vs, r, false⟩
  | [], [], last, K, V, C, _, _, _, _ => by simp [rdAll, entsB, lastK]
  | [], _ :: _, _, _, _, _, h, _, _, _ => by cases h
  | _ :: _, [], _, _, _, _, h, _, _, _ => by cases h
  | k :: ks, v :: vs, last, K, V, C, h, hl, hk, hv => by
    have hk1 := hk k List.mem_cons_self
    have hv1 := hv v List.mem_cons_self
    rw [List.length_cons, rdAll, if_neg (by simp), List.map_cons, List.zip_cons_cons, entsB]
    simp only [rdStep]
    rw [List.append_assoc, rdKey_entB hl hk1]
    simp only
    rw [if_neg hL, rdKid_ptrB hv1]
    simp only
    rw [rdAll_node hL r ks vs k (K ++ [k]) V (C ++ [v]) (by simpa using h) (by omega) (fun x hx => hk x (List.mem_cons_of_mem _ hx)) (fun x hx => hv x (List.mem_cons_of_mem _ hx))]
    simp [lastK]
theorem rdHead_leafB {n : NdM} (h : n.shape) : rdHead (leafB n) = (n.lvl.toNat, short n.keys.length ++ entsB [] n.ents, false) := by
  have h1 := h.lvl
  unfold rdHead leafB
  rw [List.append_assoc, rdNum_short (by omega) (by decide)]
theorem rdCount_leafB {n : NdM} (h : n.shape) : rdCount (leafB n) = (n.keys.length, entsB [] n.ents, false) := by
  have h1 := h.some
  unfold rdCount
  rw [rdHead_leafB h]
  exact rdNum_short (by omega) (by decide) _ _
theorem rdEnd_leafB {n : NdM} (h : n.shape) : rdEnd (leafB n) = ⟨lastK [] n.ents, n.keys, n.vals, n.kids, [], false⟩ := by
  have h1 := h.lists
  unfold NdM.lists at h1
  unfold rdEnd
  rw [rdCount_leafB h, rdHead_leafB h]
  simp only
  have hk : ∀ k, k ∈ n.keys → k.length ≤ 160 := fun k hk => h.key_le hk
  by_cases h0 : n.lvl = 0
  · rw [if_pos h0] at h1
    have hb := NdM.bodies_leaf h0
    have hz : n.kids = [] := List.eq_nil_of_length_eq_zero h1.2
    have := rdAll_leaf [] n.keys n.vals [] [] [] [] h1.1.symm (by simp) hk h.vals
    rw [List.append_nil] at this
    rw [NdM.ents, hb, h0, hz]
    simpa using this
  · rw [if_neg h0] at h1
    have hb := NdM.bodies_node h0
    have hz : n.vals = [] := List.eq_nil_of_length_eq_zero h1.2
    have hlv := h.lvl
    have := rdAll_node (L := n.lvl.toNat) (by omega) [] n.keys n.kids [] [] [] [] h1.1.symm (by simp) hk h.kids
    rw [List.append_nil] at this
    rw [NdM.ents, hb, hz]
    simpa using this
theorem rdNode_leafB {n : NdM} (h : n.shape) : rdNode (leafB n) = n := by
  have h1 := h.lvl
  unfold rdNode
  rw [rdEnd_leafB h, rdHead_leafB h]
  simp only
  rw [show ((n.lvl.toNat : Nat) : Int) = n.lvl by omega]
/-- A node that is right is read as it was laid. -/
theorem leafRd_leafB {n : NdM} (h : n.right) : leafRd (leafB n) = (n, 0) := by
  rw [leafRd_yes, rdNode_leafB h.1]
  rw [rdNode_leafB h.1, rdEnd_leafB h.1]
  rintro (h1 | h1 | h1 | h1 | h1)
  · have := h.2; omega
  · cases h1
  · exact h1 rfl
  · exact h1 h
  · exact h1 rfl
end Go.Proofs.YtpcojkbljgpecaaGreat
