/- Walks, part 16: lists of blocks in order. -/
import Derived.Test.YtpcojkbljgpecaaW15
namespace Go.Proofs.Ytpcojkbljgpecaa
open Go
set_option maxRecDepth 100000 in
theorem dsort_spec (ao : Option Addr) (c : Nat) (l : List Ptr) {w0 : World} (hl : l.length ≤ 1000000) : Spec Try.prog 10 #[.slice ao l.length c] w0 [] [dP ao c l] (fun v es1 ds1 => es1 = [oP v (refSort keyP l).length (refSort keyP l)] ∧ ds1 = []) := by
  refine Spec.intro (fun F D hs => ?_)
  refine Calls_of_EC (args := [.slice ao l.length c]) Try.func10 rfl rfl rfl ?_
  refine EC_rseq ?_
  refine EL_run rfl (R_assign rfl) ?_
  refine EL_nil ?_
  refine EC_rseq ?_
  refine EL_run rfl (R_move rfl) ?_
  refine EL_op rfl (O_call hs [] [0] rfl rfl rfl Try.call23 (cloneP_spec ao c l hl) (fun v es1 ds1 w hPhi hs => ?_))
  obtain ⟨rfl, rfl⟩ := hPhi
  obtain ⟨ao5, c5, hv5⟩ := oSl.val (hs.at (i := 0) rfl)
  subst hv5
  refine EL_run rfl (R_assign rfl) ?_
  refine EL_nil ?_
  refine EC_rseq ?_
  refine EL_run rfl (R_move rfl) ?_
  refine EL_op rfl (O_call hs [true] [] rfl rfl rfl Try.call24 (sortStable_spec ao5 c5 l.length l rfl hl) (fun v es1 ds1 w hPhi hs => ?_))
  obtain ⟨rfl, rfl, rfl⟩ := hPhi
  refine EL_nil ?_
  refine EC_rseq ?_
  refine EL_run rfl (R_move rfl) ?_
  refine EL_op rfl (O_call hs [true] [] rfl rfl rfl Try.call26 (compact_spec ao5 c5 l.length (sortK keyP l) (sortK_len _) hl) (fun v es1 ds1 w hPhi hs => ?_))
  obtain ⟨rfl, rfl, rfl⟩ := hPhi
  refine EL_run rfl (R_assign rfl) ?_
  refine EL_nil ?_
  refine EC_ret ?_
  exact ⟨[_], ⟨rfl, trivial⟩, _, _, ⟨rfl, rfl⟩, (hs.fin [true] []).as (by rw [← ded_sortK]; rfl) rfl⟩

set_option maxRecDepth 100000 in
theorem refSort_spec (ao : Option Addr) (c : Nat) (l : List Ptr) {w0 : World} (hl : l.length ≤ 1000000) : Spec Try.prog 11 #[.slice ao l.length c] w0 [] [dP ao c l] (fun v es1 ds1 => ∃ vo vc, v = .slice vo (refSort keyP l).length vc ∧ es1 = [] ∧ ds1 = [dP vo vc (refSort keyP l)]) := by
  refine Spec.intro (fun F D hs => ?_)
  refine Calls_of_EC (args := [.slice ao l.length c]) Try.func11 rfl rfl rfl ?_
  refine EC_rseq ?_
  refine EL_run rfl (R_assign rfl) ?_
  refine EL_nil ?_
  have hs := hs.nilD 36
  refine EC_rseq ?_
  refine EL_run rfl (R_assign rfl) ?_
  refine EL_nil ?_
  refine EC_seq ?_
  refine EC_rseq ?_
  refine EL_run rfl (R_assign rfl) ?_
  refine EL_nil ?_
  refine EC_block ?_
  refine EC_loop (fun mm ρ w => ∃ (i : Nat) (o : List Ptr) (oa : Option Addr) (oc : Nat), mm = l.length - i ∧ i ≤ l.length ∧ o = refSort keyP (l.take i) ∧ Slots ρ [(0, .slice ao l.length c), (3, .slice oa o.length oc), (4, .int .i64 (i : Int))] ∧ St w0 F D [] [dP ao c l, dP oa oc o] w) (l.length) (⟨0, [], none, 0, by omega, by omega, rfl, ⟨rfl, rfl, rfl, trivial⟩, hs⟩) ?_
  rintro mm ρ w ⟨i, o, oa, oc, rfl, hi, ho, hsl, hs⟩
  refine EC_slots _ hsl ?_
  have hol := refSort_len (key := keyP) (l.take i)
  rw [← ho, List.length_take] at hol
  refine EC_seq ?_
  refine EC_rseq ?_
  refine EL_run rfl (R_move rfl) ?_
  refine EL_run rfl (R_move rfl) ?_
  refine EL_run rfl (R_lenS Try.underlying22 rfl) ?_
  refine EL_run rfl (R_lss rfl rfl) ?_
  refine EL_nil ?_
  refine EC_cond rfl (fun hc9 => ?_) (fun hc9 => ?_)
  · (first | have hc9p := of_decide_eq_true hc9 | have hc9p := of_decide_eq_false hc9 | have hc9p := of_decide_eq_false (bnt hc9) | have hc9p := of_decide_eq_true (bnf hc9) | have hc9p := bnt hc9 | have hc9p := bnf hc9 | have hc9p := hc9); try dsimp only at hc9p
    have hib : i < l.length := by omega
    obtain ⟨bb, oo, rfl⟩ := dSlsomeF (hs.rd (i := 0) rfl) Ptr.len_l (by decide) hib
    obtain ⟨x, hx⟩ : ∃ x, x = l[i] := ⟨_, rfl⟩
    have hxe : l[i]? = some x := by rw [hx]; exact List.getElem?_eq_getElem hib
    have htk : refSort keyP (l.take (i + 1)) = refIns keyP x o := by rw [List.take_succ_eq_append_getElem hib, refSort_snoc, ← ho, hx]
    refine EC_skip ?_
    refine Then_n ?_
    refine EC_cut (fun ρ w => ∃ (oa2 : Option Addr) (oc2 : Nat), Slots ρ [(0, .slice (some ⟨bb, oo, none⟩) l.length c), (3, .slice oa2 (refIns keyP x o).length oc2), (4, .int .i64 (i : Int))] ∧ St w0 F D [] [dP (some ⟨bb, oo, none⟩) c l, dP oa2 oc2 (refIns keyP x o)] w) ?_ ?_
    · skip
      refine EC_block ?_
      refine EC_rseq ?_
      refine EL_run rfl (R_assign rfl) ?_
      refine EL_nil ?_
      refine EC_seq ?_
      refine EC_block ?_
      refine EC_loop (fun mm ρ w => ∃ k : Nat, mm = o.length - k ∧ k ≤ o.length ∧ (∀ q (h : q < o.length), q < k → bl (keyP o[q]) (keyP x) = true) ∧ Slots ρ [(0, .slice (some ⟨bb, oo, none⟩) l.length c), (3, .slice oa o.length oc), (4, .int .i64 (i : Int)), (5, .int .i64 (k : Int))] ∧ St w0 F D [] [dP (some ⟨bb, oo, none⟩) c l, dP oa oc o] w) (o.length) (⟨0, by omega, by omega, fun q h h2 => absurd h2 (Nat.not_lt_zero _), ⟨rfl, rfl, rfl, rfl, trivial⟩, hs⟩) ?_
      rintro mm ρ w ⟨k, rfl, hk, hlo, hsl, hs⟩
      refine EC_slots _ hsl ?_
      refine EC_seq ?_
      refine EC_cut (fun ρ w => ∃ b : Bool, (b = true → ∃ h : k < o.length, bl (keyP o[k]) (keyP x) = true) ∧ (b = false → ∀ h : k < o.length, bl (keyP o[k]) (keyP x) = false) ∧ Slots ρ [(0, .slice (some ⟨bb, oo, none⟩) l.length c), (3, .slice oa o.length oc), (4, .int .i64 (i : Int)), (5, .int .i64 (k : Int)), (30, .bool b)] ∧ St w0 F D [] [dP (some ⟨bb, oo, none⟩) c l, dP oa oc o] w) ?_ ?_
      · skip
        refine EC_drawS hs [9, 10, 15, 16] [8, 14] [] [0, 1] (.take 0 (.take 1 (.take 2 (.take 3 (.take 4 (.take 5 (.take 6 (.take 7 (.take 8 (.take 11 (.take 12 (.take 13 (.take 14 (.fork 9 (.fork 10 (.fork 15 (.fork 16 (.take 17 (.take 18 .done)) (.done)) (.done)) (.fork 15 (.fork 10 (.fork 16 (.take 17 (.take 18 .done)) (.done)) (.fork 16 (.fork 10 (.take 17 (.take 18 .done)) (.done)) (.done))) (.done))) (.done))))))))))))))) mix_ok (by kernel_rfl) (fun w hs _ => ?_)
        refine EP_take rfl rfl rfl (fun _ => R_move rfl) ?_
        refine EP_take rfl rfl rfl (fun _ => R_move rfl) ?_
        refine EP_take rfl rfl rfl (fun _ => R_lenS Try.underlying22 rfl) ?_
        refine EP_take rfl rfl rfl (fun _ => R_lss rfl rfl) ?_
        refine EP_take rfl rfl rfl (fun _ => R_move rfl) ?_
        refine EP_split 16 rfl (fun hg4 => ?_) (fun hg4 => ?_)
        · (first | have hg4p := of_decide_eq_true hg4 | have hg4p := of_decide_eq_false hg4 | have hg4p := of_decide_eq_false (bnt hg4) | have hg4p := of_decide_eq_true (bnf hg4) | have hg4p := bnt hg4 | have hg4p := bnf hg4 | have hg4p := hg4); try dsimp only at hg4p
          have hkb : k < o.length := by omega
          obtain ⟨bb2, oo2, rfl⟩ := dSlsomeF (hs.rd (i := 1) rfl) Ptr.len_l (by decide) hkb
          have hoe : o[k]? = some o[k] := List.getElem?_eq_getElem hkb
          refine EP_takeG rfl rfl rfl hg4 rfl rfl (fun _ => R_move rfl) ?_
          refine EP_takeG rfl rfl rfl hg4 rfl rfl (fun _ => R_move rfl) ?_
          refine EP_takeG rfl rfl rfl hg4 rfl rfl (fun _ => R_idx es_22 rfl (by rfl) rfl (by omega) (by omega)) ?_
          refine EP_readG rfl rfl rfl hg4 rfl rfl (RdS.of hs rfl rfl) (fun _ hR => R_ldE (hR.d 1 rfl rfl) Ptr.len_l Try.isAgg30 Try.sizeOf30 rfl (by simp <;> omega) hoe (by decide)) ?_
          refine EP_takeG rfl rfl rfl hg4 rfl rfl (fun _ => R_move rfl) ?_
          refine EP_takeG rfl rfl rfl hg4 rfl rfl (fun _ => R_move rfl) ?_
          refine EP_takeG rfl rfl rfl hg4 rfl rfl (fun _ => R_idx es_22 rfl (by rfl) rfl (by omega) (by omega)) ?_
          refine EP_readG rfl rfl rfl hg4 rfl rfl (RdS.of hs rfl rfl) (fun _ hR => R_ldE (hR.d 0 rfl rfl) Ptr.len_l Try.isAgg30 Try.sizeOf30 rfl (by simp <;> omega) hxe (by decide)) ?_
          refine EP_actG rfl rfl rfl hg4 rfl (O_call hs [] [] rfl rfl rfl Try.call8 (refKey_spec o[k]) (fun v es1 ds1 w hPhi hs => ?_))
          obtain ⟨rfl, rfl⟩ := hPhi
          obtain ⟨ao21, c21, rfl, hs⟩ := hs.freezeSl (i := 0) rfl
          refine ⟨(fun _ => RdS.of hs rfl rfl), ?_⟩
          refine EP_forkG rfl rfl rfl hg4 rfl (EOp_val rfl (R_convStr Try.underlying25 Try.underlying5 Try.underlying9 rfl (hs.rd (i := 2) rfl)) ⟨(fun _ => RdS.of hs rfl rfl), ?_⟩) ?_
          · skip
            refine EP_actG rfl rfl rfl hg4 rfl (O_call hs [] [] rfl rfl rfl Try.call8 (refKey_spec x) (fun v es1 ds1 w hPhi hs => ?_))
            obtain ⟨rfl, rfl⟩ := hPhi
            obtain ⟨ao27, c27, rfl, hs⟩ := hs.freezeSl (i := 0) rfl
            refine ⟨(fun _ => RdS.of hs rfl rfl), ?_⟩
            refine EP_actG rfl rfl rfl hg4 rfl (EOp_val rfl (R_convStr Try.underlying25 Try.underlying5 Try.underlying9 rfl (hs.rd (i := 3) rfl)) ⟨(fun _ => RdS.of hs rfl rfl), ?_⟩)
            refine EP_takeG rfl rfl rfl hg4 rfl rfl (fun _ => R_strLss rfl rfl) ?_
            refine EP_take rfl rfl rfl (fun _ => R_pickT rfl hg4 rfl) ?_
            refine EP_done ?_
            refine Then_n ?_
            first
              | exact ⟨_, fun h => ⟨hkb, h⟩, fun h _ => h, ⟨rfl, rfl, rfl, rfl, rfl, trivial⟩, (hs.fin [] [0, 1]).as rfl rfl⟩
              | exact ⟨false, fun h => (nomatch h), fun _ h => absurd h (by omega), ⟨rfl, rfl, rfl, rfl, rfl, trivial⟩, (hs.fin [] [0, 1]).as rfl rfl⟩
          refine EP_forkG rfl rfl rfl hg4 rfl (O_call hs [] [] rfl rfl rfl Try.call8 (refKey_spec x) (fun v es1 ds1 w hPhi hs => ?_)) ?_
          · skip
            obtain ⟨rfl, rfl⟩ := hPhi
            obtain ⟨ao27, c27, rfl, hs⟩ := hs.freezeSl (i := 0) rfl
            refine ⟨(fun _ => RdS.of hs rfl rfl), ?_⟩
            refine EP_forkG rfl rfl rfl hg4 rfl (EOp_val rfl (R_convStr Try.underlying25 Try.underlying5 Try.underlying9 rfl (hs.rd (i := 2) rfl)) ⟨(fun _ => RdS.of hs rfl rfl), ?_⟩) ?_
            · skip
              refine EP_actG rfl rfl rfl hg4 rfl (EOp_val rfl (R_convStr Try.underlying25 Try.underlying5 Try.underlying9 rfl (hs.rd (i := 3) rfl)) ⟨(fun _ => RdS.of hs rfl rfl), ?_⟩)
              refine EP_takeG rfl rfl rfl hg4 rfl rfl (fun _ => R_strLss rfl rfl) ?_
              refine EP_take rfl rfl rfl (fun _ => R_pickT rfl hg4 rfl) ?_
              refine EP_done ?_
              refine Then_n ?_
              first
                | exact ⟨_, fun h => ⟨hkb, h⟩, fun h _ => h, ⟨rfl, rfl, rfl, rfl, rfl, trivial⟩, (hs.fin [] [0, 1]).as rfl rfl⟩
                | exact ⟨false, fun h => (nomatch h), fun _ h => absurd h (by omega), ⟨rfl, rfl, rfl, rfl, rfl, trivial⟩, (hs.fin [] [0, 1]).as rfl rfl⟩
            refine EP_forkG rfl rfl rfl hg4 rfl (EOp_val rfl (R_convStr Try.underlying25 Try.underlying5 Try.underlying9 rfl (hs.rd (i := 3) rfl)) ⟨(fun _ => RdS.of hs rfl rfl), ?_⟩) ?_
            · skip
              refine EP_actG rfl rfl rfl hg4 rfl (EOp_val rfl (R_convStr Try.underlying25 Try.underlying5 Try.underlying9 rfl (hs.rd (i := 2) rfl)) ⟨(fun _ => RdS.of hs rfl rfl), ?_⟩)
              refine EP_takeG rfl rfl rfl hg4 rfl rfl (fun _ => R_strLss rfl rfl) ?_
              refine EP_take rfl rfl rfl (fun _ => R_pickT rfl hg4 rfl) ?_
              refine EP_done ?_
              refine Then_n ?_
              first
                | exact ⟨_, fun h => ⟨hkb, h⟩, fun h _ => h, ⟨rfl, rfl, rfl, rfl, rfl, trivial⟩, (hs.fin [] [0, 1]).as rfl rfl⟩
                | exact ⟨false, fun h => (nomatch h), fun _ h => absurd h (by omega), ⟨rfl, rfl, rfl, rfl, rfl, trivial⟩, (hs.fin [] [0, 1]).as rfl rfl⟩
            exact EP_end
          exact EP_end
        · (first | have hg4p := of_decide_eq_true hg4 | have hg4p := of_decide_eq_false hg4 | have hg4p := of_decide_eq_false (bnt hg4) | have hg4p := of_decide_eq_true (bnf hg4) | have hg4p := bnt hg4 | have hg4p := bnf hg4 | have hg4p := hg4); try dsimp only at hg4p
          refine EP_passT rfl rfl rfl hg4 rfl (fun _ => RdS.of hs rfl rfl) ?_
          refine EP_passT rfl rfl rfl hg4 rfl (fun _ => RdS.of hs rfl rfl) ?_
          refine EP_passT rfl rfl rfl hg4 rfl (fun _ => RdS.of hs rfl rfl) ?_
          refine EP_passT rfl rfl rfl hg4 rfl (fun _ => RdS.of hs rfl rfl) ?_
          refine EP_passT rfl rfl rfl hg4 rfl (fun _ => RdS.of hs rfl rfl) ?_
          refine EP_passT rfl rfl rfl hg4 rfl (fun _ => RdS.of hs rfl rfl) ?_
          refine EP_passT rfl rfl rfl hg4 rfl (fun _ => RdS.of hs rfl rfl) ?_
          refine EP_passT rfl rfl rfl hg4 rfl (fun _ => RdS.of hs rfl rfl) ?_
          refine EP_passF rfl rfl rfl hg4 rfl (fun _ => RdS.of hs rfl rfl) ?_
          refine EP_forkP rfl rfl rfl hg4 rfl (fun _ => RdS.of hs rfl rfl) ?_ ?_
          · skip
            refine EP_passF rfl rfl rfl hg4 rfl (fun _ => RdS.of hs rfl rfl) ?_
            refine EP_passF rfl rfl rfl hg4 rfl (fun _ => RdS.of hs rfl rfl) ?_
            refine EP_passT rfl rfl rfl hg4 rfl (fun _ => RdS.of hs rfl rfl) ?_
            refine EP_take rfl rfl rfl (fun _ => R_pickF rfl hg4 rfl) ?_
            refine EP_done ?_
            refine Then_n ?_
            first
              | exact ⟨_, fun h => ⟨hkb, h⟩, fun h _ => h, ⟨rfl, rfl, rfl, rfl, rfl, trivial⟩, (hs.fin [] [0, 1]).as rfl rfl⟩
              | exact ⟨false, fun h => (nomatch h), fun _ h => absurd h (by omega), ⟨rfl, rfl, rfl, rfl, rfl, trivial⟩, (hs.fin [] [0, 1]).as rfl rfl⟩
          refine EP_forkP rfl rfl rfl hg4 rfl (fun _ => RdS.of hs rfl rfl) ?_ ?_
          · skip
            refine EP_forkP rfl rfl rfl hg4 rfl (fun _ => RdS.of hs rfl rfl) ?_ ?_
            · skip
              refine EP_passF rfl rfl rfl hg4 rfl (fun _ => RdS.of hs rfl rfl) ?_
              refine EP_passT rfl rfl rfl hg4 rfl (fun _ => RdS.of hs rfl rfl) ?_
              refine EP_take rfl rfl rfl (fun _ => R_pickF rfl hg4 rfl) ?_
              refine EP_done ?_
              refine Then_n ?_
              first
                | exact ⟨_, fun h => ⟨hkb, h⟩, fun h _ => h, ⟨rfl, rfl, rfl, rfl, rfl, trivial⟩, (hs.fin [] [0, 1]).as rfl rfl⟩
                | exact ⟨false, fun h => (nomatch h), fun _ h => absurd h (by omega), ⟨rfl, rfl, rfl, rfl, rfl, trivial⟩, (hs.fin [] [0, 1]).as rfl rfl⟩
            refine EP_forkP rfl rfl rfl hg4 rfl (fun _ => RdS.of hs rfl rfl) ?_ ?_
            · skip
              refine EP_passF rfl rfl rfl hg4 rfl (fun _ => RdS.of hs rfl rfl) ?_
              refine EP_passT rfl rfl rfl hg4 rfl (fun _ => RdS.of hs rfl rfl) ?_
              refine EP_take rfl rfl rfl (fun _ => R_pickF rfl hg4 rfl) ?_
              refine EP_done ?_
              refine Then_n ?_
              first
                | exact ⟨_, fun h => ⟨hkb, h⟩, fun h _ => h, ⟨rfl, rfl, rfl, rfl, rfl, trivial⟩, (hs.fin [] [0, 1]).as rfl rfl⟩
                | exact ⟨false, fun h => (nomatch h), fun _ h => absurd h (by omega), ⟨rfl, rfl, rfl, rfl, rfl, trivial⟩, (hs.fin [] [0, 1]).as rfl rfl⟩
            exact EP_end
          exact EP_end
      · rintro ρ w ⟨b, hb1, hb2, hsl, hs⟩
        refine EC_slots _ hsl ?_
        refine EC_cond rfl (fun hc30 => ?_) (fun hc30 => ?_)
        · (first | have hc30p := of_decide_eq_true hc30 | have hc30p := of_decide_eq_false hc30 | have hc30p := of_decide_eq_false (bnt hc30) | have hc30p := of_decide_eq_true (bnf hc30) | have hc30p := bnt hc30 | have hc30p := bnf hc30 | have hc30p := hc30); try dsimp only at hc30p
          refine EC_skip ?_
          refine Then_n ?_
          refine EC_block ?_
          refine EC_region ?_
          refine EL_run rfl (R_move rfl) ?_
          refine EL_run rfl (R_addI rfl rfl (by omega)) ?_
          refine EL_run rfl (R_assign rfl) ?_
          refine EL_nil ?_
          refine InBlock_n ?_
          refine Then_n ?_
          obtain ⟨hkb, hbl⟩ := hb1 hc30p
          have g1 : ∀ q (h : q < o.length), q < k + 1 → bl (keyP o[q]) (keyP x) = true := fun q h h2 => by
            rcases Nat.lt_or_ge q k with h3 | h3
            · exact hlo q h h3
            · obtain rfl : q = k := by omega
              exact hbl
          exact ⟨o.length - (k + 1), by omega, k + 1, rfl, by omega, g1, ⟨rfl, rfl, rfl, sI (by omega), trivial⟩, (hs.fin [] [0, 1]).as rfl rfl⟩
        · (first | have hc30p := of_decide_eq_true hc30 | have hc30p := of_decide_eq_false hc30 | have hc30p := of_decide_eq_false (bnt hc30) | have hc30p := of_decide_eq_true (bnf hc30) | have hc30p := bnt hc30 | have hc30p := bnf hc30 | have hc30p := hc30); try dsimp only at hc30p
          refine EC_exit ?_
          refine Then_e ?_
          refine Then_e ?_
          refine InBlock_hit rfl ?_
          refine Then_n ?_
          refine EC_seq ?_
          refine EC_cut (fun ρ w => ∃ b : Bool, (b = true ↔ (o[k]?).map keyP = some (keyP x)) ∧ Slots ρ [(0, .slice (some ⟨bb, oo, none⟩) l.length c), (3, .slice oa o.length oc), (4, .int .i64 (i : Int)), (5, .int .i64 (k : Int)), (51, .bool b)] ∧ St w0 F D [] [dP (some ⟨bb, oo, none⟩) c l, dP oa oc o] w) ?_ ?_
          · skip
            refine EC_drawS hs [9, 10, 15, 16] [8, 14] [] [0, 1] (.take 0 (.take 1 (.take 2 (.take 3 (.take 4 (.take 5 (.take 6 (.take 7 (.take 8 (.take 11 (.take 12 (.take 13 (.take 14 (.fork 9 (.fork 10 (.fork 15 (.fork 16 (.take 17 (.take 18 .done)) (.done)) (.done)) (.fork 15 (.fork 10 (.fork 16 (.take 17 (.take 18 .done)) (.done)) (.fork 16 (.fork 10 (.take 17 (.take 18 .done)) (.done)) (.done))) (.done))) (.done))))))))))))))) mix_ok (by kernel_rfl) (fun w hs _ => ?_)
            refine EP_take rfl rfl rfl (fun _ => R_move rfl) ?_
            refine EP_take rfl rfl rfl (fun _ => R_move rfl) ?_
            refine EP_take rfl rfl rfl (fun _ => R_lenS Try.underlying22 rfl) ?_
            refine EP_take rfl rfl rfl (fun _ => R_lss rfl rfl) ?_
            refine EP_take rfl rfl rfl (fun _ => R_move rfl) ?_
            refine EP_split 37 rfl (fun hg4 => ?_) (fun hg4 => ?_)
            · (first | have hg4p := of_decide_eq_true hg4 | have hg4p := of_decide_eq_false hg4 | have hg4p := of_decide_eq_false (bnt hg4) | have hg4p := of_decide_eq_true (bnf hg4) | have hg4p := bnt hg4 | have hg4p := bnf hg4 | have hg4p := hg4); try dsimp only at hg4p
              have hkb2 : k < o.length := by omega
              obtain ⟨bb2, oo2, rfl⟩ := dSlsomeF (hs.rd (i := 1) rfl) Ptr.len_l (by decide) hkb2
              have hoe2 : o[k]? = some (o[k]'hkb2) := List.getElem?_eq_getElem hkb2
              refine EP_takeG rfl rfl rfl hg4 rfl rfl (fun _ => R_move rfl) ?_
              refine EP_takeG rfl rfl rfl hg4 rfl rfl (fun _ => R_move rfl) ?_
              refine EP_takeG rfl rfl rfl hg4 rfl rfl (fun _ => R_idx es_22 rfl (by rfl) rfl (by omega) (by omega)) ?_
              refine EP_readG rfl rfl rfl hg4 rfl rfl (RdS.of hs rfl rfl) (fun _ hR => R_ldE (hR.d 1 rfl rfl) Ptr.len_l Try.isAgg30 Try.sizeOf30 rfl (by simp <;> omega) hoe2 (by decide)) ?_
              refine EP_takeG rfl rfl rfl hg4 rfl rfl (fun _ => R_move rfl) ?_
              refine EP_takeG rfl rfl rfl hg4 rfl rfl (fun _ => R_move rfl) ?_
              refine EP_takeG rfl rfl rfl hg4 rfl rfl (fun _ => R_idx es_22 rfl (by rfl) rfl (by omega) (by omega)) ?_
              refine EP_readG rfl rfl rfl hg4 rfl rfl (RdS.of hs rfl rfl) (fun _ hR => R_ldE (hR.d 0 rfl rfl) Ptr.len_l Try.isAgg30 Try.sizeOf30 rfl (by simp <;> omega) hxe (by decide)) ?_
              refine EP_actG rfl rfl rfl hg4 rfl (O_call hs [] [] rfl rfl rfl Try.call8 (refKey_spec (o[k]'hkb2)) (fun v es1 ds1 w hPhi hs => ?_))
              obtain ⟨rfl, rfl⟩ := hPhi
              obtain ⟨ao42, c42, rfl, hs⟩ := hs.freezeSl (i := 0) rfl
              refine ⟨(fun _ => RdS.of hs rfl rfl), ?_⟩
              refine EP_forkG rfl rfl rfl hg4 rfl (EOp_val rfl (R_convStr Try.underlying25 Try.underlying5 Try.underlying9 rfl (hs.rd (i := 2) rfl)) ⟨(fun _ => RdS.of hs rfl rfl), ?_⟩) ?_
              · skip
                refine EP_actG rfl rfl rfl hg4 rfl (O_call hs [] [] rfl rfl rfl Try.call8 (refKey_spec x) (fun v es1 ds1 w hPhi hs => ?_))
                obtain ⟨rfl, rfl⟩ := hPhi
                obtain ⟨ao48, c48, rfl, hs⟩ := hs.freezeSl (i := 0) rfl
                refine ⟨(fun _ => RdS.of hs rfl rfl), ?_⟩
                refine EP_actG rfl rfl rfl hg4 rfl (EOp_val rfl (R_convStr Try.underlying25 Try.underlying5 Try.underlying9 rfl (hs.rd (i := 3) rfl)) ⟨(fun _ => RdS.of hs rfl rfl), ?_⟩)
                refine EP_takeG rfl rfl rfl hg4 rfl rfl (fun _ => R_strEql rfl rfl) ?_
                refine EP_take rfl rfl rfl (fun _ => R_pickT rfl hg4 rfl) ?_
                refine EP_done ?_
                refine Then_n ?_
                first
                  | exact ⟨_, by rw [hoe2]; simp, ⟨rfl, rfl, rfl, rfl, rfl, trivial⟩, (hs.fin [] [0, 1]).as rfl rfl⟩
                  | exact ⟨false, by rw [List.getElem?_eq_none (by omega)]; simp, ⟨rfl, rfl, rfl, rfl, rfl, trivial⟩, (hs.fin [] [0, 1]).as rfl rfl⟩
              refine EP_forkG rfl rfl rfl hg4 rfl (O_call hs [] [] rfl rfl rfl Try.call8 (refKey_spec x) (fun v es1 ds1 w hPhi hs => ?_)) ?_
              · skip
                obtain ⟨rfl, rfl⟩ := hPhi
                obtain ⟨ao48, c48, rfl, hs⟩ := hs.freezeSl (i := 0) rfl
                refine ⟨(fun _ => RdS.of hs rfl rfl), ?_⟩
                refine EP_forkG rfl rfl rfl hg4 rfl (EOp_val rfl (R_convStr Try.underlying25 Try.underlying5 Try.underlying9 rfl (hs.rd (i := 2) rfl)) ⟨(fun _ => RdS.of hs rfl rfl), ?_⟩) ?_
                · skip
                  refine EP_actG rfl rfl rfl hg4 rfl (EOp_val rfl (R_convStr Try.underlying25 Try.underlying5 Try.underlying9 rfl (hs.rd (i := 3) rfl)) ⟨(fun _ => RdS.of hs rfl rfl), ?_⟩)
                  refine EP_takeG rfl rfl rfl hg4 rfl rfl (fun _ => R_strEql rfl rfl) ?_
                  refine EP_take rfl rfl rfl (fun _ => R_pickT rfl hg4 rfl) ?_
                  refine EP_done ?_
                  refine Then_n ?_
                  first
                    | exact ⟨_, by rw [hoe2]; simp, ⟨rfl, rfl, rfl, rfl, rfl, trivial⟩, (hs.fin [] [0, 1]).as rfl rfl⟩
                    | exact ⟨false, by rw [List.getElem?_eq_none (by omega)]; simp, ⟨rfl, rfl, rfl, rfl, rfl, trivial⟩, (hs.fin [] [0, 1]).as rfl rfl⟩
                refine EP_forkG rfl rfl rfl hg4 rfl (EOp_val rfl (R_convStr Try.underlying25 Try.underlying5 Try.underlying9 rfl (hs.rd (i := 3) rfl)) ⟨(fun _ => RdS.of hs rfl rfl), ?_⟩) ?_
                · skip
                  refine EP_actG rfl rfl rfl hg4 rfl (EOp_val rfl (R_convStr Try.underlying25 Try.underlying5 Try.underlying9 rfl (hs.rd (i := 2) rfl)) ⟨(fun _ => RdS.of hs rfl rfl), ?_⟩)
                  refine EP_takeG rfl rfl rfl hg4 rfl rfl (fun _ => R_strEql rfl rfl) ?_
                  refine EP_take rfl rfl rfl (fun _ => R_pickT rfl hg4 rfl) ?_
                  refine EP_done ?_
                  refine Then_n ?_
                  first
                    | exact ⟨_, by rw [hoe2]; simp, ⟨rfl, rfl, rfl, rfl, rfl, trivial⟩, (hs.fin [] [0, 1]).as rfl rfl⟩
                    | exact ⟨false, by rw [List.getElem?_eq_none (by omega)]; simp, ⟨rfl, rfl, rfl, rfl, rfl, trivial⟩, (hs.fin [] [0, 1]).as rfl rfl⟩
                exact EP_end
              exact EP_end
            · (first | have hg4p := of_decide_eq_true hg4 | have hg4p := of_decide_eq_false hg4 | have hg4p := of_decide_eq_false (bnt hg4) | have hg4p := of_decide_eq_true (bnf hg4) | have hg4p := bnt hg4 | have hg4p := bnf hg4 | have hg4p := hg4); try dsimp only at hg4p
              refine EP_passT rfl rfl rfl hg4 rfl (fun _ => RdS.of hs rfl rfl) ?_
              refine EP_passT rfl rfl rfl hg4 rfl (fun _ => RdS.of hs rfl rfl) ?_
              refine EP_passT rfl rfl rfl hg4 rfl (fun _ => RdS.of hs rfl rfl) ?_
              refine EP_passT rfl rfl rfl hg4 rfl (fun _ => RdS.of hs rfl rfl) ?_
              refine EP_passT rfl rfl rfl hg4 rfl (fun _ => RdS.of hs rfl rfl) ?_
              refine EP_passT rfl rfl rfl hg4 rfl (fun _ => RdS.of hs rfl rfl) ?_
              refine EP_passT rfl rfl rfl hg4 rfl (fun _ => RdS.of hs rfl rfl) ?_
              refine EP_passT rfl rfl rfl hg4 rfl (fun _ => RdS.of hs rfl rfl) ?_
              refine EP_passF rfl rfl rfl hg4 rfl (fun _ => RdS.of hs rfl rfl) ?_
              refine EP_forkP rfl rfl rfl hg4 rfl (fun _ => RdS.of hs rfl rfl) ?_ ?_
              · skip
                refine EP_passF rfl rfl rfl hg4 rfl (fun _ => RdS.of hs rfl rfl) ?_
                refine EP_passF rfl rfl rfl hg4 rfl (fun _ => RdS.of hs rfl rfl) ?_
                refine EP_passT rfl rfl rfl hg4 rfl (fun _ => RdS.of hs rfl rfl) ?_
                refine EP_take rfl rfl rfl (fun _ => R_pickF rfl hg4 rfl) ?_
                refine EP_done ?_
                refine Then_n ?_
                first
                  | exact ⟨_, by rw [hoe2]; simp, ⟨rfl, rfl, rfl, rfl, rfl, trivial⟩, (hs.fin [] [0, 1]).as rfl rfl⟩
                  | exact ⟨false, by rw [List.getElem?_eq_none (by omega)]; simp, ⟨rfl, rfl, rfl, rfl, rfl, trivial⟩, (hs.fin [] [0, 1]).as rfl rfl⟩
              refine EP_forkP rfl rfl rfl hg4 rfl (fun _ => RdS.of hs rfl rfl) ?_ ?_
              · skip
                refine EP_forkP rfl rfl rfl hg4 rfl (fun _ => RdS.of hs rfl rfl) ?_ ?_
                · skip
                  refine EP_passF rfl rfl rfl hg4 rfl (fun _ => RdS.of hs rfl rfl) ?_
                  refine EP_passT rfl rfl rfl hg4 rfl (fun _ => RdS.of hs rfl rfl) ?_
                  refine EP_take rfl rfl rfl (fun _ => R_pickF rfl hg4 rfl) ?_
                  refine EP_done ?_
                  refine Then_n ?_
                  first
                    | exact ⟨_, by rw [hoe2]; simp, ⟨rfl, rfl, rfl, rfl, rfl, trivial⟩, (hs.fin [] [0, 1]).as rfl rfl⟩
                    | exact ⟨false, by rw [List.getElem?_eq_none (by omega)]; simp, ⟨rfl, rfl, rfl, rfl, rfl, trivial⟩, (hs.fin [] [0, 1]).as rfl rfl⟩
                refine EP_forkP rfl rfl rfl hg4 rfl (fun _ => RdS.of hs rfl rfl) ?_ ?_
                · skip
                  refine EP_passF rfl rfl rfl hg4 rfl (fun _ => RdS.of hs rfl rfl) ?_
                  refine EP_passT rfl rfl rfl hg4 rfl (fun _ => RdS.of hs rfl rfl) ?_
                  refine EP_take rfl rfl rfl (fun _ => R_pickF rfl hg4 rfl) ?_
                  refine EP_done ?_
                  refine Then_n ?_
                  first
                    | exact ⟨_, by rw [hoe2]; simp, ⟨rfl, rfl, rfl, rfl, rfl, trivial⟩, (hs.fin [] [0, 1]).as rfl rfl⟩
                    | exact ⟨false, by rw [List.getElem?_eq_none (by omega)]; simp, ⟨rfl, rfl, rfl, rfl, rfl, trivial⟩, (hs.fin [] [0, 1]).as rfl rfl⟩
                exact EP_end
              exact EP_end
          · rintro ρ w ⟨b, hb, hsl, hs⟩
            refine EC_slots _ hsl ?_
            have hlow : lowK keyP x o = k := lowK_of hk hlo (hb2 hc30p)
            refine EC_cond rfl (fun hc51 => ?_) (fun hc51 => ?_)
            · (first | have hc51p := of_decide_eq_true hc51 | have hc51p := of_decide_eq_false hc51 | have hc51p := of_decide_eq_false (bnt hc51) | have hc51p := of_decide_eq_true (bnf hc51) | have hc51p := bnt hc51 | have hc51p := bnf hc51 | have hc51p := hc51); try dsimp only at hc51p
              have hri : refIns keyP x o = o := by rw [refIns, hlow, if_pos (hb.1 hc51p)]
              refine EC_exit ?_
              refine Then_e ?_
              refine InBlock_hit rfl ?_
              refine Then_n ?_
              first
                | exact ⟨oa, oc, ⟨rfl, by rw [hri]; rfl, rfl, trivial⟩, (hs.fin [] [0, 1]).as rfl (by rw [hri]; rfl)⟩
                | (have hs := hs.asSl (i := 0) rfl (refIns keyP x o).length ((refIns keyP x o).flatMap Ptr.l) (by rw [hri, List.length_append, List.length_cons]; omega) (by rw [hri]; simp [Value.cells, Ptr.val, Ptr.cells])
                   obtain ⟨oa2, oc2, rfl, hs⟩ := hs.freezeSl (i := 0) rfl
                   exact ⟨oa2, oc2, ⟨rfl, rfl, rfl, trivial⟩, (hs.fin [] [0, 4]).as rfl rfl⟩)
                | (have hs := hs.asSl (i := 1) rfl (refIns keyP x o).length ((refIns keyP x o).flatMap Ptr.l) (by rw [hri, List.length_append, List.length_cons]; omega) (by rw [hri]; simp [Value.cells, Ptr.val, Ptr.cells])
                   obtain ⟨oa2, oc2, rfl, hs⟩ := hs.freezeSl (i := 1) rfl
                   exact ⟨oa2, oc2, ⟨rfl, rfl, rfl, trivial⟩, (hs.fin [] [0, 4]).as rfl rfl⟩)
            · (first | have hc51p := of_decide_eq_true hc51 | have hc51p := of_decide_eq_false hc51 | have hc51p := of_decide_eq_false (bnt hc51) | have hc51p := of_decide_eq_true (bnf hc51) | have hc51p := bnt hc51 | have hc51p := bnf hc51 | have hc51p := hc51); try dsimp only at hc51p
              have hri : refIns keyP x o = o.take k ++ x :: o.drop k := by rw [refIns, hlow, if_neg (fun h => Bool.noConfusion (hc51p.symm.trans (hb.2 h)))]
              have hs := (hs.dEtake (j := 1) rfl Ptr.len_l k hk).dEdrop (j := 1) rfl Ptr.len_l k hk
              have lt := List.length_take (i := k) (l := o)
              have ld := List.length_drop (i := k) (l := o)
              refine EC_skip ?_
              refine Then_n ?_
              refine EC_drawS hs [0, 4, 9, 10, 14] [8] [] [0] (.take 1 (.take 2 (.take 3 (.take 5 (.take 6 (.take 7 (.take 8 (.take 11 (.take 12 (.take 13 (.fork 0 (.fork 4 (.fork 9 (.fork 10 (.fork 14 (.take 15 .done) (.done)) (.done)) (.done)) (.fork 9 (.fork 4 (.fork 10 (.fork 14 (.take 15 .done) (.done)) (.done)) (.done)) (.done))) (.fork 9 (.fork 0 (.fork 4 (.fork 10 (.fork 14 (.take 15 .done) (.done)) (.done)) (.done)) (.done)) (.done))))))))))))) mix_ok (by kernel_rfl) (fun w hs _ => ?_)
              refine EP_take rfl rfl rfl (fun _ => R_move rfl) ?_
              refine EP_take rfl rfl rfl (fun _ => R_move rfl) ?_
              refine EP_take rfl rfl rfl (fun _ => R_sliceHi es_22 rfl rfl (by omega) (by have := (hs.rd (i := 1) rfl).1.1; omega)) ?_
              rw [show ((k : Int)).toNat = (o.take k).length by omega]
              refine EP_take rfl rfl rfl (fun _ => R_move rfl) ?_
              refine EP_take rfl rfl rfl (fun _ => R_move rfl) ?_
              refine EP_take rfl rfl rfl (fun _ => R_idx es_22 rfl (by rfl) rfl (by omega) (by omega)) ?_
              refine EP_read rfl rfl rfl (RdS.of hs rfl rfl) (fun _ hR => R_ldE (hR.d 0 rfl rfl) Ptr.len_l Try.isAgg30 Try.sizeOf30 rfl (by simp <;> omega) hxe (by decide)) ?_
              refine EP_take rfl rfl rfl (fun _ => R_move rfl) ?_
              refine EP_take rfl rfl rfl (fun _ => R_move rfl) ?_
              refine EP_take rfl rfl rfl (fun _ => R_sliceLo es_22 rfl rfl (by omega) (by omega)) ?_
              rw [show ((k : Int)).toNat = k by omega, show o.length - k = (o.drop k).length by omega]
              refine EP_fork rfl rfl (O_buildSlice [] hs rfl ei_22 rfl rfl rfl (by simp) (by decide) (fun b52 w hb52 hs => ⟨(fun _ => RdS.of hs rfl rfl), ?_⟩)) ?_
              · skip
                refine EP_fork rfl rfl (O_append hs (i := 0) rfl rfl ei_22 rfl rfl (Src.data (hs.rd (i := 2) rfl)) (Ptr.oneL _) (by omega) (by omega) (fun v56 w hs => ⟨(fun _ => RdS.of hs rfl rfl), ?_⟩)) ?_
                · skip
                  refine EP_act rfl rfl (O_buildSlice [.tmp 60] hs rfl ei_22 rfl rfl rfl (sizeN (Ptr.size _)) (by decide) (fun b61 w hb61 hs => ⟨(rq_no (by kernel_rfl)), ?_⟩))
                  refine EP_act rfl rfl (O_append hs (i := 0) rfl rfl ei_22 rfl rfl (Src.own (hs.at (i := 1) rfl)) (ptr_oneF _) (by omega) (by omega) (fun v62 w hs => ⟨(fun _ => RdS.of hs rfl rfl), ?_⟩))
                  refine EP_act rfl rfl (O_append hs (i := 0) rfl rfl ei_22 rfl rfl (Src.data (hs.rd (i := 3) rfl)) (Ptr.oneL _) (by omega) (by omega) (fun v66 w hs => ⟨(fun _ => RdS.of hs rfl rfl), ?_⟩))
                  refine EP_take rfl rfl rfl (fun _ => R_assign rfl) ?_
                  refine EP_done ?_
                  refine InBlock_n ?_
                  refine Then_n ?_
                  first
                    | exact ⟨oa, oc, ⟨rfl, by rw [hri]; rfl, rfl, trivial⟩, (hs.fin [] [0, 1]).as rfl (by rw [hri]; rfl)⟩
                    | (have hs := hs.asSl (i := 0) rfl (refIns keyP x o).length ((refIns keyP x o).flatMap Ptr.l) (by rw [hri, List.length_append, List.length_cons]; omega) (by rw [hri]; simp [Value.cells, Ptr.val, Ptr.cells])
                       obtain ⟨oa2, oc2, rfl, hs⟩ := hs.freezeSl (i := 0) rfl
                       exact ⟨oa2, oc2, ⟨rfl, rfl, rfl, trivial⟩, (hs.fin [] [0, 4]).as rfl rfl⟩)
                    | (have hs := hs.asSl (i := 1) rfl (refIns keyP x o).length ((refIns keyP x o).flatMap Ptr.l) (by rw [hri, List.length_append, List.length_cons]; omega) (by rw [hri]; simp [Value.cells, Ptr.val, Ptr.cells])
                       obtain ⟨oa2, oc2, rfl, hs⟩ := hs.freezeSl (i := 1) rfl
                       exact ⟨oa2, oc2, ⟨rfl, rfl, rfl, trivial⟩, (hs.fin [] [0, 4]).as rfl rfl⟩)
                refine EP_fork rfl rfl (O_buildSlice [.tmp 60] hs rfl ei_22 rfl rfl rfl (sizeN (Ptr.size _)) (by decide) (fun b61 w hb61 hs => ⟨(rq_no (by kernel_rfl)), ?_⟩)) ?_
                · skip
                  refine EP_act rfl rfl (O_append hs (i := 0) rfl rfl ei_22 rfl rfl (Src.data (hs.rd (i := 2) rfl)) (Ptr.oneL _) (by omega) (by omega) (fun v56 w hs => ⟨(fun _ => RdS.of hs rfl rfl), ?_⟩))
                  refine EP_act rfl rfl (O_append hs (i := 0) rfl rfl ei_22 rfl rfl (Src.own (hs.at (i := 1) rfl)) (ptr_oneF _) (by omega) (by omega) (fun v62 w hs => ⟨(fun _ => RdS.of hs rfl rfl), ?_⟩))
                  refine EP_act rfl rfl (O_append hs (i := 0) rfl rfl ei_22 rfl rfl (Src.data (hs.rd (i := 3) rfl)) (Ptr.oneL _) (by omega) (by omega) (fun v66 w hs => ⟨(fun _ => RdS.of hs rfl rfl), ?_⟩))
                  refine EP_take rfl rfl rfl (fun _ => R_assign rfl) ?_
                  refine EP_done ?_
                  refine InBlock_n ?_
                  refine Then_n ?_
                  first
                    | exact ⟨oa, oc, ⟨rfl, by rw [hri]; rfl, rfl, trivial⟩, (hs.fin [] [0, 1]).as rfl (by rw [hri]; rfl)⟩
                    | (have hs := hs.asSl (i := 0) rfl (refIns keyP x o).length ((refIns keyP x o).flatMap Ptr.l) (by rw [hri, List.length_append, List.length_cons]; omega) (by rw [hri]; simp [Value.cells, Ptr.val, Ptr.cells])
                       obtain ⟨oa2, oc2, rfl, hs⟩ := hs.freezeSl (i := 0) rfl
                       exact ⟨oa2, oc2, ⟨rfl, rfl, rfl, trivial⟩, (hs.fin [] [0, 4]).as rfl rfl⟩)
                    | (have hs := hs.asSl (i := 1) rfl (refIns keyP x o).length ((refIns keyP x o).flatMap Ptr.l) (by rw [hri, List.length_append, List.length_cons]; omega) (by rw [hri]; simp [Value.cells, Ptr.val, Ptr.cells])
                       obtain ⟨oa2, oc2, rfl, hs⟩ := hs.freezeSl (i := 1) rfl
                       exact ⟨oa2, oc2, ⟨rfl, rfl, rfl, trivial⟩, (hs.fin [] [0, 4]).as rfl rfl⟩)
                exact EP_end
              refine EP_fork rfl rfl (O_buildSlice [.tmp 60] hs rfl ei_22 rfl rfl rfl (sizeN (Ptr.size _)) (by decide) (fun b61 w hb61 hs => ⟨(rq_no (by kernel_rfl)), ?_⟩)) ?_
              · skip
                refine EP_act rfl rfl (O_buildSlice [] hs rfl ei_22 rfl rfl rfl (by simp) (by decide) (fun b52 w hb52 hs => ⟨(fun _ => RdS.of hs rfl rfl), ?_⟩))
                refine EP_act rfl rfl (O_append hs (i := 1) rfl rfl ei_22 rfl rfl (Src.data (hs.rd (i := 2) rfl)) (Ptr.oneL _) (by omega) (by omega) (fun v56 w hs => ⟨(fun _ => RdS.of hs rfl rfl), ?_⟩))
                refine EP_act rfl rfl (O_append hs (i := 1) rfl rfl ei_22 rfl rfl (Src.own (hs.at (i := 0) rfl)) (ptr_oneF _) (by omega) (by omega) (fun v62 w hs => ⟨(fun _ => RdS.of hs rfl rfl), ?_⟩))
                refine EP_act rfl rfl (O_append hs (i := 1) rfl rfl ei_22 rfl rfl (Src.data (hs.rd (i := 3) rfl)) (Ptr.oneL _) (by omega) (by omega) (fun v66 w hs => ⟨(fun _ => RdS.of hs rfl rfl), ?_⟩))
                refine EP_take rfl rfl rfl (fun _ => R_assign rfl) ?_
                refine EP_done ?_
                refine InBlock_n ?_
                refine Then_n ?_
                first
                  | exact ⟨oa, oc, ⟨rfl, by rw [hri]; rfl, rfl, trivial⟩, (hs.fin [] [0, 1]).as rfl (by rw [hri]; rfl)⟩
                  | (have hs := hs.asSl (i := 0) rfl (refIns keyP x o).length ((refIns keyP x o).flatMap Ptr.l) (by rw [hri, List.length_append, List.length_cons]; omega) (by rw [hri]; simp [Value.cells, Ptr.val, Ptr.cells])
                     obtain ⟨oa2, oc2, rfl, hs⟩ := hs.freezeSl (i := 0) rfl
                     exact ⟨oa2, oc2, ⟨rfl, rfl, rfl, trivial⟩, (hs.fin [] [0, 4]).as rfl rfl⟩)
                  | (have hs := hs.asSl (i := 1) rfl (refIns keyP x o).length ((refIns keyP x o).flatMap Ptr.l) (by rw [hri, List.length_append, List.length_cons]; omega) (by rw [hri]; simp [Value.cells, Ptr.val, Ptr.cells])
                     obtain ⟨oa2, oc2, rfl, hs⟩ := hs.freezeSl (i := 1) rfl
                     exact ⟨oa2, oc2, ⟨rfl, rfl, rfl, trivial⟩, (hs.fin [] [0, 4]).as rfl rfl⟩)
              exact EP_end
    · rintro ρ w ⟨oa2, oc2, hsl, hs⟩
      refine EC_slots _ hsl ?_
      refine EC_region ?_
      refine EL_run rfl (R_move rfl) ?_
      refine EL_run rfl (R_addI rfl rfl (by omega)) ?_
      refine EL_run rfl (R_assign rfl) ?_
      refine EL_nil ?_
      refine Then_n ?_
      exact ⟨l.length - (i + 1), by omega, i + 1, refIns keyP x o, oa2, oc2, rfl, by omega, htk.symm, ⟨rfl, rfl, sI (by omega), trivial⟩, (hs.fin [] [0, 1]).as rfl rfl⟩
  · (first | have hc9p := of_decide_eq_true hc9 | have hc9p := of_decide_eq_false hc9 | have hc9p := of_decide_eq_false (bnt hc9) | have hc9p := of_decide_eq_true (bnf hc9) | have hc9p := bnt hc9 | have hc9p := bnf hc9 | have hc9p := hc9); try dsimp only at hc9p
    obtain rfl : i = l.length := by omega
    rw [List.take_length] at ho
    subst ho
    refine EC_exit ?_
    refine Then_e ?_
    refine Then_e ?_
    refine InBlock_hit rfl ?_
    refine Then_n ?_
    refine EC_rseq ?_
    refine EL_run rfl (R_move rfl) ?_
    refine EL_run rfl (R_assign rfl) ?_
    refine EL_nil ?_
    refine EC_ret ?_
    exact ⟨[_], ⟨rfl, trivial⟩, _, _, ⟨_, _, rfl, rfl, rfl⟩, (hs.fin [] [1]).as rfl rfl⟩
end Go.Proofs.Ytpcojkbljgpecaa
