/- Part 2 of the proof: engine, models, walks and plain laws, in build order. -/
import Derived.Test.YtpcojkbljgpecaaGreatQF1
import Derived.Laws.OwnMore
import Derived.Laws.CopyRow
import Derived.Lib.Bytealg
import Derived.Lib.BytesEntry
import Derived.Laws.Externs
set_option linter.unusedVariables false
set_option linter.unusedSimpArgs false
namespace Go.Proofs.YtpcojkbljgpecaaGreat
open Go
def len8tab : ByteArray := ⟨#[0, 1, 2, 2, 3, 3, 3, 3, 4, 4, 4, 4, 4, 4, 4, 4, 5, 5, 5, 5, 5, 5, 5, 5, 5, 5, 5, 5, 5, 5, 5, 5, 6, 6, 6, 6, 6, 6, 6, 6, 6, 6, 6, 6, 6, 6, 6, 6, 6, 6, 6, 6, 6, 6, 6, 6, 6, 6, 6, 6, 6, 6, 6, 6, 7, 7, 7, 7, 7, 7, 7, 7, 7, 7, 7, 7, 7, 7, 7, 7, 7, 7, 7, 7, 7, 7, 7, 7, 7, 7, 7, 7, 7, 7, 7, 7, 7, 7, 7, 7, 7, 7, 7, 7, 7, 7, 7, 7, 7, 7, 7, 7, 7, 7, 7, 7, 7, 7, 7, 7, 7, 7, 7, 7, 7, 7, 7, 7, 8, 8, 8, 8, 8, 8, 8, 8, 8, 8, 8, 8, 8, 8, 8, 8, 8, 8, 8, 8, 8, 8, 8, 8, 8, 8, 8, 8, 8, 8, 8, 8, 8, 8, 8, 8, 8, 8, 8, 8, 8, 8, 8, 8, 8, 8, 8, 8, 8, 8, 8, 8, 8, 8, 8, 8, 8, 8, 8, 8, 8, 8, 8, 8, 8, 8, 8, 8, 8, 8, 8, 8, 8, 8, 8, 8, 8, 8, 8, 8, 8, 8, 8, 8, 8, 8, 8, 8, 8, 8, 8, 8, 8, 8, 8, 8, 8, 8, 8, 8, 8, 8, 8, 8, 8, 8, 8, 8, 8, 8, 8, 8, 8, 8, 8, 8, 8, 8, 8, 8, 8, 8, 8, 8, 8, 8, 8, 8]⟩
theorem len8_all : ∀ a : Fin 256, len8tab[a.val]? = some (UInt8.ofNat (bitLen a.val)) := by decide +kernel
theorem len8_at (a : Nat) (h : a < 2 ^ 8) : len8tab[((a : Int)).toNat]? = some (UInt8.ofNat (bitLen a)) := len8_all ⟨a, h⟩
set_option maxRecDepth 100000 in
theorem len64_spec (n : Nat) {w0 : World} (hn : n < 2 ^ 64) : Spec Tryz.prog 300 #[.int .u64 (n : Int)] w0 [] [] (fun v es1 ds1 => v = .int .i64 (bitLen n) ∧ es1 = [] ∧ ds1 = []) := by
 refine Spec.intro (fun F D hs => ?_)
 refine Calls_of_EC (args := [.int .u64 (n : Int)]) Tryz.func300 rfl rfl rfl ?_
 refine EC_rseq ?_
 refine EL_run rfl (R_assign rfl) ?_
 refine EL_nil ?_
 refine EC_cut (fun ρ w => ∃ x k : Nat, Slots ρ [(0, .int .u64 (x : Int)), (2, .int .i64 (k : Int))] ∧ St w0 F D [] [] w ∧ bitLen n = k + bitLen x ∧ x < 2 ^ 32 ∧ k ≤ 32) ?_ ?_
 ·skip
  refine EC_rseq ?_
  refine EL_run rfl (R_move rfl) ?_
  refine EL_run rfl (R_geq rfl rfl) ?_
  refine EL_nil ?_
  refine EC_cond rfl (fun hc4 => ?_) (fun hc4 => ?_)
  ·have hc4p := cvt hc4; try dsimp only at hc4p
   refine EC_rseq ?_
   refine EL_run rfl (R_move rfl) ?_
   refine EL_run rfl (R_shrU 32 rfl rfl rfl (by simp [IntKind.bits]; omega)) ?_
   refine EL_run rfl (R_assign rfl) ?_
   refine EL_nil ?_
   refine EC_region ?_
   refine EL_run rfl (R_assign rfl) ?_
   refine EL_nil ?_
   refine Then_n ?_
   exact ⟨n / 2 ^ 32, 32, ⟨rfl, rfl, trivial⟩, hs, bitLen_shift n 32 (by omega), by omega, by omega⟩
  ·have hc4p := cvt hc4; try dsimp only at hc4p
   refine EC_skip ?_
   refine Then_n ?_
   exact ⟨n, 0, ⟨rfl, rfl, trivial⟩, hs, by omega, by omega, by omega⟩
 ·intro ρ w hM
  obtain ⟨x, k, hsl, hs, hbl, hx, hk⟩ := hM
  refine EC_slots _ hsl ?_
  refine EC_cut (fun ρ w => ∃ x k : Nat, Slots ρ [(0, .int .u64 (x : Int)), (2, .int .i64 (k : Int))] ∧ St w0 F D [] [] w ∧ bitLen n = k + bitLen x ∧ x < 2 ^ 16 ∧ k ≤ 48) ?_ ?_
  ·skip
   refine EC_rseq ?_
   refine EL_run rfl (R_move rfl) ?_
   refine EL_run rfl (R_geq rfl rfl) ?_
   refine EL_nil ?_
   refine EC_cond rfl (fun hc8 => ?_) (fun hc8 => ?_)
   ·have hc8p := cvt hc8; try dsimp only at hc8p
    refine EC_rseq ?_
    refine EL_run rfl (R_move rfl) ?_
    refine EL_run rfl (R_shrU 16 rfl rfl rfl (by simp [IntKind.bits]; omega)) ?_
    refine EL_run rfl (R_assign rfl) ?_
    refine EL_nil ?_
    refine EC_region ?_
    refine EL_run rfl (R_move rfl) ?_
    refine EL_run rfl (R_addI rfl rfl (by omega)) ?_
    refine EL_run rfl (R_assign rfl) ?_
    refine EL_nil ?_
    refine Then_n ?_
    first
      | exact ⟨x, k, ⟨rfl, rfl, trivial⟩, hs, by omega, by omega, by omega⟩
      | exact ⟨x / 2 ^ 16, k + 16, ⟨rfl, rfl, trivial⟩, hs, by have := bitLen_shift x 16 (by omega); omega, by omega, by omega⟩
   ·have hc8p := cvt hc8; try dsimp only at hc8p
    refine EC_skip ?_
    refine Then_n ?_
    first
      | exact ⟨x, k, ⟨rfl, rfl, trivial⟩, hs, by omega, by omega, by omega⟩
      | exact ⟨x / 2 ^ 16, k + 16, ⟨rfl, rfl, trivial⟩, hs, by have := bitLen_shift x 16 (by omega); omega, by omega, by omega⟩
  ·intro ρ w hM
   obtain ⟨x, k, hsl, hs, hbl, hx, hk⟩ := hM
   refine EC_slots _ hsl ?_
   refine EC_cut (fun ρ w => ∃ x k : Nat, Slots ρ [(0, .int .u64 (x : Int)), (2, .int .i64 (k : Int))] ∧ St w0 F D [] [] w ∧ bitLen n = k + bitLen x ∧ x < 2 ^ 8 ∧ k ≤ 56) ?_ ?_
   ·skip
    refine EC_rseq ?_
    refine EL_run rfl (R_move rfl) ?_
    refine EL_run rfl (R_geq rfl rfl) ?_
    refine EL_nil ?_
    refine EC_cond rfl (fun hc14 => ?_) (fun hc14 => ?_)
    ·have hc14p := cvt hc14; try dsimp only at hc14p
     refine EC_rseq ?_
     refine EL_run rfl (R_move rfl) ?_
     refine EL_run rfl (R_shrU 8 rfl rfl rfl (by simp [IntKind.bits]; omega)) ?_
     refine EL_run rfl (R_assign rfl) ?_
     refine EL_nil ?_
     refine EC_region ?_
     refine EL_run rfl (R_move rfl) ?_
     refine EL_run rfl (R_addI rfl rfl (by omega)) ?_
     refine EL_run rfl (R_assign rfl) ?_
     refine EL_nil ?_
     refine Then_n ?_
     first
       | exact ⟨x, k, ⟨rfl, rfl, trivial⟩, hs, by omega, by omega, by omega⟩
       | exact ⟨x / 2 ^ 8, k + 8, ⟨rfl, rfl, trivial⟩, hs, by have := bitLen_shift x 8 (by omega); omega, by omega, by omega⟩
    ·have hc14p := cvt hc14; try dsimp only at hc14p
     refine EC_skip ?_
     refine Then_n ?_
     first
       | exact ⟨x, k, ⟨rfl, rfl, trivial⟩, hs, by omega, by omega, by omega⟩
       | exact ⟨x / 2 ^ 8, k + 8, ⟨rfl, rfl, trivial⟩, hs, by have := bitLen_shift x 8 (by omega); omega, by omega, by omega⟩
   ·intro ρ w hM
    obtain ⟨x, k, hsl, hs, hbl, hx, hk⟩ := hM
    refine EC_slots _ hsl ?_
    refine EC_rseq ?_
    refine EL_run rfl (R_move rfl) ?_
    refine EL_run rfl (R_move rfl) ?_
    refine EL_run rfl (R_convN rfl Tryz.underlying328 Tryz.underlying5 rfl (by simp [IntKind.bits]; omega)) ?_
    refine EL_run rfl (R_indexStr Tryz.underlying9 rfl rfl (by omega) (len8_at x hx)) ?_
    refine EL_run rfl (R_convS Tryz.underlying5 Tryz.underlying3 rfl (by omega) (by have := (UInt8.ofNat (bitLen x)).toNat_lt; omega)) ?_
    refine EL_run rfl (R_addI rfl rfl (by have := (UInt8.ofNat (bitLen x)).toNat_lt; omega)) ?_
    refine EL_run rfl (R_assign rfl) ?_
    refine EL_nil ?_
    refine EC_ret ?_
    refine ⟨[_], ⟨rfl, trivial⟩, [], [], ⟨?_, rfl, rfl⟩, hs.fin [] []⟩
    have h8 : bitLen x ≤ 8 := (bitLen_le x 8).2 hx
    have : (UInt8.ofNat (bitLen x)).toNat = bitLen x := by rw [UInt8.toNat_ofNat']; omega
    simp only [tupleOf, this, hbl]
    congr 1

set_option maxRecDepth 100000 in
theorem groups_spec (n : Nat) {w0 : World} (hn : n < 2 ^ 64) : Spec Tryz.prog 301 #[.int .u64 (n : Int)] w0 [] [] (fun v es1 ds1 => v = .int .i64 (groups n) ∧ es1 = [] ∧ ds1 = []) := by
 refine Spec.intro (fun F D hs => ?_)
 refine Calls_of_EC (args := [.int .u64 (n : Int)]) Tryz.func301 rfl rfl rfl ?_
 refine EC_rseq ?_
 refine EL_run rfl (R_assign rfl) ?_
 refine EL_nil ?_
 refine EC_rseq ?_
 refine EL_run rfl (R_move rfl) ?_
 refine EL_op rfl (O_call hs [] [] rfl rfl rfl Tryz.call300 (len64_spec n hn) (fun v es1 ds1 w hPhi hs => ?_))
 obtain ⟨rfl, rfl, rfl⟩ := hPhi
 have hbl := (bitLen_le n 64).2 hn
 refine EL_run rfl (R_addI rfl rfl (by omega)) ?_
 refine EL_run rfl (R_subI rfl rfl (by omega)) ?_
 refine EL_run rfl (R_quoI rfl rfl (by omega) (by omega) (by omega)) ?_
 refine EL_run rfl (R_max rfl rfl) ?_
 refine EL_run rfl (R_assign rfl) ?_
 refine EL_nil ?_
 refine EC_ret ?_
 refine ⟨[_], ⟨rfl, trivial⟩, [], [], ⟨?_, rfl, rfl⟩, hs.fin [] []⟩
 simp only [tupleOf, groups]
 congr 1
 omega

set_option maxRecDepth 100000 in
theorem short_spec (ao : Option Addr) (c : Nat) (b : BL) (n : Nat) {w0 : World} (hn : n < 2 ^ 64) (hb : b.length ≤ 1000000000) : Spec Tryz.prog 255 #[.slice ao b.length c, .int .u64 (n : Int)] w0 [] [dB ao c b] (fun v es1 ds1 => es1 = [oSl v 5 1 (b ++ short n).length (u8s (b ++ short n))] ∧ ds1 = []) := by
 refine Spec.intro (fun F D hs => ?_)
 refine Calls_of_EC (args := [.slice ao b.length c, .int .u64 (n : Int)]) Tryz.func255 rfl rfl rfl ?_
 refine EC_rseq ?_
 refine EL_run rfl (R_assign rfl) ?_
 refine EL_nil ?_
 refine EC_rseq ?_
 refine EL_op rfl (O_buildSlice [] hs rfl ei_36 rfl rfl rfl (by simp) (by decide) (fun b7 w hb7 hs => ?_))
 refine EL_run rfl (R_move rfl) ?_
 refine EL_op rfl (O_append hs (i := 0) rfl rfl ei_36 rfl rfl (Src.data (hs.rd (i := 0) rfl)) (u8s_one b) (by omega) (by omega) (fun v9 w hs => ?_))
 have hs := hs.asSl (i := 0) rfl b.length (u8s b) (by omega) (by simp)
 refine EL_run rfl (R_assign rfl) ?_
 refine EL_nil ?_
 refine EC_seq ?_
 refine EC_rseq ?_
 refine EL_run rfl (R_move rfl) ?_
 refine EL_op rfl (O_call hs [] [] rfl rfl rfl Tryz.call301 (groups_spec n hn) (fun v es1 ds1 w hPhi hs => ?_))
 obtain ⟨rfl, rfl, rfl⟩ := hPhi
 have hg1 := groups_pos n
 have hg2 := groups_le n hn
 refine EL_run rfl (R_subI rfl rfl (by omega)) ?_
 refine EL_run rfl (R_assign rfl) ?_
 refine EL_nil ?_
 refine EC_block ?_
 refine EC_loop (fun m ρ w => ∃ (k n' : Nat) (out : BL) (v : Value), m = k ∧ Slots ρ [(1, .int .u64 (n' : Int)), (5, v), (6, .int .i64 (k : Int))] ∧ St w0 F D [oSl v 5 1 out.length (u8s out)] [] w ∧ out ++ shortLoop k n' = b ++ short n ∧ n' < 2 ^ 64 ∧ k ≤ 9 ∧ out.length + k ≤ 1000000100) (groups n - 1) (⟨groups n - 1, n, b, _, rfl, ⟨rfl, rfl, by show some _ = some _; congr 2; omega, trivial⟩, (hs.fin [true] []).as rfl rfl, rfl, hn, by omega, by omega⟩) ?_
 rintro k ρ w ⟨_, n', out, v, rfl, hsl, hs, hout, hn', hk, hlen⟩
 refine EC_slots _ hsl ?_
 refine EC_seq ?_
 refine EC_rseq ?_
 refine EL_run rfl (R_move rfl) ?_
 refine EL_run rfl (R_gtr rfl rfl) ?_
 refine EL_nil ?_
 refine EC_cond rfl (fun hc14 => ?_) (fun hc14 => ?_)
 ·have hc14p := cvt hc14; try dsimp only at hc14p
  refine EC_skip ?_
  refine Then_n ?_
  refine EC_seq ?_
  refine EC_block ?_
  refine EC_rseq ?_
  refine EL_run rfl (R_move rfl) ?_
  refine EL_run rfl (R_move rfl) ?_
  refine EL_run rfl (R_convU rfl Tryz.underlying328 Tryz.underlying5 rfl) ?_
  refine EL_run rfl (R_orU (b := 128) rfl rfl rfl (by simp [IntKind.bits]; omega) (by simp [IntKind.bits])) ?_
  refine EL_op rfl (O_buildSlice [.tmp 20] hs rfl ei_36 rfl rfl rfl (size1 rfl) (by decide) (fun b21 w hb21 hs => ?_))
  refine EL_op rfl (O_append hs (i := 0) rfl rfl ei_36 rfl rfl (Src.own (hs.at (i := 1) rfl)) (one_flat1 rfl) (by omega) (by omega) (fun v22 w hs => ?_))
  have hor : n' % 256 ||| 128 < 256 := Nat.or_lt_two_pow (n := 8) (by omega) (by omega)
  have hs := hs.asSl (i := 0) rfl (out ++ [UInt8.ofNat (n' % 256 ||| 128)]).length (u8s (out ++ [UInt8.ofNat (n' % 256 ||| 128)])) (by simp) (u8s_snoc out _ (by rw [u8_ofNat, Nat.mod_eq_of_lt hor]; rfl))
  refine EL_run rfl (R_assign rfl) ?_
  refine EL_nil ?_
  refine EC_region ?_
  refine EL_run rfl (R_move rfl) ?_
  refine EL_run rfl (R_shrU 7 rfl rfl rfl (by simp [IntKind.bits]; omega)) ?_
  refine EL_run rfl (R_assign rfl) ?_
  refine EL_nil ?_
  refine InBlock_n ?_
  refine Then_n ?_
  refine EC_region ?_
  refine EL_run rfl (R_move rfl) ?_
  refine EL_run rfl (R_subI rfl rfl (by omega)) ?_
  refine EL_run rfl (R_assign rfl) ?_
  refine EL_nil ?_
  refine Then_n ?_
  obtain ⟨k, rfl⟩ : ∃ j, k = j + 1 := ⟨k - 1, by omega⟩
  exact ⟨k, by omega, k, n' / 128, out ++ [UInt8.ofNat (n' % 256 ||| 128)], _, rfl, ⟨rfl, rfl, by show some _ = some _; congr 2; omega, trivial⟩, (hs.fin [true] []).as rfl rfl, by rw [← hout, shortLoop]; simp, by omega, by omega, by simp; omega⟩
 ·have hc14p := cvt hc14; try dsimp only at hc14p
  refine EC_exit ?_
  refine Then_e ?_
  refine Then_e ?_
  refine InBlock_hit rfl ?_
  refine Then_n ?_
  refine EC_rseq ?_
  refine EL_run rfl (R_move rfl) ?_
  refine EL_run rfl (R_move rfl) ?_
  refine EL_run rfl (R_convU rfl Tryz.underlying328 Tryz.underlying5 rfl) ?_
  refine EL_op rfl (O_buildSlice [.tmp 27] hs rfl ei_36 rfl rfl rfl (size1 rfl) (by decide) (fun b28 w hb28 hs => ?_))
  refine EL_op rfl (O_append hs (i := 0) rfl rfl ei_36 rfl rfl (Src.own (hs.at (i := 1) rfl)) (one_flat1 rfl) (by omega) (by omega) (fun v29 w hs => ?_))
  obtain rfl : k = 0 := by omega
  have hs := hs.asSl (i := 0) rfl (b ++ short n).length (u8s (b ++ short n)) (by rw [← hout]; simp [shortLoop]) (by rw [← hout]; exact u8s_snoc out _ (by rw [u8_ofNat]; rfl))
  refine EL_run rfl (R_assign rfl) ?_
  refine EL_nil ?_
  refine EC_ret ?_
  exact ⟨[_], ⟨rfl, trivial⟩, _, _, ⟨rfl, rfl⟩, (hs.fin [true] []).as rfl rfl⟩

set_option maxRecDepth 100000 in
theorem text_spec (ao : Option Addr) (c : Nat) (b s : BL) {w0 : World} (hs1 : s.length ≤ 1000000000) (hb : b.length ≤ 1000000000) : Spec Tryz.prog 213 #[.slice ao b.length c, .string (bstr s)] w0 [] [dB ao c b] (fun v es1 ds1 => es1 = [oSl v 5 1 (b ++ textB s).length (u8s (b ++ textB s))] ∧ ds1 = []) := by
 refine Spec.intro (fun F D hs => ?_)
 refine Calls_of_EC (args := [.slice ao b.length c, .string (bstr s)]) Tryz.func213 rfl rfl rfl ?_
 refine EC_rseq ?_
 refine EL_run rfl (R_assign rfl) ?_
 refine EL_nil ?_
 refine EC_rseq ?_
 refine EL_run rfl (R_move rfl) ?_
 refine EL_run rfl (R_move rfl) ?_
 refine EL_run rfl (R_lenStrB Tryz.underlying9 rfl) ?_
 refine EL_run rfl (R_convN rfl Tryz.underlying3 Tryz.underlying328 rfl (by simp [IntKind.bits]; omega)) ?_
 refine EL_op rfl (O_call hs [] [0] rfl rfl rfl Tryz.call255 (short_spec ao c b s.length (by omega) hb) (fun v es1 ds1 w hPhi hs => ?_))
 obtain ⟨rfl, rfl⟩ := hPhi
 have hsl := short_len s.length
 have hg := groups_le s.length (by omega)
 refine EL_run rfl (R_move rfl) ?_
 refine EL_op rfl (O_appendStr hs (i := 0) rfl rfl ei_36 Tryz.underlying9 Tryz.zeroValue5 rfl rfl (by simp; omega) (fun v11 w hs => ?_))
 have hs := hs.asSl (i := 0) rfl (b ++ textB s).length (u8s (b ++ textB s)) (by simp [textB]; omega) (by simp [textB, u8s])
 refine EL_run rfl (R_assign rfl) ?_
 refine EL_nil ?_
 refine EC_ret ?_
 exact ⟨[_], ⟨rfl, trivial⟩, _, _, ⟨rfl, rfl⟩, (hs.fin [true] []).as rfl rfl⟩

set_option maxRecDepth 100000 in
theorem fixed_spec (ao : Option Addr) (c : Nat) (b : BL) (size : Nat) (ao2 : Option Addr) (c2 : Nat) (l : List Nat) {w0 : World} (hl : ∀ n, n ∈ l → n < 2 ^ 64) (hsz : 1 ≤ size ∧ size ≤ 8) (hb : b.length ≤ 1000000000) (hll : l.length ≤ 1000) : Spec Tryz.prog 275 #[.slice ao b.length c, .int .i64 (size : Int), .slice ao2 l.length c2] w0 [] [dB ao c b, dSl ao2 l.length c2 1 (u64s l)] (fun v es1 ds1 => es1 = [oSl v 5 1 (b ++ l.flatMap (fixed1 size)).length (u8s (b ++ l.flatMap (fixed1 size)))] ∧ ds1 = []) := by
 refine Spec.intro (fun F D hs => ?_)
 refine Calls_of_EC (args := [.slice ao b.length c, .int .i64 (size : Int), .slice ao2 l.length c2]) Tryz.func275 rfl rfl rfl ?_
 refine EC_rseq ?_
 refine EL_run rfl (R_assign rfl) ?_
 refine EL_nil ?_
 refine EC_rseq ?_
 refine EL_op rfl (O_buildSlice [] hs rfl ei_36 rfl rfl rfl (by simp) (by decide) (fun b11 w hb11 hs => ?_))
 refine EL_run rfl (R_move rfl) ?_
 refine EL_op rfl (O_append hs (i := 0) rfl rfl ei_36 rfl rfl (Src.data (hs.rd (i := 0) rfl)) (u8s_one b) (by omega) (by omega) (fun v13 w hs => ?_))
 have hs := hs.asSl (i := 0) rfl b.length (u8s b) (by omega) (by simp)
 refine EL_run rfl (R_assign rfl) ?_
 refine EL_nil ?_
 refine EC_seq ?_
 refine EC_rseq ?_
 refine EL_run rfl (R_move rfl) ?_
 refine EL_run rfl (R_lss rfl rfl) ?_
 refine EL_run rfl (R_move rfl) ?_
 refine EL_split 16 rfl (fun hg2 => ?_) (fun hg2 => ?_)
 ·exact absurd (of_decide_eq_true hg2) (by omega)
 ·have hg2p := cvt hg2; try dsimp only at hg2p
  refine EL_want rfl rfl hg2 ?_
  refine EL_run rfl (R_move rfl) ?_
  refine EL_want rfl rfl hg2 ?_
  refine EL_run rfl (R_gtr rfl rfl) ?_
  refine EL_run rfl (R_pickF rfl hg2 rfl) ?_
  refine EL_nil ?_
  refine EC_cond rfl (fun hc19 => ?_) (fun hc19 => ?_)
  ·exact absurd (of_decide_eq_true hc19) (by omega)
  ·have hc19p := cvt hc19; try dsimp only at hc19p
   refine EC_skip ?_
   refine Then_n ?_
   refine EC_seq ?_
   refine EC_rseq ?_
   refine EL_run rfl (R_move rfl) ?_
   refine EL_run rfl (R_lenS Tryz.underlying384 rfl) ?_
   refine EL_run rfl (R_move rfl) ?_
   refine EL_nil ?_
   refine EC_block ?_
   refine EC_loop (fun m ρ w => ∃ (i : Nat) (out : BL) (v : Value), m = l.length - i ∧ i ≤ l.length ∧ Slots ρ [(1, .int .i64 (size : Int)), (7, v), (21, .slice ao2 l.length c2), (22, .int .i64 (l.length : Int)), (23, .int .i64 (i : Int))] ∧ St w0 F D [oSl v 5 1 out.length (u8s out)] [dSl ao2 l.length c2 1 (u64s l)] w ∧ out = b ++ (l.take i).flatMap (fixed1 size) ∧ out.length = b.length + i * size) (l.length) (⟨0, b, _, by omega, by omega, ⟨rfl, rfl, rfl, rfl, rfl, trivial⟩, (hs.fin [true] [1]).as rfl rfl, by simp, by omega⟩) ?_
   rintro m ρ w ⟨i, out, v, rfl, hi, hsl, hs, hout, hlen⟩
   refine EC_slots _ hsl ?_
   have hisz : i * size ≤ i * 8 := Nat.mul_le_mul_left _ hsz.2
   refine EC_rseq ?_
   refine EL_run rfl (R_lss rfl rfl) ?_
   refine EL_nil ?_
   refine EC_seq ?_
   refine EC_cond rfl (fun hc24 => ?_) (fun hc24 => ?_)
   ·have hc24p := cvt hc24; try dsimp only at hc24p
    have hc24p : i < l.length := by omega
    obtain ⟨bb, oo, rfl⟩ := dSl.some (hs.rd (i := 0) rfl) (by intro h; have := congrArg List.length h; simp [u64s] at this; subst this; simp at hc24p)
    have hn := hl l[i] (List.getElem_mem hc24p)
    refine EC_skip ?_
    refine Then_n ?_
    refine EC_cut (fun ρ w => ∃ (v : Value), Slots ρ [(1, .int .i64 (size : Int)), (7, v), (21, .slice (some ⟨bb, oo, none⟩) l.length c2), (22, .int .i64 (l.length : Int)), (23, .int .i64 (i : Int))] ∧ St w0 F D [oSl v 5 1 (out ++ fixed1 size l[i]).length (u8s (out ++ fixed1 size l[i]))] [dSl (some ⟨bb, oo, none⟩) l.length c2 1 (u64s l)] w) ?_ ?_
    ·skip
     refine EC_block ?_
     refine EC_rseq ?_
     refine EL_run rfl (R_idx es_384 rfl rfl rfl (by omega) (by omega)) ?_
     refine EL_run rfl (R_ld (i := i) (hs.rd (i := 0) rfl) Tryz.isAgg328 rfl (by simp) (u64s_get (List.getElem?_eq_getElem hc24p))) ?_
     refine EL_run rfl (R_assign rfl) ?_
     refine EL_nil ?_
     refine EC_rseq ?_
     refine EL_run rfl (R_move rfl) ?_
     refine EL_run rfl (R_move rfl) ?_
     refine EL_nil ?_
     refine EC_block ?_
     refine EC_loop (fun m ρ w => ∃ (j : Nat) (v : Value), m = size - j ∧ j ≤ size ∧ Slots ρ [(1, .int .i64 (size : Int)), (7, v), (9, .int .u64 (l[i] : Int)), (21, .slice (some ⟨bb, oo, none⟩) l.length c2), (22, .int .i64 (l.length : Int)), (23, .int .i64 (i : Int)), (27, .int .i64 (size : Int)), (28, .int .i64 (j : Int))] ∧ St w0 F D [oSl v 5 1 (out ++ (fixed1 size l[i]).take j).length (u8s (out ++ (fixed1 size l[i]).take j))] [dSl (some ⟨bb, oo, none⟩) l.length c2 1 (u64s l)] w) (size) (⟨0, v, by omega, by omega, ⟨rfl, rfl, rfl, rfl, rfl, rfl, rfl, rfl, trivial⟩, hs.as (by simp) rfl⟩) ?_
     rintro m ρ w ⟨j, v, rfl, hj, hsl, hs⟩
     refine EC_slots _ hsl ?_
     refine EC_rseq ?_
     refine EL_run rfl (R_lss rfl rfl) ?_
     refine EL_nil ?_
     refine EC_seq ?_
     refine EC_cond rfl (fun hc29 => ?_) (fun hc29 => ?_)
     ·have hc29p := cvt hc29; try dsimp only at hc29p
      refine EC_skip ?_
      refine Then_n ?_
      refine EC_seq ?_
      refine EC_block ?_
      refine EC_rseq ?_
      refine EL_run rfl (R_move rfl) ?_
      refine EL_run rfl (R_assign rfl) ?_
      refine EL_nil ?_
      refine EC_region ?_
      refine EL_run rfl (R_move rfl) ?_
      refine EL_run rfl (R_move rfl) ?_
      refine EL_run rfl (R_move rfl) ?_
      refine EL_run rfl (R_mulI rfl rfl (by omega)) ?_
      refine EL_run rfl (R_shrU (8 * j) rfl rfl (by simp) hn) ?_
      refine EL_run rfl (R_convU rfl Tryz.underlying328 Tryz.underlying5 rfl) ?_
      refine EL_op rfl (O_buildSlice [.tmp 36] hs rfl ei_36 rfl rfl rfl (size1 rfl) (by decide) (fun b37 w hb37 hs => ?_))
      refine EL_op rfl (O_append hs (i := 0) rfl rfl ei_36 rfl rfl (Src.own (hs.at (i := 1) rfl)) (one_flat1 rfl) (by rw [List.length_append, List.length_take]; omega) (by rw [List.length_append, List.length_take]; omega) (fun v38 w hs => ?_))
      have hs := hs.asSl (i := 0) rfl (out ++ (fixed1 size l[i]).take (j + 1)).length (u8s (out ++ (fixed1 size l[i]).take (j + 1))) (by rw [fixed1_take _ _ _ (by omega)]; simp; omega) (by rw [fixed1_take _ _ _ (by omega), ← List.append_assoc]; exact u8s_snoc _ _ (by rw [u8_ofNat]; rfl))
      refine EL_run rfl (R_assign rfl) ?_
      refine EL_nil ?_
      refine InBlock_n ?_
      refine Then_n ?_
      refine EC_region ?_
      refine EL_run rfl (R_addI rfl rfl (by omega)) ?_
      refine EL_run rfl (R_move rfl) ?_
      refine EL_nil ?_
      refine Then_n ?_
      exact ⟨size - (j + 1), by omega, j + 1, _, rfl, by omega, ⟨rfl, rfl, rfl, rfl, rfl, rfl, rfl, rfl, trivial⟩, (hs.fin [true] [0]).as rfl rfl⟩
     ·have hc29p := cvt hc29; try dsimp only at hc29p
      refine EC_exit ?_
      refine Then_e ?_
      refine Then_e ?_
      refine InBlock_hit rfl ?_
      refine InBlock_n ?_
      refine Then_n ?_
      have e : (fixed1 size l[i]).take j = fixed1 size l[i] := List.take_of_length_le (by rw [fixed1_len]; omega)
      rw [e] at hs
      exact ⟨v, ⟨rfl, rfl, rfl, rfl, rfl, trivial⟩, (hs.fin [true] [0]).as rfl rfl⟩
    ·rintro ρ w ⟨v, hsl, hs⟩
     refine EC_slots _ hsl ?_
     have hout' : ((out ++ fixed1 size l[i]).length = out.length + size) := by rw [List.length_append, fixed1_len]
     generalize hoo : out ++ fixed1 size l[i] = out2 at *
     refine EC_region ?_
     refine EL_run rfl (R_addI rfl rfl (by omega)) ?_
     refine EL_run rfl (R_move rfl) ?_
     refine EL_nil ?_
     refine Then_n ?_
     exact ⟨l.length - (i + 1), by omega, i + 1, out2, v, rfl, by omega, ⟨rfl, rfl, rfl, rfl, rfl, trivial⟩, hs, by rw [← hoo, hout, List.take_succ_eq_append_getElem hc24p, List.flatMap_append]; simp, by rw [Nat.succ_mul]; omega⟩
   ·have hc24p := cvt hc24; try dsimp only at hc24p
    refine EC_exit ?_
    refine Then_e ?_
    refine Then_e ?_
    refine InBlock_hit rfl ?_
    refine Then_n ?_
    refine EC_rseq ?_
    refine EL_run rfl (R_move rfl) ?_
    refine EL_run rfl (R_assign rfl) ?_
    refine EL_nil ?_
    refine EC_ret ?_
    obtain rfl : i = l.length := by omega
    rw [List.take_length] at hout
    subst hout
    exact ⟨[_], ⟨rfl, trivial⟩, _, _, ⟨rfl, rfl⟩, (hs.fin [true] []).as rfl rfl⟩

set_option maxRecDepth 100000 in
theorem take_spec (ao : Option Addr) (c : Nat) (b : BL) (size : Nat) {w0 : World} (hsz : 1 ≤ size ∧ size ≤ 8) (hb : b.length ≤ 1000000000) (hlen : size ≤ b.length) : Spec Tryz.prog 232 #[.slice ao b.length c, .int .i64 (size : Int)] w0 [] [dB ao c b] (fun v es1 ds1 => ∃ v2, v = .tuple #[.int .u64 (leNat (b.take size) : Int), v2, .bool true] ∧ es1 = [oSl v2 5 1 (b.drop size).length (u8s (b.drop size))] ∧ ds1 = []) := by
 refine Spec.intro (fun F D hs => ?_)
 refine Calls_of_EC (args := [.slice ao b.length c, .int .i64 (size : Int)]) Tryz.func232 rfl rfl rfl ?_
 refine EC_rseq ?_
 refine EL_run rfl (R_assign rfl) ?_
 refine EL_run rfl (R_assign rfl) ?_
 refine EL_run rfl (R_assign rfl) ?_
 refine EL_nil ?_
 refine EC_seq ?_
 refine EC_rseq ?_
 refine EL_run rfl (R_move rfl) ?_
 refine EL_run rfl (R_lss rfl rfl) ?_
 refine EL_run rfl (R_move rfl) ?_
 refine EL_split 11 rfl (fun hg2 => ?_) (fun hg2 => ?_)
 ·exact absurd (of_decide_eq_true hg2) (by omega)
 ·have hg2p := cvt hg2; try dsimp only at hg2p
  refine EL_want rfl rfl hg2 ?_
  refine EL_run rfl (R_move rfl) ?_
  refine EL_want rfl rfl hg2 ?_
  refine EL_run rfl (R_gtr rfl rfl) ?_
  refine EL_run rfl (R_pickF rfl hg2 rfl) ?_
  refine EL_run rfl (R_move rfl) ?_
  refine EL_split 15 rfl (fun hg6 => ?_) (fun hg6 => ?_)
  ·exact absurd (of_decide_eq_true hg6) (by omega)
  ·have hg6p := cvt hg6; try dsimp only at hg6p
   refine EL_want rfl rfl hg6 ?_
   refine EL_run rfl (R_move rfl) ?_
   refine EL_want rfl rfl hg6 ?_
   refine EL_run rfl (R_lenS Tryz.underlying36 rfl) ?_
   refine EL_want rfl rfl hg6 ?_
   refine EL_run rfl (R_move rfl) ?_
   refine EL_want rfl rfl hg6 ?_
   refine EL_run rfl (R_lss rfl rfl) ?_
   refine EL_run rfl (R_pickF rfl hg6 rfl) ?_
   refine EL_nil ?_
   refine EC_cond rfl (fun hc20 => ?_) (fun hc20 => ?_)
   ·exact absurd (of_decide_eq_true hc20) (by omega)
   ·have hc20p := cvt hc20; try dsimp only at hc20p
    refine EC_skip ?_
    refine Then_n ?_
    refine EC_seq ?_
    refine EC_rseq ?_
    refine EL_run rfl (R_move rfl) ?_
    refine EL_run rfl (R_move rfl) ?_
    refine EL_run rfl (R_sliceHi es_36 rfl rfl (by omega) (by have := (hs.rd (i := 0) rfl).1.1; omega)) ?_
    refine EL_run rfl (R_lenS Tryz.underlying36 rfl) ?_
    refine EL_run rfl (R_move rfl) ?_
    refine EL_nil ?_
    refine EC_block ?_
    refine EC_loop (fun m ρ w => ∃ (i : Nat), m = size - i ∧ i ≤ size ∧ Slots ρ [(0, .slice ao b.length c), (1, .int .i64 (size : Int)), (4, .int .u64 (leNat (b.take i) : Int)), (23, .slice ao size c), (24, .int .i64 (size : Int)), (25, .int .i64 (i : Int))] ∧ St w0 F D [] [dB ao c b] w) (size) (⟨0, by omega, by omega, ⟨rfl, rfl, rfl, rfl, rfl, rfl, trivial⟩, hs⟩) ?_
    rintro m ρ w ⟨i, rfl, hi, hsl, hs⟩
    refine EC_slots _ hsl ?_
    refine EC_rseq ?_
    refine EL_run rfl (R_lss rfl rfl) ?_
    refine EL_nil ?_
    refine EC_seq ?_
    refine EC_cond rfl (fun hc26 => ?_) (fun hc26 => ?_)
    ·have hc26p := cvt hc26; try dsimp only at hc26p
     have hib : i < b.length := by omega
     obtain ⟨bb, oo, rfl⟩ := dSl.some (hs.rd (i := 0) rfl) (u8s_nil hib)
     have hcl : b[i].toNat < 256 := b[i].toNat_lt
     have hpw : (2 : Nat) ^ 64 = 2 ^ (64 - 8 * i) * 2 ^ (8 * i) := by rw [← Nat.pow_add]; congr 1; omega
     have hp8 : (2 : Nat) ^ 8 ≤ 2 ^ (64 - 8 * i) := Nat.pow_le_pow_right (by omega) (by omega)
     have hsh : b[i].toNat * 2 ^ (8 * i) < 2 ^ 64 := by rw [hpw]; exact Nat.mul_lt_mul_of_pos_right (by omega) (Nat.pow_pos (by omega))
     have hle : leNat (b.take i) < 2 ^ (8 * i) := by have := leNat_lt (b.take i); rwa [List.length_take, Nat.min_eq_left (by omega)] at this
     have hle2 : (2 : Nat) ^ (8 * i) ≤ 2 ^ 64 := Nat.pow_le_pow_right (by omega) (by omega)
     have hor : leNat (b.take i) ||| b[i].toNat * 2 ^ (8 * i) % 2 ^ IntKind.u64.bits = leNat (b.take i) + b[i].toNat * 2 ^ (8 * i) := by
       rw [show (2 : Nat) ^ IntKind.u64.bits = 2 ^ 64 from rfl, Nat.mod_eq_of_lt hsh]; exact or_disj _ _ _ hle
     refine EC_skip ?_
     refine Then_n ?_
     refine EC_seq ?_
     refine EC_block ?_
     refine EC_rseq ?_
     refine EL_run rfl (R_move rfl) ?_
     refine EL_run rfl (R_idx es_36 rfl rfl rfl (by omega) (by omega)) ?_
     refine EL_run rfl (R_ld (i := i) (hs.rd (i := 0) rfl) Tryz.isAgg5 rfl (by simp) (u8s_get (List.getElem?_eq_getElem hib))) ?_
     refine EL_run rfl (R_assign rfl) ?_
     refine EL_run rfl (R_assign rfl) ?_
     refine EL_nil ?_
     refine EC_region ?_
     refine EL_run rfl (R_move rfl) ?_
     refine EL_run rfl (R_move rfl) ?_
     refine EL_run rfl (R_convN rfl Tryz.underlying5 Tryz.underlying328 rfl (by simp [IntKind.bits]; omega)) ?_
     refine EL_run rfl (R_move rfl) ?_
     refine EL_run rfl (R_mulI rfl rfl (by omega)) ?_
     refine EL_run rfl (R_shlU (8 * i) rfl rfl rfl (by simp)) ?_
     refine EL_run rfl (R_orU rfl rfl rfl (by simp [IntKind.bits]; omega) (by rw [show (2 : Nat) ^ IntKind.u64.bits = 2 ^ 64 from rfl]; omega)) ?_
     refine EL_run rfl (R_assign rfl) ?_
     refine EL_nil ?_
     refine InBlock_n ?_
     refine Then_n ?_
     refine EC_region ?_
     refine EL_run rfl (R_addI rfl rfl (by omega)) ?_
     refine EL_run rfl (R_move rfl) ?_
     refine EL_nil ?_
     refine Then_n ?_
     exact ⟨size - (i + 1), by omega, i + 1, rfl, by omega, ⟨rfl, rfl, by rw [List.take_succ_eq_append_getElem hib, leNat_snoc, List.length_take, Nat.min_eq_left (by omega)]; exact congrArg (fun z => some (Value.int .u64 ((z : Nat) : Int))) hor, rfl, rfl, rfl, trivial⟩, hs⟩
    ·have hc26p := cvt hc26; try dsimp only at hc26p
     refine EC_exit ?_
     refine Then_e ?_
     refine Then_e ?_
     refine InBlock_hit rfl ?_
     refine Then_n ?_
     refine EC_rseq ?_
     refine EL_run rfl (R_move rfl) ?_
     refine EL_op rfl (O_buildSlice [] hs rfl ei_36 rfl rfl rfl (by simp) (by decide) (fun b39 w hb39 hs => ?_))
     refine EL_run rfl (R_move rfl) ?_
     refine EL_run rfl (R_move rfl) ?_
     refine EL_run rfl (R_sliceLo es_36 rfl rfl (by omega) (by omega)) ?_
     obtain rfl : i = size := by omega
     have hs := hs.derive (d := dB ao c b) (by simp) (dSl (cutO ao c i 1) (b.length - i) (c - i) 1 (((u8s b).drop (i * 1)).take ((b.length - i) * 1))) (fun h => dSl.cut h hlen (Nat.le_refl _)) dSl.cut_foot
     have hcut : ((u8s b).drop (i * 1)).take ((b.length - i) * 1) = u8s (b.drop i) := by
       rw [Nat.mul_one, Nat.mul_one, List.take_of_length_le (by simp [u8s])]; simp [u8s]
     rw [hcut] at hs
     refine EL_op rfl (O_append hs (i := 0) rfl rfl ei_36 rfl rfl (Src.data (hs.rd (i := 1) rfl)) (u8s_one _) (by omega) (by omega) (fun v43 w hs => ?_))
     have hs := hs.asSl (i := 0) rfl (b.drop i).length (u8s (b.drop i)) (by simp) (by simp)
     refine EL_run rfl (R_assign rfl) ?_
     refine EL_run rfl (R_assign rfl) ?_
     refine EL_run rfl (R_assign rfl) ?_
     refine EL_nil ?_
     refine EC_ret ?_
     exact ⟨[_, _, _], ⟨rfl, rfl, rfl, trivial⟩, _, _, ⟨_, rfl, rfl, rfl⟩, (hs.fin [true] []).as rfl rfl⟩

set_option maxRecDepth 100000 in
theorem rsFail_spec (k : Int) {w0 : World} : Spec Tryz.prog 314 #[.int .i64 k] w0 [] [] (fun v es1 ds1 => v = .tuple #[.int .u64 (0 : Int), .int .i64 0, .int .i64 k] ∧ es1 = [] ∧ ds1 = []) := by
 refine Spec.intro (fun F D hs => ?_)
 refine Calls_of_EC (args := [.int .i64 k]) Tryz.func314 rfl rfl rfl ?_
 refine EC_rseq ?_
 refine EL_run rfl (R_assign rfl) ?_
 refine EL_run rfl (R_assign rfl) ?_
 refine EL_run rfl (R_assign rfl) ?_
 refine EL_nil ?_
 refine EC_rseq ?_
 refine EL_run rfl (R_move rfl) ?_
 refine EL_run rfl (R_assign rfl) ?_
 refine EL_run rfl (R_assign rfl) ?_
 refine EL_run rfl (R_assign rfl) ?_
 refine EL_nil ?_
 refine EC_ret ?_
 exact ⟨[_, _, _], ⟨rfl, rfl, rfl, trivial⟩, _, _, ⟨rfl, rfl, rfl⟩, (hs.fin [] []).as rfl rfl⟩

set_option maxRecDepth 100000 in
theorem readShort_spec (ao : Option Addr) (c : Nat) (b : BL) {w0 : World} (hb : b.length ≤ 1000000000) : Spec Tryz.prog 278 #[.slice ao b.length c] w0 [] [dB ao c b] (fun v es1 ds1 => ∃ (n u e : Nat), readShort b = (n, u, e) ∧ v = .tuple #[.int .u64 (n : Int), .int .i64 (u : Int), .int .i64 (e : Int)] ∧ es1 = [] ∧ ds1 = []) := by
 refine Spec.intro (fun F D hs => ?_)
 refine Calls_of_EC (args := [.slice ao b.length c]) Tryz.func278 rfl rfl rfl ?_
 refine EC_rseq ?_
 refine EL_run rfl (R_assign rfl) ?_
 refine EL_run rfl (R_assign rfl) ?_
 refine EL_run rfl (R_assign rfl) ?_
 refine EL_nil ?_
 refine EC_rseq ?_
 refine EL_run rfl (R_assign rfl) ?_
 refine EL_nil ?_
 refine EC_seq ?_
 refine EC_rseq ?_
 refine EL_run rfl (R_move rfl) ?_
 refine EL_run rfl (R_move rfl) ?_
 refine EL_run rfl (R_lenS Tryz.underlying36 rfl) ?_
 refine EL_run rfl (R_min rfl rfl) ?_
 refine EL_run rfl (R_sliceHi es_36 rfl rfl (by omega) (by have := (hs.rd (i := 0) rfl).1.1; omega)) ?_
 refine EL_run rfl (R_lenS Tryz.underlying36 rfl) ?_
 refine EL_run rfl (R_move rfl) ?_
 refine EL_nil ?_
 refine EC_block ?_
 refine EC_loop (fun m ρ w => ∃ (i n : Nat), m = min b.length 10 - i ∧ i ≤ min b.length 10 ∧ Slots ρ [(0, .slice ao b.length c), (2, .int .u64 (n : Int)), (5, .func (.func 314) #[] #[]), (13, .slice ao (min b.length 10) c), (14, .int .i64 ((min b.length 10 : Nat) : Int)), (15, .int .i64 (i : Int))] ∧ St w0 F D [] [dB ao c b] w ∧ n < 2 ^ (7 * i) ∧ readShort b = rsLoop (decide (10 ≤ b.length)) ((b.take 10).drop i) i n) (min b.length 10) (⟨0, 0, by omega, by omega, ⟨rfl, rfl, rfl, by show some _ = some _; congr 2; omega, by show some _ = some _; congr 2; omega, rfl, trivial⟩, hs, by omega, rfl⟩) ?_
 rintro m ρ w ⟨i, n, rfl, hi, hsl, hs, hn, hrs⟩
 refine EC_slots _ hsl ?_
 refine EC_rseq ?_
 refine EL_run rfl (R_lss rfl rfl) ?_
 refine EL_nil ?_
 refine EC_seq ?_
 refine EC_cond rfl (fun hc16 => ?_) (fun hc16 => ?_)
 ·have hc16p := cvt hc16; try dsimp only at hc16p
  have hib : i < b.length := by omega
  obtain ⟨bb, oo, rfl⟩ := dSl.some (hs.rd (i := 0) rfl) (u8s_nil hib)
  have hcl : b[i].toNat < 256 := b[i].toNat_lt
  have hstep : ∀ n, rsLoop (decide (10 ≤ b.length)) ((b.take 10).drop i) i n = if bitLen (b[i].toNat % 128) + 7 * i > 64 then (0, 0, 11)
      else if b[i].toNat < 128 then (if groups (n + b[i].toNat % 128 * 2 ^ (7 * i)) = i + 1 then (n + b[i].toNat % 128 * 2 ^ (7 * i), i + 1, 0) else (0, 0, 11))
      else rsLoop (decide (10 ≤ b.length)) ((b.take 10).drop (i + 1)) (i + 1) (n + b[i].toNat % 128 * 2 ^ (7 * i)) := fun n => by
    rw [List.drop_eq_getElem_cons (by rw [List.length_take]; omega), rsLoop]
    simp
  refine EC_skip ?_
  refine Then_n ?_
  refine EC_seq ?_
  refine EC_block ?_
  refine EC_rseq ?_
  refine EL_run rfl (R_move rfl) ?_
  refine EL_run rfl (R_idx es_36 rfl rfl rfl (by omega) (by omega)) ?_
  refine EL_run rfl (R_ld (i := i) (hs.rd (i := 0) rfl) Tryz.isAgg5 rfl (by simp) (u8s_get (List.getElem?_eq_getElem hib))) ?_
  refine EL_run rfl (R_assign rfl) ?_
  refine EL_run rfl (R_assign rfl) ?_
  refine EL_nil ?_
  refine EC_rseq ?_
  refine EL_run rfl (R_move rfl) ?_
  refine EL_run rfl (R_andNot128 rfl rfl hcl) ?_
  refine EL_run rfl (R_convN rfl Tryz.underlying5 Tryz.underlying328 rfl (by simp [IntKind.bits]; omega)) ?_
  refine EL_run rfl (R_assign rfl) ?_
  refine EL_nil ?_
  refine EC_seq ?_
  refine EC_rseq ?_
  refine EL_run rfl (R_move rfl) ?_
  refine EL_op rfl (O_call hs [] [] rfl rfl rfl Tryz.call300 (len64_spec _ (by omega)) (fun v es1 ds1 w hPhi hs => ?_))
  obtain ⟨rfl, rfl, rfl⟩ := hPhi
  have hbl := (bitLen_le (b[i].toNat % 128) 7).2 (by omega)
  refine EL_run rfl (R_move rfl) ?_
  refine EL_run rfl (R_mulI rfl rfl (by omega)) ?_
  refine EL_run rfl (R_addI rfl rfl (by omega)) ?_
  refine EL_run rfl (R_gtr rfl rfl) ?_
  refine EL_nil ?_
  refine EC_cond rfl (fun hc28 => ?_) (fun hc28 => ?_)
  ·have hc28p := cvt hc28; try dsimp only at hc28p
   refine EC_rseq ?_
   refine EL_run rfl (R_move rfl) ?_
   refine EL_op rfl (O_call hs [] [] rfl rfl rfl Tryz.call314 (rsFail_spec 11) (fun v es1 ds1 w hPhi hs => ?_))
   obtain ⟨rfl, rfl, rfl⟩ := hPhi
   refine EL_run rfl (R_extract rfl rfl) ?_
   refine EL_run rfl (R_extract rfl rfl) ?_
   refine EL_run rfl (R_extract rfl rfl) ?_
   refine EL_run rfl (R_assign rfl) ?_
   refine EL_run rfl (R_assign rfl) ?_
   refine EL_run rfl (R_assign rfl) ?_
   refine EL_nil ?_
   refine EC_ret ?_
   refine Then_r ?_
   refine InBlock_r ?_
   refine Then_r ?_
   refine Then_r ?_
   refine InBlock_r ?_
   refine Then_r ?_
   exact ⟨[_, _, _], ⟨rfl, rfl, rfl, trivial⟩, _, _, ⟨_, _, _, by rw [hrs, hstep, if_pos (by omega)], rfl, rfl, rfl⟩, (hs.fin [] []).as rfl rfl⟩
  ·have hc28p := cvt hc28; try dsimp only at hc28p
   have hps := part_sum_lt hn (p := b[i].toNat % 128) (by omega)
   have hpl := part_lt (p := b[i].toNat % 128) (i := i) (by omega)
   have hnl : n < 2 ^ 64 := by omega
   have hor : n ||| b[i].toNat % 128 * 2 ^ (7 * i) % 2 ^ IntKind.u64.bits = n + b[i].toNat % 128 * 2 ^ (7 * i) := by
     rw [show (2 : Nat) ^ IntKind.u64.bits = 2 ^ 64 from rfl, Nat.mod_eq_of_lt hpl]; exact or_disj _ _ _ hn
   refine EC_skip ?_
   refine Then_n ?_
   refine EC_rseq ?_
   refine EL_run rfl (R_move rfl) ?_
   refine EL_run rfl (R_move rfl) ?_
   refine EL_run rfl (R_move rfl) ?_
   refine EL_run rfl (R_mulI rfl rfl (by omega)) ?_
   refine EL_run rfl (R_shlU (7 * i) rfl rfl rfl (by simp)) ?_
   refine EL_run rfl (R_orU rfl rfl rfl (by simp [IntKind.bits]; omega) (by rw [show (2 : Nat) ^ IntKind.u64.bits = 2 ^ 64 from rfl]; omega)) ?_
   rw [hor]
   refine EL_run rfl (R_assign rfl) ?_
   refine EL_nil ?_
   refine EC_rseq ?_
   refine EL_run rfl (R_move rfl) ?_
   refine EL_run rfl (R_lss rfl rfl) ?_
   refine EL_nil ?_
   refine EC_cond rfl (fun hc41 => ?_) (fun hc41 => ?_)
   ·have hc41p := cvt hc41; try dsimp only at hc41p
    refine EC_seq ?_
    refine EC_rseq ?_
    refine EL_run rfl (R_move rfl) ?_
    refine EL_op rfl (O_call hs [] [] rfl rfl rfl Tryz.call301 (groups_spec _ (by omega)) (fun v es1 ds1 w hPhi hs => ?_))
    obtain ⟨rfl, rfl, rfl⟩ := hPhi
    have hg := groups_le _ hps
    refine EL_run rfl (R_move rfl) ?_
    refine EL_run rfl (R_addI rfl rfl (by omega)) ?_
    refine EL_run rfl (R_neq rfl rfl) ?_
    refine EL_nil ?_
    refine EC_cond rfl (fun hc46 => ?_) (fun hc46 => ?_)
    ·have hc46p := cvt hc46; try dsimp only at hc46p
     refine EC_rseq ?_
     refine EL_run rfl (R_move rfl) ?_
     refine EL_op rfl (O_call hs [] [] rfl rfl rfl Tryz.call314 (rsFail_spec 11) (fun v es1 ds1 w hPhi hs => ?_))
     obtain ⟨rfl, rfl, rfl⟩ := hPhi
     refine EL_run rfl (R_extract rfl rfl) ?_
     refine EL_run rfl (R_extract rfl rfl) ?_
     refine EL_run rfl (R_extract rfl rfl) ?_
     refine EL_run rfl (R_assign rfl) ?_
     refine EL_run rfl (R_assign rfl) ?_
     refine EL_run rfl (R_assign rfl) ?_
     refine EL_nil ?_
     refine EC_ret ?_
     refine Then_r ?_
     refine InBlock_r ?_
     refine Then_r ?_
     refine Then_r ?_
     refine InBlock_r ?_
     refine Then_r ?_
     exact ⟨[_, _, _], ⟨rfl, rfl, rfl, trivial⟩, _, _, ⟨_, _, _, by rw [hrs, hstep, if_neg (by omega), if_pos (by omega), if_neg (by omega)], rfl, rfl, rfl⟩, (hs.fin [] []).as rfl rfl⟩
    ·have hc46p := cvt hc46; try dsimp only at hc46p
     refine EC_skip ?_
     refine Then_n ?_
     refine EC_rseq ?_
     refine EL_run rfl (R_move rfl) ?_
     refine EL_run rfl (R_move rfl) ?_
     refine EL_run rfl (R_addI rfl rfl (by omega)) ?_
     refine EL_run rfl (R_assign rfl) ?_
     refine EL_run rfl (R_assign rfl) ?_
     refine EL_run rfl (R_assign rfl) ?_
     refine EL_nil ?_
     refine EC_ret ?_
     refine InBlock_r ?_
     refine Then_r ?_
     refine Then_r ?_
     refine InBlock_r ?_
     refine Then_r ?_
     exact ⟨[_, _, _], ⟨rfl, rfl, rfl, trivial⟩, _, _, ⟨_, _, _, by rw [hrs, hstep, if_neg (by omega), if_pos (by omega), if_pos (by omega)], rfl, rfl, rfl⟩, (hs.fin [] []).as rfl rfl⟩
   ·have hc41p := cvt hc41; try dsimp only at hc41p
    refine EC_skip ?_
    refine InBlock_n ?_
    refine Then_n ?_
    refine EC_region ?_
    refine EL_run rfl (R_addI rfl rfl (by omega)) ?_
    refine EL_run rfl (R_move rfl) ?_
    refine EL_nil ?_
    refine Then_n ?_
    exact ⟨min b.length 10 - (i + 1), by omega, i + 1, n + b[i].toNat % 128 * 2 ^ (7 * i), rfl, by omega, ⟨rfl, rfl, rfl, rfl, rfl, rfl, trivial⟩, hs, part_sum_lt7 hn, by rw [hrs, hstep, if_neg (by omega), if_neg (by omega)]⟩
 ·have hc16p := cvt hc16; try dsimp only at hc16p
  have hend : (b.take 10).drop i = [] := List.drop_eq_nil_of_le (by rw [List.length_take]; omega)
  rw [hend] at hrs
  refine EC_exit ?_
  refine Then_e ?_
  refine Then_e ?_
  refine InBlock_hit rfl ?_
  refine Then_n ?_
  refine EC_seq ?_
  refine EC_rseq ?_
  refine EL_run rfl (R_move rfl) ?_
  refine EL_run rfl (R_lenS Tryz.underlying36 rfl) ?_
  refine EL_run rfl (R_geq rfl rfl) ?_
  refine EL_nil ?_
  refine EC_cond rfl (fun hc58 => ?_) (fun hc58 => ?_)
  ·have hc58p := cvt hc58; try dsimp only at hc58p
   refine EC_rseq ?_
   refine EL_run rfl (R_move rfl) ?_
   refine EL_op rfl (O_call hs [] [] rfl rfl rfl Tryz.call314 (rsFail_spec 11) (fun v es1 ds1 w hPhi hs => ?_))
   obtain ⟨rfl, rfl, rfl⟩ := hPhi
   refine EL_run rfl (R_extract rfl rfl) ?_
   refine EL_run rfl (R_extract rfl rfl) ?_
   refine EL_run rfl (R_extract rfl rfl) ?_
   refine EL_run rfl (R_assign rfl) ?_
   refine EL_run rfl (R_assign rfl) ?_
   refine EL_run rfl (R_assign rfl) ?_
   refine EL_nil ?_
   refine EC_ret ?_
   refine Then_r ?_
   exact ⟨[_, _, _], ⟨rfl, rfl, rfl, trivial⟩, _, _, ⟨_, _, _, by rw [hrs, rsLoop, if_pos (by simp; omega)], rfl, rfl, rfl⟩, (hs.fin [] []).as rfl rfl⟩
  ·have hc58p := cvt hc58; try dsimp only at hc58p
   refine EC_skip ?_
   refine Then_n ?_
   refine EC_rseq ?_
   refine EL_run rfl (R_move rfl) ?_
   refine EL_op rfl (O_call hs [] [] rfl rfl rfl Tryz.call314 (rsFail_spec 10) (fun v es1 ds1 w hPhi hs => ?_))
   obtain ⟨rfl, rfl, rfl⟩ := hPhi
   refine EL_run rfl (R_extract rfl rfl) ?_
   refine EL_run rfl (R_extract rfl rfl) ?_
   refine EL_run rfl (R_extract rfl rfl) ?_
   refine EL_run rfl (R_assign rfl) ?_
   refine EL_run rfl (R_assign rfl) ?_
   refine EL_run rfl (R_assign rfl) ?_
   refine EL_nil ?_
   refine EC_ret ?_
   exact ⟨[_, _, _], ⟨rfl, rfl, rfl, trivial⟩, _, _, ⟨_, _, _, by rw [hrs, rsLoop, if_neg (by simp; omega)], rfl, rfl, rfl⟩, (hs.fin [] []).as rfl rfl⟩

set_option maxRecDepth 100000 in
theorem readText_spec (ao : Option Addr) (c : Nat) (b : BL) (most : Nat) {w0 : World} (hb : b.length ≤ 1000000000) (hm : most ≤ 1000000000) : Spec Tryz.prog 279 #[.slice ao b.length c, .int .i64 (most : Int)] w0 [] [dB ao c b] (fun v es1 ds1 => v = .tuple #[.string (bstr (readText b most).1), .int .i64 ((readText b most).2.1 : Int), .int .i64 ((readText b most).2.2 : Int)] ∧ es1 = [] ∧ ds1 = []) := by
 refine Spec.intro (fun F D hs => ?_)
 refine Calls_of_EC (args := [.slice ao b.length c, .int .i64 (most : Int)]) Tryz.func279 rfl rfl rfl ?_
 refine EC_rseq ?_
 refine EL_run rfl (R_assign rfl) ?_
 refine EL_run rfl (R_assign rfl) ?_
 refine EL_run rfl (R_assign rfl) ?_
 refine EL_nil ?_
 refine EC_rseq ?_
 refine EL_run rfl (R_move rfl) ?_
 refine EL_op rfl (O_call hs [] [0] rfl rfl rfl Tryz.call278 (readShort_spec ao c b hb) (fun v es1 ds1 w hPhi hs => ?_))
 obtain ⟨n, u, e, hr, rfl, rfl, rfl⟩ := hPhi
 have hlt := readShort_lt b
 rw [hr] at hlt
 simp only at hlt
 refine EL_run rfl (R_move rfl) ?_
 refine EL_run rfl (R_extract rfl rfl) ?_
 refine EL_run rfl (R_extract rfl rfl) ?_
 refine EL_run rfl (R_extract rfl rfl) ?_
 refine EL_run rfl (R_assign rfl) ?_
 refine EL_run rfl (R_assign rfl) ?_
 refine EL_run rfl (R_assign rfl) ?_
 refine EL_nil ?_
 refine EC_seq ?_
 refine EC_block ?_
 refine EC_rseq ?_
 refine EL_run rfl (R_move rfl) ?_
 refine EL_run rfl (R_neq rfl rfl) ?_
 refine EL_run rfl (R_assign rfl) ?_
 refine EL_nil ?_
 refine EC_cond rfl (fun hc15 => ?_) (fun hc15 => ?_)
 ·have hc15p := cvt hc15; try dsimp only at hc15p
  refine EC_rseq ?_
  refine EL_run rfl (R_move rfl) ?_
  refine EL_run rfl (R_assign rfl) ?_
  refine EL_run rfl (R_assign rfl) ?_
  refine EL_run rfl (R_assign rfl) ?_
  refine EL_nil ?_
  refine EC_ret ?_
  refine InBlock_r ?_
  refine Then_r ?_
  exact ⟨[_, _, _], ⟨rfl, rfl, rfl, trivial⟩, _, _, ⟨by simp only [tupleOf, readText, hr]; rw [if_pos (by omega)]; rfl, rfl, rfl⟩, (hs.fin [] []).as rfl rfl⟩
 ·have hc15p := cvt hc15; try dsimp only at hc15p
  obtain rfl : e = 0 := by omega
  have hused := readShort_used (b := b) (by rw [hr])
  rw [hr] at hused
  simp only at hused
  refine EC_rseq ?_
  refine EL_run rfl (R_move rfl) ?_
  refine EL_run rfl (R_lss rfl rfl) ?_
  refine EL_run rfl (R_move rfl) ?_
  refine EL_split 22 rfl (fun hg2 => ?_) (fun hg2 => ?_)
  ·exact absurd (of_decide_eq_true hg2) (by omega)
  ·have hg2p := cvt hg2; try dsimp only at hg2p
   refine EL_want rfl rfl hg2 ?_
   refine EL_run rfl (R_move rfl) ?_
   refine EL_want rfl rfl hg2 ?_
   refine EL_run rfl (R_move rfl) ?_
   refine EL_want rfl rfl hg2 ?_
   refine EL_run rfl (R_convN rfl Tryz.underlying3 Tryz.underlying328 rfl (by simp [IntKind.bits]; omega)) ?_
   refine EL_want rfl rfl hg2 ?_
   refine EL_run rfl (R_gtr rfl rfl) ?_
   refine EL_run rfl (R_pickF rfl hg2 rfl) ?_
   refine EL_run rfl (R_assign rfl) ?_
   refine EL_nil ?_
   refine EC_cond rfl (fun hc19 => ?_) (fun hc19 => ?_)
   ·have hc19p := cvt hc19; try dsimp only at hc19p
    refine EC_rseq ?_
    refine EL_run rfl (R_assign rfl) ?_
    refine EL_run rfl (R_assign rfl) ?_
    refine EL_run rfl (R_assign rfl) ?_
    refine EL_nil ?_
    refine EC_ret ?_
    refine InBlock_r ?_
    refine Then_r ?_
    exact ⟨[_, _, _], ⟨rfl, rfl, rfl, trivial⟩, _, _, ⟨by simp only [tupleOf, readText, hr]; rw [if_neg (by omega), if_pos (by omega)]; rfl, rfl, rfl⟩, (hs.fin [] []).as rfl rfl⟩
   ·have hc19p := cvt hc19; try dsimp only at hc19p
    refine EC_rseq ?_
    refine EL_run rfl (R_move rfl) ?_
    refine EL_run rfl (R_move rfl) ?_
    refine EL_run rfl (R_lenS Tryz.underlying36 rfl) ?_
    refine EL_run rfl (R_move rfl) ?_
    refine EL_run rfl (R_subI rfl rfl (by omega)) ?_
    refine EL_run rfl (R_convN (a := b.length - u) rfl Tryz.underlying3 Tryz.underlying328 (by show some _ = some _; congr 2; omega) (by simp [IntKind.bits]; omega)) ?_
    refine EL_run rfl (R_gtr rfl rfl) ?_
    refine EL_run rfl (R_assign rfl) ?_
    refine EL_nil ?_
    refine EC_cond rfl (fun hc28 => ?_) (fun hc28 => ?_)
    ·have hc28p := cvt hc28; try dsimp only at hc28p
     refine EC_rseq ?_
     refine EL_run rfl (R_assign rfl) ?_
     refine EL_run rfl (R_assign rfl) ?_
     refine EL_run rfl (R_assign rfl) ?_
     refine EL_nil ?_
     refine EC_ret ?_
     refine InBlock_r ?_
     refine Then_r ?_
     exact ⟨[_, _, _], ⟨rfl, rfl, rfl, trivial⟩, _, _, ⟨by simp only [tupleOf, readText, hr]; rw [if_neg (by omega), if_neg (by omega), if_pos (by omega)]; rfl, rfl, rfl⟩, (hs.fin [] []).as rfl rfl⟩
    ·have hc28p := cvt hc28; try dsimp only at hc28p
     refine EC_skip ?_
     refine InBlock_n ?_
     refine Then_n ?_
     refine EC_rseq ?_
     refine EL_run rfl (R_move rfl) ?_
     refine EL_run rfl (R_move rfl) ?_
     refine EL_run rfl (R_convS Tryz.underlying328 Tryz.underlying3 rfl (by omega) (by omega)) ?_
     refine EL_run rfl (R_addI rfl rfl (by omega)) ?_
     refine EL_run rfl (R_assign rfl) ?_
     refine EL_nil ?_
     refine EC_rseq ?_
     refine EL_run rfl (R_move rfl) ?_
     refine EL_run rfl (R_move rfl) ?_
     refine EL_run rfl (R_move rfl) ?_
     refine EL_run rfl (R_sliceLH es_36 rfl rfl rfl (by omega) (by omega) (by have := (hs.rd (i := 0) rfl).1.1; omega)) ?_
     have e4 : ((u : Int) + (n : Int)).toNat - (u : Int).toNat = ((b.drop u).take n).length := by rw [List.length_take, List.length_drop]; omega
     rw [e4]
     have hs := hs.derive (d := dB ao c b) (by simp) (dB (cutO ao c u 1) (c - u) ((b.drop u).take n)) (fun h => by
       have := dSl.cut (l := u) (h := u + n) h (by omega) (by omega)
       have e1 : u + n - u = n := by omega
       have e2 : ((b.drop u).take n).length = n := by rw [List.length_take, List.length_drop]; omega
       rw [e1] at this
       show (dSl _ _ _ _ _).P _
       rw [e2]
       have e3 : ((u8s b).drop (u * 1)).take (n * 1) = u8s ((b.drop u).take n) := by simp [u8s, List.map_drop, List.map_take]
       rwa [e3] at this) (fun k hk => dSl.cut_foot (l := u) (h := u + n) k (by
       have e1 : u + n - u = n := by omega
       have e3 : ((u8s b).drop (u * 1)).take (n * 1) = u8s ((b.drop u).take n) := by simp [u8s, List.map_drop, List.map_take]
       rw [e1, e3]
       exact hk))
     refine EL_run rfl (R_convStr (l := (b.drop u).take n) Tryz.underlying36 Tryz.underlying5 Tryz.underlying9 rfl (hs.rd (i := 1) rfl)) ?_
     refine EL_run rfl (R_move rfl) ?_
     refine EL_run rfl (R_assign rfl) ?_
     refine EL_run rfl (R_assign rfl) ?_
     refine EL_run rfl (R_assign rfl) ?_
     refine EL_nil ?_
     refine EC_ret ?_
     exact ⟨[_, _, _], ⟨rfl, rfl, rfl, trivial⟩, _, _, ⟨by simp only [tupleOf, readText, hr]; rw [if_neg (by omega), if_neg (by omega), if_neg (by omega)]; rfl, rfl, rfl⟩, (hs.fin [] []).as rfl rfl⟩
end Go.Proofs.YtpcojkbljgpecaaGreat
namespace Go.Proofs.YtpcojkbljgpecaaGreat
open Go

/-! ### crc -/
def crcTab : List UInt32 := [0, 274646895, 549293790, 820201905, 1098587580, 1361435347, 1640403810, 1905808397, 2197175160, 2460548119, 2722870694, 2987750089, 3280807620, 3553878443, 3811616794, 4084100981]
def crcHalf (s : UInt32) : UInt32 := shr32 s 4 ^^^ crcTab.getD (s &&& 15).toNat 0
def crcByte (s : UInt32) (c : UInt8) : UInt32 := crcHalf (crcHalf (s ^^^ c.toUInt32))
def crcGo (sum : UInt32) (b : BL) : UInt32 := ~~~ (b.foldl crcByte (~~~ sum))
def crcSum (b : BL) : UInt32 := crcGo 0 b
theorem low15 (s : UInt32) : (s &&& 15).toNat < 16 := by
  rw [UInt32.toNat_and]; exact Nat.lt_of_le_of_lt Nat.and_le_right (by decide)

/-! ### sha -/
def rotl (x : UInt32) (k : Nat) : UInt32 := shl32 x k ||| shr32 x (32 - k)
def down (x : UInt32) (n : Nat) : UInt32 := rotl x (32 - n)
def spread1 (b : BL) : Nat → List UInt32
  | 0 => List.replicate 64 0
  | i + 1 => (spread1 b i).set (i / 4) (shl32 ((spread1 b i).getD (i / 4) 0) 8 ||| (b.getD i 0).toUInt32)
theorem spread1_len (b : BL) : ∀ i, (spread1 b i).length = 64
  | 0 => by simp [spread1]
  | i + 1 => by simp [spread1, spread1_len b i]
def spread2 (b : BL) : Nat → List UInt32
  | 0 => spread1 b 64
  | i + 1 =>
    let w := spread2 b i
    let t := i + 16
    let x := w.getD (t - 2) 0
    let y := w.getD (t - 15) 0
    w.set t ((((down x 17 ^^^ down x 19) ^^^ shr32 x 10) + w.getD (t - 7) 0) + ((down y 7 ^^^ down y 18) ^^^ shr32 y 3) + w.getD (t - 16) 0)
theorem spread2_len (b : BL) : ∀ i, (spread2 b i).length = 64
  | 0 => by simp [spread2, spread1_len]
  | i + 1 => by simp [spread2, spread2_len b i]
def spread (b : BL) : List UInt32 := spread2 b 48
def shaKeys : List UInt32 := [1116352408, 1899447441, 3049323471, 3921009573, 961987163, 1508970993, 2453635748, 2870763221, 3624381080, 310598401, 607225278, 1426881987, 1925078388, 2162078206, 2614888103, 3248222580, 3835390401, 4022224774, 264347078, 604807628, 770255983, 1249150122, 1555081692, 1996064986, 2554220882, 2821834349, 2952996808, 3210313671, 3336571891, 3584528711, 113926993, 338241895, 666307205, 773529912, 1294757372, 1396182291, 1695183700, 1986661051, 2177026350, 2456956037, 2730485921, 2820302411, 3259730800, 3345764771, 3516065817, 3600352804, 4094571909, 275423344, 430227734, 506948616, 659060556, 883997877, 958139571, 1322822218, 1537002063, 1747873779, 1955562222, 2024104815, 2227730452, 2361852424, 2428436474, 2756734187, 3204031479, 3329325298]
structure Eight where
  a : UInt32
  b : UInt32
  c : UInt32
  d : UInt32
  e : UInt32
  f : UInt32
  g : UInt32
  h : UInt32
def Eight.l (s : Eight) : List UInt32 := [s.a, s.b, s.c, s.d, s.e, s.f, s.g, s.h]
def shaFirst (w : List UInt32) (t : Nat) (s : Eight) : UInt32 :=
  s.h + ((down s.e 6 ^^^ down s.e 11) ^^^ down s.e 25) + ((s.e &&& s.f) ^^^ (~~~ s.e &&& s.g)) + shaKeys.getD t 0 + w.getD t 0
def shaSecond (s : Eight) : UInt32 :=
  ((down s.a 2 ^^^ down s.a 13) ^^^ down s.a 22) + (((s.a &&& s.b) ^^^ (s.a &&& s.c)) ^^^ (s.b &&& s.c))
def shaRound (w : List UInt32) (t : Nat) (s : Eight) : Eight :=
  ⟨shaFirst w t s + shaSecond s, s.a, s.b, s.c, s.d + shaFirst w t s, s.e, s.f, s.g⟩
def shaRounds (w : List UInt32) (s : Eight) : Nat → Eight
  | 0 => s
  | t + 1 => shaRound w t (shaRounds w s t)
def eightOf (l : List UInt32) : Eight := ⟨l.getD 0 0, l.getD 1 0, l.getD 2 0, l.getD 3 0, l.getD 4 0, l.getD 5 0, l.getD 6 0, l.getD 7 0⟩
/-- The first i words with others added. -/
def addTo (h x : List UInt32) : Nat → List UInt32
  | 0 => h
  | i + 1 => (addTo h x i).set i ((addTo h x i).getD i 0 + x.getD i 0)
theorem addTo_len (h x : List UInt32) : ∀ i, (addTo h x i).length = h.length
  | 0 => rfl
  | i + 1 => by simp [addTo, addTo_len h x i]
def shaH (h : List UInt32) (b : BL) : List UInt32 := addTo h (shaRounds (spread b) (eightOf h) 64).l 8
theorem shaH_len (h : List UInt32) (b : BL) : (shaH h b).length = h.length := addTo_len _ _ _
structure ShaSt where
  h : List UInt32
  n : Nat
def ShaSt.cells (s : ShaSt) : Array Value := (u32s s.h ++ [Value.int .u64 (s.n : Int)]).toArray
theorem ShaSt.size (s : ShaSt) (h : s.h.length = 8) : s.cells.size = 9 := by simp [ShaSt.cells, u32s, h]
theorem ShaSt.cell {s : ShaSt} (h : s.h.length = 8) (k : Nat) {o : Nat} (ho : o = k) (hk : k < 8) : s.cells[o]? = some (V32 (s.h.getD k 0)) := by
  subst ho
  simp only [ShaSt.cells, List.getElem?_toArray]
  rw [List.getElem?_append_left (by simp [u32s]; omega)]
  simp [u32s, h, hk]
theorem ShaSt.cell_n {s : ShaSt} (h : s.h.length = 8) {o : Nat} (ho : o = 8) : s.cells[o]? = some (.int .u64 (s.n : Int)) := by
  subst ho
  simp only [ShaSt.cells, List.getElem?_toArray]
  rw [List.getElem?_append_right (by simp [u32s, h])]
  simp [u32s, h]
theorem ShaSt.set {s : ShaSt} (h : s.h.length = 8) (k : Nat) {o : Nat} (ho : o = k) (hk : k < 8) (c : UInt32) : s.cells.setIfInBounds o (V32 c) = (ShaSt.mk (s.h.set k c) s.n).cells := by
  subst ho
  apply Array.toList_inj.1
  simp only [ShaSt.cells, Array.toList_setIfInBounds]
  rw [List.set_append, if_pos (by simp [u32s]; omega)]
  simp [u32s, List.map_set]
theorem ShaSt.set_n {s : ShaSt} (h : s.h.length = 8) {o : Nat} (ho : o = 8) (q : Nat) : s.cells.setIfInBounds o (.int .u64 (q : Int)) = (ShaSt.mk s.h q).cells := by
  subst ho
  apply Array.toList_inj.1
  simp only [ShaSt.cells, Array.toList_setIfInBounds]
  rw [List.set_append, if_neg (by simp [u32s, h])]
  simp [u32s, h]
theorem ShaSt.oneA (s : ShaSt) : (s.cells.all (·.oneCell')) = true := by
  simp [ShaSt.cells, u32s, V32, Value.oneCell']
def shaBegin : ShaSt := ⟨[1779033703, 3144134277, 1013904242, 2773480762, 1359893119, 2600822924, 528734635, 1541459225], 0⟩
def shaBlock (s : ShaSt) (b : BL) : ShaSt := ⟨shaH s.h b, (s.n + 64) % 2 ^ 64⟩
def shaLens (n : Nat) (b : BL) : Nat → BL
  | 0 => b
  | i + 1 => (shaLens n b i).set (63 - i) (UInt8.ofNat (n / 2 ^ (8 * i)))
theorem shaLens_len (n : Nat) (b : BL) : ∀ i, (shaLens n b i).length = b.length
  | 0 => rfl
  | i + 1 => by simp [shaLens, shaLens_len n b i]
def shaOut (h : List UInt32) : Nat → BL
  | 0 => List.replicate 32 0
  | i + 1 => (shaOut h i).set i (UInt8.ofNat (shr32 (h.getD (i / 4) 0) (8 * (3 - i % 4))).toNat)
theorem shaOut_len (h : List UInt32) : ∀ i, (shaOut h i).length = 32
  | 0 => by simp [shaOut]
  | i + 1 => by simp [shaOut, shaOut_len h i]
def shaB0 (r : BL) : BL := (r ++ List.replicate (64 - r.length) 0).set r.length 128
theorem shaB0_len (r : BL) (h : r.length ≤ 63) : (shaB0 r).length = 64 := by simp [shaB0]; omega
def shaPad (s : ShaSt) (r : BL) : ShaSt × BL := if 56 ≤ r.length then (shaBlock s (shaB0 r), List.replicate 64 0) else (s, shaB0 r)
def shaEnd (s : ShaSt) (rest0 : BL) : BL :=
  shaOut (shaBlock (shaPad s (rest0.take 63)).1 (shaLens (8 * ((s.n + (rest0.take 63).length) % 2 ^ 64) % 2 ^ 64) (shaPad s (rest0.take 63)).2 8)).h 32
theorem copy0 (r : BL) (h : r.length ≤ 63) : (u8s (List.replicate 64 0)).take 0 ++ (u8s r).take 64 ++ (u8s (List.replicate 64 0)).drop (0 + min r.length 64) = u8s (r ++ List.replicate (64 - r.length) 0) := by
  rw [List.take_zero, List.nil_append, List.take_of_length_le (by simp [u8s]; omega), Nat.zero_add, Nat.min_eq_left (by omega)]
  unfold u8s
  rw [List.map_append, ← List.map_drop, List.drop_replicate]
theorem shaEnd_len (s : ShaSt) (b : BL) : (shaEnd s b).length = 32 := shaOut_len _ _
def shaGo (s : ShaSt) (b : BL) : BL :=
  if h : 64 ≤ b.length then shaGo (shaBlock s (b.take 64)) (b.drop 64) else shaEnd s b
termination_by b.length
decreasing_by simp; omega
def shaSum (b : BL) : BL := shaGo shaBegin b
theorem shaGo_len (s : ShaSt) (b : BL) : (shaGo s b).length = 32 := by
  induction s, b using shaGo.induct with
  | case1 s b h ih => rw [shaGo, dif_pos h]; exact ih
  | case2 s b h => rw [shaGo, dif_neg h]; exact shaEnd_len _ _
theorem shaSum_len (b : BL) : (shaSum b).length = 32 := shaGo_len _ _
end Go.Proofs.YtpcojkbljgpecaaGreat
namespace Go.Proofs.YtpcojkbljgpecaaGreat
open Go
set_option maxRecDepth 100000 in
theorem crcHalf_spec (b0 b1 : Nat) (s : UInt32) {w0 : World} : Spec Tryz.prog 345 #[.pointer (some ⟨b0, 0, none⟩), .pointer (some ⟨b1, 0, none⟩)] w0 [blk b0 #[V32 s] 29, blk b1 (u32s crcTab).toArray 413] [] (fun v es1 ds1 => v = .tuple #[] ∧ es1 = [blk b0 #[V32 (crcHalf s)] 29, blk b1 (u32s crcTab).toArray 413] ∧ ds1 = []) := by
 refine Spec.intro (fun F D hs => ?_)
 have h15 := low15 s
 refine Calls_of_EC (args := [.pointer (some ⟨b0, 0, none⟩), .pointer (some ⟨b1, 0, none⟩)]) Tryz.func345 rfl rfl rfl ?_
 refine EC_drawS hs [7] [0, 2, 5] [0, 1] [] (.take 0 (.take 1 (.take 2 (.take 3 (.take 4 (.take 5 (.take 6 (.fork 7 .done (.done))))))))) mix_ok (by kernel_rfl) (fun w hs _ => ?_)
 refine EP_read rfl rfl rfl (RdS.of hs rfl rfl) (fun _ hR => R_lb (hR.e 0 rfl rfl) Tryz.isAgg29 rfl rfl) ?_
 refine EP_take rfl rfl rfl (fun _ => R_shr32 4 rfl rfl rfl) ?_
 refine EP_read rfl rfl rfl (RdS.of hs rfl rfl) (fun _ hR => R_lb (hR.e 0 rfl rfl) Tryz.isAgg29 rfl rfl) ?_
 refine EP_take rfl rfl rfl (fun _ => R_and32 (b := 15) rfl rfl) ?_
 refine EP_take rfl rfl rfl (fun _ => R_idxA as_413 rfl rfl (by omega) (by omega)) ?_
 refine EP_read rfl rfl rfl (RdS.of hs rfl rfl) (fun _ hR => R_lb (hR.e 1 rfl rfl) Tryz.isAgg29 rfl (u32s_getD (i := (s &&& 15).toNat) (by simp) (low15 s))) ?_
 refine EP_take rfl rfl rfl (fun _ => R_xor32 rfl rfl) ?_
 refine EP_act rfl rfl (O_store hs (i := 0) rfl Tryz.sizeOf29 rfl rfl rfl rfl (fun w hs => ⟨(rq_no (by kernel_rfl)), ?_⟩))
 refine EP_done ?_
 exact ⟨[], trivial, _, _, ⟨rfl, rfl, rfl⟩, (hs.fin [true, true] []).as rfl rfl⟩

set_option maxRecDepth 100000 in
theorem crcHalves_spec {w0 : World} : Spec Tryz.prog 344 #[] w0 [] [] (fun v es1 ds1 => v = .agg (u32s crcTab).toArray ∧ es1 = [] ∧ ds1 = []) := by
 refine Spec.intro (fun F D hs => ?_)
 refine Calls_of_EC (args := []) Tryz.func344 rfl rfl rfl ?_
 refine EC_rseq ?_
 refine EL_op rfl (O_alloc hs rfl Tryz.zeroValue413 (fun b0 w hb0 hs => ?_))
 refine EL_nil ?_
 refine EC_rseq ?_
 refine EL_run rfl (R_buildA (cs := (u32s crcTab).toArray) [.const (.int .u32 0), .const (.int .u32 274646895), .const (.int .u32 549293790), .const (.int .u32 820201905), .const (.int .u32 1098587580), .const (.int .u32 1361435347), .const (.int .u32 1640403810), .const (.int .u32 1905808397), .const (.int .u32 2197175160), .const (.int .u32 2460548119), .const (.int .u32 2722870694), .const (.int .u32 2987750089), .const (.int .u32 3280807620), .const (.int .u32 3553878443), .const (.int .u32 3811616794), .const (.int .u32 4084100981)] Tryz.underlying413 Tryz.zeroValue413 Tryz.sizeOf29 rfl rfl (by simp [Value.cells, V32, V8]) rfl rfl) ?_
 refine EL_op rfl (O_storeW hs (i := 0) rfl sz_413 rfl rfl rfl rfl (u32s_one _) (fun w hs => ?_))
 refine EL_nil ?_
 refine EC_ret ?_
 exact ⟨[_], ⟨res_cell hs (i := 0) rfl Tryz.sizeOf413 Tryz.isAgg413 rfl rfl, trivial⟩, _, _, ⟨rfl, rfl, rfl⟩, (hs.fin [] []).as rfl rfl⟩

set_option maxRecDepth 100000 in
theorem crcGo_spec (s0 : UInt32) (ao : Option Addr) (c : Nat) (b : BL) {w0 : World} (hb : b.length ≤ 1000000000) : Spec Tryz.prog 325 #[V32 s0, .slice ao b.length c] w0 [] [dB ao c b] (fun v es1 ds1 => v = V32 (crcGo s0 b) ∧ es1 = [] ∧ ds1 = []) := by
 refine Spec.intro (fun F D hs => ?_)
 refine Calls_of_EC (args := [V32 s0, .slice ao b.length c]) Tryz.func325 rfl rfl rfl ?_
 refine EC_rseq ?_
 refine EL_run rfl (R_assign rfl) ?_
 refine EL_nil ?_
 refine EC_rseq ?_
 refine EL_op rfl (O_call hs [] [] rfl rfl rfl Tryz.call344 (crcHalves_spec) (fun v es1 ds1 w hPhi hs => ?_))
 obtain ⟨rfl, rfl, rfl⟩ := hPhi
 refine EL_op rfl (O_alloc hs rfl Tryz.zeroValue413 (fun b5 w hb5 hs => ?_))
 refine EL_op rfl (O_storeW hs (i := 0) rfl sz_413 rfl rfl rfl rfl (u32s_one _) (fun w hs => ?_))
 refine EL_nil ?_
 refine EC_rseq ?_
 refine EL_run rfl (R_move rfl) ?_
 refine EL_run rfl (R_not32 rfl) ?_
 refine EL_op rfl (O_alloc hs rfl Tryz.zeroValue29 (fun b6 w hb6 hs => ?_))
 refine EL_op rfl (O_store hs (i := 1) rfl Tryz.sizeOf29 rfl rfl rfl rfl (fun w hs => ?_))
 refine EL_nil ?_
 refine EC_rseq ?_
 refine EL_run rfl (R_makeFunc rfl rfl) ?_
 refine EL_run rfl (R_assign rfl) ?_
 refine EL_nil ?_
 refine EC_seq ?_
 refine EC_rseq ?_
 refine EL_run rfl (R_move rfl) ?_
 refine EL_run rfl (R_lenS Tryz.underlying36 rfl) ?_
 refine EL_run rfl (R_move rfl) ?_
 refine EL_nil ?_
 refine EC_block ?_
 refine EC_loop (fun m ρ w => ∃ (i : Nat), m = b.length - i ∧ i ≤ b.length ∧ Slots ρ [(5, .pointer (some ⟨b5, 0, none⟩)), (6, .pointer (some ⟨b6, 0, none⟩)), (7, .func (.func 345) #[] #[.pointer (some ⟨b6, 0, none⟩), .pointer (some ⟨b5, 0, none⟩)]), (14, .slice ao b.length c), (15, .int .i64 (b.length : Int)), (16, .int .i64 (i : Int))] ∧ St w0 F D [blk b5 (u32s crcTab).toArray 413, blk b6 #[V32 ((b.take i).foldl crcByte (~~~ s0))] 29] [dB ao c b] w) (b.length) (⟨0, by omega, by omega, ⟨rfl, rfl, rfl, rfl, rfl, rfl, trivial⟩, hs⟩) ?_
 rintro m ρ w ⟨i, rfl, hi, hsl, hs⟩
 refine EC_slots _ hsl ?_
 refine EC_rseq ?_
 refine EL_run rfl (R_lss rfl rfl) ?_
 refine EL_nil ?_
 refine EC_seq ?_
 refine EC_cond rfl (fun hc17 => ?_) (fun hc17 => ?_)
 ·have hc17p := cvt hc17; try dsimp only at hc17p
  have hib : i < b.length := by omega
  obtain ⟨bb, oo, rfl⟩ := dSl.some (hs.rd (i := 0) rfl) (u8s_nil hib)
  refine EC_skip ?_
  refine Then_n ?_
  refine EC_seq ?_
  refine EC_block ?_
  refine EC_rseq ?_
  refine EL_run rfl (R_idx es_36 rfl (by rfl) rfl (by omega) (by omega)) ?_
  refine EL_run rfl (R_ld (i := i) (hs.rd (i := 0) rfl) Tryz.isAgg5 rfl (by simp) (u8s_get (List.getElem?_eq_getElem hib))) ?_
  refine EL_run rfl (R_assign rfl) ?_
  refine EL_nil ?_
  refine EC_rseq ?_
  refine EL_run rfl (R_lb (hs.at (i := 1) rfl) Tryz.isAgg29 rfl rfl) ?_
  refine EL_run rfl (R_move rfl) ?_
  refine EL_run rfl (R_conv8to32 Tryz.underlying5 Tryz.underlying29 rfl) ?_
  refine EL_run rfl (R_xor32 rfl rfl) ?_
  refine EL_op rfl (O_store hs (i := 1) rfl Tryz.sizeOf29 rfl rfl rfl rfl (fun w hs => ?_))
  have hs := hs.swap01
  refine EL_nil ?_
  refine EC_rseq ?_
  refine EL_run rfl (R_move rfl) ?_
  refine EL_op rfl (O_call hs [true, true] [] rfl rfl rfl Tryz.call345 (crcHalf_spec b6 b5 _) (fun v es1 ds1 w hPhi hs => ?_))
  obtain ⟨rfl, rfl, rfl⟩ := hPhi
  refine EL_nil ?_
  refine EC_region ?_
  refine EL_run rfl (R_move rfl) ?_
  refine EL_op rfl (O_call hs [true, true] [] rfl rfl rfl Tryz.call345 (crcHalf_spec b6 b5 _) (fun v es1 ds1 w hPhi hs => ?_))
  obtain ⟨rfl, rfl, rfl⟩ := hPhi
  have hs := hs.swap01
  refine EL_nil ?_
  refine InBlock_n ?_
  refine Then_n ?_
  refine EC_region ?_
  refine EL_run rfl (R_addI rfl rfl (by omega)) ?_
  refine EL_run rfl (R_move rfl) ?_
  refine EL_nil ?_
  refine Then_n ?_
  exact ⟨b.length - (i + 1), by omega, i + 1, rfl, by omega, ⟨rfl, rfl, rfl, rfl, rfl, rfl, trivial⟩, hs.as (by rw [List.take_succ_eq_append_getElem hib, List.foldl_append]; rfl) rfl⟩
 ·have hc17p := cvt hc17; try dsimp only at hc17p
  refine EC_exit ?_
  refine Then_e ?_
  refine Then_e ?_
  refine InBlock_hit rfl ?_
  refine Then_n ?_
  obtain rfl : i = b.length := by omega
  rw [List.take_length] at hs
  refine EC_rseq ?_
  refine EL_run rfl (R_lb (hs.at (i := 1) rfl) Tryz.isAgg29 rfl rfl) ?_
  refine EL_run rfl (R_not32 rfl) ?_
  refine EL_run rfl (R_assign rfl) ?_
  refine EL_nil ?_
  refine EC_ret ?_
  exact ⟨[_], ⟨rfl, trivial⟩, _, _, ⟨rfl, rfl, rfl⟩, (hs.fin [] []).as rfl rfl⟩

set_option maxRecDepth 100000 in
theorem crcSum_spec (ao : Option Addr) (c : Nat) (b : BL) {w0 : World} (hb : b.length ≤ 1000000000) : Spec Tryz.prog 286 #[.slice ao b.length c] w0 [] [dB ao c b] (fun v es1 ds1 => v = V32 (crcSum b) ∧ es1 = [] ∧ ds1 = []) := by
 refine Spec.intro (fun F D hs => ?_)
 refine Calls_of_EC (args := [.slice ao b.length c]) Tryz.func286 rfl rfl rfl ?_
 refine EC_rseq ?_
 refine EL_run rfl (R_assign rfl) ?_
 refine EL_nil ?_
 refine EC_rseq ?_
 refine EL_run rfl (R_move rfl) ?_
 refine EL_op rfl (O_call hs [] [0] rfl rfl rfl Tryz.call325 (crcGo_spec 0 ao c b hb) (fun v es1 ds1 w hPhi hs => ?_))
 obtain ⟨rfl, rfl, rfl⟩ := hPhi
 refine EL_run rfl (R_assign rfl) ?_
 refine EL_nil ?_
 refine EC_ret ?_
 exact ⟨[_], ⟨rfl, trivial⟩, _, _, ⟨rfl, rfl, rfl⟩, (hs.fin [] []).as rfl rfl⟩
end Go.Proofs.YtpcojkbljgpecaaGreat
namespace Go.Proofs.YtpcojkbljgpecaaGreat
open Go
theorem u8s_take_get {q : BL} {j k : Nat} {u : Value} (h : (u8s (q.take k))[j]? = some u) : (u8s q)[j]? = some u := by
  simp only [u8s, List.getElem?_map, List.getElem?_take] at h ⊢
  split at h
  · exact h
  · cases h
def shaZero : ShaSt := ⟨List.replicate 8 0, 0⟩
theorem rot_wrap (n : Nat) (hn : 1 ≤ n ∧ n ≤ 31) : IntKind.u64.wrap (-(n : Int)) = ((2 ^ 64 - n : Nat) : Int) := by
  have : (-(n : Int)) % (2 ^ 64) = ((2 ^ 64 - n : Nat) : Int) := by omega
  simp [IntKind.wrap, IntKind.bits, IntKind.signed]
  omega
theorem rot_and (n : Nat) (hn : 1 ≤ n ∧ n ≤ 31) : (2 ^ 64 - n) &&& 31 = 32 - n := by
  have := Nat.and_two_pow_sub_one_eq_mod (2 ^ 64 - n) 5
  rw [show 2 ^ 5 - 1 = 31 from rfl] at this
  rw [this]; omega
set_option maxRecDepth 100000 in
theorem rotl_spec (x : UInt32) (n : Nat) {w0 : World} (hn : 1 ≤ n ∧ n ≤ 31) : Spec Tryz.prog 353 #[V32 x, .int .i64 (-(n : Int))] w0 [] [] (fun v es1 ds1 => v = V32 (rotl x (32 - n)) ∧ es1 = [] ∧ ds1 = []) := by
 refine Spec.intro (fun F D hs => ?_)
 refine Calls_of_EC (args := [V32 x, .int .i64 (-(n : Int))]) Tryz.func353 rfl rfl rfl ?_
 refine EC_rseq ?_
 refine EL_run rfl (R_assign rfl) ?_
 refine EL_nil ?_
 refine EC_rseq ?_
 refine EL_run rfl (R_move rfl) ?_
 refine EL_run rfl (R_convI Tryz.underlying3 Tryz.underlying315 rfl) ?_
 rw [show IntKind.u64.wrap (-(n : Int)) = ((2 ^ 64 - n : Nat) : Int) from rot_wrap n hn]
 refine EL_run rfl (R_andU (b := 31) rfl rfl rfl (by simp [IntKind.bits])) ?_
 rw [show (2 ^ 64 - n) &&& 31 = 32 - n from rot_and n hn]
 refine EL_run rfl (R_assign rfl) ?_
 refine EL_nil ?_
 refine EC_rseq ?_
 refine EL_run rfl (R_move rfl) ?_
 refine EL_run rfl (R_move rfl) ?_
 refine EL_run rfl (R_shl32 (32 - n) rfl rfl rfl) ?_
 refine EL_run rfl (R_move rfl) ?_
 refine EL_run rfl (R_move rfl) ?_
 refine EL_run rfl (R_subU (p := 32) rfl rfl rfl (by omega) (by simp [IntKind.bits])) ?_
 refine EL_run rfl (R_shr32 (32 - (32 - n)) rfl rfl rfl) ?_
 refine EL_run rfl (R_or32 rfl rfl) ?_
 refine EL_run rfl (R_assign rfl) ?_
 refine EL_nil ?_
 refine EC_ret ?_
 exact ⟨[_], ⟨rfl, trivial⟩, _, _, ⟨rfl, rfl, rfl⟩, (hs.fin [] []).as rfl rfl⟩

set_option maxRecDepth 100000 in
theorem down_spec (x : UInt32) (n : Nat) {w0 : World} (hn : 1 ≤ n ∧ n ≤ 31) : Spec Tryz.prog 349 #[V32 x, .int .i64 (n : Int)] w0 [] [] (fun v es1 ds1 => v = V32 (down x n) ∧ es1 = [] ∧ ds1 = []) := by
 refine Spec.intro (fun F D hs => ?_)
 refine Calls_of_EC (args := [V32 x, .int .i64 (n : Int)]) Tryz.func349 rfl rfl rfl ?_
 refine EC_rseq ?_
 refine EL_run rfl (R_assign rfl) ?_
 refine EL_nil ?_
 refine EC_rseq ?_
 refine EL_run rfl (R_move rfl) ?_
 refine EL_run rfl (R_move rfl) ?_
 refine EL_run rfl (R_negI rfl (by omega)) ?_
 refine EL_op rfl (O_call hs [] [] rfl rfl rfl Tryz.call353 (rotl_spec x n hn) (fun v es1 ds1 w hPhi hs => ?_))
 obtain ⟨rfl, rfl, rfl⟩ := hPhi
 refine EL_run rfl (R_assign rfl) ?_
 refine EL_nil ?_
 refine EC_ret ?_
 exact ⟨[_], ⟨rfl, trivial⟩, _, _, ⟨rfl, rfl, rfl⟩, (hs.fin [] []).as rfl rfl⟩

set_option maxRecDepth 100000 in
theorem shaBegin_spec {w0 : World} : Spec Tryz.prog 333 #[] w0 [] [] (fun v es1 ds1 => v = .agg shaBegin.cells ∧ es1 = [] ∧ ds1 = []) := by
 refine Spec.intro (fun F D hs => ?_)
 refine Calls_of_EC (args := []) Tryz.func333 rfl rfl rfl ?_
 refine EC_rseq ?_
 refine EL_op rfl (O_alloc hs rfl Tryz.zeroValue405 (fun b0 w hb0 hs => ?_))
 refine EL_nil ?_
 refine EC_rseq ?_
 refine EL_run rfl (R_buildA (cs := (u32s shaBegin.h).toArray) [.const (.int .u32 1779033703), .const (.int .u32 3144134277), .const (.int .u32 1013904242), .const (.int .u32 2773480762), .const (.int .u32 1359893119), .const (.int .u32 2600822924), .const (.int .u32 528734635), .const (.int .u32 1541459225)] Tryz.underlying403 Tryz.zeroValue403 Tryz.sizeOf29 rfl rfl (by simp [Value.cells, V32, V8]) rfl rfl) ?_
 refine EL_run rfl (R_buildS (cs := shaBegin.cells) [(0, .tmp 1)] pl_405 Tryz.zeroValue405 rfl rfl rfl) ?_
 refine EL_op rfl (O_storeW hs (i := 0) rfl sz_405 rfl rfl rfl rfl (ShaSt.oneA _) (fun w hs => ?_))
 refine EL_nil ?_
 refine EC_ret ?_
 exact ⟨[_], ⟨res_cell hs (i := 0) rfl Tryz.sizeOf405 Tryz.isAgg405 rfl rfl, trivial⟩, _, _, ⟨rfl, rfl, rfl⟩, (hs.fin [] []).as rfl rfl⟩

set_option maxRecDepth 100000 in
theorem shaKeys_spec {w0 : World} : Spec Tryz.prog 348 #[] w0 [] [] (fun v es1 ds1 => v = .agg (u32s shaKeys).toArray ∧ es1 = [] ∧ ds1 = []) := by
 refine Spec.intro (fun F D hs => ?_)
 refine Calls_of_EC (args := []) Tryz.func348 rfl rfl rfl ?_
 refine EC_rseq ?_
 refine EL_op rfl (O_alloc hs rfl Tryz.zeroValue418 (fun b0 w hb0 hs => ?_))
 refine EL_nil ?_
 refine EC_rseq ?_
 refine EL_run rfl (R_buildA (cs := (u32s shaKeys).toArray) [.const (.int .u32 1116352408), .const (.int .u32 1899447441), .const (.int .u32 3049323471), .const (.int .u32 3921009573), .const (.int .u32 961987163), .const (.int .u32 1508970993), .const (.int .u32 2453635748), .const (.int .u32 2870763221), .const (.int .u32 3624381080), .const (.int .u32 310598401), .const (.int .u32 607225278), .const (.int .u32 1426881987), .const (.int .u32 1925078388), .const (.int .u32 2162078206), .const (.int .u32 2614888103), .const (.int .u32 3248222580), .const (.int .u32 3835390401), .const (.int .u32 4022224774), .const (.int .u32 264347078), .const (.int .u32 604807628), .const (.int .u32 770255983), .const (.int .u32 1249150122), .const (.int .u32 1555081692), .const (.int .u32 1996064986), .const (.int .u32 2554220882), .const (.int .u32 2821834349), .const (.int .u32 2952996808), .const (.int .u32 3210313671), .const (.int .u32 3336571891), .const (.int .u32 3584528711), .const (.int .u32 113926993), .const (.int .u32 338241895), .const (.int .u32 666307205), .const (.int .u32 773529912), .const (.int .u32 1294757372), .const (.int .u32 1396182291), .const (.int .u32 1695183700), .const (.int .u32 1986661051), .const (.int .u32 2177026350), .const (.int .u32 2456956037), .const (.int .u32 2730485921), .const (.int .u32 2820302411), .const (.int .u32 3259730800), .const (.int .u32 3345764771), .const (.int .u32 3516065817), .const (.int .u32 3600352804), .const (.int .u32 4094571909), .const (.int .u32 275423344), .const (.int .u32 430227734), .const (.int .u32 506948616), .const (.int .u32 659060556), .const (.int .u32 883997877), .const (.int .u32 958139571), .const (.int .u32 1322822218), .const (.int .u32 1537002063), .const (.int .u32 1747873779), .const (.int .u32 1955562222), .const (.int .u32 2024104815), .const (.int .u32 2227730452), .const (.int .u32 2361852424), .const (.int .u32 2428436474), .const (.int .u32 2756734187), .const (.int .u32 3204031479), .const (.int .u32 3329325298)] Tryz.underlying418 Tryz.zeroValue418 Tryz.sizeOf29 rfl rfl (by simp [Value.cells, V32, V8]) rfl rfl) ?_
 refine EL_op rfl (O_storeW hs (i := 0) rfl sz_418 rfl rfl rfl rfl (u32s_one _) (fun w hs => ?_))
 refine EL_nil ?_
 refine EC_ret ?_
 exact ⟨[_], ⟨res_cell hs (i := 0) rfl Tryz.sizeOf418 Tryz.isAgg418 rfl rfl, trivial⟩, _, _, ⟨rfl, rfl, rfl⟩, (hs.fin [] []).as rfl rfl⟩

set_option maxRecDepth 100000 in
theorem spread_spec (b : BL) {w0 : World} (hb : b.length = 64) : Spec Tryz.prog 347 #[.agg (u8s b).toArray] w0 [] [] (fun v es1 ds1 => v = .agg (u32s (spread b)).toArray ∧ es1 = [] ∧ ds1 = []) := by
 refine Spec.intro (fun F D hs => ?_)
 refine Calls_of_EC (args := [.agg (u8s b).toArray]) Tryz.func347 rfl rfl rfl ?_
 refine EC_rseq ?_
 refine EL_op rfl (O_box hs rfl rfl (fun b1 w hb1 hs => ?_))
 refine EL_op rfl (O_alloc hs rfl Tryz.zeroValue418 (fun b2 w hb2 hs => ?_))
 refine EL_nil ?_
 refine EC_rseq ?_
 refine EL_op rfl (O_alloc hs rfl Tryz.zeroValue418 (fun b3 w hb3 hs => ?_))
 refine EL_nil ?_
 refine EC_seq ?_
 refine EC_rseq ?_
 refine EL_run rfl (R_lw (hs.at (i := 0) rfl) Tryz.isAgg408 Tryz.sizeOf408 rfl (by simp [u8s, Value.cells, hb])) ?_
 refine EL_run rfl (R_move rfl) ?_
 refine EL_nil ?_
 refine EC_block ?_
 refine EC_loop (fun m ρ w => ∃ (i : Nat), m = 64 - i ∧ i ≤ 64 ∧ Slots ρ [(2, .pointer (some ⟨b2, 0, none⟩)), (3, .pointer (some ⟨b3, 0, none⟩)), (9, .agg (u8s b).toArray), (10, .int .i64 (i : Int))] ∧ St w0 F D [blk b1 (u8s b).toArray 408, blk b2 (u32s (spread1 b 0)).toArray 418, blk b3 (u32s (spread1 b i)).toArray 418] [] w) (64) (⟨0, by omega, by omega, ⟨rfl, rfl, rfl, rfl, trivial⟩, hs⟩) ?_
 rintro m ρ w ⟨i, rfl, hi, hsl, hs⟩
 refine EC_slots _ hsl ?_
 refine EC_rseq ?_
 refine EL_run rfl (R_lss rfl rfl) ?_
 refine EL_nil ?_
 refine EC_seq ?_
 refine EC_cond rfl (fun hc11 => ?_) (fun hc11 => ?_)
 ·have hc11p := cvt hc11; try dsimp only at hc11p
  refine EC_skip ?_
  refine Then_n ?_
  refine EC_seq ?_
  refine EC_block ?_
  refine EC_rseq ?_
  refine EL_run rfl (R_move rfl) ?_
  refine EL_run rfl (R_indexV Tryz.underlying408 Tryz.sizeOf5 Tryz.isAgg5 rfl rfl (by omega) (by omega) (u8s_getD (i := i) (by simp) (by omega))) ?_
  refine EL_run rfl (R_assign rfl) ?_
  refine EL_run rfl (R_assign rfl) ?_
  refine EL_nil ?_
  refine EC_region ?_
  refine EL_run rfl (R_move rfl) ?_
  refine EL_run rfl (R_quoI rfl rfl (by omega) (by omega) (by omega)) ?_
  refine EL_run rfl (R_move rfl) ?_
  refine EL_run rfl (R_quoI rfl rfl (by omega) (by omega) (by omega)) ?_
  refine EL_run rfl (R_idxA as_418 rfl rfl (by omega) (by omega)) ?_
  refine EL_run rfl (R_lb (hs.at (i := 2) rfl) Tryz.isAgg29 rfl (u32s_getD (i := i / 4) (by omega) (by rw [spread1_len]; omega))) ?_
  refine EL_run rfl (R_shl32 8 rfl rfl rfl) ?_
  refine EL_run rfl (R_move rfl) ?_
  refine EL_run rfl (R_conv8to32 Tryz.underlying5 Tryz.underlying29 rfl) ?_
  refine EL_run rfl (R_or32 rfl rfl) ?_
  refine EL_run rfl (R_idxA as_418 rfl rfl (by omega) (by omega)) ?_
  refine EL_op rfl (O_store hs (i := 2) rfl Tryz.sizeOf29 rfl rfl rfl (by simp [u32s, spread1_len]; omega) (fun w hs => ?_))
  refine EL_nil ?_
  refine InBlock_n ?_
  refine Then_n ?_
  refine EC_region ?_
  refine EL_run rfl (R_addI rfl rfl (by omega)) ?_
  refine EL_run rfl (R_move rfl) ?_
  refine EL_nil ?_
  refine Then_n ?_
  exact ⟨64 - (i + 1), by omega, i + 1, rfl, by omega, ⟨rfl, rfl, rfl, rfl, trivial⟩, hs.as (by rw [u32s_set _ (i / 4) _ (by omega)]; rfl) rfl⟩
 ·have hc11p := cvt hc11; try dsimp only at hc11p
  refine EC_exit ?_
  refine Then_e ?_
  refine Then_e ?_
  refine InBlock_hit rfl ?_
  refine Then_n ?_
  refine EC_seq ?_
  obtain rfl : i = 64 := by omega
  refine EC_rseq ?_
  refine EL_run rfl (R_assign rfl) ?_
  refine EL_nil ?_
  refine EC_block ?_
  refine EC_loop (fun m ρ w => ∃ (i : Nat), m = 48 - i ∧ i ≤ 48 ∧ Slots ρ [(2, .pointer (some ⟨b2, 0, none⟩)), (3, .pointer (some ⟨b3, 0, none⟩)), (6, .int .i64 (((i + 16 : Nat) : Int)))] ∧ St w0 F D [blk b1 (u8s b).toArray 408, blk b2 (u32s (spread1 b 0)).toArray 418, blk b3 (u32s (spread2 b i)).toArray 418] [] w) (48) (⟨0, by omega, by omega, ⟨rfl, rfl, rfl, trivial⟩, hs⟩) ?_
  rintro m ρ w ⟨i, rfl, hi, hsl, hs⟩
  refine EC_slots _ hsl ?_
  refine EC_seq ?_
  refine EC_rseq ?_
  refine EL_run rfl (R_move rfl) ?_
  refine EL_run rfl (R_lss rfl rfl) ?_
  refine EL_nil ?_
  refine EC_cond rfl (fun hc27 => ?_) (fun hc27 => ?_)
  ·have hc27p := cvt hc27; try dsimp only at hc27p
   refine EC_skip ?_
   refine Then_n ?_
   refine EC_seq ?_
   refine EC_block ?_
   refine EC_dseqS hs [] [3, 7] [2] [] (.take 0 (.take 1 (.take 2 (.take 3 (.take 4 (.take 5 (.take 6 (.take 7 (.take 8 (.take 9 .done)))))))))) mix_ok (by kernel_rfl) (fun w hs _ => ?_)
   refine EP_take rfl rfl rfl (fun _ => R_move rfl) ?_
   refine EP_take rfl rfl rfl (fun _ => R_subI rfl rfl (by omega)) ?_
   refine EP_take rfl rfl rfl (fun _ => R_idxA as_418 rfl rfl (by omega) (by omega)) ?_
   refine EP_read rfl rfl rfl (RdS.of hs rfl rfl) (fun _ hR => R_lb (hR.e 2 rfl rfl) Tryz.isAgg29 rfl (u32s_getD (i := i + 16 - 2) (by omega) (by rw [spread2_len]; omega))) ?_
   refine EP_take rfl rfl rfl (fun _ => R_move rfl) ?_
   refine EP_take rfl rfl rfl (fun _ => R_subI rfl rfl (by omega)) ?_
   refine EP_take rfl rfl rfl (fun _ => R_idxA as_418 rfl rfl (by omega) (by omega)) ?_
   refine EP_read rfl rfl rfl (RdS.of hs rfl rfl) (fun _ hR => R_lb (hR.e 2 rfl rfl) Tryz.isAgg29 rfl (u32s_getD (i := i + 16 - 15) (by omega) (by rw [spread2_len]; omega))) ?_
   refine EP_take rfl rfl rfl (fun _ => R_assign rfl) ?_
   refine EP_take rfl rfl rfl (fun _ => R_assign rfl) ?_
   refine EP_done ?_
   refine EC_drawS hs [2, 4, 15, 17, 29] [12, 26] [2] [] (.take 0 (.take 1 (.take 3 (.take 6 (.take 7 (.take 9 (.take 10 (.take 11 (.take 12 (.take 14 (.take 16 (.take 19 (.take 20 (.take 23 (.take 24 (.take 25 (.take 26 (.fork 2 (.fork 4 (.take 5 (.take 8 (.take 13 (.fork 15 (.fork 17 (.take 18 (.take 21 (.take 22 (.take 27 (.take 28 (.fork 29 .done (.done))))))) (.done)) (.done))))) (.done)) (.done))))))))))))))))))) mix_ok (by kernel_rfl) (fun w hs _ => ?_)
   refine EP_take rfl rfl rfl (fun _ => R_move rfl) ?_
   refine EP_take rfl rfl rfl (fun _ => R_move rfl) ?_
   refine EP_take rfl rfl rfl (fun _ => R_move rfl) ?_
   refine EP_take rfl rfl rfl (fun _ => R_move rfl) ?_
   refine EP_take rfl rfl rfl (fun _ => R_shr32 10 rfl rfl rfl) ?_
   refine EP_take rfl rfl rfl (fun _ => R_move rfl) ?_
   refine EP_take rfl rfl rfl (fun _ => R_subI rfl rfl (by omega)) ?_
   refine EP_take rfl rfl rfl (fun _ => R_idxA as_418 rfl rfl (by omega) (by omega)) ?_
   refine EP_read rfl rfl rfl (RdS.of hs rfl rfl) (fun _ hR => R_lb (hR.e 2 rfl rfl) Tryz.isAgg29 rfl (u32s_getD (i := i + 16 - 7) (by omega) (by rw [spread2_len]; omega))) ?_
   refine EP_take rfl rfl rfl (fun _ => R_move rfl) ?_
   refine EP_take rfl rfl rfl (fun _ => R_move rfl) ?_
   refine EP_take rfl rfl rfl (fun _ => R_move rfl) ?_
   refine EP_take rfl rfl rfl (fun _ => R_shr32 3 rfl rfl rfl) ?_
   refine EP_take rfl rfl rfl (fun _ => R_move rfl) ?_
   refine EP_take rfl rfl rfl (fun _ => R_subI rfl rfl (by omega)) ?_
   refine EP_take rfl rfl rfl (fun _ => R_idxA as_418 rfl rfl (by omega) (by omega)) ?_
   refine EP_read rfl rfl rfl (RdS.of hs rfl rfl) (fun _ hR => R_lb (hR.e 2 rfl rfl) Tryz.isAgg29 rfl (u32s_getD (i := i + 16 - 16) (by omega) (by rw [spread2_len]; omega))) ?_
   refine EP_act rfl rfl (O_call hs [] [] rfl rfl rfl Tryz.call349 (down_spec _ 17 (by omega)) (fun v es1 ds1 w hPhi hs => ?_))
   obtain ⟨rfl, rfl, rfl⟩ := hPhi
   refine ⟨(fun _ => RdS.of hs rfl rfl), ?_⟩
   refine EP_act rfl rfl (O_call hs [] [] rfl rfl rfl Tryz.call349 (down_spec _ 19 (by omega)) (fun v es1 ds1 w hPhi hs => ?_))
   obtain ⟨rfl, rfl, rfl⟩ := hPhi
   refine ⟨(fun _ => RdS.of hs rfl rfl), ?_⟩
   refine EP_take rfl rfl rfl (fun _ => R_xor32 rfl rfl) ?_
   refine EP_take rfl rfl rfl (fun _ => R_xor32 rfl rfl) ?_
   refine EP_take rfl rfl rfl (fun _ => R_add32 rfl rfl) ?_
   refine EP_act rfl rfl (O_call hs [] [] rfl rfl rfl Tryz.call349 (down_spec _ 7 (by omega)) (fun v es1 ds1 w hPhi hs => ?_))
   obtain ⟨rfl, rfl, rfl⟩ := hPhi
   refine ⟨(fun _ => RdS.of hs rfl rfl), ?_⟩
   refine EP_act rfl rfl (O_call hs [] [] rfl rfl rfl Tryz.call349 (down_spec _ 18 (by omega)) (fun v es1 ds1 w hPhi hs => ?_))
   obtain ⟨rfl, rfl, rfl⟩ := hPhi
   refine ⟨(fun _ => RdS.of hs rfl rfl), ?_⟩
   refine EP_take rfl rfl rfl (fun _ => R_xor32 rfl rfl) ?_
   refine EP_take rfl rfl rfl (fun _ => R_xor32 rfl rfl) ?_
   refine EP_take rfl rfl rfl (fun _ => R_add32 rfl rfl) ?_
   refine EP_take rfl rfl rfl (fun _ => R_add32 rfl rfl) ?_
   refine EP_take rfl rfl rfl (fun _ => R_idxA as_418 rfl rfl (by omega) (by omega)) ?_
   refine EP_act rfl rfl (O_store hs (i := 2) rfl Tryz.sizeOf29 rfl rfl rfl (by simp [u32s, spread2_len]; omega) (fun w hs => ⟨(rq_no (by kernel_rfl)), ?_⟩))
   refine EP_done ?_
   refine InBlock_n ?_
   refine Then_n ?_
   refine EC_region ?_
   refine EL_run rfl (R_move rfl) ?_
   refine EL_run rfl (R_addI rfl rfl (by omega)) ?_
   refine EL_run rfl (R_assign rfl) ?_
   refine EL_nil ?_
   refine Then_n ?_
   exact ⟨48 - (i + 1), by omega, i + 1, rfl, by omega, ⟨rfl, rfl, sI (by omega), trivial⟩, hs.as (by rw [u32s_set _ (i + 16) _ (by omega)]; rfl) rfl⟩
  ·have hc27p := cvt hc27; try dsimp only at hc27p
   refine EC_exit ?_
   refine Then_e ?_
   refine Then_e ?_
   refine InBlock_hit rfl ?_
   refine Then_n ?_
   obtain rfl : i = 48 := by omega
   refine EC_rseq ?_
   refine EL_run rfl (R_lw (hs.at (i := 2) rfl) Tryz.isAgg418 Tryz.sizeOf418 rfl (by simp [u32s, spread2_len])) ?_
   refine EL_op rfl (O_storeW hs (i := 1) rfl sz_418 rfl rfl rfl (by simp [u32s, spread2_len]) (u32s_one _) (fun w hs => ?_))
   refine EL_nil ?_
   refine EC_ret ?_
   exact ⟨[_], ⟨res_cell hs (i := 1) rfl Tryz.sizeOf418 Tryz.isAgg418 rfl (by simp [u32s, spread2_len]), trivial⟩, _, _, ⟨rfl, rfl, rfl⟩, (hs.fin [] []).as rfl rfl⟩

set_option maxRecDepth 100000 in
theorem shaBlock_spec (s : ShaSt) (b : BL) {w0 : World} (h8 : s.h.length = 8) (hb : b.length = 64) : Spec Tryz.prog 334 #[.agg s.cells, .agg (u8s b).toArray] w0 [] [] (fun v es1 ds1 => v = .agg (shaBlock s b).cells ∧ es1 = [] ∧ ds1 = []) := by
 refine Spec.intro (fun F D hs => ?_)
 refine Calls_of_EC (args := [.agg s.cells, .agg (u8s b).toArray]) Tryz.func334 rfl rfl rfl ?_
 refine EC_rseq ?_
 refine EL_op rfl (O_box hs rfl rfl (fun b2 w hb2 hs => ?_))
 refine EL_op rfl (O_box hs rfl rfl (fun b3 w hb3 hs => ?_))
 refine EL_op rfl (O_alloc hs rfl Tryz.zeroValue405 (fun b4 w hb4 hs => ?_))
 refine EL_nil ?_
 refine EC_rseq ?_
 refine EL_run rfl (R_lw (hs.at (i := 1) rfl) Tryz.isAgg408 Tryz.sizeOf408 rfl (by simp [u8s, Value.cells, hb])) ?_
 refine EL_op rfl (O_call hs [] [] rfl rfl rfl Tryz.call347 (spread_spec b hb) (fun v es1 ds1 w hPhi hs => ?_))
 obtain ⟨rfl, rfl, rfl⟩ := hPhi
 refine EL_op rfl (O_call hs [] [] rfl rfl rfl Tryz.call348 (shaKeys_spec) (fun v es1 ds1 w hPhi hs => ?_))
 obtain ⟨rfl, rfl, rfl⟩ := hPhi
 refine EL_op rfl (O_alloc hs rfl Tryz.zeroValue418 (fun b5 w hb5 hs => ?_))
 refine EL_op rfl (O_alloc hs rfl Tryz.zeroValue418 (fun b6 w hb6 hs => ?_))
 refine EL_op rfl (O_storeW hs (i := 3) rfl sz_418 rfl rfl rfl (by simp [u32s, spread, spread2_len]) (u32s_one _) (fun w hs => ?_))
 refine EL_op rfl (O_storeW hs (i := 4) rfl sz_418 rfl rfl rfl rfl (u32s_one _) (fun w hs => ?_))
 refine EL_nil ?_
 refine EC_dseqS hs [] [2, 5, 8, 11, 14, 17, 20, 23] [0] [] (.take 0 (.take 1 (.take 2 (.take 3 (.take 4 (.take 5 (.take 6 (.take 7 (.take 8 (.take 9 (.take 10 (.take 11 (.take 12 (.take 13 (.take 14 (.take 15 (.take 16 (.take 17 (.take 18 (.take 19 (.take 20 (.take 21 (.take 22 (.take 23 (.take 24 (.take 25 (.take 26 (.take 27 (.take 28 (.take 29 (.take 30 (.take 31 .done)))))))))))))))))))))))))))))))) mix_ok (by kernel_rfl) (fun w hs _ => ?_)
 refine EP_take rfl rfl rfl (fun _ => R_field fo_405_0 rfl) ?_
 refine EP_take rfl rfl rfl (fun _ => R_idxA as_403 rfl rfl (by omega) (by omega)) ?_
 refine EP_read rfl rfl rfl (RdS.of hs rfl rfl) (fun _ hR => R_lb (hR.e 0 rfl rfl) Tryz.isAgg29 rfl (ShaSt.cell h8 0 rfl (by omega))) ?_
 refine EP_take rfl rfl rfl (fun _ => R_field fo_405_0 rfl) ?_
 refine EP_take rfl rfl rfl (fun _ => R_idxA as_403 rfl rfl (by omega) (by omega)) ?_
 refine EP_read rfl rfl rfl (RdS.of hs rfl rfl) (fun _ hR => R_lb (hR.e 0 rfl rfl) Tryz.isAgg29 rfl (ShaSt.cell h8 1 rfl (by omega))) ?_
 refine EP_take rfl rfl rfl (fun _ => R_field fo_405_0 rfl) ?_
 refine EP_take rfl rfl rfl (fun _ => R_idxA as_403 rfl rfl (by omega) (by omega)) ?_
 refine EP_read rfl rfl rfl (RdS.of hs rfl rfl) (fun _ hR => R_lb (hR.e 0 rfl rfl) Tryz.isAgg29 rfl (ShaSt.cell h8 2 rfl (by omega))) ?_
 refine EP_take rfl rfl rfl (fun _ => R_field fo_405_0 rfl) ?_
 refine EP_take rfl rfl rfl (fun _ => R_idxA as_403 rfl rfl (by omega) (by omega)) ?_
 refine EP_read rfl rfl rfl (RdS.of hs rfl rfl) (fun _ hR => R_lb (hR.e 0 rfl rfl) Tryz.isAgg29 rfl (ShaSt.cell h8 3 rfl (by omega))) ?_
 refine EP_take rfl rfl rfl (fun _ => R_field fo_405_0 rfl) ?_
 refine EP_take rfl rfl rfl (fun _ => R_idxA as_403 rfl rfl (by omega) (by omega)) ?_
 refine EP_read rfl rfl rfl (RdS.of hs rfl rfl) (fun _ hR => R_lb (hR.e 0 rfl rfl) Tryz.isAgg29 rfl (ShaSt.cell h8 4 rfl (by omega))) ?_
 refine EP_take rfl rfl rfl (fun _ => R_field fo_405_0 rfl) ?_
 refine EP_take rfl rfl rfl (fun _ => R_idxA as_403 rfl rfl (by omega) (by omega)) ?_
 refine EP_read rfl rfl rfl (RdS.of hs rfl rfl) (fun _ hR => R_lb (hR.e 0 rfl rfl) Tryz.isAgg29 rfl (ShaSt.cell h8 5 rfl (by omega))) ?_
 refine EP_take rfl rfl rfl (fun _ => R_field fo_405_0 rfl) ?_
 refine EP_take rfl rfl rfl (fun _ => R_idxA as_403 rfl rfl (by omega) (by omega)) ?_
 refine EP_read rfl rfl rfl (RdS.of hs rfl rfl) (fun _ hR => R_lb (hR.e 0 rfl rfl) Tryz.isAgg29 rfl (ShaSt.cell h8 6 rfl (by omega))) ?_
 refine EP_take rfl rfl rfl (fun _ => R_field fo_405_0 rfl) ?_
 refine EP_take rfl rfl rfl (fun _ => R_idxA as_403 rfl rfl (by omega) (by omega)) ?_
 refine EP_read rfl rfl rfl (RdS.of hs rfl rfl) (fun _ hR => R_lb (hR.e 0 rfl rfl) Tryz.isAgg29 rfl (ShaSt.cell h8 7 rfl (by omega))) ?_
 refine EP_take rfl rfl rfl (fun _ => R_assign rfl) ?_
 refine EP_take rfl rfl rfl (fun _ => R_assign rfl) ?_
 refine EP_take rfl rfl rfl (fun _ => R_assign rfl) ?_
 refine EP_take rfl rfl rfl (fun _ => R_assign rfl) ?_
 refine EP_take rfl rfl rfl (fun _ => R_assign rfl) ?_
 refine EP_take rfl rfl rfl (fun _ => R_assign rfl) ?_
 refine EP_take rfl rfl rfl (fun _ => R_assign rfl) ?_
 refine EP_take rfl rfl rfl (fun _ => R_assign rfl) ?_
 refine EP_done ?_
 refine EC_seq ?_
 refine EC_rseq ?_
 refine EL_run rfl (R_move rfl) ?_
 refine EL_nil ?_
 refine EC_block ?_
 refine EC_loop (fun m ρ w => ∃ (i : Nat) (q : Eight), m = 64 - i ∧ i ≤ 64 ∧ q = shaRounds (spread b) (eightOf s.h) i ∧ Slots ρ [(2, .pointer (some ⟨b2, 0, none⟩)), (4, .pointer (some ⟨b4, 0, none⟩)), (5, .pointer (some ⟨b5, 0, none⟩)), (6, .pointer (some ⟨b6, 0, none⟩)), (7, V32 q.a), (8, V32 q.b), (9, V32 q.c), (10, V32 q.d), (11, V32 q.e), (12, V32 q.f), (13, V32 q.g), (14, V32 q.h), (49, .int .i64 (i : Int))] ∧ St w0 F D [blk b2 s.cells 405, blk b3 (u8s b).toArray 408, blk b4 shaZero.cells 405, blk b5 (u32s (spread b)).toArray 418, blk b6 (u32s shaKeys).toArray 418] [] w) (64) (⟨0, eightOf s.h, by omega, by omega, rfl, ⟨rfl, rfl, rfl, rfl, rfl, rfl, rfl, rfl, rfl, rfl, rfl, rfl, rfl, trivial⟩, hs⟩) ?_
 rintro m ρ w ⟨i, q, rfl, hi, hq, hsl, hs⟩
 refine EC_slots _ hsl ?_
 refine EC_rseq ?_
 refine EL_run rfl (R_lss rfl rfl) ?_
 refine EL_nil ?_
 refine EC_seq ?_
 refine EC_cond rfl (fun hc50 => ?_) (fun hc50 => ?_)
 ·have hc50p := cvt hc50; try dsimp only at hc50p
  refine EC_skip ?_
  refine Then_n ?_
  refine EC_seq ?_
  refine EC_block ?_
  refine EC_rseq ?_
  refine EL_run rfl (R_move rfl) ?_
  refine EL_run rfl (R_assign rfl) ?_
  refine EL_nil ?_
  refine EC_rseq ?_
  refine EL_run rfl (R_move rfl) ?_
  refine EL_run rfl (R_move rfl) ?_
  refine EL_run rfl (R_and32 rfl rfl) ?_
  refine EL_run rfl (R_move rfl) ?_
  refine EL_run rfl (R_not32 rfl) ?_
  refine EL_run rfl (R_move rfl) ?_
  refine EL_run rfl (R_and32 rfl rfl) ?_
  refine EL_run rfl (R_xor32 rfl rfl) ?_
  refine EL_run rfl (R_assign rfl) ?_
  refine EL_nil ?_
  refine EC_rseq ?_
  refine EL_run rfl (R_move rfl) ?_
  refine EL_run rfl (R_move rfl) ?_
  refine EL_run rfl (R_and32 rfl rfl) ?_
  refine EL_run rfl (R_move rfl) ?_
  refine EL_run rfl (R_move rfl) ?_
  refine EL_run rfl (R_and32 rfl rfl) ?_
  refine EL_run rfl (R_xor32 rfl rfl) ?_
  refine EL_run rfl (R_move rfl) ?_
  refine EL_run rfl (R_move rfl) ?_
  refine EL_run rfl (R_and32 rfl rfl) ?_
  refine EL_run rfl (R_xor32 rfl rfl) ?_
  refine EL_run rfl (R_assign rfl) ?_
  refine EL_nil ?_
  refine EC_dseqS hs [2, 4, 7] [14, 18] [3, 4] [] (.take 0 (.take 1 (.take 3 (.take 6 (.take 10 (.take 12 (.take 13 (.take 14 (.take 16 (.take 17 (.take 18 (.fork 2 (.fork 4 (.take 5 (.fork 7 (.take 8 (.take 9 (.take 11 (.take 15 (.take 19 (.take 20 .done)))))) (.done))) (.done)) (.done))))))))))))) mix_ok (by kernel_rfl) (fun w hs _ => ?_)
  refine EP_take rfl rfl rfl (fun _ => R_move rfl) ?_
  refine EP_take rfl rfl rfl (fun _ => R_move rfl) ?_
  refine EP_take rfl rfl rfl (fun _ => R_move rfl) ?_
  refine EP_take rfl rfl rfl (fun _ => R_move rfl) ?_
  refine EP_take rfl rfl rfl (fun _ => R_move rfl) ?_
  refine EP_take rfl rfl rfl (fun _ => R_move rfl) ?_
  refine EP_take rfl rfl rfl (fun _ => R_idxA as_418 rfl rfl (by omega) (by omega)) ?_
  refine EP_read rfl rfl rfl (RdS.of hs rfl rfl) (fun _ hR => R_lb (hR.e 4 rfl rfl) Tryz.isAgg29 rfl (u32s_getD (l := shaKeys) (i := i) (by simp) (show i < 64 by omega))) ?_
  refine EP_take rfl rfl rfl (fun _ => R_move rfl) ?_
  refine EP_take rfl rfl rfl (fun _ => R_idxA as_418 rfl rfl (by omega) (by omega)) ?_
  refine EP_read rfl rfl rfl (RdS.of hs rfl rfl) (fun _ hR => R_lb (hR.e 3 rfl rfl) Tryz.isAgg29 rfl (u32s_getD (i := i) (by simp) (by rw [spread, spread2_len]; omega))) ?_
  refine EP_act rfl rfl (O_call hs [] [] rfl rfl rfl Tryz.call349 (down_spec _ 6 (by omega)) (fun v es1 ds1 w hPhi hs => ?_))
  obtain ⟨rfl, rfl, rfl⟩ := hPhi
  refine ⟨(fun _ => RdS.of hs rfl rfl), ?_⟩
  refine EP_act rfl rfl (O_call hs [] [] rfl rfl rfl Tryz.call349 (down_spec _ 11 (by omega)) (fun v es1 ds1 w hPhi hs => ?_))
  obtain ⟨rfl, rfl, rfl⟩ := hPhi
  refine ⟨(fun _ => RdS.of hs rfl rfl), ?_⟩
  refine EP_take rfl rfl rfl (fun _ => R_xor32 rfl rfl) ?_
  refine EP_act rfl rfl (O_call hs [] [] rfl rfl rfl Tryz.call349 (down_spec _ 25 (by omega)) (fun v es1 ds1 w hPhi hs => ?_))
  obtain ⟨rfl, rfl, rfl⟩ := hPhi
  refine ⟨(fun _ => RdS.of hs rfl rfl), ?_⟩
  refine EP_take rfl rfl rfl (fun _ => R_xor32 rfl rfl) ?_
  refine EP_take rfl rfl rfl (fun _ => R_add32 rfl rfl) ?_
  refine EP_take rfl rfl rfl (fun _ => R_add32 rfl rfl) ?_
  refine EP_take rfl rfl rfl (fun _ => R_add32 rfl rfl) ?_
  refine EP_take rfl rfl rfl (fun _ => R_add32 rfl rfl) ?_
  refine EP_take rfl rfl rfl (fun _ => R_assign rfl) ?_
  refine EP_done ?_
  refine EC_rseq ?_
  refine EL_run rfl (R_move rfl) ?_
  refine EL_op rfl (O_call hs [] [] rfl rfl rfl Tryz.call349 (down_spec _ 2 (by omega)) (fun v es1 ds1 w hPhi hs => ?_))
  obtain ⟨rfl, rfl, rfl⟩ := hPhi
  refine EL_run rfl (R_move rfl) ?_
  refine EL_op rfl (O_call hs [] [] rfl rfl rfl Tryz.call349 (down_spec _ 13 (by omega)) (fun v es1 ds1 w hPhi hs => ?_))
  obtain ⟨rfl, rfl, rfl⟩ := hPhi
  refine EL_run rfl (R_xor32 rfl rfl) ?_
  refine EL_run rfl (R_move rfl) ?_
  refine EL_op rfl (O_call hs [] [] rfl rfl rfl Tryz.call349 (down_spec _ 22 (by omega)) (fun v es1 ds1 w hPhi hs => ?_))
  obtain ⟨rfl, rfl, rfl⟩ := hPhi
  refine EL_run rfl (R_xor32 rfl rfl) ?_
  refine EL_run rfl (R_move rfl) ?_
  refine EL_run rfl (R_add32 rfl rfl) ?_
  refine EL_run rfl (R_assign rfl) ?_
  refine EL_nil ?_
  refine EC_rseq ?_
  refine EL_run rfl (R_move rfl) ?_
  refine EL_run rfl (R_move rfl) ?_
  refine EL_run rfl (R_move rfl) ?_
  refine EL_run rfl (R_move rfl) ?_
  refine EL_run rfl (R_move rfl) ?_
  refine EL_run rfl (R_add32 rfl rfl) ?_
  refine EL_run rfl (R_assign rfl) ?_
  refine EL_run rfl (R_assign rfl) ?_
  refine EL_run rfl (R_assign rfl) ?_
  refine EL_run rfl (R_assign rfl) ?_
  refine EL_nil ?_
  refine EC_region ?_
  refine EL_run rfl (R_move rfl) ?_
  refine EL_run rfl (R_move rfl) ?_
  refine EL_run rfl (R_move rfl) ?_
  refine EL_run rfl (R_move rfl) ?_
  refine EL_run rfl (R_move rfl) ?_
  refine EL_run rfl (R_add32 rfl rfl) ?_
  refine EL_run rfl (R_assign rfl) ?_
  refine EL_run rfl (R_assign rfl) ?_
  refine EL_run rfl (R_assign rfl) ?_
  refine EL_run rfl (R_assign rfl) ?_
  refine EL_nil ?_
  refine InBlock_n ?_
  refine Then_n ?_
  refine EC_region ?_
  refine EL_run rfl (R_addI rfl rfl (by omega)) ?_
  refine EL_run rfl (R_move rfl) ?_
  refine EL_nil ?_
  refine Then_n ?_
  exact ⟨64 - (i + 1), by omega, i + 1, shaRound (spread b) i q, rfl, by omega, by rw [hq]; rfl, ⟨rfl, rfl, rfl, rfl, rfl, rfl, rfl, rfl, rfl, rfl, rfl, rfl, rfl, trivial⟩, hs⟩
 ·have hc50p := cvt hc50; try dsimp only at hc50p
  refine EC_exit ?_
  refine Then_e ?_
  refine Then_e ?_
  refine InBlock_hit rfl ?_
  refine Then_n ?_
  refine EC_seq ?_
  obtain rfl : i = 64 := by omega
  refine EC_rseq ?_
  refine EL_run rfl (R_move rfl) ?_
  refine EL_run rfl (R_move rfl) ?_
  refine EL_run rfl (R_move rfl) ?_
  refine EL_run rfl (R_move rfl) ?_
  refine EL_run rfl (R_move rfl) ?_
  refine EL_run rfl (R_move rfl) ?_
  refine EL_run rfl (R_move rfl) ?_
  refine EL_run rfl (R_move rfl) ?_
  refine EL_run rfl (R_buildA (cs := (u32s q.l).toArray) [.tmp 114, .tmp 115, .tmp 116, .tmp 117, .tmp 118, .tmp 119, .tmp 120, .tmp 121] Tryz.underlying403 Tryz.zeroValue403 Tryz.sizeOf29 rfl rfl (by simp [Value.cells, V32, V8]) rfl rfl) ?_
  refine EL_run rfl (R_move rfl) ?_
  refine EL_nil ?_
  refine EC_block ?_
  refine EC_loop (fun m ρ w => ∃ (i : Nat), m = 8 - i ∧ i ≤ 8 ∧ Slots ρ [(2, .pointer (some ⟨b2, 0, none⟩)), (4, .pointer (some ⟨b4, 0, none⟩)), (122, .agg (u32s q.l).toArray), (123, .int .i64 (i : Int))] ∧ St w0 F D [blk b2 (ShaSt.mk (addTo s.h q.l i) s.n).cells 405, blk b3 (u8s b).toArray 408, blk b4 shaZero.cells 405] [] w) (8) (⟨0, by omega, by omega, ⟨rfl, rfl, rfl, rfl, trivial⟩, (hs.fin [true, true, true] []).as rfl rfl⟩) ?_
  rintro m ρ w ⟨i, rfl, hi, hsl, hs⟩
  refine EC_slots _ hsl ?_
  refine EC_rseq ?_
  refine EL_run rfl (R_lss rfl rfl) ?_
  refine EL_nil ?_
  refine EC_seq ?_
  refine EC_cond rfl (fun hc124 => ?_) (fun hc124 => ?_)
  ·have hc124p := cvt hc124; try dsimp only at hc124p
   refine EC_skip ?_
   refine Then_n ?_
   refine EC_seq ?_
   refine EC_block ?_
   refine EC_rseq ?_
   refine EL_run rfl (R_move rfl) ?_
   refine EL_run rfl (R_indexV Tryz.underlying403 Tryz.sizeOf29 Tryz.isAgg29 rfl rfl (by omega) (by omega) (u32s_getD (i := i) (by simp) (show i < 8 by omega))) ?_
   refine EL_run rfl (R_assign rfl) ?_
   refine EL_run rfl (R_assign rfl) ?_
   refine EL_nil ?_
   refine EC_region ?_
   refine EL_run rfl (R_move rfl) ?_
   refine EL_run rfl (R_field fo_405_0 rfl) ?_
   refine EL_run rfl (R_idxA as_403 rfl rfl (by omega) (by omega)) ?_
   refine EL_run rfl (R_lb (hs.at (i := 0) rfl) Tryz.isAgg29 rfl (ShaSt.cell (by rw [addTo_len]; exact h8) i (by simp) (by omega))) ?_
   refine EL_run rfl (R_move rfl) ?_
   refine EL_run rfl (R_add32 rfl rfl) ?_
   refine EL_run rfl (R_field fo_405_0 rfl) ?_
   refine EL_run rfl (R_idxA as_403 rfl rfl (by omega) (by omega)) ?_
   refine EL_op rfl (O_store hs (i := 0) rfl Tryz.sizeOf29 rfl rfl rfl (by rw [ShaSt.size _ (by rw [addTo_len]; exact h8)]; simp; omega) (fun w hs => ?_))
   refine EL_nil ?_
   refine InBlock_n ?_
   refine Then_n ?_
   refine EC_region ?_
   refine EL_run rfl (R_addI rfl rfl (by omega)) ?_
   refine EL_run rfl (R_move rfl) ?_
   refine EL_nil ?_
   refine Then_n ?_
   exact ⟨8 - (i + 1), by omega, i + 1, rfl, by omega, ⟨rfl, rfl, rfl, rfl, trivial⟩, hs.as (by rw [ShaSt.set (by rw [addTo_len]; exact h8) i (by simp) (by omega)]; rfl) rfl⟩
  ·have hc124p := cvt hc124; try dsimp only at hc124p
   refine EC_exit ?_
   refine Then_e ?_
   refine Then_e ?_
   refine InBlock_hit rfl ?_
   refine Then_n ?_
   obtain rfl : i = 8 := by omega
   refine EC_rseq ?_
   refine EL_run rfl (R_field fo_405_1 rfl) ?_
   refine EL_run rfl (R_lb (hs.at (i := 0) rfl) Tryz.isAgg328 rfl (ShaSt.cell_n (by rw [addTo_len]; exact h8) rfl)) ?_
   refine EL_run rfl (R_addU (q := 64) rfl rfl rfl) ?_
   refine EL_run rfl (R_field fo_405_1 rfl) ?_
   refine EL_op rfl (O_store hs (i := 0) rfl Tryz.sizeOf328 rfl rfl rfl (by rw [ShaSt.size _ (by rw [addTo_len]; exact h8)]; rfl) (fun w hs => ?_))
   have hs : St w0 F D [blk b2 (shaBlock s b).cells 405, blk b3 (u8s b).toArray 408, blk b4 shaZero.cells 405] [] w := hs.as (by rw [ShaSt.set_n (by rw [addTo_len]; exact h8) rfl]; rw [hq]; rfl) rfl
   refine EL_nil ?_
   refine EC_rseq ?_
   refine EL_run rfl (R_lw (hs.at (i := 0) rfl) Tryz.isAgg405 Tryz.sizeOf405 rfl (ShaSt.size _ (by rw [shaBlock, shaH_len]; exact h8))) ?_
   refine EL_op rfl (O_storeW hs (i := 2) rfl sz_405 rfl rfl rfl (ShaSt.size _ (by rw [shaBlock, shaH_len]; exact h8)) (ShaSt.oneA _) (fun w hs => ?_))
   refine EL_nil ?_
   refine EC_ret ?_
   exact ⟨[_], ⟨res_cell hs (i := 2) rfl Tryz.sizeOf405 Tryz.isAgg405 rfl (ShaSt.size _ (by rw [shaBlock, shaH_len]; exact h8)), trivial⟩, _, _, ⟨rfl, rfl, rfl⟩, (hs.fin [] []).as rfl rfl⟩

set_option maxRecDepth 100000 in
theorem shaEnd_spec (s : ShaSt) (ao : Option Addr) (c : Nat) (b : BL) {w0 : World} (h8 : s.h.length = 8) (hn8 : s.n < 2 ^ 64) (hb : b.length ≤ 1000000000) : Spec Tryz.prog 335 #[.agg s.cells, .slice ao b.length c] w0 [] [dB ao c b] (fun v es1 ds1 => v = .agg (u8s (shaEnd s b)).toArray ∧ es1 = [] ∧ ds1 = []) := by
 refine Spec.intro (fun F D hs => ?_)
 refine Calls_of_EC (args := [.agg s.cells, .slice ao b.length c]) Tryz.func335 rfl rfl rfl ?_
 refine EC_rseq ?_
 refine EL_op rfl (O_box hs rfl rfl (fun b2 w hb2 hs => ?_))
 refine EL_op rfl (O_alloc hs rfl Tryz.zeroValue30 (fun b4 w hb4 hs => ?_))
 refine EL_nil ?_
 refine EC_rseq ?_
 refine EL_run rfl (R_move rfl) ?_
 refine EL_run rfl (R_move rfl) ?_
 refine EL_run rfl (R_lenS Tryz.underlying36 rfl) ?_
 refine EL_run rfl (R_min rfl rfl) ?_
 refine EL_run rfl (R_sliceHi es_36 rfl rfl (by omega) (by have := (hs.rd (i := 0) rfl).1.1; omega)) ?_
 have hs := hs.dBtake (j := 0) rfl 63
 obtain ⟨r, hr⟩ : ∃ r, r = b.take 63 := ⟨_, rfl⟩
 have hrl : r.length = min b.length 63 := by rw [hr, List.length_take, Nat.min_comm]
 rw [show (min (b.length : Int) 63).toNat = r.length by omega]
 rw [← hr] at hs
 refine EL_run rfl (R_assign rfl) ?_
 refine EL_nil ?_
 refine EC_rseq ?_
 refine EL_run rfl (R_field fo_405_1 rfl) ?_
 refine EL_run rfl (R_lb (hs.at (i := 0) rfl) Tryz.isAgg328 rfl (ShaSt.cell_n h8 rfl)) ?_
 refine EL_run rfl (R_move rfl) ?_
 refine EL_run rfl (R_lenS Tryz.underlying36 rfl) ?_
 refine EL_run rfl (R_convN rfl Tryz.underlying3 Tryz.underlying328 rfl (by simp [IntKind.bits]; omega)) ?_
 refine EL_run rfl (R_addU rfl rfl rfl) ?_
 refine EL_run rfl (R_mulU (p := 8) rfl rfl rfl) ?_
 refine EL_run rfl (R_assign rfl) ?_
 obtain ⟨n, hn⟩ : ∃ n, n = 8 * ((s.n + r.length) % 2 ^ IntKind.u64.bits) % 2 ^ IntKind.u64.bits := ⟨_, rfl⟩
 rw [← hn]
 have hn64 : n < 2 ^ 64 := by rw [hn]; exact Nat.mod_lt _ (by decide)
 refine EL_nil ?_
 refine EC_rseq ?_
 refine EL_op rfl (O_alloc hs rfl Tryz.zeroValue408 (fun b6 w hb6 hs => ?_))
 refine EL_nil ?_
 refine EC_rseq ?_
 refine EL_run rfl (R_sliceArr Tryz.underlying408 Tryz.sizeOf5 rfl) ?_
 refine EL_run rfl (R_move rfl) ?_
 refine EL_op rfl (O_copy hs (i := 2) rfl rfl Tryz.underlying36 sz_5 rfl rfl (Src.data (hs.rd (i := 1) rfl)) (by decide) (u8s_one _) (fun w hs => ?_))
 have hs := hs.as (es' := [blk b2 s.cells 405, blk b4 (u8s (List.replicate 32 0)).toArray 30, blk b6 (u8s (r ++ List.replicate (64 - r.length) 0)).toArray 408]) (by rw [← copy0 r (by omega)]; rfl) rfl
 refine EL_run rfl (R_idxA as_408 rfl rfl (by omega) (by omega)) ?_
 refine EL_op rfl (O_store hs (i := 2) rfl Tryz.sizeOf5 rfl rfl rfl (by simp [u8s]; omega) (fun w hs => ?_))
 have hs := hs.as (es' := [blk b2 s.cells 405, blk b4 (u8s (List.replicate 32 0)).toArray 30, blk b6 (u8s (shaB0 r)).toArray 408]) (by rw [shaB0, ← u8s_set _ r.length (0 + (min r.length 64 : Nat) * 1) (by omega)]; rfl) rfl
 refine EL_nil ?_
 refine EC_cut (fun ρ w => Slots ρ [(2, .pointer (some ⟨b2, 0, none⟩)), (4, .pointer (some ⟨b4, 0, none⟩)), (5, .int .u64 (n : Int)), (6, .pointer (some ⟨b6, 0, none⟩))] ∧ St w0 F D [blk b2 (shaPad s r).1.cells 405, blk b4 (u8s (List.replicate 32 0)).toArray 30, blk b6 (u8s (shaPad s r).2).toArray 408] [dB ao c b, dB ao c r] w) ?_ ?_
 ·skip
  refine EC_rseq ?_
  refine EL_run rfl (R_move rfl) ?_
  refine EL_run rfl (R_lenS Tryz.underlying36 rfl) ?_
  refine EL_run rfl (R_geq rfl rfl) ?_
  refine EL_nil ?_
  refine EC_cond rfl (fun hc28 => ?_) (fun hc28 => ?_)
  ·have hc28p := cvt hc28; try dsimp only at hc28p
   refine EC_rseq ?_
   refine EL_run rfl (R_lw (hs.at (i := 0) rfl) Tryz.isAgg405 Tryz.sizeOf405 rfl (ShaSt.size _ (by first | exact h8 | exact hp8))) ?_
   refine EL_run rfl (R_lw (hs.at (i := 2) rfl) Tryz.isAgg408 Tryz.sizeOf408 rfl (by simp [u8s, shaB0_len r (by omega)])) ?_
   refine EL_op rfl (O_call hs [] [] rfl rfl rfl Tryz.call334 (shaBlock_spec s (shaB0 r) h8 (shaB0_len r (by omega))) (fun v es1 ds1 w hPhi hs => ?_))
   obtain ⟨rfl, rfl, rfl⟩ := hPhi
   refine EL_op rfl (O_storeW hs (i := 0) rfl sz_405 rfl rfl (ShaSt.size _ h8) (ShaSt.size _ (by simp [shaBlock, shaH_len, h8])) (ShaSt.oneA _) (fun w hs => ?_))
   refine EL_nil ?_
   refine EC_region ?_
   refine EL_run rfl (R_build0A Tryz.underlying408 Tryz.zeroValue408 Tryz.sizeOf5) ?_
   refine EL_op rfl (O_storeW hs (i := 2) rfl sz_408 rfl rfl (by simp [u8s, shaB0_len r (by omega)]) rfl (u8s_oneA (List.replicate 64 0)) (fun w hs => ?_))
   refine EL_nil ?_
   refine Then_n ?_
   exact ⟨⟨rfl, rfl, rfl, rfl, trivial⟩, hs.as (by rw [shaPad, if_pos (by omega)]; rfl) rfl⟩
  ·have hc28p := cvt hc28; try dsimp only at hc28p
   refine EC_skip ?_
   refine Then_n ?_
   exact ⟨⟨rfl, rfl, rfl, rfl, trivial⟩, hs.as (by rw [shaPad, if_neg (by omega)]) rfl⟩
 ·rintro ρ w ⟨hsl, hs⟩
  refine EC_slots _ hsl ?_
  have hp8 : (shaPad s r).1.h.length = 8 := by unfold shaPad; split <;> simp [shaBlock, shaH_len, h8]
  have hp64 : (shaPad s r).2.length = 64 := by unfold shaPad; split <;> simp [shaB0_len r (by omega)]
  have hend : shaEnd s b = shaOut (shaBlock (shaPad s r).1 (shaLens n (shaPad s r).2 8)).h 32 := by rw [shaEnd, ← hr, hn]; rfl
  generalize (shaPad s r).1 = s2 at *
  generalize (shaPad s r).2 = q2 at *
  refine EC_seq ?_
  refine EC_rseq ?_
  refine EL_run rfl (R_move rfl) ?_
  refine EL_nil ?_
  refine EC_block ?_
  refine EC_loop (fun m ρ w => ∃ (i : Nat), m = 8 - i ∧ i ≤ 8 ∧ Slots ρ [(2, .pointer (some ⟨b2, 0, none⟩)), (4, .pointer (some ⟨b4, 0, none⟩)), (5, .int .u64 (n : Int)), (6, .pointer (some ⟨b6, 0, none⟩)), (33, .int .i64 (i : Int))] ∧ St w0 F D [blk b2 s2.cells 405, blk b4 (u8s (List.replicate 32 0)).toArray 30, blk b6 (u8s (shaLens n q2 i)).toArray 408] [dB ao c b, dB ao c r] w) (8) (⟨0, by omega, by omega, ⟨rfl, rfl, rfl, rfl, rfl, trivial⟩, hs⟩) ?_
  rintro m ρ w ⟨i, rfl, hi, hsl, hs⟩
  refine EC_slots _ hsl ?_
  refine EC_rseq ?_
  refine EL_run rfl (R_lss rfl rfl) ?_
  refine EL_nil ?_
  refine EC_seq ?_
  refine EC_cond rfl (fun hc34 => ?_) (fun hc34 => ?_)
  ·have hc34p := cvt hc34; try dsimp only at hc34p
   refine EC_skip ?_
   refine Then_n ?_
   refine EC_seq ?_
   refine EC_block ?_
   refine EC_rseq ?_
   refine EL_run rfl (R_move rfl) ?_
   refine EL_run rfl (R_assign rfl) ?_
   refine EL_nil ?_
   refine EC_region ?_
   refine EL_run rfl (R_move rfl) ?_
   refine EL_run rfl (R_subI rfl rfl (by omega)) ?_
   refine EL_run rfl (R_move rfl) ?_
   refine EL_run rfl (R_move rfl) ?_
   refine EL_run rfl (R_mulI rfl rfl (by omega)) ?_
   refine EL_run rfl (R_shrU (8 * i) rfl rfl (by omega) hn64) ?_
   refine EL_run rfl (R_convU8 Tryz.underlying328 Tryz.underlying5 rfl) ?_
   refine EL_run rfl (R_idxA as_408 rfl rfl (by omega) (by omega)) ?_
   refine EL_op rfl (O_store hs (i := 2) rfl Tryz.sizeOf5 rfl rfl rfl (by simp [u8s, shaLens_len, hp64]; omega) (fun w hs => ?_))
   refine EL_nil ?_
   refine InBlock_n ?_
   refine Then_n ?_
   refine EC_region ?_
   refine EL_run rfl (R_addI rfl rfl (by omega)) ?_
   refine EL_run rfl (R_move rfl) ?_
   refine EL_nil ?_
   refine Then_n ?_
   exact ⟨8 - (i + 1), by omega, i + 1, rfl, by omega, ⟨rfl, rfl, rfl, rfl, rfl, trivial⟩, hs.as (by rw [u8s_set _ (63 - i) _ (by omega)]; rfl) rfl⟩
  ·have hc34p := cvt hc34; try dsimp only at hc34p
   refine EC_exit ?_
   refine Then_e ?_
   refine Then_e ?_
   refine InBlock_hit rfl ?_
   refine Then_n ?_
   obtain rfl : i = 8 := by omega
   refine EC_rseq ?_
   refine EL_run rfl (R_lw (hs.at (i := 0) rfl) Tryz.isAgg405 Tryz.sizeOf405 rfl (ShaSt.size _ (by first | exact h8 | exact hp8))) ?_
   refine EL_run rfl (R_lw (hs.at (i := 2) rfl) Tryz.isAgg408 Tryz.sizeOf408 rfl (by simp [u8s, shaLens_len, hp64])) ?_
   refine EL_op rfl (O_call hs [] [] rfl rfl rfl Tryz.call334 (shaBlock_spec s2 (shaLens n q2 8) hp8 (by rw [shaLens_len]; exact hp64)) (fun v es1 ds1 w hPhi hs => ?_))
   obtain ⟨rfl, rfl, rfl⟩ := hPhi
   refine EL_op rfl (O_storeW hs (i := 0) rfl sz_405 rfl rfl (ShaSt.size _ hp8) (ShaSt.size _ (by simp [shaBlock, shaH_len, hp8])) (ShaSt.oneA _) (fun w hs => ?_))
   refine EL_nil ?_
   refine EC_rseq ?_
   refine EL_op rfl (O_alloc hs rfl Tryz.zeroValue30 (fun b8 w hb8 hs => ?_))
   refine EL_nil ?_
   refine EC_seq ?_
   refine EC_rseq ?_
   refine EL_run rfl (R_move rfl) ?_
   refine EL_nil ?_
   refine EC_block ?_
   refine EC_loop (fun m ρ w => ∃ (i : Nat), m = 32 - i ∧ i ≤ 32 ∧ Slots ρ [(2, .pointer (some ⟨b2, 0, none⟩)), (4, .pointer (some ⟨b4, 0, none⟩)), (8, .pointer (some ⟨b8, 0, none⟩)), (48, .int .i64 (i : Int))] ∧ St w0 F D [blk b2 (shaBlock s2 (shaLens n q2 8)).cells 405, blk b4 (u8s (List.replicate 32 0)).toArray 30, blk b6 (u8s (shaLens n q2 8)).toArray 408, blk b8 (u8s (shaOut (shaBlock s2 (shaLens n q2 8)).h i)).toArray 30] [dB ao c b, dB ao c r] w) (32) (⟨0, by omega, by omega, ⟨rfl, rfl, rfl, rfl, trivial⟩, hs⟩) ?_
   rintro m ρ w ⟨i, rfl, hi, hsl, hs⟩
   refine EC_slots _ hsl ?_
   refine EC_rseq ?_
   refine EL_run rfl (R_lss rfl rfl) ?_
   refine EL_nil ?_
   refine EC_seq ?_
   refine EC_cond rfl (fun hc49 => ?_) (fun hc49 => ?_)
   ·have hc49p := cvt hc49; try dsimp only at hc49p
    refine EC_skip ?_
    refine Then_n ?_
    refine EC_seq ?_
    refine EC_block ?_
    refine EC_rseq ?_
    refine EL_run rfl (R_move rfl) ?_
    refine EL_run rfl (R_assign rfl) ?_
    refine EL_nil ?_
    refine EC_region ?_
    refine EL_run rfl (R_move rfl) ?_
    refine EL_run rfl (R_move rfl) ?_
    refine EL_run rfl (R_quoI rfl rfl (by omega) (by omega) (by omega)) ?_
    refine EL_run rfl (R_field fo_405_0 rfl) ?_
    refine EL_run rfl (R_idxA as_403 rfl rfl (by omega) (by omega)) ?_
    refine EL_run rfl (R_lb (hs.at (i := 0) rfl) Tryz.isAgg29 rfl (ShaSt.cell (by simp [shaBlock, shaH_len, hp8]) (i / 4) (by omega) (by omega))) ?_
    refine EL_run rfl (R_move rfl) ?_
    refine EL_run rfl (R_remI rfl rfl (by omega) (by omega) (by omega)) ?_
    refine EL_run rfl (R_subI rfl rfl (by omega)) ?_
    refine EL_run rfl (R_mulI rfl rfl (by omega)) ?_
    refine EL_run rfl (R_shr32 (8 * (3 - i % 4)) rfl rfl (by omega)) ?_
    refine EL_run rfl (R_conv32to8 Tryz.underlying29 Tryz.underlying5 rfl) ?_
    refine EL_run rfl (R_idxA as_30 rfl rfl (by omega) (by omega)) ?_
    refine EL_op rfl (O_store hs (i := 3) rfl Tryz.sizeOf5 rfl rfl rfl (by simp [u8s, shaOut_len]; omega) (fun w hs => ?_))
    refine EL_nil ?_
    refine InBlock_n ?_
    refine Then_n ?_
    refine EC_region ?_
    refine EL_run rfl (R_addI rfl rfl (by omega)) ?_
    refine EL_run rfl (R_move rfl) ?_
    refine EL_nil ?_
    refine Then_n ?_
    exact ⟨32 - (i + 1), by omega, i + 1, rfl, by omega, ⟨rfl, rfl, rfl, rfl, trivial⟩, hs.as (by rw [u8s_set _ i _ (by omega)]; rfl) rfl⟩
   ·have hc49p := cvt hc49; try dsimp only at hc49p
    refine EC_exit ?_
    refine Then_e ?_
    refine Then_e ?_
    refine InBlock_hit rfl ?_
    refine Then_n ?_
    obtain rfl : i = 32 := by omega
    refine EC_rseq ?_
    refine EL_run rfl (R_lw (hs.at (i := 3) rfl) Tryz.isAgg30 Tryz.sizeOf30 rfl (by simp [u8s, shaOut_len])) ?_
    refine EL_op rfl (O_storeW hs (i := 1) rfl sz_30 rfl rfl (by simp [u8s]) (by simp [u8s, shaOut_len]) (u8s_oneA _) (fun w hs => ?_))
    refine EL_nil ?_
    refine EC_ret ?_
    exact ⟨[_], ⟨res_cell hs (i := 1) rfl Tryz.sizeOf30 Tryz.isAgg30 rfl (by simp [u8s, shaOut_len]), trivial⟩, _, _, ⟨by rw [hend]; rfl, rfl, rfl⟩, (hs.fin [] []).as rfl rfl⟩

set_option maxRecDepth 100000 in
theorem shaSum_spec (ao : Option Addr) (c : Nat) (b : BL) {w0 : World} (hb : b.length ≤ 1000000000) : Spec Tryz.prog 304 #[.slice ao b.length c] w0 [] [dB ao c b] (fun v es1 ds1 => v = .agg (u8s (shaSum b)).toArray ∧ es1 = [] ∧ ds1 = []) := by
 refine Spec.intro (fun F D hs => ?_)
 refine Calls_of_EC (args := [.slice ao b.length c]) Tryz.func304 rfl rfl rfl ?_
 refine EC_rseq ?_
 refine EL_op rfl (O_alloc hs rfl Tryz.zeroValue30 (fun b2 w hb2 hs => ?_))
 refine EL_nil ?_
 refine EC_rseq ?_
 refine EL_op rfl (O_call hs [] [] rfl rfl rfl Tryz.call333 (shaBegin_spec) (fun v es1 ds1 w hPhi hs => ?_))
 obtain ⟨rfl, rfl, rfl⟩ := hPhi
 refine EL_op rfl (O_alloc hs rfl Tryz.zeroValue405 (fun b3 w hb3 hs => ?_))
 refine EL_op rfl (O_storeW hs (i := 1) rfl sz_405 rfl rfl rfl rfl (ShaSt.oneA _) (fun w hs => ?_))
 refine EL_nil ?_
 refine EC_seq ?_
 refine EC_block ?_
 refine EC_loop (fun m ρ w => ∃ (s : ShaSt) (q : BL) (qo : Option Addr) (qc : Nat), m = q.length ∧ q.length ≤ b.length ∧ s.h.length = 8 ∧ s.n < 2 ^ 64 ∧ shaGo s q = shaSum b ∧ Slots ρ [(0, .slice qo q.length qc), (2, .pointer (some ⟨b2, 0, none⟩)), (3, .pointer (some ⟨b3, 0, none⟩))] ∧ St w0 F D [blk b2 (u8s (List.replicate 32 0)).toArray 30, blk b3 s.cells 405] [dB qo qc q] w) (b.length) (⟨shaBegin, b, ao, c, rfl, Nat.le_refl _, rfl, by decide, rfl, ⟨rfl, rfl, rfl, trivial⟩, hs⟩) ?_
 rintro m ρ w ⟨s, q, qo, qc, rfl, hql, h8, hn8, hgo, hsl, hs⟩
 refine EC_slots _ hsl ?_
 refine EC_seq ?_
 refine EC_rseq ?_
 refine EL_run rfl (R_move rfl) ?_
 refine EL_run rfl (R_lenS Tryz.underlying36 rfl) ?_
 refine EL_run rfl (R_geq rfl rfl) ?_
 refine EL_nil ?_
 refine EC_cond rfl (fun hc7 => ?_) (fun hc7 => ?_)
 ·have hc7p := cvt hc7; try dsimp only at hc7p
  obtain ⟨bb, oo, rfl⟩ := dSl.some (hs.rd (i := 0) rfl) (u8s_nil (i := 0) (by omega))
  refine EC_skip ?_
  refine Then_n ?_
  refine EC_seq ?_
  refine EC_block ?_
  refine EC_drawS hs [4, 5] [0, 3] [1] [0] (.take 0 (.take 1 (.take 2 (.take 3 (.fork 4 (.fork 5 .done (.done)) (.done)))))) mix_ok (by kernel_rfl) (fun w hs _ => ?_)
  refine EP_read rfl rfl rfl (RdS.of hs rfl rfl) (fun _ hR => R_lw (hR.e 1 rfl rfl) Tryz.isAgg405 Tryz.sizeOf405 rfl (ShaSt.size _ h8)) ?_
  refine EP_take rfl rfl rfl (fun _ => R_move rfl) ?_
  refine EP_take rfl rfl rfl (fun _ => R_arrPtr Tryz.underlying408 rfl (by omega)) ?_
  refine EP_read rfl rfl rfl (RdS.of hs rfl rfl) (fun _ hR => R_ldR (i := 0) (vs := u8s (q.take 64)) (hR.d 0 rfl rfl) Tryz.isAgg408 Tryz.sizeOf408 rfl rfl (by simp [u8s]; omega) (u8s_nil (i := 0) (by omega)) (fun j u hu => by rw [Nat.zero_add]; exact u8s_take_get hu)) ?_
  refine EP_act rfl rfl (O_call hs [] [] rfl rfl rfl Tryz.call334 (shaBlock_spec s (q.take 64) h8 (by rw [List.length_take]; omega)) (fun v es1 ds1 w hPhi hs => ?_))
  obtain ⟨rfl, rfl, rfl⟩ := hPhi
  refine ⟨(rq_no (by kernel_rfl)), ?_⟩
  refine EP_act rfl rfl (O_storeW hs (i := 1) rfl sz_405 rfl rfl (ShaSt.size _ h8) (ShaSt.size _ (by simp [shaBlock, shaH_len, h8])) (ShaSt.oneA _) (fun w hs => ⟨(rq_no (by kernel_rfl)), ?_⟩))
  refine EP_done ?_
  refine InBlock_n ?_
  refine Then_n ?_
  have hs := hs.dBdrop (j := 0) rfl 64 (by omega)
  refine EC_region ?_
  refine EL_run rfl (R_move rfl) ?_
  refine EL_run rfl (R_sliceLo es_36 rfl rfl (by omega) (by omega)) ?_
  refine EL_run rfl (R_assign rfl) ?_
  refine EL_nil ?_
  refine Then_n ?_
  exact ⟨(q.drop 64).length, by rw [List.length_drop]; omega, shaBlock s (q.take 64), q.drop 64, _, _, rfl, by rw [List.length_drop]; omega, by simp [shaBlock, shaH_len, h8], Nat.mod_lt _ (by decide), by rw [← hgo]; conv => rhs; rw [shaGo, dif_pos (by omega)], ⟨by rw [List.length_drop]; rfl, rfl, rfl, trivial⟩, (hs.fin [true, true] [1]).as rfl rfl⟩
 ·have hc7p := cvt hc7; try dsimp only at hc7p
  refine EC_exit ?_
  refine Then_e ?_
  refine Then_e ?_
  refine InBlock_hit rfl ?_
  refine Then_n ?_
  refine EC_rseq ?_
  refine EL_run rfl (R_lw (hs.at (i := 1) rfl) Tryz.isAgg405 Tryz.sizeOf405 rfl (ShaSt.size _ h8)) ?_
  refine EL_run rfl (R_move rfl) ?_
  refine EL_op rfl (O_call hs [] [0] rfl rfl rfl Tryz.call335 (shaEnd_spec s qo qc q h8 hn8 (by omega)) (fun v es1 ds1 w hPhi hs => ?_))
  obtain ⟨rfl, rfl, rfl⟩ := hPhi
  refine EL_op rfl (O_storeW hs (i := 0) rfl sz_30 rfl rfl (by simp [u8s]) (by simp [u8s, shaEnd_len]) (u8s_oneA _) (fun w hs => ?_))
  have hgo2 : shaEnd s q = shaSum b := by rw [← hgo, shaGo, dif_neg (by omega)]
  rw [hgo2] at hs
  refine EL_nil ?_
  refine EC_ret ?_
  exact ⟨[_], ⟨res_cell hs (i := 0) rfl Tryz.sizeOf30 Tryz.isAgg30 rfl (by simp [u8s, shaSum_len]), trivial⟩, _, _, ⟨rfl, rfl, rfl⟩, (hs.fin [] []).as rfl rfl⟩
end Go.Proofs.YtpcojkbljgpecaaGreat
namespace Go.Proofs.YtpcojkbljgpecaaGreat
open Go
def sectors (len : Int) : Int := if len < 1 ∨ len > 65536 then 0 else (len + 511) / 512
theorem sectors_range (len : Int) : 0 ≤ sectors len ∧ sectors len ≤ 128 := by unfold sectors; split <;> omega
def Ptr.right (p : Ptr) : Bool := decide (1 ≤ p.birth ∧ p.birth ≤ 1152921504606846976) && decide (0 < sectors p.len) && decide (2 ≤ p.pos ∧ p.pos ≤ 8192 - sectors p.len)
theorem Ptr.right_iff {p : Ptr} : p.right = true ↔ (1 ≤ p.birth ∧ p.birth ≤ 1152921504606846976) ∧ (1 ≤ p.len ∧ p.len ≤ 65536) ∧ (2 ≤ p.pos ∧ p.pos ≤ 8192 - sectors p.len) := by
  have h : 0 < sectors p.len ↔ 1 ≤ p.len ∧ p.len ≤ 65536 := by unfold sectors; split <;> omega
  unfold Ptr.right
  rw [Bool.and_eq_true, Bool.and_eq_true, decide_eq_true_eq, decide_eq_true_eq, decide_eq_true_eq, h]
  exact ⟨fun ⟨⟨a, b⟩, c⟩ => ⟨a, b, c⟩, fun ⟨a, b, c⟩ => ⟨⟨a, b⟩, c⟩⟩
def Ptr.of (pos birth : Int) (b : BL) : Ptr := ⟨pos, birth, b.length, crcSum b, shaSum b, shaSum_len b⟩
/-- An error's number. -/
def Ptr.check (p : Ptr) (b : BL) : Int := if p.right = false then 2 else if (b.length : Int) ≠ p.len ∨ p ≠ Ptr.of p.pos p.birth b then 12 else 0
end Go.Proofs.YtpcojkbljgpecaaGreat
namespace Go.Proofs.YtpcojkbljgpecaaGreat
open Go
theorem of_fill (pos birth : Int) (b : BL) : Instr.fill (fun i => [(0, 1), (1, 1), (2, 1), (3, 1), (4, 32)][i]?) Ptr.none.cells [(0, .int .i64 pos), (1, .int .i64 birth), (2, .int .i64 (b.length : Int)), (3, V32 (crcSum b)), (4, .agg (u8s (shaSum b)).toArray)] = some (Ptr.of pos birth b).cells := by
  have h := fill_consec (fun i => [(0, 1), (1, 1), (2, 1), (3, 1), (4, 32)][i]?) [.int .i64 pos, .int .i64 birth, .int .i64 (b.length : Int), V32 (crcSum b), .agg (u8s (shaSum b)).toArray] 0 0 Ptr.none.cells (fun j v hj => by
    match j with
    | 0 => cases hj; rfl
    | 1 => cases hj; rfl
    | 2 => cases hj; rfl
    | 3 => cases hj; rfl
    | 4 =>
      cases hj
      simp [Value.cells, V32, u8s, shaSum_len]
    | j + 5 => simp at hj) (by
    simp [Value.cells, V32, u8s, shaSum_len]; rfl)
  exact h.trans (by congr 1; simp [Ptr.of, Ptr.cells, Ptr.l, Value.cells, V32])
set_option maxRecDepth 100000 in
theorem ptrNone_spec (p : Ptr) {w0 : World} : Spec Tryz.prog 29 #[p.val] w0 [] [] (fun v es1 ds1 => v = .bool (decide (p = Ptr.none)) ∧ es1 = [] ∧ ds1 = []) := by
 refine Spec.intro (fun F D hs => ?_)
 refine Calls_of_EC (args := [p.val]) Tryz.func29 rfl rfl rfl ?_
 refine EC_rseq ?_
 refine EL_op rfl (O_box hs rfl rfl (fun b1 w hb1 hs => ?_))
 refine EL_run rfl (R_assign rfl) ?_
 refine EL_nil ?_
 refine EC_rseq ?_
 refine EL_run rfl (R_lw (hs.at (i := 0) rfl) Tryz.isAgg32 Tryz.sizeOf32 rfl (Ptr.size p)) ?_
 refine EL_run rfl (R_buildS (cs := Ptr.none.cells) [] pl_32 Tryz.zeroValue32 rfl rfl rfl) ?_
 refine EL_run rfl (R_eqlPtr ptrT rfl rfl) ?_
 refine EL_run rfl (R_assign rfl) ?_
 refine EL_nil ?_
 refine EC_ret ?_
 exact ⟨[_], ⟨rfl, trivial⟩, _, _, ⟨rfl, rfl, rfl⟩, (hs.fin [] []).as rfl rfl⟩

set_option maxRecDepth 100000 in
theorem sectors_spec (p : Ptr) {w0 : World} : Spec Tryz.prog 113 #[p.val] w0 [] [] (fun v es1 ds1 => v = .int .i64 (sectors p.len) ∧ es1 = [] ∧ ds1 = []) := by
 refine Spec.intro (fun F D hs => ?_)
 refine Calls_of_EC (args := [p.val]) Tryz.func113 rfl rfl rfl ?_
 refine EC_rseq ?_
 refine EL_op rfl (O_box hs rfl rfl (fun b1 w hb1 hs => ?_))
 refine EL_run rfl (R_assign rfl) ?_
 refine EL_nil ?_
 refine EC_seq ?_
 refine EC_rseq ?_
 refine EL_run rfl (R_field fo_32_2 rfl) ?_
 refine EL_run rfl (R_lb (hs.at (i := 0) rfl) Tryz.isAgg3 rfl rfl) ?_
 refine EL_run rfl (R_lss rfl rfl) ?_
 refine EL_run rfl (R_move rfl) ?_
 refine EL_split 6 rfl (fun hg3 => ?_) (fun hg3 => ?_)
 ·have hg3p := cvt hg3; try dsimp only at hg3p
  refine EL_pass rfl rfl rfl hg3 ?_
  refine EL_pass rfl rfl rfl hg3 ?_
  refine EL_pass rfl rfl rfl hg3 ?_
  refine EL_run rfl (R_pickT rfl hg3 rfl) ?_
  refine EL_nil ?_
  refine EC_cond rfl (fun hcx => ?_) (fun hcx => ?_)
  ·skip
   refine EC_rseq ?_
   refine EL_run rfl (R_assign rfl) ?_
   refine EL_nil ?_
   refine EC_ret ?_
   refine Then_r ?_
   exact ⟨[_], ⟨rfl, trivial⟩, _, _, ⟨by simp only [tupleOf, sectors]; congr 1; split <;> omega, rfl, rfl⟩, (hs.fin [] []).as rfl rfl⟩
  ·exact Bool.noConfusion hcx
 ·have hg3p := cvt hg3; try dsimp only at hg3p
  refine EL_want rfl rfl hg3 ?_
  refine EL_run rfl (R_field fo_32_2 rfl) ?_
  refine EL_want rfl rfl hg3 ?_
  refine EL_run rfl (R_lb (hs.at (i := 0) rfl) Tryz.isAgg3 rfl rfl) ?_
  refine EL_want rfl rfl hg3 ?_
  refine EL_run rfl (R_gtr rfl rfl) ?_
  refine EL_run rfl (R_pickF rfl hg3 rfl) ?_
  refine EL_nil ?_
  refine EC_cond rfl (fun hc10 => ?_) (fun hc10 => ?_)
  ·have hc10p := cvt hc10; try dsimp only at hc10p
   refine EC_rseq ?_
   refine EL_run rfl (R_assign rfl) ?_
   refine EL_nil ?_
   refine EC_ret ?_
   refine Then_r ?_
   exact ⟨[_], ⟨rfl, trivial⟩, _, _, ⟨by simp only [tupleOf, sectors]; congr 1; split <;> omega, rfl, rfl⟩, (hs.fin [] []).as rfl rfl⟩
  ·have hc10p := cvt hc10; try dsimp only at hc10p
   refine EC_skip ?_
   refine Then_n ?_
   refine EC_rseq ?_
   refine EL_run rfl (R_field fo_32_2 rfl) ?_
   refine EL_run rfl (R_lb (hs.at (i := 0) rfl) Tryz.isAgg3 rfl rfl) ?_
   refine EL_run rfl (R_addI rfl rfl (by omega)) ?_
   refine EL_run rfl (R_subI rfl rfl (by omega)) ?_
   refine EL_run rfl (R_quoI rfl rfl (by omega) (by omega) (by omega)) ?_
   refine EL_run rfl (R_assign rfl) ?_
   refine EL_nil ?_
   refine EC_ret ?_
   exact ⟨[_], ⟨rfl, trivial⟩, _, _, ⟨by simp only [tupleOf, sectors]; congr 1; split <;> omega, rfl, rfl⟩, (hs.fin [] []).as rfl rfl⟩

set_option maxRecDepth 100000 in
theorem rightIn_spec (a b c : Int) {w0 : World} : Spec Tryz.prog 201 #[.int .i64 a, .int .i64 b, .int .i64 c] w0 [] [] (fun v es1 ds1 => v = .bool (decide (b ≤ a ∧ a ≤ c)) ∧ es1 = [] ∧ ds1 = []) := by
 refine Spec.intro (fun F D hs => ?_)
 refine Calls_of_EC (args := [.int .i64 a, .int .i64 b, .int .i64 c]) Tryz.func201 rfl rfl rfl ?_
 refine EC_rseq ?_
 refine EL_run rfl (R_assign rfl) ?_
 refine EL_nil ?_
 refine EC_rseq ?_
 refine EL_run rfl (R_move rfl) ?_
 refine EL_run rfl (R_move rfl) ?_
 refine EL_run rfl (R_geq rfl rfl) ?_
 refine EL_run rfl (R_move rfl) ?_
 refine EL_split 10 rfl (fun hg3 => ?_) (fun hg3 => ?_)
 ·have hg3p := cvt hg3; try dsimp only at hg3p
  refine EL_want rfl rfl hg3 ?_
  refine EL_run rfl (R_move rfl) ?_
  refine EL_want rfl rfl hg3 ?_
  refine EL_run rfl (R_move rfl) ?_
  refine EL_want rfl rfl hg3 ?_
  refine EL_run rfl (R_leq rfl rfl) ?_
  refine EL_run rfl (R_pickT rfl hg3 rfl) ?_
  refine EL_run rfl (R_assign rfl) ?_
  refine EL_nil ?_
  refine EC_ret ?_
  exact ⟨[_], ⟨rfl, trivial⟩, _, _, ⟨by simp only [tupleOf]; congr 1; simp; omega, rfl, rfl⟩, (hs.fin [] []).as rfl rfl⟩
 ·have hg3p := cvt hg3; try dsimp only at hg3p
  refine EL_pass rfl rfl rfl hg3 ?_
  refine EL_pass rfl rfl rfl hg3 ?_
  refine EL_pass rfl rfl rfl hg3 ?_
  refine EL_run rfl (R_pickF rfl hg3 rfl) ?_
  refine EL_run rfl (R_assign rfl) ?_
  refine EL_nil ?_
  refine EC_ret ?_
  exact ⟨[_], ⟨rfl, trivial⟩, _, _, ⟨by simp only [tupleOf]; congr 1; simp; omega, rfl, rfl⟩, (hs.fin [] []).as rfl rfl⟩

set_option maxRecDepth 100000 in
theorem right_spec (p : Ptr) {w0 : World} : Spec Tryz.prog 112 #[p.val] w0 [] [] (fun v es1 ds1 => v = .bool p.right ∧ es1 = [] ∧ ds1 = []) := by
 refine Spec.intro (fun F D hs => ?_)
 refine Calls_of_EC (args := [p.val]) Tryz.func112 rfl rfl rfl ?_
 refine EC_rseq ?_
 refine EL_op rfl (O_box hs rfl rfl (fun b1 w hb1 hs => ?_))
 refine EL_run rfl (R_assign rfl) ?_
 refine EL_nil ?_
 refine EC_rseq ?_
 refine EL_run rfl (R_assign rfl) ?_
 refine EL_nil ?_
 refine EC_dseqS hs [3, 6, 14, 16] [2, 5, 12, 13] [0] [] (.take 0 (.take 1 (.take 2 (.fork 3 (.take 4 (.take 5 (.fork 6 (.take 7 (.take 8 (.take 9 (.take 10 (.take 11 (.take 12 (.take 13 (.fork 14 (.take 15 (.fork 16 (.take 17 (.take 18 .done)) (.done))) (.done))))))))) (.done)))) (.done))))) mix_ok (by kernel_rfl) (fun w hs _ => ?_)
 refine EP_take rfl rfl rfl (fun _ => R_move rfl) ?_
 refine EP_take rfl rfl rfl (fun _ => R_field fo_32_1 rfl) ?_
 refine EP_read rfl rfl rfl (RdS.of hs rfl rfl) (fun _ hR => R_lb (hR.e 0 rfl rfl) Tryz.isAgg3 rfl rfl) ?_
 refine EP_act rfl rfl (O_call hs [] [] rfl rfl rfl Tryz.call201 (rightIn_spec p.birth 1 1152921504606846976) (fun v es1 ds1 w hPhi hs => ?_))
 obtain ⟨rfl, rfl, rfl⟩ := hPhi
 refine ⟨(fun _ => RdS.of hs rfl rfl), ?_⟩
 refine EP_take rfl rfl rfl (fun _ => R_move rfl) ?_
 refine EP_split 8 rfl (fun hg4 => ?_) (fun hg4 => ?_)
 ·have hg4p := cvt hg4; try dsimp only at hg4p
  refine EP_readG rfl rfl rfl hg4 rfl rfl (RdS.of hs rfl rfl) (fun _ hR => R_lw (hR.e 0 rfl rfl) Tryz.isAgg32 Tryz.sizeOf32 rfl (Ptr.size p)) ?_
  refine EP_actG rfl rfl rfl hg4 rfl (O_call hs [] [] rfl rfl rfl Tryz.call113 (sectors_spec p) (fun v es1 ds1 w hPhi hs => ?_))
  obtain ⟨rfl, rfl, rfl⟩ := hPhi
  refine ⟨(fun _ => RdS.of hs rfl rfl), ?_⟩
  refine EP_takeG rfl rfl rfl hg4 rfl rfl (fun _ => R_gtr rfl rfl) ?_
  refine EP_take rfl rfl rfl (fun _ => R_pickT rfl hg4 rfl) ?_
  refine EP_take rfl rfl rfl (fun _ => R_move rfl) ?_
  refine EP_split 13 rfl (fun hg9 => ?_) (fun hg9 => ?_)
  ·have hg9p := cvt hg9; try dsimp only at hg9p
   refine EP_takeG rfl rfl rfl hg9 rfl rfl (fun _ => R_move rfl) ?_
   refine EP_takeG rfl rfl rfl hg9 rfl rfl (fun _ => R_field fo_32_0 rfl) ?_
   refine EP_readG rfl rfl rfl hg9 rfl rfl (RdS.of hs rfl rfl) (fun _ hR => R_lb (hR.e 0 rfl rfl) Tryz.isAgg3 rfl rfl) ?_
   refine EP_readG rfl rfl rfl hg9 rfl rfl (RdS.of hs rfl rfl) (fun _ hR => R_lw (hR.e 0 rfl rfl) Tryz.isAgg32 Tryz.sizeOf32 rfl (Ptr.size p)) ?_
   refine EP_actG rfl rfl rfl hg9 rfl (O_call hs [] [] rfl rfl rfl Tryz.call113 (sectors_spec p) (fun v es1 ds1 w hPhi hs => ?_))
   obtain ⟨rfl, rfl, rfl⟩ := hPhi
   have hsr := sectors_range p.len
   refine ⟨(fun _ => RdS.of hs rfl rfl), ?_⟩
   refine EP_takeG rfl rfl rfl hg9 rfl rfl (fun _ => R_subI rfl rfl (by omega)) ?_
   refine EP_actG rfl rfl rfl hg9 rfl (O_call hs [] [] rfl rfl rfl Tryz.call201 (rightIn_spec p.pos 2 (8192 - sectors p.len)) (fun v es1 ds1 w hPhi hs => ?_))
   obtain ⟨rfl, rfl, rfl⟩ := hPhi
   refine ⟨(fun _ => RdS.of hs rfl rfl), ?_⟩
   refine EP_take rfl rfl rfl (fun _ => R_pickT rfl hg9 rfl) ?_
   refine EP_take rfl rfl rfl (fun _ => R_assign rfl) ?_
   refine EP_done ?_
   refine EC_ret ?_
   exact ⟨[_], ⟨rfl, trivial⟩, _, _, ⟨by simp only [tupleOf, Ptr.right]; congr 1; simp_all <;> omega, rfl, rfl⟩, (hs.fin [] []).as rfl rfl⟩
  ·have hg9p := cvt hg9; try dsimp only at hg9p
   refine EP_passT rfl rfl rfl hg9 rfl (fun _ => RdS.of hs rfl rfl) ?_
   refine EP_passT rfl rfl rfl hg9 rfl (fun _ => RdS.of hs rfl rfl) ?_
   refine EP_passT rfl rfl rfl hg9 rfl (fun _ => RdS.of hs rfl rfl) ?_
   refine EP_passT rfl rfl rfl hg9 rfl (fun _ => RdS.of hs rfl rfl) ?_
   refine EP_passF rfl rfl rfl hg9 rfl (fun _ => RdS.of hs rfl rfl) ?_
   refine EP_passT rfl rfl rfl hg9 rfl (fun _ => RdS.of hs rfl rfl) ?_
   refine EP_passF rfl rfl rfl hg9 rfl (fun _ => RdS.of hs rfl rfl) ?_
   refine EP_take rfl rfl rfl (fun _ => R_pickF rfl hg9 rfl) ?_
   refine EP_take rfl rfl rfl (fun _ => R_assign rfl) ?_
   refine EP_done ?_
   refine EC_ret ?_
   exact ⟨[_], ⟨rfl, trivial⟩, _, _, ⟨by simp only [tupleOf, Ptr.right]; congr 1; simp_all <;> omega, rfl, rfl⟩, (hs.fin [] []).as rfl rfl⟩
 ·have hg4p := cvt hg4; try dsimp only at hg4p
  refine EP_passT rfl rfl rfl hg4 rfl (fun _ => RdS.of hs rfl rfl) ?_
  refine EP_passF rfl rfl rfl hg4 rfl (fun _ => RdS.of hs rfl rfl) ?_
  refine EP_passT rfl rfl rfl hg4 rfl (fun _ => RdS.of hs rfl rfl) ?_
  refine EP_take rfl rfl rfl (fun _ => R_pickF rfl hg4 rfl) ?_
  refine EP_take rfl rfl rfl (fun _ => R_move rfl) ?_
  refine EP_passT rfl rfl rfl rfl rfl (fun _ => RdS.of hs rfl rfl) ?_
  refine EP_passT rfl rfl rfl rfl rfl (fun _ => RdS.of hs rfl rfl) ?_
  refine EP_passT rfl rfl rfl rfl rfl (fun _ => RdS.of hs rfl rfl) ?_
  refine EP_passT rfl rfl rfl rfl rfl (fun _ => RdS.of hs rfl rfl) ?_
  refine EP_passF rfl rfl rfl rfl rfl (fun _ => RdS.of hs rfl rfl) ?_
  refine EP_passT rfl rfl rfl rfl rfl (fun _ => RdS.of hs rfl rfl) ?_
  refine EP_passF rfl rfl rfl rfl rfl (fun _ => RdS.of hs rfl rfl) ?_
  refine EP_take rfl rfl rfl (fun _ => R_pickF rfl rfl rfl) ?_
  refine EP_take rfl rfl rfl (fun _ => R_assign rfl) ?_
  refine EP_done ?_
  refine EC_ret ?_
  exact ⟨[_], ⟨rfl, trivial⟩, _, _, ⟨by simp only [tupleOf, Ptr.right]; congr 1; simp_all <;> omega, rfl, rfl⟩, (hs.fin [] []).as rfl rfl⟩

set_option maxRecDepth 100000 in
theorem of_spec (pos birth : Int) (ao : Option Addr) (c : Nat) (b : BL) {w0 : World} (hb : b.length ≤ 1000000000) : Spec Tryz.prog 259 #[.int .i64 pos, .int .i64 birth, .slice ao b.length c] w0 [] [dB ao c b] (fun v es1 ds1 => v = (Ptr.of pos birth b).val ∧ es1 = [] ∧ ds1 = []) := by
 refine Spec.intro (fun F D hs => ?_)
 refine Calls_of_EC (args := [.int .i64 pos, .int .i64 birth, .slice ao b.length c]) Tryz.func259 rfl rfl rfl ?_
 refine EC_rseq ?_
 refine EL_op rfl (O_alloc hs rfl Tryz.zeroValue32 (fun b6 w hb6 hs => ?_))
 refine EL_nil ?_
 refine EC_rseq ?_
 refine EL_run rfl (R_move rfl) ?_
 refine EL_run rfl (R_move rfl) ?_
 refine EL_run rfl (R_move rfl) ?_
 refine EL_run rfl (R_lenS Tryz.underlying36 rfl) ?_
 refine EL_run rfl (R_move rfl) ?_
 refine EL_op rfl (O_call hs [] [0] rfl rfl rfl Tryz.call286 (crcSum_spec ao c b hb) (fun v es1 ds1 w hPhi hs => ?_))
 obtain ⟨rfl, rfl, rfl⟩ := hPhi
 refine EL_run rfl (R_move rfl) ?_
 refine EL_op rfl (O_call hs [] [0] rfl rfl rfl Tryz.call304 (shaSum_spec ao c b hb) (fun v es1 ds1 w hPhi hs => ?_))
 obtain ⟨rfl, rfl, rfl⟩ := hPhi
 refine EL_run rfl (R_buildS (cs := (Ptr.of pos birth b).cells) [(0, .tmp 7), (1, .tmp 8), (2, .tmp 10), (3, .tmp 12), (4, .tmp 14)] pl_32 Tryz.zeroValue32 rfl rfl (of_fill pos birth b)) ?_
 refine EL_op rfl (O_storeW hs (i := 0) rfl sz_32 rfl rfl rfl (Ptr.size _) (Ptr.oneA _) (fun w hs => ?_))
 refine EL_nil ?_
 refine EC_ret ?_
 exact ⟨[_], ⟨res_cell hs (i := 0) rfl Tryz.sizeOf32 Tryz.isAgg32 rfl (Ptr.size _), trivial⟩, _, _, ⟨rfl, rfl, rfl⟩, (hs.fin [] []).as rfl rfl⟩

set_option maxRecDepth 100000 in
theorem check_spec (p : Ptr) (ao : Option Addr) (c : Nat) (b : BL) {w0 : World} (hb : b.length ≤ 1000000000) : Spec Tryz.prog 266 #[p.val, .slice ao b.length c] w0 [] [dB ao c b] (fun v es1 ds1 => v = .int .i64 (p.check b) ∧ es1 = [] ∧ ds1 = []) := by
 refine Spec.intro (fun F D hs => ?_)
 refine Calls_of_EC (args := [p.val, .slice ao b.length c]) Tryz.func266 rfl rfl rfl ?_
 refine EC_rseq ?_
 refine EL_op rfl (O_box hs rfl rfl (fun b2 w hb2 hs => ?_))
 refine EL_run rfl (R_assign rfl) ?_
 refine EL_nil ?_
 refine EC_seq ?_
 refine EC_block ?_
 refine EC_rseq ?_
 refine EL_run rfl (R_lw (hs.at (i := 0) rfl) Tryz.isAgg32 Tryz.sizeOf32 rfl (Ptr.size p)) ?_
 refine EL_op rfl (O_call hs [] [] rfl rfl rfl Tryz.call112 (right_spec p) (fun v es1 ds1 w hPhi hs => ?_))
 obtain ⟨rfl, rfl, rfl⟩ := hPhi
 refine EL_run rfl (R_not rfl) ?_
 refine EL_run rfl (R_assign rfl) ?_
 refine EL_nil ?_
 refine EC_cond rfl (fun hc5 => ?_) (fun hc5 => ?_)
 ·have hc5p := cvt hc5; try dsimp only at hc5p
  refine EC_rseq ?_
  refine EL_run rfl (R_assign rfl) ?_
  refine EL_nil ?_
  refine EC_ret ?_
  refine InBlock_r ?_
  refine Then_r ?_
  exact ⟨[_], ⟨rfl, trivial⟩, _, _, ⟨by simp only [tupleOf, Ptr.check]; rw [if_pos hc5p], rfl, rfl⟩, (hs.fin [] []).as rfl rfl⟩
 ·have hc5p := cvt hc5; try dsimp only at hc5p
  refine EC_dseqS hs [12] [3, 6, 8, 10] [0] [] (.take 0 (.take 1 (.take 2 (.take 3 (.take 4 (.take 5 (.take 6 (.take 7 (.take 8 (.take 9 (.take 10 (.take 11 (.fork 12 (.take 13 (.take 14 (.take 15 .done))) (.done)))))))))))))) mix_ok (by kernel_rfl) (fun w hs _ => ?_)
  refine EP_take rfl rfl rfl (fun _ => R_move rfl) ?_
  refine EP_take rfl rfl rfl (fun _ => R_lenS Tryz.underlying36 rfl) ?_
  refine EP_take rfl rfl rfl (fun _ => R_field fo_32_2 rfl) ?_
  refine EP_read rfl rfl rfl (RdS.of hs rfl rfl) (fun _ hR => R_lb (hR.e 0 rfl rfl) Tryz.isAgg3 rfl rfl) ?_
  refine EP_take rfl rfl rfl (fun _ => R_neq rfl rfl) ?_
  refine EP_take rfl rfl rfl (fun _ => R_move rfl) ?_
  refine EP_split 15 rfl (fun hg5 => ?_) (fun hg5 => ?_)
  ·have hg5p := cvt hg5; try dsimp only at hg5p
   refine EP_passT rfl rfl rfl hg5 rfl (fun _ => RdS.of hs rfl rfl) ?_
   refine EP_passT rfl rfl rfl hg5 rfl (fun _ => RdS.of hs rfl rfl) ?_
   refine EP_passT rfl rfl rfl hg5 rfl (fun _ => RdS.of hs rfl rfl) ?_
   refine EP_passT rfl rfl rfl hg5 rfl (fun _ => RdS.of hs rfl rfl) ?_
   refine EP_passT rfl rfl rfl hg5 rfl (fun _ => RdS.of hs rfl rfl) ?_
   refine EP_passT rfl rfl rfl hg5 rfl (fun _ => RdS.of hs rfl rfl) ?_
   refine EP_passF rfl rfl rfl hg5 rfl (fun _ => RdS.of hs rfl rfl) ?_
   refine EP_passT rfl rfl rfl hg5 rfl (fun _ => RdS.of hs rfl rfl) ?_
   refine EP_take rfl rfl rfl (fun _ => R_pickT rfl hg5 rfl) ?_
   refine EP_take rfl rfl rfl (fun _ => R_assign rfl) ?_
   refine EP_done ?_
   refine EC_cond rfl (fun hcx => ?_) (fun hcx => ?_)
   ·skip
    refine EC_rseq ?_
    refine EL_run rfl (R_assign rfl) ?_
    refine EL_nil ?_
    refine EC_ret ?_
    refine InBlock_r ?_
    refine Then_r ?_
    exact ⟨[_], ⟨rfl, trivial⟩, _, _, ⟨by simp only [tupleOf, Ptr.check]; rw [if_neg (by rw [hc5p]; exact Bool.noConfusion), if_pos (by first | exact .inl hg5p | exact .inr hc9p)], rfl, rfl⟩, (hs.fin [] []).as rfl rfl⟩
   ·exact Bool.noConfusion hcx
  ·have hg5p := cvt hg5; try dsimp only at hg5p
   refine EP_readG rfl rfl rfl hg5 rfl rfl (RdS.of hs rfl rfl) (fun _ hR => R_lw (hR.e 0 rfl rfl) Tryz.isAgg32 Tryz.sizeOf32 rfl (Ptr.size p)) ?_
   refine EP_takeG rfl rfl rfl hg5 rfl rfl (fun _ => R_field fo_32_0 rfl) ?_
   refine EP_readG rfl rfl rfl hg5 rfl rfl (RdS.of hs rfl rfl) (fun _ hR => R_lb (hR.e 0 rfl rfl) Tryz.isAgg3 rfl rfl) ?_
   refine EP_takeG rfl rfl rfl hg5 rfl rfl (fun _ => R_field fo_32_1 rfl) ?_
   refine EP_readG rfl rfl rfl hg5 rfl rfl (RdS.of hs rfl rfl) (fun _ hR => R_lb (hR.e 0 rfl rfl) Tryz.isAgg3 rfl rfl) ?_
   refine EP_takeG rfl rfl rfl hg5 rfl rfl (fun _ => R_move rfl) ?_
   refine EP_actG rfl rfl rfl hg5 rfl (O_call hs [] [0] rfl rfl rfl Tryz.call259 (of_spec p.pos p.birth ao c b hb) (fun v es1 ds1 w hPhi hs => ?_))
   obtain ⟨rfl, rfl, rfl⟩ := hPhi
   refine ⟨(fun _ => RdS.of hs rfl rfl), ?_⟩
   refine EP_takeG rfl rfl rfl hg5 rfl rfl (fun _ => R_neqPtr ptrT rfl rfl) ?_
   refine EP_take rfl rfl rfl (fun _ => R_pickF rfl hg5 rfl) ?_
   refine EP_take rfl rfl rfl (fun _ => R_assign rfl) ?_
   refine EP_done ?_
   refine EC_cond rfl (fun hc9 => ?_) (fun hc9 => ?_)
   ·have hc9p := cvt hc9; try dsimp only at hc9p
    refine EC_rseq ?_
    refine EL_run rfl (R_assign rfl) ?_
    refine EL_nil ?_
    refine EC_ret ?_
    refine InBlock_r ?_
    refine Then_r ?_
    exact ⟨[_], ⟨rfl, trivial⟩, _, _, ⟨by simp only [tupleOf, Ptr.check]; rw [if_neg (by rw [hc5p]; exact Bool.noConfusion), if_pos (by first | exact .inl hg5p | exact .inr hc9p)], rfl, rfl⟩, (hs.fin [] []).as rfl rfl⟩
   ·have hc9p := cvt hc9; try dsimp only at hc9p
    refine EC_skip ?_
    refine InBlock_n ?_
    refine Then_n ?_
    refine EC_rseq ?_
    refine EL_run rfl (R_assign rfl) ?_
    refine EL_nil ?_
    refine EC_ret ?_
    exact ⟨[_], ⟨rfl, trivial⟩, _, _, ⟨by simp only [tupleOf, Ptr.check]; rw [if_neg (by rw [hc5p]; exact Bool.noConfusion), if_neg (fun h => h.elim (fun h => hg5p h) (fun h => hc9p h))], rfl, rfl⟩, (hs.fin [] []).as rfl rfl⟩
end Go.Proofs.YtpcojkbljgpecaaGreat
namespace Go.Proofs.YtpcojkbljgpecaaGreat
open Go
theorem madeCells_const {z : Array Value} {u : Value} (h : ∀ i (hi : i < z.size), z[i] = u) (hp : 0 < z.size) (n : Nat) : (madeCells z n).toList = List.replicate n u := by
  apply List.ext_getElem
  · simp [madeCells]
  · intro i h1 h2
    have hlt : i % z.size < z.size := Nat.mod_lt _ hp
    simp [madeCells, hlt, h]
theorem flatMap_replicate {α : Type} (f : α → List Value) (a : α) (u : Value) (k : Nat) (h : f a = List.replicate k u) : ∀ n, (List.replicate n a).flatMap f = List.replicate (n * k) u
  | 0 => by simp
  | n + 1 => by rw [List.replicate_succ, List.flatMap_cons, flatMap_replicate f a u k h n, h, List.replicate_append_replicate, Nat.succ_mul]; congr 1; omega

section
variable {P : Program} {n : Nat} {ρ : Env} {K : Env → World → Prop} {W w : World} {F D : Nat → Prop} {es ds : List Asn} {d : Nat} {do_ : Option Nat} {ty : TypeId} {pos : String} {aft : Array Edge} {x y z : Operand} {t t' : TypeId} {v : Value}

theorem O_makeSlice {e sz by_ m : Nat} {kl kc : IntKind} {zv : Value} (hs : St W F D es ds w) (hd : Nat.blt d n = true) (he : einfoB P t e sz by_ = true) (hz : ∀ w, (zeroValue e).run P w = .ok zv w) (hx : evO ρ x = some (.int kl (m : Int))) (hy : evO ρ y = some (.int kc (m : Int))) (hb : by_ * m ≤ 281474976710656) (hm : m ≤ 4294967296)
    (hK : ∀ b w', W.heap.size ≤ b → St W F D (es ++ [oSl (.slice (some ⟨b, 0, none⟩) m m) e sz m (madeCells zv.cells (m * sz)).toList]) ds w' → K (upd ρ d (.slice (some ⟨b, 0, none⟩) m m)) w') : EOp P n ⟨some d, .makeSlice t x y, ty, pos, aft, none⟩ K ρ w := fun a ha => by
  obtain ⟨hu, hsz0, i, z, hi, hzz, hisz, hby, hzc⟩ := einfo_parts he
  have hz0 : z = zv := by
    have := hz w
    simp only [zeroValue, Sem.run_bind, typeInfo, run_program, Result.andThen_ok, hi, Sem.run_pure, hzz] at this
    injection this
  subst hz0
  obtain ⟨w', hr, hown, hg⟩ := run_make_full (P := P) w 0 t e i z sz hu hi hzz hisz kl kc m (by rw [hby]; exact hb) (by unfold maxLen; omega) (Nat.zero_le _)
  unfold Oper.wp
  have hrun : (execOp a.eval ⟨some d, .makeSlice t x y, ty, pos, aft, none⟩).run P w = .ok (.value (.slice (some ⟨w.heap.size, 0, none⟩) m m)) w' := by
    simp only [execOp, ha.eval hx, ha.eval hy, Sem.run_bind, hr, Result.andThen_ok, Sem.run_pure]
  rw [hrun]
  have hlt : w.heap.size < w'.heap.size := (hown.lt w.heap.size rfl).2
  have h1 : St W F D es ds w' := hs.grow hg.os hg.tape hg.output hg.size (fun k hk => hg.block k hk (fun h => by cases h))
  refine ⟨_, ha.put hd _, hK _ _ hs.size (h1.add _ hown (fun k hk => ?_))⟩
  have hk' : k = w.heap.size := by simpa [oSl, Value.ownBlock, eq_comm] using hk
  subst hk'
  exact ⟨hlt, fun h => absurd (Nat.lt_of_lt_of_le h hs.size) (Nat.lt_irrefl _), fun a ha hk => absurd (hs.ef a ha _ hk).1 (Nat.lt_irrefl _), fun d hd hk => absurd (hs.df d hd _ hk).1 (Nat.lt_irrefl _)⟩

theorem R_sliceLHM {u : Operand} {ao : Option Addr} {m c sz : Nat} {k k' k2 : IntKind} {l h q : Int} (hs : elemSize P t = some sz) (hx : evO ρ x = some (.slice ao m c)) (hy : evO ρ y = some (.int k l)) (hz : evO ρ z = some (.int k' h)) (hq : evO ρ u = some (.int k2 q)) (h0 : 0 ≤ l) (h1 : l ≤ h) (h2 : h ≤ q) (h3 : q ≤ c) :
    RunV P n ⟨do_, .slice t x (some y) (some z) (some u), ty, pos, aft, none⟩ ρ w (.slice (cutO ao q.toNat l.toNat sz) (h.toNat - l.toNat) (q.toNat - l.toNat)) := fun a ha => by
  unfold elemSize at hs
  split at hs
  · rename_i e hu
    obtain ⟨inf, hinf, hsz⟩ := Option.map_eq_some_iff.1 hs
    subst hsz
    simp only [execOp, ha.eval hx, ha.eval hy, ha.eval hz, ha.eval hq, Option.map_some, Instr.sliceAt, Sem.run_bind, run_underlying hu, Result.andThen_ok, Instr.slice, Instr.sliceBounds, sl_bound (show 0 ≤ q by omega) h3, sl_bound (y := q.toNat) (show 0 ≤ h by omega) (by omega), sl_bound (y := h.toNat) h0 (by omega), Sem.run_pure, sizeOf, typeInfo, run_program, hinf, Option.isSome_some, if_true]
    rfl
  · cases hs

/-- Fewer may be said of a capacity. -/
theorem dSl.cap {ao : Option Addr} {m c c' sz : Nat} {cs : List Value} (h : (dSl ao m c sz cs).P w) (h1 : m ≤ c') (h2 : c' ≤ c) : (dSl ao m c' sz cs).P w :=
  ⟨⟨h1, fun hn => by have := h.1.2.1 hn; omega, fun ad h3 h4 => h.1.2.2 ad h3 (by omega)⟩, h.2.1, h.2.2⟩
theorem St.dBcap {ao : Option Addr} {c : Nat} {l : BL} (hs : St W F D es ds w) {j : Nat} (hj : ds[j]? = some (dB ao c l)) (c' : Nat) (h1 : l.length ≤ c') (h2 : c' ≤ c) : St W F D es (ds ++ [dB ao c' l]) w :=
  hs.derive (d := dB ao c l) (List.mem_of_getElem? hj) _ (fun h => dSl.cap h h1 h2) (fun k hk => hk)
theorem St.dBcut3 {ao : Option Addr} {c : Nat} {l : BL} (hs : St W F D es ds w) {j : Nat} (hj : ds[j]? = some (dB ao c l)) (lo hi : Nat) (h1 : lo < hi) (h2 : hi ≤ l.length) :
    St W F D es (ds ++ [dB (cutO ao hi lo 1) (hi - lo) ((l.drop lo).take (hi - lo))]) w := by
  have hc : l.length ≤ c := (hs.rd hj).1.1
  have e1 : ((l.drop lo).take (hi - lo)).length = hi - lo := by rw [List.length_take, List.length_drop]; omega
  have hcut : cutO ao hi lo 1 = cutO ao c lo 1 := by
    unfold cutO
    rw [if_neg (by omega), if_neg (by omega)]
  have e2 : ((u8s l).drop (lo * 1)).take ((hi - lo) * 1) = u8s ((l.drop lo).take (hi - lo)) := by simp [u8s, List.map_drop, List.map_take]
  rw [hcut]
  refine hs.derive (d := dB ao c l) (List.mem_of_getElem? hj) _ (fun h => ?_) (fun k hk => dSl.cut_foot (l := lo) (h := hi) k (by rw [e2]; exact hk))
  have h3 := dSl.cut (l := lo) (h := hi) h (by omega) h2
  rw [e2] at h3
  have h4 := dSl.cap (c' := hi - lo) h3 (Nat.le_refl _) (by omega)
  show (dSl _ _ _ _ _).P w
  rw [e1]; exact h4
end
end Go.Proofs.YtpcojkbljgpecaaGreat
namespace Go.Proofs.YtpcojkbljgpecaaGreat
open Go
structure Sec where
  b : BL
  h : b.length = 512
deriving DecidableEq
def Sec.l (s : Sec) : List Value := u8s s.b
theorem Sec.len (s : Sec) : s.l.length = 512 := by simp [Sec.l, u8s, s.h]
def Sec.zero : Sec := ⟨List.replicate 512 0, List.length_replicate⟩
def Sec.of (l : BL) : Sec := ⟨l.take 512 ++ List.replicate (512 - min l.length 512) 0, by simp; omega⟩
def Sec.val (s : Sec) : Value := .agg s.l.toArray
structure DiM where
  lasts : List Sec
  waits : List (Int × Sec)
  fused : Bool
  left : Int
  gone : Bool
structure DiG where
  lb : Nat
  mb : Nat
def diSl (g : DiG) (m : DiM) : Value := .slice (some ⟨g.lb, 0, none⟩) m.lasts.length m.lasts.length
def diCells (g : DiG) (m : DiM) : Array Value := #[diSl g m, .map (some g.mb), .bool m.fused, .int .i64 m.left, .bool m.gone]
def diMap (m : DiM) : List (Int × Value) := m.waits.map fun p => (p.1, p.2.val)
abbrev diE (d : Nat) (g : DiG) (m : DiM) : List Asn := [blk d (diCells g m) 205, oSl (diSl g m) 200 512 m.lasts.length (m.lasts.flatMap Sec.l), mpA g.mb (diMap m)]
structure DiM.ok (m : DiM) : Prop where
  len : 1 ≤ m.lasts.length ∧ m.lasts.length ≤ 8192
  left : 0 ≤ m.left ∧ m.left ≤ 1000000000000
def diNew (n : Nat) : DiM := ⟨List.replicate n Sec.zero, [], false, 0, false⟩
def diCheck (m : DiM) (i : Int) : Int := if i < 0 ∨ (m.lasts.length : Int) ≤ i then 2 else 0
def diGone (m : DiM) : Bool := m.gone || (m.fused && decide (m.left = 0))
def diSpend (m : DiM) : DiM × Int := if diGone m = true then ({ m with gone := true }, 17) else ({ m with gone := false, left := if m.fused = true then m.left - 1 else m.left }, 0)
def diBad (m : DiM) (i : Int) (b : BL) : Int := if diCheck m i ≠ 0 then diCheck m i else if 512 < b.length then 3 else 0
def sput : List (Int × Sec) → Int → Sec → List (Int × Sec)
  | [], k, v => [(k, v)]
  | p :: l, k, v => if k = p.1 then (k, v) :: l else p :: sput l k v
theorem diMap_put (l : List (Int × Sec)) (k : Int) (v : Sec) : mput (l.map fun p => (p.1, p.2.val)) k v.val = (sput l k v).map fun p => (p.1, p.2.val) := by
  induction l with
  | nil => rfl
  | cons p l ih =>
    simp only [List.map_cons, mput, sput]
    split
    · rfl
    · rw [ih]; rfl
def diWrite (m : DiM) (i : Int) (b : BL) : DiM × Int :=
  if diCheck m i ≠ 0 then (m, diCheck m i)
  else if 512 < b.length then (m, 3)
  else if (diSpend m).2 ≠ 0 then diSpend m
  else ({ (diSpend m).1 with waits := sput (diSpend m).1.waits i (Sec.of b) }, 0)
theorem diWrite_bad {m : DiM} {i : Int} {b : BL} {e : Int} (he : e = diBad m i b) (h : ¬ e = 0) : diWrite m i b = (m, e) := by
  subst he
  unfold diBad at h ⊢
  unfold diWrite
  split
  · rfl
  · rename_i h1
    rw [if_neg h1] at h
    split
    · rfl
    · rename_i h2
      rw [if_neg h2] at h; exact absurd rfl h
theorem diWrite_spend {m : DiM} {i : Int} {b : BL} (he : diBad m i b = 0) : (diSpend m).2 ≠ 0 ∧ diWrite m i b = ((diSpend m).1, (diSpend m).2) ∨ (diSpend m).2 = 0 ∧ diWrite m i b = ({ (diSpend m).1 with waits := sput (diSpend m).1.waits i (Sec.of b) }, 0) := by
  unfold diBad at he
  unfold diWrite
  split at he
  · rename_i h; exact absurd he h
  · rename_i h1
    split at he
    · cases he
    · rename_i h2
      rw [if_neg h1, if_neg h2]
      by_cases h3 : (diSpend m).2 = 0
      · right; exact ⟨h3, by rw [if_neg (by simpa using h3)]⟩
      · left; exact ⟨h3, by rw [if_pos h3]⟩
theorem sec_copy (b : BL) : Sec.zero.l.take 0 ++ (u8s b).take 512 ++ Sec.zero.l.drop (0 + min b.length 512) = (Sec.of b).l := by
  have h1 : Sec.zero.l = List.replicate 512 (.int .u8 0) := by
    simp only [Sec.zero, Sec.l, u8s, List.map_replicate]; rfl
  rw [h1, List.take_zero, List.nil_append, Nat.zero_add, List.drop_replicate]
  simp only [Sec.of, Sec.l, u8s, List.map_append, List.map_take, List.map_replicate]
  rfl
theorem diSpend_ok {m : DiM} (h : m.ok) : (diSpend m).1.ok := by
  obtain ⟨h1, h2⟩ := h
  unfold diSpend
  split
  · exact ⟨h1, h2⟩
  · rename_i hg
    refine ⟨h1, ?_⟩
    simp only
    split
    · rename_i hf
      have : m.left ≠ 0 := by
        intro e
        apply hg
        simp [diGone, hf, e]
      omega
    · exact h2
theorem diSpend_lasts (m : DiM) : (diSpend m).1.lasts = m.lasts ∧ (diSpend m).1.waits = m.waits := by
  unfold diSpend; split <;> exact ⟨rfl, rfl⟩
theorem diE_spend (d : Nat) (g : DiG) (m : DiM) : [blk d (diCells g (diSpend m).1) 205, oSl (diSl g m) 200 512 m.lasts.length (m.lasts.flatMap Sec.l), mpA g.mb (diMap m)] = diE d g (diSpend m).1 := by
  obtain ⟨h1, h2⟩ := diSpend_lasts m
  unfold diE diSl diMap
  rw [h1, h2]
theorem diE_put (d : Nat) (g : DiG) (m : DiM) (i : Int) (q : Sec) : diE d g { m with waits := sput m.waits i q } = [blk d (diCells g m) 205, oSl (diSl g m) 200 512 m.lasts.length (m.lasts.flatMap Sec.l), mpA g.mb (mput (diMap m) i q.val)] := by
  have h : diMap { m with waits := sput m.waits i q } = mput (diMap m) i q.val := (diMap_put m.waits i q).symm
  unfold diE
  rw [h]
  rfl
theorem diWrite_lasts (m : DiM) (i : Int) (b : BL) : (diWrite m i b).1.lasts = m.lasts := by
  unfold diWrite
  repeat' split
  all_goals first | rfl | exact (diSpend_lasts m).1
theorem diWrite_ok {m : DiM} (h : m.ok) (i : Int) (b : BL) : (diWrite m i b).1.ok := by
  have hs := diSpend_ok h
  unfold diWrite
  repeat' split
  all_goals first | exact h | exact hs | exact ⟨hs.1, hs.2⟩
def Ptr.bare (pos birth len : Int) : Ptr := ⟨pos, birth, len, 0, List.replicate 32 0, rfl⟩
def blkCheck (n : Nat) (p : Ptr) : Int := if p.right = false ∨ (n : Int) < p.pos + sectors p.len then 2 else 0
def chunk (b : BL) (i : Nat) : BL := (b.drop (i * 512)).take (min ((i + 1) * 512) b.length - i * 512)
def blkGo (m : DiM) (pos : Int) (b : BL) : Nat → Nat → DiM × Int
  | _, 0 => (m, 0)
  | i, k + 1 => if (diWrite m (pos + i) (chunk b i)).2 ≠ 0 then diWrite m (pos + i) (chunk b i) else blkGo (diWrite m (pos + i) (chunk b i)).1 pos b (i + 1) k
def blkWrite (m : DiM) (pos birth : Int) (b : BL) : DiM × Ptr × Int :=
  if blkCheck m.lasts.length (Ptr.bare pos birth b.length) ≠ 0 then (m, Ptr.none, blkCheck m.lasts.length (Ptr.bare pos birth b.length))
  else if (blkGo m pos b 0 (sectors b.length).toNat).2 ≠ 0 then ((blkGo m pos b 0 (sectors b.length).toNat).1, Ptr.none, (blkGo m pos b 0 (sectors b.length).toNat).2)
  else ((blkGo m pos b 0 (sectors b.length).toNat).1, Ptr.of pos birth b, 0)
theorem sectors_of {len : Int} (h : 0 < sectors len) : 1 ≤ len ∧ len ≤ 65536 ∧ sectors len = (len + 511) / 512 := by
  unfold sectors at h ⊢
  split at h
  · omega
  · rename_i h1
    rw [if_neg h1]; omega
theorem secs_zero (n : Nat) (z : Array Value) (hz : z = Sec.zero.l.toArray) : (madeCells z (n * 512)).toList = (List.replicate n Sec.zero).flatMap Sec.l := by
  subst hz
  have h1 : Sec.zero.l = List.replicate 512 (.int .u8 0) := by
    simp only [Sec.zero, Sec.l, u8s, List.map_replicate]; rfl
  rw [flatMap_replicate Sec.l Sec.zero (.int .u8 0) 512 h1]
  refine madeCells_const (fun i hi => ?_) (by simp [Sec.len]) _
  simp only [h1, List.getElem_toArray, List.getElem_replicate]
end Go.Proofs.YtpcojkbljgpecaaGreat
namespace Go.Proofs.YtpcojkbljgpecaaGreat
open Go
theorem sec_zero : (Value.agg Tryz.zeroCells200).cells = Sec.zero.l.toArray := by kernel_rfl
theorem zeroSec_size : (Value.agg Tryz.zeroCells200).cells.size = 512 := by rw [sec_zero]; simp [Sec.len]
theorem diNew_fill (n b11 b12 : Nat) : Instr.fill (fun i => [(0, 1), (1, 1), (2, 1), (3, 1), (4, 1)][i]?) #[.slice none 0 0, .map none, .bool false, .int .i64 0, .bool false] [(0, .slice (some ⟨b11, 0, none⟩) n n), (1, .map (some b12))] = some #[.slice (some ⟨b11, 0, none⟩) n n, .map (some b12), .bool false, .int .i64 0, .bool false] := by kernel_rfl
theorem diNew_es (d b11 b12 n : Nat) : diE d ⟨b11, b12⟩ (diNew n) = [blk d #[.slice (some ⟨b11, 0, none⟩) n n, .map (some b12), .bool false, .int .i64 0, .bool false] 205, oSl (.slice (some ⟨b11, 0, none⟩) n n) 200 512 n ((List.replicate n Sec.zero).flatMap Sec.l), mpA b12 []] := by
  simp [diE, diSl, diNew, diCells, diMap]
set_option maxRecDepth 100000 in
theorem diNone_spec (d : Nat) (g : DiG) (m : DiM) {w0 : World} : Spec Tryz.prog 165 #[.pointer (some ⟨d, 0, none⟩)] w0 [blk d (diCells g m) 205] [] (fun v es1 ds1 => v = .bool false ∧ es1 = [blk d (diCells g m) 205] ∧ ds1 = []) := by
 refine Spec.intro (fun F D hs => ?_)
 refine Calls_of_EC (args := [.pointer (some ⟨d, 0, none⟩)]) Tryz.func165 rfl rfl rfl ?_
 refine EC_rseq ?_
 refine EL_run rfl (R_assign rfl) ?_
 refine EL_nil ?_
 refine EC_rseq ?_
 refine EL_run rfl (R_move rfl) ?_
 refine EL_run rfl (R_eqlPtrNil Tryz.underlying24 rfl rfl) ?_
 refine EL_run rfl (R_move rfl) ?_
 refine EL_split 5 rfl (fun hg2 => ?_) (fun hg2 => ?_)
 ·exact Bool.noConfusion hg2
 ·have hg2p := cvt hg2; try dsimp only at hg2p
  refine EL_want rfl rfl hg2 ?_
  refine EL_run rfl (R_move rfl) ?_
  refine EL_want rfl rfl hg2 ?_
  refine EL_run rfl (R_nilCheck rfl) ?_
  refine EL_want rfl rfl hg2 ?_
  refine EL_run rfl (R_field fo_205_0 rfl) ?_
  refine EL_want rfl rfl hg2 ?_
  refine EL_run rfl (R_lb (hs.at (i := 0) rfl) Tryz.isAgg202 rfl rfl) ?_
  refine EL_want rfl rfl hg2 ?_
  refine EL_run rfl (R_eqlSlNil Tryz.underlying202 rfl rfl) ?_
  refine EL_run rfl (R_pickF rfl hg2 rfl) ?_
  refine EL_run rfl (R_assign rfl) ?_
  refine EL_nil ?_
  refine EC_ret ?_
  exact ⟨[_], ⟨rfl, trivial⟩, _, _, ⟨rfl, rfl, rfl⟩, (hs.fin [true] []).as rfl rfl⟩

set_option maxRecDepth 100000 in
theorem diLen_spec (d : Nat) (g : DiG) (m : DiM) {w0 : World} : Spec Tryz.prog 159 #[.pointer (some ⟨d, 0, none⟩)] w0 [blk d (diCells g m) 205] [] (fun v es1 ds1 => v = .int .i64 (m.lasts.length : Int) ∧ es1 = [blk d (diCells g m) 205] ∧ ds1 = []) := by
 refine Spec.intro (fun F D hs => ?_)
 refine Calls_of_EC (args := [.pointer (some ⟨d, 0, none⟩)]) Tryz.func159 rfl rfl rfl ?_
 refine EC_rseq ?_
 refine EL_run rfl (R_assign rfl) ?_
 refine EL_nil ?_
 refine EC_seq ?_
 refine EC_rseq ?_
 refine EL_run rfl (R_move rfl) ?_
 refine EL_op rfl (O_call hs [true] [] rfl rfl rfl Tryz.call165 (diNone_spec d g m) (fun v es1 ds1 w hPhi hs => ?_))
 obtain ⟨rfl, rfl, rfl⟩ := hPhi
 refine EL_nil ?_
 refine EC_cond rfl (fun hc4 => ?_) (fun hc4 => ?_)
 ·exact Bool.noConfusion hc4
 ·have hc4p := cvt hc4; try dsimp only at hc4p
  refine EC_skip ?_
  refine Then_n ?_
  refine EC_rseq ?_
  refine EL_run rfl (R_move rfl) ?_
  refine EL_run rfl (R_nilCheck rfl) ?_
  refine EL_run rfl (R_field fo_205_0 rfl) ?_
  refine EL_run rfl (R_lb (hs.at (i := 0) rfl) Tryz.isAgg202 rfl rfl) ?_
  refine EL_run rfl (R_lenS Tryz.underlying202 rfl) ?_
  refine EL_run rfl (R_assign rfl) ?_
  refine EL_nil ?_
  refine EC_ret ?_
  exact ⟨[_], ⟨rfl, trivial⟩, _, _, ⟨rfl, rfl, rfl⟩, (hs.fin [true] []).as rfl rfl⟩

set_option maxRecDepth 100000 in
theorem diCheck_spec (d : Nat) (g : DiG) (m : DiM) (i : Int) {w0 : World} : Spec Tryz.prog 108 #[.pointer (some ⟨d, 0, none⟩), .int .i64 i] w0 [blk d (diCells g m) 205] [] (fun v es1 ds1 => v = .int .i64 (diCheck m i) ∧ es1 = [blk d (diCells g m) 205] ∧ ds1 = []) := by
 refine Spec.intro (fun F D hs => ?_)
 refine Calls_of_EC (args := [.pointer (some ⟨d, 0, none⟩), .int .i64 i]) Tryz.func108 rfl rfl rfl ?_
 refine EC_rseq ?_
 refine EL_run rfl (R_assign rfl) ?_
 refine EL_nil ?_
 refine EC_seq ?_
 refine EC_block ?_
 refine EC_rseq ?_
 refine EL_run rfl (R_move rfl) ?_
 refine EL_op rfl (O_call hs [true] [] rfl rfl rfl Tryz.call165 (diNone_spec d g m) (fun v es1 ds1 w hPhi hs => ?_))
 obtain ⟨rfl, rfl, rfl⟩ := hPhi
 refine EL_run rfl (R_assign rfl) ?_
 refine EL_nil ?_
 refine EC_cond rfl (fun hc5 => ?_) (fun hc5 => ?_)
 ·exact Bool.noConfusion hc5
 ·have hc5p := cvt hc5; try dsimp only at hc5p
  refine EC_rseq ?_
  refine EL_run rfl (R_move rfl) ?_
  refine EL_run rfl (R_lss rfl rfl) ?_
  refine EL_run rfl (R_move rfl) ?_
  refine EL_split 11 rfl (fun hg2 => ?_) (fun hg2 => ?_)
  ·have hg2p := cvt hg2; try dsimp only at hg2p
   refine EL_pass rfl rfl rfl hg2 ?_
   refine EL_pass rfl rfl rfl hg2 ?_
   refine EL_pass rfl rfl rfl hg2 ?_
   refine EL_pass rfl rfl rfl hg2 ?_
   refine EL_pass rfl rfl rfl hg2 ?_
   refine EL_pass rfl rfl rfl hg2 ?_
   refine EL_pass rfl rfl rfl hg2 ?_
   refine EL_run rfl (R_pickT rfl hg2 rfl) ?_
   refine EL_run rfl (R_assign rfl) ?_
   refine EL_nil ?_
   refine EC_cond rfl (fun hcx => ?_) (fun hcx => ?_)
   ·skip
    refine EC_rseq ?_
    refine EL_run rfl (R_assign rfl) ?_
    refine EL_nil ?_
    refine EC_ret ?_
    refine InBlock_r ?_
    refine Then_r ?_
    exact ⟨[_], ⟨rfl, trivial⟩, _, _, ⟨by rw [diCheck, if_pos (by omega)]; rfl, rfl, rfl⟩, (hs.fin [true] []).as rfl rfl⟩
   ·exact Bool.noConfusion hcx
  ·have hg2p := cvt hg2; try dsimp only at hg2p
   refine EL_want rfl rfl hg2 ?_
   refine EL_run rfl (R_move rfl) ?_
   refine EL_want rfl rfl hg2 ?_
   refine EL_run rfl (R_move rfl) ?_
   refine EL_want rfl rfl hg2 ?_
   refine EL_run rfl (R_nilCheck rfl) ?_
   refine EL_want rfl rfl hg2 ?_
   refine EL_run rfl (R_field fo_205_0 rfl) ?_
   refine EL_want rfl rfl hg2 ?_
   refine EL_run rfl (R_lb (hs.at (i := 0) rfl) Tryz.isAgg202 rfl rfl) ?_
   refine EL_want rfl rfl hg2 ?_
   refine EL_run rfl (R_lenS Tryz.underlying202 rfl) ?_
   refine EL_want rfl rfl hg2 ?_
   refine EL_run rfl (R_geq rfl rfl) ?_
   refine EL_run rfl (R_pickF rfl hg2 rfl) ?_
   refine EL_run rfl (R_assign rfl) ?_
   refine EL_nil ?_
   refine EC_cond rfl (fun hc8 => ?_) (fun hc8 => ?_)
   ·have hc8p := cvt hc8; try dsimp only at hc8p
    refine EC_rseq ?_
    refine EL_run rfl (R_assign rfl) ?_
    refine EL_nil ?_
    refine EC_ret ?_
    refine InBlock_r ?_
    refine Then_r ?_
    exact ⟨[_], ⟨rfl, trivial⟩, _, _, ⟨by rw [diCheck, if_pos (by omega)]; rfl, rfl, rfl⟩, (hs.fin [true] []).as rfl rfl⟩
   ·have hc8p := cvt hc8; try dsimp only at hc8p
    refine EC_skip ?_
    refine InBlock_n ?_
    refine Then_n ?_
    refine EC_rseq ?_
    refine EL_run rfl (R_assign rfl) ?_
    refine EL_nil ?_
    refine EC_ret ?_
    exact ⟨[_], ⟨rfl, trivial⟩, _, _, ⟨by rw [diCheck, if_neg (by omega)]; rfl, rfl, rfl⟩, (hs.fin [true] []).as rfl rfl⟩

set_option maxRecDepth 100000 in
theorem diSpend_spec (d : Nat) (g : DiG) (m : DiM) {w0 : World} (hm : m.ok) : Spec Tryz.prog 109 #[.pointer (some ⟨d, 0, none⟩)] w0 [blk d (diCells g m) 205] [] (fun v es1 ds1 => v = .int .i64 (diSpend m).2 ∧ es1 = [blk d (diCells g (diSpend m).1) 205] ∧ ds1 = []) := by
 refine Spec.intro (fun F D hs => ?_)
 refine Calls_of_EC (args := [.pointer (some ⟨d, 0, none⟩)]) Tryz.func109 rfl rfl rfl ?_
 refine EC_rseq ?_
 refine EL_run rfl (R_assign rfl) ?_
 refine EL_nil ?_
 refine EC_cut (fun ρ w => Slots ρ [(0, .pointer (some ⟨d, 0, none⟩))] ∧ St w0 F D [blk d (diCells g { m with gone := diGone m }) 205] [] w) ?_ ?_
 ·skip
  refine EC_region ?_
  refine EL_run rfl (R_move rfl) ?_
  refine EL_run rfl (R_move rfl) ?_
  refine EL_run rfl (R_nilCheck rfl) ?_
  refine EL_run rfl (R_field fo_205_4 rfl) ?_
  refine EL_run rfl (R_lb (hs.at (i := 0) rfl) Tryz.isAgg4 rfl rfl) ?_
  refine EL_run rfl (R_move rfl) ?_
  refine EL_split 8 rfl (fun hg5 => ?_) (fun hg5 => ?_)
  ·have hg5p := cvt hg5; try dsimp only at hg5p
   refine EL_pass rfl rfl rfl hg5 ?_
   refine EL_pass rfl rfl rfl hg5 ?_
   refine EL_pass rfl rfl rfl hg5 ?_
   refine EL_pass rfl rfl rfl hg5 ?_
   refine EL_pass rfl rfl rfl hg5 ?_
   refine EL_passU rfl rfl rfl ?_
   refine EL_passU rfl rfl rfl ?_
   refine EL_passU rfl rfl rfl ?_
   refine EL_passU rfl rfl rfl ?_
   refine EL_passU rfl rfl rfl ?_
   refine EL_pass rfl rfl rfl hg5 ?_
   refine EL_run rfl (R_pickT rfl hg5 rfl) ?_
   skip
   refine EL_run rfl (R_nilCheck rfl) ?_
   refine EL_run rfl (R_field fo_205_4 rfl) ?_
   refine EL_op rfl (O_store hs (i := 0) rfl Tryz.sizeOf4 rfl rfl rfl rfl (fun w hs => ?_))
   refine EL_nil ?_
   refine Then_n ?_
   exact ⟨⟨rfl, trivial⟩, hs.as (by
     first
       | (rw [show diGone m = true by unfold diGone; rw [hg5p]; rfl]; rfl)
       | (rw [show diGone m = false by unfold diGone; rw [hg5p, hg10p]; rfl]; rfl)
       | (rw [show diGone m = decide (m.left = 0) by unfold diGone; rw [hg5p, hg10p]; rfl]; rfl)) rfl⟩
  ·have hg5p := cvt hg5; try dsimp only at hg5p
   refine EL_want rfl rfl hg5 ?_
   refine EL_run rfl (R_move rfl) ?_
   refine EL_want rfl rfl hg5 ?_
   refine EL_run rfl (R_nilCheck rfl) ?_
   refine EL_want rfl rfl hg5 ?_
   refine EL_run rfl (R_field fo_205_2 rfl) ?_
   refine EL_want rfl rfl hg5 ?_
   refine EL_run rfl (R_lb (hs.at (i := 0) rfl) Tryz.isAgg4 rfl rfl) ?_
   refine EL_want rfl rfl hg5 ?_
   refine EL_run rfl (R_move rfl) ?_
   refine EL_split 13 rfl (fun hg10 => ?_) (fun hg10 => ?_)
   ·have hg10p := cvt hg10; try dsimp only at hg10p
    refine EL_want rfl rfl hg10 ?_
    refine EL_run rfl (R_move rfl) ?_
    refine EL_want rfl rfl hg10 ?_
    refine EL_run rfl (R_nilCheck rfl) ?_
    refine EL_want rfl rfl hg10 ?_
    refine EL_run rfl (R_field fo_205_3 rfl) ?_
    refine EL_want rfl rfl hg10 ?_
    refine EL_run rfl (R_lb (hs.at (i := 0) rfl) Tryz.isAgg3 rfl rfl) ?_
    refine EL_want rfl rfl hg10 ?_
    refine EL_run rfl (R_eql rfl rfl) ?_
    refine EL_want rfl rfl hg5 ?_
    refine EL_run rfl (R_pickT rfl hg10 rfl) ?_
    refine EL_run rfl (R_pickF rfl hg5 rfl) ?_
    skip
    refine EL_run rfl (R_nilCheck rfl) ?_
    refine EL_run rfl (R_field fo_205_4 rfl) ?_
    refine EL_op rfl (O_store hs (i := 0) rfl Tryz.sizeOf4 rfl rfl rfl rfl (fun w hs => ?_))
    refine EL_nil ?_
    refine Then_n ?_
    exact ⟨⟨rfl, trivial⟩, hs.as (by
      first
        | (rw [show diGone m = true by unfold diGone; rw [hg5p]; rfl]; rfl)
        | (rw [show diGone m = false by unfold diGone; rw [hg5p, hg10p]; rfl]; rfl)
        | (rw [show diGone m = decide (m.left = 0) by unfold diGone; rw [hg5p, hg10p]; rfl]; rfl)) rfl⟩
   ·have hg10p := cvt hg10; try dsimp only at hg10p
    refine EL_pass rfl rfl rfl hg10 ?_
    refine EL_pass rfl rfl rfl hg10 ?_
    refine EL_pass rfl rfl rfl hg10 ?_
    refine EL_pass rfl rfl rfl hg10 ?_
    refine EL_pass rfl rfl rfl hg10 ?_
    refine EL_want rfl rfl hg5 ?_
    refine EL_run rfl (R_pickF rfl hg10 rfl) ?_
    refine EL_run rfl (R_pickF rfl hg5 rfl) ?_
    skip
    refine EL_run rfl (R_nilCheck rfl) ?_
    refine EL_run rfl (R_field fo_205_4 rfl) ?_
    refine EL_op rfl (O_store hs (i := 0) rfl Tryz.sizeOf4 rfl rfl rfl rfl (fun w hs => ?_))
    refine EL_nil ?_
    refine Then_n ?_
    exact ⟨⟨rfl, trivial⟩, hs.as (by
      first
        | (rw [show diGone m = true by unfold diGone; rw [hg5p]; rfl]; rfl)
        | (rw [show diGone m = false by unfold diGone; rw [hg5p, hg10p]; rfl]; rfl)
        | (rw [show diGone m = decide (m.left = 0) by unfold diGone; rw [hg5p, hg10p]; rfl]; rfl)) rfl⟩
 ·rintro ρ w ⟨hsl, hs⟩
  refine EC_slots _ hsl ?_
  obtain ⟨m2, hm2⟩ : ∃ m2, m2 = { m with gone := diGone m } := ⟨_, rfl⟩
  rw [← hm2] at hs
  have hleft : 0 ≤ m2.left ∧ m2.left ≤ 1000000000000 := by rw [hm2]; exact hm.left
  have hgo : m2.gone = diGone m := by rw [hm2]
  have hfu : m2.fused = m.fused := by rw [hm2]
  refine EC_seq ?_
  refine EC_rseq ?_
  refine EL_run rfl (R_move rfl) ?_
  refine EL_run rfl (R_nilCheck rfl) ?_
  refine EL_run rfl (R_field fo_205_4 rfl) ?_
  refine EL_run rfl (R_lb (hs.at (i := 0) rfl) Tryz.isAgg4 rfl rfl) ?_
  refine EL_nil ?_
  refine EC_cond rfl (fun hc26 => ?_) (fun hc26 => ?_)
  ·have hc26p := cvt hc26; try dsimp only at hc26p
   have hgv : diSpend m = ({ m with gone := true }, 17) := by rw [diSpend, if_pos (hgo ▸ hc26p)]
   have hm3 : m2 = { m with gone := true } := by rw [hm2, ← hgo, hc26p]
   refine EC_rseq ?_
   refine EL_run rfl (R_assign rfl) ?_
   refine EL_nil ?_
   refine EC_ret ?_
   refine Then_r ?_
   exact ⟨[_], ⟨rfl, trivial⟩, _, _, ⟨by rw [hgv]; rfl, rfl, rfl⟩, (hs.fin [true] []).as (by rw [hgv, hm3]; rfl) rfl⟩
  ·have hc26p := cvt hc26; try dsimp only at hc26p
   have hgn : ¬ diGone m = true := by rw [← hgo, hc26p]; exact Bool.noConfusion
   have hm3 : m2 = { m with gone := false } := by rw [hm2, ← hgo, hc26p]
   refine EC_skip ?_
   refine Then_n ?_
   refine EC_seq ?_
   refine EC_rseq ?_
   refine EL_run rfl (R_move rfl) ?_
   refine EL_run rfl (R_nilCheck rfl) ?_
   refine EL_run rfl (R_field fo_205_2 rfl) ?_
   refine EL_run rfl (R_lb (hs.at (i := 0) rfl) Tryz.isAgg4 rfl rfl) ?_
   refine EL_nil ?_
   refine EC_cond rfl (fun hc30 => ?_) (fun hc30 => ?_)
   ·have hc30p := cvt hc30; try dsimp only at hc30p
    have hgv : diSpend m = ({ m with gone := false, left := m.left - 1 }, 0) := by rw [diSpend, if_neg hgn, if_pos (hfu ▸ hc30p)]
    refine EC_region ?_
    refine EL_run rfl (R_move rfl) ?_
    refine EL_run rfl (R_nilCheck rfl) ?_
    refine EL_run rfl (R_field fo_205_3 rfl) ?_
    refine EL_run rfl (R_lb (hs.at (i := 0) rfl) Tryz.isAgg3 rfl rfl) ?_
    refine EL_run rfl (R_subI rfl rfl (by omega)) ?_
    refine EL_run rfl (R_nilCheck rfl) ?_
    refine EL_run rfl (R_field fo_205_3 rfl) ?_
    refine EL_op rfl (O_store hs (i := 0) rfl Tryz.sizeOf3 rfl rfl rfl rfl (fun w hs => ?_))
    refine EL_nil ?_
    refine Then_n ?_
    refine EC_rseq ?_
    refine EL_run rfl (R_assign rfl) ?_
    refine EL_nil ?_
    refine EC_ret ?_
    exact ⟨[_], ⟨rfl, trivial⟩, _, _, ⟨by rw [hgv]; rfl, rfl, rfl⟩, (hs.fin [true] []).as (by rw [hgv, hm3]; rfl) rfl⟩
   ·have hc30p := cvt hc30; try dsimp only at hc30p
    have hgv : diSpend m = ({ m with gone := false }, 0) := by rw [diSpend, if_neg hgn, if_neg (by rw [← hfu, hc30p]; exact Bool.noConfusion)]
    refine EC_skip ?_
    refine Then_n ?_
    refine EC_rseq ?_
    refine EL_run rfl (R_assign rfl) ?_
    refine EL_nil ?_
    refine EC_ret ?_
    exact ⟨[_], ⟨rfl, trivial⟩, _, _, ⟨by rw [hgv]; rfl, rfl, rfl⟩, (hs.fin [true] []).as (by rw [hgv, hm3]; rfl) rfl⟩

set_option maxRecDepth 100000 in
theorem diNew_spec (n : Nat) {w0 : World} (hn : 1 ≤ n ∧ n ≤ 8192) : Spec Tryz.prog 58 #[.int .i64 (n : Int)] w0 [] [] (fun v es1 ds1 => ∃ d g, v = .tuple #[.pointer (some ⟨d, 0, none⟩), .int .i64 0] ∧ es1 = diE d g (diNew n) ∧ ds1 = []) := by
 refine Spec.intro (fun F D hs => ?_)
 refine Calls_of_EC (args := [.int .i64 (n : Int)]) Tryz.func58 rfl rfl rfl ?_
 refine EC_rseq ?_
 refine EL_run rfl (R_assign rfl) ?_
 refine EL_run rfl (R_assign rfl) ?_
 refine EL_nil ?_
 refine EC_seq ?_
 refine EC_rseq ?_
 refine EL_run rfl (R_move rfl) ?_
 refine EL_run rfl (R_lss rfl rfl) ?_
 refine EL_run rfl (R_move rfl) ?_
 refine EL_split 6 rfl (fun hg2 => ?_) (fun hg2 => ?_)
 ·exact absurd (of_decide_eq_true hg2) (by omega)
 ·have hg2p := cvt hg2; try dsimp only at hg2p
  refine EL_want rfl rfl hg2 ?_
  refine EL_run rfl (R_move rfl) ?_
  refine EL_want rfl rfl hg2 ?_
  refine EL_run rfl (R_gtr rfl rfl) ?_
  refine EL_run rfl (R_pickF rfl hg2 rfl) ?_
  refine EL_nil ?_
  refine EC_cond rfl (fun hc9 => ?_) (fun hc9 => ?_)
  ·exact absurd (of_decide_eq_true hc9) (by omega)
  ·have hc9p := cvt hc9; try dsimp only at hc9p
   refine EC_skip ?_
   refine Then_n ?_
   refine EC_rseq ?_
   refine EL_run rfl (R_move rfl) ?_
   refine EL_op rfl (O_makeSlice hs rfl ei_202 Tryz.zeroValue200 rfl rfl (by omega) (by omega) (fun b11 w hb11 hs => ?_))
   have hs := hs.as (es' := [oSl (.slice (some ⟨b11, 0, none⟩) n n) 200 512 n ((List.replicate n Sec.zero).flatMap Sec.l)]) (by rw [← secs_zero n _ sec_zero]; rfl) rfl
   refine EL_op rfl (O_makeMap hs rfl (fun b12 w hb12 hs => ?_))
   refine EL_run rfl (R_buildS (cs := #[.slice (some ⟨b11, 0, none⟩) n n, .map (some b12), .bool false, .int .i64 0, .bool false]) [(0, .tmp 11), (1, .tmp 12)] pl_205 Tryz.zeroValue205 rfl rfl (diNew_fill n b11 b12)) ?_
   refine EL_op rfl (O_box hs rfl rfl (fun b14 w hb14 hs => ?_))
   refine EL_run rfl (R_assign rfl) ?_
   refine EL_run rfl (R_assign rfl) ?_
   have hs := (hs.perm (es' := [_, _, _]) (List.perm_append_comm (l₁ := [_, _]) (l₂ := [_])))
   refine EL_nil ?_
   refine EC_ret ?_
   exact ⟨[_, _], ⟨rfl, rfl, trivial⟩, _, _, ⟨b14, ⟨b11, b12⟩, rfl, rfl, rfl⟩, (hs.fin [true, true, true] []).as (by rw [diNew_es]; rfl) rfl⟩

set_option maxRecDepth 100000 in
theorem diWrite_spec (d : Nat) (g : DiG) (m : DiM) (i : Int) (ao : Option Addr) (c : Nat) (b : BL) {w0 : World} (hm : m.ok) (hb : b.length ≤ 1000000) : Spec Tryz.prog 31 #[.pointer (some ⟨d, 0, none⟩), .int .i64 i, .slice ao b.length c] w0 (diE d g m) [dB ao c b] (fun v es1 ds1 => v = .int .i64 (diWrite m i b).2 ∧ es1 = diE d g (diWrite m i b).1 ∧ ds1 = []) := by
 refine Spec.intro (fun F D hs => ?_)
 refine Calls_of_EC (args := [.pointer (some ⟨d, 0, none⟩), .int .i64 i, .slice ao b.length c]) Tryz.func31 rfl rfl rfl ?_
 refine EC_rseq ?_
 refine EL_run rfl (R_assign rfl) ?_
 refine EL_nil ?_
 refine EC_rseq ?_
 refine EL_run rfl (R_move rfl) ?_
 refine EL_run rfl (R_move rfl) ?_
 refine EL_op rfl (O_call hs [true] [] rfl rfl rfl Tryz.call108 (diCheck_spec d g m i) (fun v es1 ds1 w hPhi hs => ?_))
 obtain ⟨rfl, rfl, rfl⟩ := hPhi
 refine EL_run rfl (R_assign rfl) ?_
 refine EL_nil ?_
 refine EC_cut (fun ρ w => ∃ e : Int, e = diBad m i b ∧ Slots ρ [(0, .pointer (some ⟨d, 0, none⟩)), (1, .int .i64 i), (2, .slice ao b.length c), (7, .int .i64 e)] ∧ St w0 F D (diE d g m) [dB ao c b] w) ?_ ?_
 ·skip
  refine EC_rseq ?_
  refine EL_run rfl (R_move rfl) ?_
  refine EL_run rfl (R_eql rfl rfl) ?_
  refine EL_run rfl (R_move rfl) ?_
  refine EL_split 14 rfl (fun hg2 => ?_) (fun hg2 => ?_)
  ·have hg2p := cvt hg2; try dsimp only at hg2p
   refine EL_want rfl rfl hg2 ?_
   refine EL_run rfl (R_move rfl) ?_
   refine EL_want rfl rfl hg2 ?_
   refine EL_run rfl (R_lenS Tryz.underlying36 rfl) ?_
   refine EL_want rfl rfl hg2 ?_
   refine EL_run rfl (R_gtr rfl rfl) ?_
   refine EL_run rfl (R_pickT rfl hg2 rfl) ?_
   refine EL_nil ?_
   refine EC_cond rfl (fun hc18 => ?_) (fun hc18 => ?_)
   ·have hc18p := cvt hc18; try dsimp only at hc18p
    refine EC_region ?_
    refine EL_run rfl (R_assign rfl) ?_
    refine EL_nil ?_
    refine Then_n ?_
    first | exact ⟨3, by rw [diBad, if_neg (by omega), if_pos (by omega)], ⟨rfl, rfl, rfl, rfl, trivial⟩, (hs.fin [true, true, true] [0]).as rfl rfl⟩ | exact ⟨diCheck m i, by unfold diBad; split <;> first | rfl | (split <;> omega), ⟨rfl, rfl, rfl, rfl, trivial⟩, (hs.fin [true, true, true] [0]).as rfl rfl⟩
   ·have hc18p := cvt hc18; try dsimp only at hc18p
    refine EC_skip ?_
    refine Then_n ?_
    first | exact ⟨3, by rw [diBad, if_neg (by omega), if_pos (by omega)], ⟨rfl, rfl, rfl, rfl, trivial⟩, (hs.fin [true, true, true] [0]).as rfl rfl⟩ | exact ⟨diCheck m i, by unfold diBad; split <;> first | rfl | (split <;> omega), ⟨rfl, rfl, rfl, rfl, trivial⟩, (hs.fin [true, true, true] [0]).as rfl rfl⟩
  ·have hg2p := cvt hg2; try dsimp only at hg2p
   refine EL_pass rfl rfl rfl hg2 ?_
   refine EL_pass rfl rfl rfl hg2 ?_
   refine EL_pass rfl rfl rfl hg2 ?_
   refine EL_run rfl (R_pickF rfl hg2 rfl) ?_
   refine EL_nil ?_
   refine EC_cond rfl (fun hcx => ?_) (fun hcx => ?_)
   ·exact Bool.noConfusion hcx
   ·skip
    refine EC_skip ?_
    refine Then_n ?_
    first | exact ⟨3, by rw [diBad, if_neg (by omega), if_pos (by omega)], ⟨rfl, rfl, rfl, rfl, trivial⟩, (hs.fin [true, true, true] [0]).as rfl rfl⟩ | exact ⟨diCheck m i, by unfold diBad; split <;> first | rfl | (split <;> omega), ⟨rfl, rfl, rfl, rfl, trivial⟩, (hs.fin [true, true, true] [0]).as rfl rfl⟩
 ·rintro ρ w ⟨e, he, hsl, hs⟩
  refine EC_slots _ hsl ?_
  refine EC_cut (fun ρ w => ∃ (e : Int) (m2 : DiM), (e ≠ 0 ∧ diWrite m i b = (m2, e) ∨ e = 0 ∧ diWrite m i b = ({ m2 with waits := sput m2.waits i (Sec.of b) }, 0)) ∧ Slots ρ [(0, .pointer (some ⟨d, 0, none⟩)), (1, .int .i64 i), (2, .slice ao b.length c), (7, .int .i64 e)] ∧ St w0 F D (diE d g m2) [dB ao c b] w) ?_ ?_
  ·skip
   refine EC_rseq ?_
   refine EL_run rfl (R_move rfl) ?_
   refine EL_run rfl (R_eql rfl rfl) ?_
   refine EL_nil ?_
   refine EC_cond rfl (fun hc20 => ?_) (fun hc20 => ?_)
   ·have hc20p := cvt hc20; try dsimp only at hc20p
    refine EC_region ?_
    refine EL_run rfl (R_move rfl) ?_
    refine EL_op rfl (O_call hs [true] [] rfl rfl rfl Tryz.call109 (diSpend_spec d g m hm) (fun v es1 ds1 w hPhi hs => ?_))
    obtain ⟨rfl, rfl, rfl⟩ := hPhi
    refine EL_run rfl (R_assign rfl) ?_
    refine EL_nil ?_
    refine Then_n ?_
    exact ⟨(diSpend m).2, (diSpend m).1, diWrite_spend (he ▸ hc20p), ⟨rfl, rfl, rfl, rfl, trivial⟩, (hs.fin [true, true, true] [0]).as (diE_spend d g m) rfl⟩
   ·have hc20p := cvt hc20; try dsimp only at hc20p
    refine EC_skip ?_
    refine Then_n ?_
    exact ⟨e, m, .inl ⟨hc20p, diWrite_bad he hc20p⟩, ⟨rfl, rfl, rfl, rfl, trivial⟩, (hs.fin [true, true, true] [0]).as rfl rfl⟩
  ·rintro ρ w ⟨e, m2, hor, hsl, hs⟩
   refine EC_slots _ hsl ?_
   refine EC_seq ?_
   refine EC_rseq ?_
   refine EL_run rfl (R_move rfl) ?_
   refine EL_run rfl (R_neq rfl rfl) ?_
   refine EL_nil ?_
   refine EC_cond rfl (fun hc24 => ?_) (fun hc24 => ?_)
   ·have hc24p := cvt hc24; try dsimp only at hc24p
    have hgv := (hor.resolve_right (fun h => hc24p h.1)).2
    refine EC_rseq ?_
    refine EL_run rfl (R_move rfl) ?_
    refine EL_run rfl (R_assign rfl) ?_
    refine EL_nil ?_
    refine EC_ret ?_
    refine Then_r ?_
    exact ⟨[_], ⟨rfl, trivial⟩, _, _, ⟨by rw [hgv]; rfl, rfl, rfl⟩, (hs.fin [true, true, true] []).as (by rw [hgv]; rfl) rfl⟩
   ·have hc24p := cvt hc24; try dsimp only at hc24p
    have hgv := (hor.resolve_left (fun h => h.1 (by omega))).2
    refine EC_skip ?_
    refine Then_n ?_
    refine EC_rseq ?_
    refine EL_op rfl (O_alloc hs rfl Tryz.zeroValue200 (fun b8 w hb8 hs => ?_))
    refine EL_nil ?_
    refine EC_rseq ?_
    refine EL_run rfl (R_sliceArr Tryz.underlying200 Tryz.sizeOf5 rfl) ?_
    refine EL_run rfl (R_move rfl) ?_
    refine EL_op rfl (O_copy hs (i := 3) rfl rfl Tryz.underlying36 sz_5 rfl rfl (Src.data (hs.rd (i := 0) rfl)) (Nat.le_of_eq zeroSec_size.symm) (u8s_one _) (fun w hs => ?_))
    have hs := hs.as (es' := diE d g m2 ++ [blk b8 (Sec.of b).l.toArray 200]) (by rw [← sec_copy]; rfl) rfl
    refine EL_nil ?_
    refine EC_dseqS hs [6] [3, 5] [0, 3] [] (.take 0 (.take 1 (.take 2 (.take 3 (.take 4 (.take 5 (.fork 6 .done (.done)))))))) mix_ok (by kernel_rfl) (fun w hs _ => ?_)
    refine EP_take rfl rfl rfl (fun _ => R_move rfl) ?_
    refine EP_take rfl rfl rfl (fun _ => R_nilCheck rfl) ?_
    refine EP_take rfl rfl rfl (fun _ => R_field fo_205_1 rfl) ?_
    refine EP_read rfl rfl rfl (RdS.of hs rfl rfl) (fun _ hR => R_lb (hR.e 0 rfl rfl) Tryz.isAgg203 rfl rfl) ?_
    refine EP_take rfl rfl rfl (fun _ => R_move rfl) ?_
    refine EP_read rfl rfl rfl (RdS.of hs rfl rfl) (fun _ hR => R_lw (hR.e 3 rfl rfl) Tryz.isAgg200 Tryz.sizeOf200 rfl (by simp [Sec.len])) ?_
    refine EP_act rfl rfl (O_mapUpdate hs (i := 2) rfl Tryz.underlying203 Tryz.underlying3 rfl rfl rfl (fun w hs => ⟨(rq_no (by kernel_rfl)), ?_⟩))
    have hs : St w0 F D (diE d g { m2 with waits := sput m2.waits i (Sec.of b) } ++ [blk b8 (Sec.of b).l.toArray 200]) [dB ao c b] w := hs.as (by rw [diE_put]; rfl) rfl
    refine EP_done ?_
    refine EC_rseq ?_
    refine EL_run rfl (R_assign rfl) ?_
    refine EL_nil ?_
    refine EC_ret ?_
    exact ⟨[_], ⟨rfl, trivial⟩, _, _, ⟨by rw [hgv]; rfl, rfl, rfl⟩, (hs.fin [true, true, true] []).as (by rw [hgv]; rfl) rfl⟩

set_option maxRecDepth 100000 in
theorem blkCheck_spec (d : Nat) (g : DiG) (m : DiM) (p : Ptr) {w0 : World} (hm : m.ok) : Spec Tryz.prog 258 #[.pointer (some ⟨d, 0, none⟩), p.val] w0 [blk d (diCells g m) 205] [] (fun v es1 ds1 => v = .int .i64 (blkCheck m.lasts.length p) ∧ es1 = [blk d (diCells g m) 205] ∧ ds1 = []) := by
 refine Spec.intro (fun F D hs => ?_)
 refine Calls_of_EC (args := [.pointer (some ⟨d, 0, none⟩), p.val]) Tryz.func258 rfl rfl rfl ?_
 refine EC_rseq ?_
 refine EL_op rfl (O_box hs rfl rfl (fun b3 w hb3 hs => ?_))
 refine EL_run rfl (R_assign rfl) ?_
 refine EL_nil ?_
 refine EC_seq ?_
 refine EC_block ?_
 refine EC_rseq ?_
 refine EL_run rfl (R_move rfl) ?_
 refine EL_op rfl (O_call hs [true] [] rfl rfl rfl Tryz.call159 (diLen_spec d g m) (fun v es1 ds1 w hPhi hs => ?_))
 obtain ⟨rfl, rfl, rfl⟩ := hPhi
 refine EL_run rfl (R_eql rfl rfl) ?_
 refine EL_run rfl (R_assign rfl) ?_
 refine EL_nil ?_
 refine EC_cond rfl (fun hc5 => ?_) (fun hc5 => ?_)
 ·exact absurd (of_decide_eq_true hc5) (by have := hm.len; omega)
 ·have hc5p := cvt hc5; try dsimp only at hc5p
  refine EC_dseqS hs [1, 7, 10] [0, 5, 6] [1] [] (.take 0 (.fork 1 (.take 2 (.take 3 (.take 4 (.take 5 (.take 6 (.take 9 (.fork 7 (.take 8 (.fork 10 (.take 11 (.take 12 (.take 13 .done))) (.done))) (.done)))))))) (.done))) mix_ok (by kernel_rfl) (fun w hs _ => ?_)
  refine EP_read rfl rfl rfl (RdS.of hs rfl rfl) (fun _ hR => R_lw (hR.e 1 rfl rfl) Tryz.isAgg32 Tryz.sizeOf32 rfl (Ptr.size p)) ?_
  refine EP_act rfl rfl (O_call hs [] [] rfl rfl rfl Tryz.call112 (right_spec p) (fun v es1 ds1 w hPhi hs => ?_))
  obtain ⟨rfl, rfl, rfl⟩ := hPhi
  refine ⟨(fun _ => RdS.of hs rfl rfl), ?_⟩
  refine EP_take rfl rfl rfl (fun _ => R_not rfl) ?_
  refine EP_take rfl rfl rfl (fun _ => R_move rfl) ?_
  refine EP_split 13 rfl (fun hg3 => ?_) (fun hg3 => ?_)
  ·have hg3p := cvt hg3; try dsimp only at hg3p
   refine EP_passT rfl rfl rfl hg3 rfl (fun _ => RdS.of hs rfl rfl) ?_
   refine EP_passT rfl rfl rfl hg3 rfl (fun _ => RdS.of hs rfl rfl) ?_
   refine EP_passT rfl rfl rfl hg3 rfl (fun _ => RdS.of hs rfl rfl) ?_
   refine EP_passT rfl rfl rfl hg3 rfl (fun _ => RdS.of hs rfl rfl) ?_
   refine EP_passF rfl rfl rfl hg3 rfl (fun _ => RdS.of hs rfl rfl) ?_
   refine EP_passT rfl rfl rfl hg3 rfl (fun _ => RdS.of hs rfl rfl) ?_
   refine EP_passF rfl rfl rfl hg3 rfl (fun _ => RdS.of hs rfl rfl) ?_
   refine EP_passT rfl rfl rfl hg3 rfl (fun _ => RdS.of hs rfl rfl) ?_
   refine EP_take rfl rfl rfl (fun _ => R_pickT rfl hg3 rfl) ?_
   refine EP_take rfl rfl rfl (fun _ => R_assign rfl) ?_
   refine EP_done ?_
   refine EC_cond rfl (fun hcx => ?_) (fun hcx => ?_)
   ·skip
    refine EC_rseq ?_
    refine EL_run rfl (R_assign rfl) ?_
    refine EL_nil ?_
    refine EC_ret ?_
    refine InBlock_r ?_
    refine Then_r ?_
    exact ⟨[_], ⟨rfl, trivial⟩, _, _, ⟨by rw [blkCheck, if_pos (by first | exact .inl hg3p | exact .inr hc9p)]; rfl, rfl, rfl⟩, (hs.fin [true] []).as rfl rfl⟩
   ·exact Bool.noConfusion hcx
  ·have hg3p := cvt hg3; try dsimp only at hg3p
   have hrt := Ptr.right_iff.1 hg3p
   refine EP_takeG rfl rfl rfl hg3 rfl rfl (fun _ => R_field fo_32_0 rfl) ?_
   refine EP_readG rfl rfl rfl hg3 rfl rfl (RdS.of hs rfl rfl) (fun _ hR => R_lb (hR.e 1 rfl rfl) Tryz.isAgg3 rfl rfl) ?_
   refine EP_readG rfl rfl rfl hg3 rfl rfl (RdS.of hs rfl rfl) (fun _ hR => R_lw (hR.e 1 rfl rfl) Tryz.isAgg32 Tryz.sizeOf32 rfl (Ptr.size p)) ?_
   refine EP_takeG rfl rfl rfl hg3 rfl rfl (fun _ => R_move rfl) ?_
   refine EP_actG rfl rfl rfl hg3 rfl (O_call hs [] [] rfl rfl rfl Tryz.call113 (sectors_spec p) (fun v es1 ds1 w hPhi hs => ?_))
   obtain ⟨rfl, rfl, rfl⟩ := hPhi
   have hsr := sectors_range p.len
   refine ⟨(fun _ => RdS.of hs rfl rfl), ?_⟩
   refine EP_takeG rfl rfl rfl hg3 rfl rfl (fun _ => R_addI rfl rfl (by omega)) ?_
   refine EP_actG rfl rfl rfl hg3 rfl (O_call hs [true] [] rfl rfl rfl Tryz.call159 (diLen_spec d g m) (fun v es1 ds1 w hPhi hs => ?_))
   obtain ⟨rfl, rfl, rfl⟩ := hPhi
   refine ⟨(fun _ => RdS.of hs rfl rfl), ?_⟩
   refine EP_takeG rfl rfl rfl hg3 rfl rfl (fun _ => R_gtr rfl rfl) ?_
   refine EP_take rfl rfl rfl (fun _ => R_pickF rfl hg3 rfl) ?_
   refine EP_take rfl rfl rfl (fun _ => R_assign rfl) ?_
   refine EP_done ?_
   refine EC_cond rfl (fun hc9 => ?_) (fun hc9 => ?_)
   ·have hc9p := cvt hc9; try dsimp only at hc9p
    refine EC_rseq ?_
    refine EL_run rfl (R_assign rfl) ?_
    refine EL_nil ?_
    refine EC_ret ?_
    refine InBlock_r ?_
    refine Then_r ?_
    exact ⟨[_], ⟨rfl, trivial⟩, _, _, ⟨by rw [blkCheck, if_pos (by first | exact .inl hg3p | exact .inr hc9p)]; rfl, rfl, rfl⟩, (hs.fin [true] []).as rfl rfl⟩
   ·have hc9p := cvt hc9; try dsimp only at hc9p
    refine EC_skip ?_
    refine InBlock_n ?_
    refine Then_n ?_
    refine EC_rseq ?_
    refine EL_run rfl (R_assign rfl) ?_
    refine EL_nil ?_
    refine EC_ret ?_
    exact ⟨[_], ⟨rfl, trivial⟩, _, _, ⟨by rw [blkCheck, if_neg (by rintro (h | h); exact Bool.noConfusion (hg3p.symm.trans h); exact hc9p h)]; rfl, rfl, rfl⟩, (hs.fin [true] []).as rfl rfl⟩

set_option maxRecDepth 100000 in
theorem blkWrite_spec (d : Nat) (g : DiG) (m : DiM) (pos birth : Int) (ao : Option Addr) (c : Nat) (b : BL) {w0 : World} (hm : m.ok) (hb : b.length ≤ 1000000) : Spec Tryz.prog 183 #[.pointer (some ⟨d, 0, none⟩), .int .i64 pos, .int .i64 birth, .slice ao b.length c] w0 (diE d g m) [dB ao c b] (fun v es1 ds1 => v = .tuple #[(blkWrite m pos birth b).2.1.val, .int .i64 (blkWrite m pos birth b).2.2] ∧ es1 = diE d g (blkWrite m pos birth b).1 ∧ ds1 = []) := by
 refine Spec.intro (fun F D hs => ?_)
 refine Calls_of_EC (args := [.pointer (some ⟨d, 0, none⟩), .int .i64 pos, .int .i64 birth, .slice ao b.length c]) Tryz.func183 rfl rfl rfl ?_
 refine EC_rseq ?_
 refine EL_op rfl (O_alloc hs rfl Tryz.zeroValue32 (fun b8 w hb8 hs => ?_))
 refine EL_run rfl (R_assign rfl) ?_
 refine EL_nil ?_
 refine EC_seq ?_
 refine EC_rseq ?_
 refine EL_run rfl (R_move rfl) ?_
 refine EL_op rfl (O_call hs [true] [] rfl rfl rfl Tryz.call159 (diLen_spec d g m) (fun v es1 ds1 w hPhi hs => ?_))
 obtain ⟨rfl, rfl, rfl⟩ := hPhi
 refine EL_run rfl (R_eql rfl rfl) ?_
 refine EL_nil ?_
 refine EC_cond rfl (fun hc18 => ?_) (fun hc18 => ?_)
 ·exact absurd (of_decide_eq_true hc18) (by have := hm.len; omega)
 ·have hc18p := cvt hc18; try dsimp only at hc18p
  refine EC_skip ?_
  refine Then_n ?_
  refine EC_rseq ?_
  refine EL_run rfl (R_move rfl) ?_
  refine EL_run rfl (R_move rfl) ?_
  refine EL_run rfl (R_move rfl) ?_
  refine EL_run rfl (R_lenS Tryz.underlying36 rfl) ?_
  refine EL_run rfl (R_buildS (cs := (Ptr.bare pos birth b.length).cells) [(0, .tmp 20), (1, .tmp 21), (2, .tmp 23)] pl_32 Tryz.zeroValue32 rfl rfl (by kernel_rfl)) ?_
  refine EL_op rfl (O_alloc hs rfl Tryz.zeroValue32 (fun b10 w hb10 hs => ?_))
  refine EL_op rfl (O_storeW hs (i := 4) rfl sz_32 rfl rfl rfl (Ptr.size _) (Ptr.oneA _) (fun w hs => ?_))
  refine EL_nil ?_
  refine EC_seq ?_
  refine EC_rseq ?_
  refine EL_run rfl (R_move rfl) ?_
  refine EL_run rfl (R_lw (hs.at (i := 4) rfl) Tryz.isAgg32 Tryz.sizeOf32 rfl (Ptr.size _)) ?_
  refine EL_op rfl (O_call hs [true] [] rfl rfl rfl Tryz.call258 (blkCheck_spec d g m (Ptr.bare pos birth b.length) hm) (fun v es1 ds1 w hPhi hs => ?_))
  obtain ⟨rfl, rfl, rfl⟩ := hPhi
  refine EL_run rfl (R_assign rfl) ?_
  refine EL_nil ?_
  refine EC_rseq ?_
  refine EL_run rfl (R_move rfl) ?_
  refine EL_run rfl (R_neq rfl rfl) ?_
  refine EL_nil ?_
  refine EC_cond rfl (fun hc29 => ?_) (fun hc29 => ?_)
  ·have hc29p := cvt hc29; try dsimp only at hc29p
   have hgv : blkWrite m pos birth b = (m, Ptr.none, blkCheck m.lasts.length (Ptr.bare pos birth b.length)) := by rw [blkWrite, if_pos hc29p]
   refine EC_rseq ?_
   refine EL_run rfl (R_buildS (cs := Ptr.none.cells) [] pl_32 Tryz.zeroValue32 rfl rfl rfl) ?_
   refine EL_run rfl (R_move rfl) ?_
   refine EL_op rfl (O_storeW hs (i := 3) rfl sz_32 rfl rfl rfl rfl (Ptr.oneA _) (fun w hs => ?_))
   refine EL_run rfl (R_assign rfl) ?_
   refine EL_nil ?_
   refine EC_ret ?_
   refine Then_r ?_
   exact ⟨[_, _], ⟨res_cell hs (i := 3) rfl Tryz.sizeOf32 Tryz.isAgg32 rfl (Ptr.size _), rfl, trivial⟩, _, _, ⟨by rw [hgv]; rfl, rfl, rfl⟩, (hs.fin [true, true, true] []).as (by rw [hgv]; rfl) rfl⟩
  ·have hc29p := cvt hc29; try dsimp only at hc29p
   refine EC_skip ?_
   refine Then_n ?_
   refine EC_seq ?_
   have hck : blkCheck m.lasts.length (Ptr.bare pos birth b.length) = 0 := by omega
   have hrt : (Ptr.bare pos birth b.length).right = true := by
     unfold blkCheck at hck
     split at hck
     · cases hck
     · rename_i h
       cases hr : (Ptr.bare pos birth b.length).right
       · exact absurd (.inl hr) h
       · rfl
   have hri := Ptr.right_iff.1 hrt
   have hsec := sectors_of (len := (b.length : Int)) (by have := hri.2.1; unfold sectors; simp only [Ptr.bare] at this; split <;> omega)
   have hpos : 2 ≤ pos ∧ pos ≤ 8192 := by have := hri.2.2; have h2 := sectors_range (b.length : Int); simp only [Ptr.bare] at this; omega
   obtain ⟨N, hN⟩ : ∃ N : Nat, sectors (b.length : Int) = (N : Int) := ⟨(sectors (b.length : Int)).toNat, by have := sectors_range (b.length : Int); omega⟩
   refine EC_rseq ?_
   refine EL_run rfl (R_lw (hs.at (i := 4) rfl) Tryz.isAgg32 Tryz.sizeOf32 rfl (Ptr.size _)) ?_
   refine EL_op rfl (O_call hs [] [] rfl rfl rfl Tryz.call113 (sectors_spec (Ptr.bare pos birth b.length)) (fun v es1 ds1 w hPhi hs => ?_))
   obtain ⟨rfl, rfl, rfl⟩ := hPhi
   refine EL_run rfl (R_move rfl) ?_
   refine EL_nil ?_
   refine EC_block ?_
   refine EC_loop (fun mm ρ w => ∃ (i : Nat) (m2 : DiM), mm = N - i ∧ i ≤ N ∧ m2.ok ∧ m2.lasts = m.lasts ∧ blkGo m pos b 0 N = blkGo m2 pos b i (N - i) ∧ Slots ρ [(0, .pointer (some ⟨d, 0, none⟩)), (1, .int .i64 pos), (2, .int .i64 birth), (3, .slice ao b.length c), (8, .pointer (some ⟨b8, 0, none⟩)), (33, .int .i64 (N : Int)), (34, .int .i64 (i : Int))] ∧ St w0 F D (diE d g m2 ++ [blk b8 Ptr.none.cells 32, blk b10 (Ptr.bare pos birth b.length).cells 32]) [dB ao c b] w) (N) (⟨0, m, by omega, by omega, hm, rfl, by simp, ⟨rfl, rfl, rfl, rfl, rfl, by show some (Value.int .i64 (sectors (b.length : Int))) = _; rw [hN], rfl, trivial⟩, (hs.fin [true, true, true, true, true] [0]).as rfl rfl⟩) ?_
   rintro mm ρ w ⟨i, m2, rfl, hi, hm2, hla, hgo, hsl, hs⟩
   refine EC_slots _ hsl ?_
   refine EC_rseq ?_
   refine EL_run rfl (R_lss rfl rfl) ?_
   refine EL_nil ?_
   refine EC_seq ?_
   refine EC_cond rfl (fun hc35 => ?_) (fun hc35 => ?_)
   ·have hc35p := cvt hc35; try dsimp only at hc35p
    have hiN : i < N := by omega
    have hNi : N - i = (N - (i + 1)) + 1 := by omega
    have hlt : i * 512 < b.length := by omega
    refine EC_skip ?_
    refine Then_n ?_
    refine EC_seq ?_
    refine EC_block ?_
    refine EC_rseq ?_
    refine EL_run rfl (R_move rfl) ?_
    refine EL_run rfl (R_assign rfl) ?_
    refine EL_nil ?_
    refine EC_rseq ?_
    refine EL_run rfl (R_move rfl) ?_
    refine EL_run rfl (R_mulI rfl rfl (by omega)) ?_
    refine EL_run rfl (R_move rfl) ?_
    refine EL_run rfl (R_addI rfl rfl (by omega)) ?_
    refine EL_run rfl (R_mulI rfl rfl (by omega)) ?_
    refine EL_run rfl (R_move rfl) ?_
    refine EL_run rfl (R_lenS Tryz.underlying36 rfl) ?_
    refine EL_run rfl (R_min rfl rfl) ?_
    refine EL_run rfl (R_assign rfl) ?_
    refine EL_run rfl (R_assign rfl) ?_
    refine EL_nil ?_
    have hs := hs.dBcut3 (j := 0) rfl (i * 512) (min ((i + 1) * 512) b.length) (by omega) (by omega)
    refine EC_rseq ?_
    refine EL_run rfl (R_move rfl) ?_
    refine EL_run rfl (R_move rfl) ?_
    refine EL_run rfl (R_move rfl) ?_
    refine EL_run rfl (R_addI rfl rfl (by omega)) ?_
    refine EL_run rfl (R_move rfl) ?_
    refine EL_run rfl (R_move rfl) ?_
    refine EL_run rfl (R_move rfl) ?_
    refine EL_run rfl (R_move rfl) ?_
    refine EL_run rfl (R_sliceLHM es_36 rfl rfl rfl rfl (by omega) (by omega) (by omega) (by have := (hs.rd (i := 0) rfl).1.1; omega)) ?_
    rw [show ((i : Int) * 512).toNat = i * 512 by omega, show (min (((i : Int) + 1) * 512) (b.length : Int)).toNat = min ((i + 1) * 512) b.length by omega]
    have hcl : min ((i + 1) * 512) b.length - i * 512 = (chunk b i).length := by rw [chunk, List.length_take, List.length_drop]; omega
    rw [hcl]
    have hs := hs.as (es' := diE d g m2 ++ [blk b8 Ptr.none.cells 32, blk b10 (Ptr.bare pos birth b.length).cells 32]) (ds' := [dB ao c b, dB (cutO ao (min ((i + 1) * 512) b.length) (i * 512) 1) (chunk b i).length (chunk b i)]) rfl (by rw [← hcl]; rfl)
    refine EL_op rfl (O_call hs [true, true, true] [1] rfl rfl rfl Tryz.call31 (diWrite_spec d g m2 (pos + i) _ (chunk b i).length (chunk b i) hm2 (by omega)) (fun v es1 ds1 w hPhi hs => ?_))
    obtain ⟨rfl, rfl, rfl⟩ := hPhi
    refine EL_run rfl (R_assign rfl) ?_
    refine EL_nil ?_
    refine EC_rseq ?_
    refine EL_run rfl (R_move rfl) ?_
    refine EL_run rfl (R_neq rfl rfl) ?_
    refine EL_nil ?_
    refine EC_cond rfl (fun hc56 => ?_) (fun hc56 => ?_)
    ·have hc56p := cvt hc56; try dsimp only at hc56p
     have hgv : blkWrite m pos birth b = ((diWrite m2 (pos + i) (chunk b i)).1, Ptr.none, (diWrite m2 (pos + i) (chunk b i)).2) := by
       have hN2 : (sectors (b.length : Int)).toNat = N := by omega
       have hg2 : blkGo m pos b 0 N = diWrite m2 (pos + i) (chunk b i) := by rw [hgo, hNi, blkGo, if_pos hc56p]
       rw [blkWrite, if_neg (by omega), hN2, hg2, if_pos hc56p]
     refine EC_rseq ?_
     refine EL_run rfl (R_buildS (cs := Ptr.none.cells) [] pl_32 Tryz.zeroValue32 rfl rfl rfl) ?_
     refine EL_run rfl (R_move rfl) ?_
     refine EL_op rfl (O_storeW hs (i := 3) rfl sz_32 rfl rfl rfl rfl (Ptr.oneA _) (fun w hs => ?_))
     refine EL_run rfl (R_assign rfl) ?_
     refine EL_nil ?_
     refine EC_ret ?_
     refine InBlock_r ?_
     refine Then_r ?_
     refine Then_r ?_
     refine InBlock_r ?_
     refine Then_r ?_
     exact ⟨[_, _], ⟨res_cell hs (i := 3) rfl Tryz.sizeOf32 Tryz.isAgg32 rfl (Ptr.size _), rfl, trivial⟩, _, _, ⟨by rw [hgv]; rfl, rfl, rfl⟩, (hs.fin [true, true, true] []).as (by rw [hgv]; rfl) rfl⟩
    ·have hc56p := cvt hc56; try dsimp only at hc56p
     refine EC_skip ?_
     refine InBlock_n ?_
     refine Then_n ?_
     refine EC_region ?_
     refine EL_run rfl (R_addI rfl rfl (by omega)) ?_
     refine EL_run rfl (R_move rfl) ?_
     refine EL_nil ?_
     refine Then_n ?_
     exact ⟨N - (i + 1), by omega, i + 1, (diWrite m2 (pos + i) (chunk b i)).1, rfl, by omega, diWrite_ok hm2 _ _, by rw [diWrite_lasts, hla], by rw [hgo, hNi, blkGo, if_neg (by omega)], ⟨rfl, rfl, rfl, rfl, rfl, rfl, rfl, trivial⟩, (hs.fin [true, true, true, true, true] [0]).as rfl rfl⟩
   ·have hc35p := cvt hc35; try dsimp only at hc35p
    refine EC_exit ?_
    refine Then_e ?_
    refine Then_e ?_
    refine InBlock_hit rfl ?_
    refine Then_n ?_
    obtain rfl : i = N := by omega
    have hgv : blkWrite m pos birth b = (m2, Ptr.of pos birth b, 0) := by
      have hN2 : (sectors (b.length : Int)).toNat = i := by omega
      have hg2 : blkGo m pos b 0 i = (m2, 0) := by rw [hgo, Nat.sub_self, blkGo]
      rw [blkWrite, if_neg (by omega), hN2, hg2, if_neg (by simp)]
    refine EC_rseq ?_
    refine EL_run rfl (R_move rfl) ?_
    refine EL_run rfl (R_move rfl) ?_
    refine EL_run rfl (R_move rfl) ?_
    refine EL_op rfl (O_call hs [] [0] rfl rfl rfl Tryz.call259 (of_spec pos birth ao c b (by omega)) (fun v es1 ds1 w hPhi hs => ?_))
    obtain ⟨rfl, rfl, rfl⟩ := hPhi
    refine EL_op rfl (O_storeW hs (i := 3) rfl sz_32 rfl rfl rfl (Ptr.size _) (Ptr.oneA _) (fun w hs => ?_))
    refine EL_run rfl (R_assign rfl) ?_
    refine EL_nil ?_
    refine EC_ret ?_
    exact ⟨[_, _], ⟨res_cell hs (i := 3) rfl Tryz.sizeOf32 Tryz.isAgg32 rfl (Ptr.size _), rfl, trivial⟩, _, _, ⟨by rw [hgv]; rfl, rfl, rfl⟩, (hs.fin [true, true, true] []).as (by rw [hgv]; rfl) rfl⟩
end Go.Proofs.YtpcojkbljgpecaaGreat
namespace Go.Proofs.YtpcojkbljgpecaaGreat
open Go
structure Sp where
  a : Int
  b : Int
deriving DecidableEq
def Sp.l (s : Sp) : List Value := [.int .i64 s.a, .int .i64 s.b]
def Sp.val (s : Sp) : Value := .agg s.l.toArray
theorem Sp.len (s : Sp) : s.l.length = 2 := rfl
theorem Sp.oneA (s : Sp) : (s.l.toArray.all (·.oneCell')) = true := by simp [Sp.l, Value.oneCell']
theorem Sp.one (l : List Sp) : ∀ u ∈ l.flatMap Sp.l, u.oneCell' = true := by
  intro u hu
  obtain ⟨s, _, hs⟩ := List.mem_flatMap.1 hu
  simp only [Sp.l, List.mem_cons, List.not_mem_nil, or_false] at hs
  rcases hs with rfl | rfl <;> rfl
abbrev dS (ao : Option Addr) (c : Nat) (l : List Sp) : Asn := dSl ao l.length c 2 (l.flatMap Sp.l)
theorem spFlat_snoc (l : List Sp) (s : Sp) : l.flatMap Sp.l ++ [s.val].flatMap (fun x => x.cells.toList) = (l ++ [s]).flatMap Sp.l := by simp [Sp.val, Value.cells]

def Sp.right (s : Sp) : Bool := decide (0 ≤ s.a) && decide (s.a < s.b) && decide (s.b ≤ 1099511627776)
theorem Sp.right_iff {s : Sp} : s.right = true ↔ 0 ≤ s.a ∧ s.a < s.b ∧ s.b ≤ 1099511627776 := by simp [Sp.right, and_assoc]
def validFrom : Int → List Sp → Bool
  | _, [] => true
  | last, s :: l => s.right && decide (last < s.a) && validFrom s.b l
def valid (l : List Sp) : Bool := validFrom (-1) l
theorem validFrom_cons {last : Int} {s : Sp} {l : List Sp} : validFrom last (s :: l) = true ↔ s.right = true ∧ last < s.a ∧ validFrom s.b l = true := by
  simp [validFrom, and_assoc]
theorem validFrom_get : ∀ {l : List Sp} {last : Int}, validFrom last l = true → ∀ i (h : i < l.length), l[i].right = true ∧ last < l[i].a
  | s :: l, last, h, 0, _ => by rw [validFrom_cons] at h; exact ⟨h.1, h.2.1⟩
  | s :: l, last, h, i + 1, hi => by
    rw [validFrom_cons] at h
    obtain ⟨h1, h2, h3⟩ := h
    have := validFrom_get h3 i (by simpa using hi)
    rw [Sp.right_iff] at h1
    exact ⟨this.1, by simp only [List.getElem_cons_succ]; omega⟩
theorem valid_get {l : List Sp} (h : valid l = true) (i : Nat) (hi : i < l.length) : 0 ≤ l[i].a ∧ l[i].a < l[i].b ∧ l[i].b ≤ 1099511627776 := Sp.right_iff.1 (validFrom_get h i hi).1
theorem validFrom_drop : ∀ {l : List Sp} {last : Int}, validFrom last l = true → ∀ i (h : i < l.length), validFrom l[i].b (l.drop (i + 1)) = true
  | s :: l, last, h, 0, _ => by rw [validFrom_cons] at h; simpa using h.2.2
  | s :: l, last, h, i + 1, hi => by
    rw [validFrom_cons] at h
    simpa using validFrom_drop h.2.2 i (by simpa using hi)
theorem valid_lt {l : List Sp} (h : valid l = true) {i j : Nat} (hij : i < j) (hj : j < l.length) : l[i].b < l[j].a := by
  have h1 := validFrom_drop h i (by omega)
  have h2 := (validFrom_get h1 (j - (i + 1)) (by rw [List.length_drop]; omega)).2
  rw [List.getElem_drop] at h2
  have e : i + 1 + (j - (i + 1)) = j := by omega
  simp only [e] at h2
  exact h2
theorem valid_mono {l : List Sp} (h : valid l = true) {i j : Nat} (hij : i < j) (hj : j < l.length) : l[i].b < l[j].b := by
  have := valid_lt h hij hj
  have := valid_get h j hj
  omega

/-- The place of the first span that is not wholly ahead of a number. -/
def firstAt (l : List Sp) (n : Int) : Nat := l.findIdx fun s => decide (n ≤ s.b)
theorem firstAt_le (l : List Sp) (n : Int) : firstAt l n ≤ l.length := List.findIdx_le_length
theorem firstAt_of {l : List Sp} {n : Int} {k : Nat} (hk : k ≤ l.length) (h1 : ∀ i (h : i < l.length), i < k → l[i].b < n) (h2 : ∀ i (h : i < l.length), k ≤ i → n ≤ l[i].b) : firstAt l n = k := by
  unfold firstAt
  rcases Nat.lt_or_ge k l.length with h | h
  · rw [List.findIdx_eq h]
    exact ⟨by simpa using h2 k h (Nat.le_refl _), fun j hj => by have := h1 j (by omega) hj; simp; omega⟩
  · have : k = l.length := by omega
    subst this
    rw [List.findIdx_eq_length]
    intro x hx
    obtain ⟨i, hi, rfl⟩ := List.getElem_of_mem hx
    have := h1 i hi hi
    simp; omega

def spReplace (l : List Sp) (a b : Nat) (ins : List Sp) : List Sp := l.take a ++ ins ++ l.drop b
def total (l : List Sp) : Int := if valid l = true then (l.map fun s => s.b - s.a).sum else 0
def absorb (s : Sp) : List Sp → Sp × Nat
  | [] => (s, 0)
  | x :: l => if x.a ≤ s.b then ((absorb ⟨min s.a x.a, max s.b x.b⟩ l).1, (absorb ⟨min s.a x.a, max s.b x.b⟩ l).2 + 1) else (s, 0)
theorem absorb_le : ∀ (l : List Sp) (s : Sp), (absorb s l).2 ≤ l.length
  | [], _ => Nat.le_refl _
  | x :: l, s => by
    unfold absorb
    split
    · have := absorb_le l ⟨min s.a x.a, max s.b x.b⟩
      simp only [List.length_cons]; omega
    · exact Nat.zero_le _
def spAdd (l : List Sp) (s : Sp) : List Sp :=
  if valid l = true ∧ s.right = true then spReplace l (firstAt l s.a) (firstAt l s.a + (absorb s (l.drop (firstAt l s.a))).2) [(absorb s (l.drop (firstAt l s.a))).1] else l
def P2 (x s : Sp) : List Sp := [⟨x.a, s.a⟩, ⟨s.b, x.b⟩]
def P2c (x s : Sp) : Array Value := #[.int .i64 x.a, .int .i64 s.a, .int .i64 s.b, .int .i64 x.b]
theorem P2_len (x s : Sp) : (P2 x s).length = 2 := rfl
theorem P2_ext (x s : Sp) (i : Nat) (h : i < (P2 x s).length) : (P2c x s).extract ((i : Int).toNat * 2) ((i : Int).toNat * 2 + 2) = (P2 x s)[i].l.toArray := by
  match i, h with
  | 0, _ => rfl
  | 1, _ => rfl
def P2ok (x : Sp) (p : Sp) : Bool := p.right && decide (x.a ≤ p.a)
theorem P2_yes {x s : Sp} {i : Nat} (h : i < (P2 x s).length) (h1 : (P2 x s)[i].right = true) (h2 : x.a ≤ (P2 x s)[i].a) : ((P2 x s).take (i + 1)).filter (P2ok x) = ((P2 x s).take i).filter (P2ok x) ++ [(P2 x s)[i]] := by
  rw [List.take_succ_eq_append_getElem h, List.filter_append]
  congr 1
  simp [P2ok, h1, h2]
theorem P2_no {x s : Sp} {i : Nat} (h : i < (P2 x s).length) (h1 : ¬ ((P2 x s)[i].right = true ∧ x.a ≤ (P2 x s)[i].a)) : ((P2 x s).take (i + 1)).filter (P2ok x) = ((P2 x s).take i).filter (P2ok x) := by
  rw [List.take_succ_eq_append_getElem h, List.filter_append]
  have : P2ok x (P2 x s)[i] = false := by
    cases hb : P2ok x (P2 x s)[i]
    · rfl
    · rw [P2ok, Bool.and_eq_true, decide_eq_true_eq] at hb; exact absurd hb h1
  rw [List.filter_cons_of_neg (by rw [this]; simp)]
  simp
def piecesOf (x s : Sp) : List Sp := (P2 x s).filter (P2ok x)
def remGo (s : Sp) : List Sp → List Sp × Nat
  | [] => ([], 0)
  | x :: l => if x.a < s.b then (piecesOf x s ++ (remGo s l).1, (remGo s l).2 + 1) else ([], 0)
theorem remGo_le (s : Sp) : ∀ (l : List Sp), (remGo s l).2 ≤ l.length ∧ (remGo s l).1.length ≤ 2 * l.length
  | [] => ⟨Nat.le_refl _, Nat.le_refl _⟩
  | x :: l => by
    unfold remGo
    split
    · have := remGo_le s l
      have h2 : (piecesOf x s).length ≤ 2 := List.length_filter_le _ _
      simp only [List.length_cons, List.length_append]; omega
    · simp
def spRemove (l : List Sp) (s : Sp) : List Sp :=
  if valid l = true ∧ s.right = true then spReplace l (firstAt l (s.a + 1)) (firstAt l (s.a + 1) + (remGo s (l.drop (firstAt l (s.a + 1)))).2) (remGo s (l.drop (firstAt l (s.a + 1)))).1 else l
def spMeets (l : List Sp) (s : Sp) : Bool :=
  valid l && s.right && (match l[firstAt l (s.a + 1)]? with | some x => decide (x.a < s.b) | none => false)
def spFind (l : List Sp) (n : Int) : Int := if n < 1 then -1 else match l.find? (fun s => decide (n ≤ s.b - s.a)) with | some s => s.a | none => -1
theorem spFind_none {l : List Sp} {n : Int} (h : ∀ k (hk : k < l.length), ¬ n ≤ l[k].b - l[k].a) : spFind l n = -1 := by
  unfold spFind
  split
  · rfl
  · have : l.find? (fun s => decide (n ≤ s.b - s.a)) = none := by
      rw [List.find?_eq_none]
      intro x hx
      obtain ⟨i, hi, rfl⟩ := List.getElem_of_mem hx
      simpa using h i hi
    rw [this]
theorem spFind_some {l : List Sp} {n : Int} (h1 : 1 ≤ n) {k : Nat} (hk : k < l.length) (h2 : n ≤ l[k].b - l[k].a) (h : ∀ j (hj : j < l.length), j < k → ¬ n ≤ l[j].b - l[j].a) : spFind l n = l[k].a := by
  unfold spFind
  rw [if_neg (by omega)]
  have : l.find? (fun s => decide (n ≤ s.b - s.a)) = some l[k] := by
    rw [List.find?_eq_some_iff_getElem]
    exact ⟨by simpa using h2, k, hk, rfl, fun j hj => by simpa using h j (by omega) hj⟩
  rw [this]
end Go.Proofs.YtpcojkbljgpecaaGreat
namespace Go.Proofs.YtpcojkbljgpecaaGreat
open Go

/-- Two statements together. -/
def Asn.and (a b : Asn) : Asn :=
  ⟨fun k => a.foot k ∨ b.foot k, fun w => a.P w ∧ b.P w, fun w w' h hp => ⟨a.st w w' (fun k hk => h k (.inl hk)) hp.1, b.st w w' (fun k hk => h k (.inr hk)) hp.2⟩⟩

/-- All of some. -/
def dAll {α : Type} (g : α → Asn) (l : List α) : Asn :=
  ⟨fun k => ∃ x, x ∈ l ∧ (g x).foot k, fun w => ∀ x, x ∈ l → (g x).P w, fun w w' h hp x hx => (g x).st w w' (fun k hk => h k ⟨x, hx, hk⟩) (hp x hx)⟩

/-- A slice of things that hold slices themselves: f: a thing's cells; g: what it holds. -/
def dDp {α : Type} (f : α → List Value) (g : α → Asn) (sz : Nat) (ao : Option Addr) (c : Nat) (l : List α) : Asn := (dSl ao l.length c sz (l.flatMap f)).and (dAll g l)

/-- Bytes: where they lie, how many fit there, and what they are. -/
structure SB where
  ao : Option Addr
  c : Nat
  b : BL
def SB.val (s : SB) : Value := .slice s.ao s.b.length s.c
def SB.l (s : SB) : List Value := [s.val]
def SB.D (s : SB) : Asn := dB s.ao s.c s.b
theorem SB.len (s : SB) : s.l.length = 1 := rfl
theorem SB.one (l : List SB) : ∀ u ∈ l.flatMap SB.l, u.oneCell' = true := by
  intro u hu
  obtain ⟨s, _, hs⟩ := List.mem_flatMap.1 hu
  obtain rfl := List.mem_singleton.1 hs
  rfl
abbrev dSS (ao : Option Addr) (c : Nat) (l : List SB) : Asn := dDp SB.l SB.D 1 ao c l

section
variable {W w : World} {F D : Nat → Prop} {es ds : List Asn}

/-- What follows of some that are only read. -/
theorem St.derL (hs : St W F D es ds w) (js : List Nat) (d' : Asn) (hP : (∀ d, d ∈ pickD js ds → d.P w) → d'.P w) (hf : ∀ k, d'.foot k → ∃ d, d ∈ pickD js ds ∧ d.foot k) : St W F D es (ds ++ [d']) w :=
  hs.data d' (hP fun d hd => hs.dh d (mem_pickD hd)) (fun k hk => by
    obtain ⟨d, hd, hdk⟩ := hf k hk
    have hm := mem_pickD hd
    exact ⟨(hs.df d hm k hdk).1, (hs.df d hm k hdk).2, fun a ha hak => hs.ed a ha d hm k hak hdk⟩)

theorem get_last {α : Type} (l : List α) (x : α) : (l ++ [x])[l.length]? = some x := by simp
theorem mem_pick1 {α : Type} {j : Nat} {l : List α} {x : α} (h : l[j]? = some x) {js : List Nat} (hj : j ∈ js) : x ∈ pickD js l := by
  unfold pickD
  exact List.mem_filterMap.2 ⟨j, hj, h⟩

theorem St.dAnd1 (hs : St W F D es ds w) {j : Nat} {a b : Asn} (hj : ds[j]? = some (a.and b)) : St W F D es (ds ++ [a]) w := hs.derive (List.mem_of_getElem? hj) _ (fun h => h.1) (fun _ hk => .inl hk)
theorem St.dAnd2 (hs : St W F D es ds w) {j : Nat} {a b : Asn} (hj : ds[j]? = some (a.and b)) : St W F D es (ds ++ [b]) w := hs.derive (List.mem_of_getElem? hj) _ (fun h => h.2) (fun _ hk => .inr hk)
theorem St.mkAnd (hs : St W F D es ds w) {j k : Nat} {a b : Asn} (hj : ds[j]? = some a) (hk : ds[k]? = some b) : St W F D es (ds ++ [a.and b]) w :=
  hs.derL [j, k] _ (fun h => ⟨h _ (mem_pick1 hj (by simp)), h _ (mem_pick1 hk (by simp))⟩) (fun x hx => hx.elim (fun hx => ⟨a, mem_pick1 hj (by simp), hx⟩) (fun hx => ⟨b, mem_pick1 hk (by simp), hx⟩))

section
variable {α : Type} {f : α → List Value} {g : α → Asn} {sz c : Nat} {ao : Option Addr} {l l' : List α} {x : α}
theorem St.dAllGet (hs : St W F D es ds w) {j : Nat} (hj : ds[j]? = some (dAll g l)) (hx : x ∈ l) : St W F D es (ds ++ [g x]) w :=
  hs.derive (List.mem_of_getElem? hj) _ (fun h => h x hx) (fun _ hk => ⟨x, hx, hk⟩)
theorem St.dDpGet (hs : St W F D es ds w) {j : Nat} (hj : ds[j]? = some (dDp f g sz ao c l)) (hx : x ∈ l) : St W F D es (ds ++ [g x]) w :=
  hs.derive (List.mem_of_getElem? hj) _ (fun h => h.2 x hx) (fun _ hk => .inr ⟨x, hx, hk⟩)
theorem St.dDpSl (hs : St W F D es ds w) {j : Nat} (hj : ds[j]? = some (dDp f g sz ao c l)) : St W F D es (ds ++ [dSl ao l.length c sz (l.flatMap f)]) w := hs.dAnd1 hj
theorem St.dDpAll (hs : St W F D es ds w) {j : Nat} (hj : ds[j]? = some (dDp f g sz ao c l)) : St W F D es (ds ++ [dAll g l]) w := hs.dAnd2 hj
theorem St.mkDp (hs : St W F D es ds w) {j k : Nat} (hj : ds[j]? = some (dSl ao l.length c sz (l.flatMap f))) (hk : ds[k]? = some (dAll g l)) : St W F D es (ds ++ [dDp f g sz ao c l]) w := hs.mkAnd hj hk
theorem St.dAllNil (hs : St W F D es ds w) (g : α → Asn) : St W F D es (ds ++ [dAll g []]) w :=
  hs.data _ (fun _ h => nomatch h) (fun _ ⟨_, h, _⟩ => nomatch h)
theorem St.dAllSnoc (hs : St W F D es ds w) {j k : Nat} (hj : ds[j]? = some (dAll g l)) (hk : ds[k]? = some (g x)) : St W F D es (ds ++ [dAll g (l ++ [x])]) w :=
  hs.derL [j, k] _ (fun h y hy => by
    rcases List.mem_append.1 hy with hy | hy
    · exact h _ (mem_pick1 hj (by simp)) y hy
    · obtain rfl := List.mem_singleton.1 hy
      exact h _ (mem_pick1 hk (by simp))) (fun k' ⟨y, hy, hyk⟩ => by
    rcases List.mem_append.1 hy with hy | hy
    · exact ⟨_, mem_pick1 hj (by simp), y, hy, hyk⟩
    · obtain rfl := List.mem_singleton.1 hy
      exact ⟨_, mem_pick1 hk (by simp), hyk⟩)
theorem St.dAllApp (hs : St W F D es ds w) {j k : Nat} (hj : ds[j]? = some (dAll g l)) (hk : ds[k]? = some (dAll g l')) : St W F D es (ds ++ [dAll g (l ++ l')]) w :=
  hs.derL [j, k] _ (fun h y hy => by
    rcases List.mem_append.1 hy with hy | hy
    · exact h _ (mem_pick1 hj (by simp)) y hy
    · exact h _ (mem_pick1 hk (by simp)) y hy) (fun k' ⟨y, hy, hyk⟩ => by
    rcases List.mem_append.1 hy with hy | hy
    · exact ⟨_, mem_pick1 hj (by simp), y, hy, hyk⟩
    · exact ⟨_, mem_pick1 hk (by simp), y, hy, hyk⟩)
theorem St.dAllSub (hs : St W F D es ds w) {j : Nat} (hj : ds[j]? = some (dAll g l)) (h : ∀ y, y ∈ l' → y ∈ l) : St W F D es (ds ++ [dAll g l']) w :=
  hs.derive (List.mem_of_getElem? hj) _ (fun hp y hy => hp y (h y hy)) (fun _ ⟨y, hy, hk⟩ => ⟨y, h y hy, hk⟩)
/-- Things that are made of others. -/
theorem St.dAllMap {β : Type} {g' : β → Asn} {m : List β} (hs : St W F D es ds w) {j : Nat} (hj : ds[j]? = some (dAll g l)) (h : ∀ y, y ∈ m → ∃ x, x ∈ l ∧ (∀ w, (g x).P w → (g' y).P w) ∧ ∀ k, (g' y).foot k → (g x).foot k) : St W F D es (ds ++ [dAll g' m]) w :=
  hs.derive (List.mem_of_getElem? hj) _ (fun hp y hy => by
    obtain ⟨x, hx, h1, _⟩ := h y hy
    exact h1 _ (hp x hx)) (fun k ⟨y, hy, hk⟩ => by
    obtain ⟨x, hx, _, h2⟩ := h y hy
    exact ⟨x, hx, h2 k hk⟩)
/-- A cut of a slice of things that hold slices. -/
theorem St.dDpCut (hs : St W F D es ds w) {j : Nat} (hj : ds[j]? = some (dDp f g sz ao c l)) (hf : ∀ x, (f x).length = sz) (lo hi : Nat) (h1 : lo ≤ hi) (h2 : hi ≤ l.length) :
    St W F D es (ds ++ [dDp f g sz (cutO ao c lo sz) (c - lo) ((l.drop lo).take (hi - lo))]) w := by
  have hm := List.mem_of_getElem? hj
  have a1 : St W F D es (ds ++ [dSl ao l.length c sz (l.flatMap f)]) w := hs.dDpSl hj
  have a2 := a1.dEcut (j := ds.length) (get_last _ _) hf lo hi h1 h2
  have hsl : (dSl (cutO ao c lo sz) ((l.drop lo).take (hi - lo)).length (c - lo) sz (((l.drop lo).take (hi - lo)).flatMap f)).P w := a2.dh _ (by simp)
  have hsub : ∀ y, y ∈ (l.drop lo).take (hi - lo) → y ∈ l := fun y hy => List.mem_of_mem_drop (List.mem_of_mem_take hy)
  have hfoot : ∀ k, (dSl (cutO ao c lo sz) ((l.drop lo).take (hi - lo)).length (c - lo) sz (((l.drop lo).take (hi - lo)).flatMap f)).foot k → (dSl ao l.length c sz (l.flatMap f)).foot k := by
    rintro k ⟨hne, ad, had, rfl⟩
    refine ⟨fun hn => hne ?_, ?_⟩
    · rw [List.flatMap_eq_nil_iff] at hn ⊢
      exact fun y hy => hn y (hsub y hy)
    · unfold cutO at had
      split at had
      · exact ⟨ad, had, rfl⟩
      · cases ao with
        | none => cases had
        | some a =>
          simp only [Option.map_some, Option.some.injEq] at had
          subst had
          exact ⟨a, rfl, by unfold Addr.add; split <;> rfl⟩
  exact hs.derive hm _ (fun h => ⟨hsl, fun y hy => h.2 y (hsub y hy)⟩) (fun k hk => hk.elim (fun hk => .inl (hfoot k hk)) (fun ⟨y, hy, hyk⟩ => .inr ⟨y, hsub y hy, hyk⟩))
theorem St.dDpTake (hs : St W F D es ds w) {j : Nat} (hj : ds[j]? = some (dDp f g sz ao c l)) (hf : ∀ x, (f x).length = sz) (hi : Nat) (h2 : hi ≤ l.length) : St W F D es (ds ++ [dDp f g sz ao c (l.take hi)]) w := by
  have h := hs.dDpCut hj hf 0 hi (Nat.zero_le _) h2
  have e : cutO ao c 0 sz = ao := by
    unfold cutO
    split
    · rfl
    · cases ao with
      | none => rfl
      | some a => simp [Addr.add]
  rwa [e, List.drop_zero, Nat.sub_zero, Nat.sub_zero] at h
theorem St.dDpDrop (hs : St W F D es ds w) {j : Nat} (hj : ds[j]? = some (dDp f g sz ao c l)) (hf : ∀ x, (f x).length = sz) (lo : Nat) (h2 : lo ≤ l.length) : St W F D es (ds ++ [dDp f g sz (cutO ao c lo sz) (c - lo) (l.drop lo)]) w := by
  have h := hs.dDpCut hj hf lo l.length h2 (Nat.le_refl _)
  rwa [List.take_of_length_le (by rw [List.length_drop]; omega)] at h
/-- An owned slice of things that hold slices, from now on only read. -/
theorem St.freezeDp (hs : St W F D es ds w) {i j e m mm : Nat} (hi : es[i]? = some (oSl (.slice ao mm c) e sz m (l.flatMap f))) (hmm : mm = l.length) (hj : ds[j]? = some (dAll g l)) : St W F D (es.eraseIdx i) (ds ++ [dSl ao mm c sz (l.flatMap f), dDp f g sz ao c l]) w := by
  subst hmm
  have h1 := hs.freezeAt hi
  have hjl : j < ds.length := (List.getElem?_eq_some_iff.1 hj).1
  have h2 := h1.mkDp (j := ds.length) (k := j) (f := f) (g := g) (l := l) (get_last _ _) (by rw [List.getElem?_append_left hjl]; exact hj)
  rwa [List.append_assoc] at h2
end
end

/-! ### Parts that are written over -/
def setSeg (xs : List Value) (o : Nat) (vs : List Value) : List Value := xs.take o ++ vs ++ xs.drop (o + vs.length)
theorem setSeg_len {xs vs : List Value} {o : Nat} (h : o + vs.length ≤ xs.length) : (setSeg xs o vs).length = xs.length := by
  simp only [setSeg, List.length_append, List.length_take, List.length_drop]; omega
theorem setSeg_append_right {xs ys vs : List Value} {o p : Nat} (h : p = xs.length + o) : setSeg (xs ++ ys) p vs = xs ++ setSeg ys o vs := by
  subst h
  unfold setSeg
  rw [List.take_append, List.drop_append, List.take_of_length_le (by omega), List.drop_of_length_le (by omega)]
  simp only [List.nil_append, List.append_assoc]
  congr 3
  · rw [Nat.add_sub_cancel_left]
  · congr 1; omega
theorem setSeg_append_left {xs ys vs : List Value} {o : Nat} (h : o + vs.length ≤ xs.length) : setSeg (xs ++ ys) o vs = setSeg xs o vs ++ ys := by
  unfold setSeg
  rw [List.take_append_of_le_length (by omega), List.drop_append_of_le_length h]
  simp only [List.append_assoc]
theorem setSeg_elem {α : Type} {f : α → List Value} {sz : Nat} (hf : ∀ x, (f x).length = sz) {x' : α} {j : Nat} {vs : List Value} (hj : j + vs.length ≤ sz) : ∀ (l : List α) (i : Nat) (hi : i < l.length), f x' = setSeg (f l[i]) j vs → setSeg (l.flatMap f) (i * sz + j) vs = (l.set i x').flatMap f
  | y :: l, 0, _, h => by
    rw [List.flatMap_cons, Nat.zero_mul, Nat.zero_add, setSeg_append_left (by rw [hf]; exact hj), List.set_cons_zero, List.flatMap_cons, h]
    rfl
  | y :: l, i + 1, hi, h => by
    rw [List.flatMap_cons, List.set_cons_succ, List.flatMap_cons, setSeg_append_right (o := i * sz + j) (by rw [hf, Nat.succ_mul]; omega), setSeg_elem hf hj l i (by simpa using hi) h]
theorem setSeg_set {α : Type} {f : α → List Value} {sz : Nat} (hf : ∀ x, (f x).length = sz) (l : List α) (i : Nat) (x' : α) (hi : i < l.length) : setSeg (l.flatMap f) (i * sz) (f x') = (l.set i x').flatMap f := by
  have h := setSeg_elem hf (x' := x') (j := 0) (vs := f x') (by rw [hf]; omega) l i hi (by unfold setSeg; rw [List.take_zero, List.nil_append, List.drop_of_length_le (by rw [hf, hf]; omega), List.append_nil])
  rwa [Nat.add_zero] at h
theorem setSeg_u8 (l : BL) (i : Nat) (c : UInt8) (hi : i < l.length) : setSeg (u8s l) i [V8 c] = u8s (l.set i c) := by
  have h := setSeg_set (f := fun b : UInt8 => [V8 b]) (sz := 1) (fun _ => rfl) l i c hi
  have e : ∀ l : BL, l.flatMap (fun b : UInt8 => [V8 b]) = u8s l := fun l => by
    induction l with
    | nil => rfl
    | cons b l ih => rw [List.flatMap_cons, ih]; rfl
  rwa [e, e, Nat.mul_one] at h

section
variable {P : Program} {n : Nat} {ρ : Env} {K : Env → World → Prop} {W w : World} {F D : Nat → Prop} {es ds : List Asn} {ty : TypeId} {pos : String} {aft : Array Edge} {x y : Operand} {t : TypeId} {v : Value}

theorem run_storeAt {b o : Nat} {c : Array Value} {tt : TypeId} {vs : List Value} (hb : w.heap[b]? = some (.cells c tt (0, 0))) (hsz : ∀ w, (sizeOf t).run P w = .ok vs.length w) (hv : v.cells = vs.toArray) (h1 : ∀ u ∈ vs, u.oneCell' = true) (ho : o + vs.length ≤ c.size) :
    (Instr.storeAt t (.pointer (some ⟨b, o, none⟩)) v).run P w = .ok () (w.setRow b (setSeg c.toList o vs).toArray) := by
  have hst := run_storeCells_at P b o tt vs 0 c w hb (by simpa using ho) h1
  simp only [Nat.add_zero] at hst
  have e : v.cells.toList = vs := by rw [hv]
  have e2 : v.cells.size = vs.length := by rw [hv]; simp
  simp only [Instr.storeAt, Instr.sureAddr, storeVar, Sem.run_bind, Sem.run_pure, Result.andThen_ok, hsz, e2, ne_eq, not_true, if_false, e, hst, setSeg]

theorem setRow_facts {w : World} {b : Nat} {c c' : Array Value} {tt : TypeId} (hb : w.heap[b]? = some (.cells c tt (0, 0))) : (w.setRow b c').heap[b]? = some (.cells c' tt (0, 0)) ∧ (∀ k, k ≠ b → (w.setRow b c').heap[k]? = w.heap[k]?) ∧ (w.setRow b c').heap.size = w.heap.size := by
  refine ⟨heap_setRow_same hb, fun k hk => ?_, by simp [World.setRow]⟩
  simp only [World.setRow, Array.getElem?_modify]
  rw [if_neg (by omega)]

/-- Into a part of an owned block. -/
theorem O_storeP {b o : Nat} {c : Array Value} {tt : TypeId} {vs : List Value} (hs : St W F D es ds w) {i : Nat} (hi : es[i]? = some (blk b c tt)) (hsz : ∀ w, (sizeOf t).run P w = .ok vs.length w) (hx : evO ρ x = some (.pointer (some ⟨b, o, none⟩))) (hy : evO ρ y = some v) (hv : v.cells = vs.toArray) (h1 : ∀ u ∈ vs, u.oneCell' = true) (ho : o + vs.length ≤ c.size)
    (hK : ∀ w', St W F D (es.set i (blk b (setSeg c.toList o vs).toArray tt)) ds w' → K ρ w') : EOp P n ⟨none, .store t x y, ty, pos, aft, none⟩ K ρ w := fun a ha => by
  have hb : w.heap[b]? = some (.cells c tt (0, 0)) := hs.at hi
  have hst := run_storeAt (P := P) hb hsz hv h1 ho
  obtain ⟨f1, f2, f3⟩ := setRow_facts (c' := (setSeg c.toList o vs).toArray) hb
  unfold Oper.wp
  have hrun : (execOp a.eval ⟨none, .store t x y, ty, pos, aft, none⟩).run P w = .ok .skip (w.setRow b (setSeg c.toList o vs).toArray) := by
    simp only [execOp, ha.eval hx, ha.eval hy, Sem.run_bind, hst, Result.andThen_ok, Sem.run_pure]
  rw [hrun]
  exact ⟨ρ, by simpa [Act.put] using ha, hK _ (hs.setBlk hi _ _ ⟨rfl, rfl, rfl⟩ f3 f1 f2)⟩

/-- Into an owned slice. -/
theorem O_storeSl {b o m c e sz : Nat} {xs vs : List Value} (hs : St W F D es ds w) {i : Nat} (hi : es[i]? = some (oSl (.slice (some ⟨b, 0, none⟩) m c) e sz m xs)) (hsz : ∀ w, (sizeOf t).run P w = .ok vs.length w) (hx : evO ρ x = some (.pointer (some ⟨b, o, none⟩))) (hy : evO ρ y = some v) (hv : v.cells = vs.toArray) (h1 : ∀ u ∈ vs, u.oneCell' = true) (ho : o + vs.length ≤ xs.length)
    (hK : ∀ w', St W F D (es.set i (oSl (.slice (some ⟨b, 0, none⟩) m c) e sz m (setSeg xs o vs))) ds w' → K ρ w') : EOp P n ⟨none, .store t x y, ty, pos, aft, none⟩ K ρ w := fun a ha => by
  have hown : w.ownsRow 0 e sz (.slice (some ⟨b, 0, none⟩) m c) m xs := hs.at hi
  obtain ⟨hlen, hh⟩ := hown
  rcases hh with ⟨hv0, _⟩ | ⟨g, cap, cur, hv0, hb0, hb, hmc, hcm, hcs, htk⟩
  · cases hv0
  injection hv0 with q1 q2 q3
  injection q1 with q1
  injection q1 with q1
  subst q1; subst q3
  have hcl : xs.length ≤ cur.size := by rw [hlen, hcs]; exact Nat.mul_le_mul_right _ hmc
  have hst := run_storeAt (P := P) hb hsz hv h1 (Nat.le_trans ho hcl)
  obtain ⟨f1, f2, f3⟩ := setRow_facts (c' := (setSeg cur.toList o vs).toArray) hb
  unfold Oper.wp
  have hrun : (execOp a.eval ⟨none, .store t x y, ty, pos, aft, none⟩).run P w = .ok .skip (w.setRow b (setSeg cur.toList o vs).toArray) := by
    simp only [execOp, ha.eval hx, ha.eval hy, Sem.run_bind, hst, Result.andThen_ok, Sem.run_pure]
  rw [hrun]
  have hsplit : cur.toList = xs ++ cur.toList.drop (m * sz) := by rw [← htk, List.take_append_drop]
  have hnew : setSeg cur.toList o vs = setSeg xs o vs ++ cur.toList.drop (m * sz) := by
    conv => lhs; rw [hsplit]
    exact setSeg_append_left ho
  have hsl := setSeg_len ho
  refine ⟨ρ, by simpa [Act.put] using ha, hK _ (hs.change hi _ rfl rfl rfl (by omega) (fun k _ hk => f2 k (fun e => hk (by simp [oSl, Value.ownBlock, e]))) ⟨by rw [hsl, hlen], .inr ⟨b, c, (setSeg cur.toList o vs).toArray, rfl, Nat.zero_le _, f1, hmc, hcm, ?_, ?_⟩⟩ (fun k hk => ⟨.inl hk, ?_⟩))⟩
  · rw [List.size_toArray, setSeg_len (by simpa using Nat.le_trans ho hcl), Array.length_toList, hcs]
  · show (setSeg cur.toList o vs).take (m * sz) = _
    rw [hnew, List.take_append_of_le_length (by rw [hsl, hlen]; exact Nat.le_refl _), List.take_of_length_le (by rw [hsl, hlen]; exact Nat.le_refl _)]
  · have : k = b := by simpa [oSl, Value.ownBlock, eq_comm] using hk
    subst this
    rw [f3]
    exact (Array.getElem?_eq_some_iff.1 hb).1
end
end Go.Proofs.YtpcojkbljgpecaaGreat
namespace Go.Proofs.YtpcojkbljgpecaaGreat
open Go
theorem oSl.some {w : World} {ao : Option Addr} {e sz m mm c : Nat} {cs : List Value} (h : (oSl (.slice ao mm c) e sz m cs).P w) (hm : 0 < m) : ∃ b, ao = some ⟨b, 0, none⟩ := by
  rcases h.2 with ⟨hv, h0⟩ | ⟨g, cap, cur, hv, _⟩
  · omega
  · injection hv with h1 _ _; exact ⟨g, h1⟩
theorem own_eq (ao : Option Addr) (m m' c c' : Nat) : (Value.slice ao m c).ownBlock = (Value.slice ao m' c').ownBlock := by cases ao <;> rfl
theorem cutO_some {b c l sz : Nat} : ∃ o, cutO (some ⟨b, 0, none⟩) c l sz = some ⟨b, o, none⟩ ∧ (l < c → o = l * sz) := by
  unfold cutO
  split
  · exact ⟨0, rfl, fun h => by omega⟩
  · refine ⟨l * sz, ?_, fun _ => rfl⟩
    show some ((⟨b, 0, none⟩ : Addr).add (l * sz)) = _
    unfold Addr.add
    split
    · rename_i h; rw [h]
    · simp
theorem flat_take {α : Type} (sz : Nat) (f : α → List Value) (hf : ∀ x, (f x).length = sz) : ∀ (l : List α) (k : Nat), (l.flatMap f).take (k * sz) = (l.take k).flatMap f
  | l, 0 => by simp
  | [], k + 1 => by simp
  | y :: l, k + 1 => by
    rw [List.flatMap_cons, List.take_succ_cons, List.flatMap_cons, ← flat_take sz f hf l k, Nat.succ_mul, List.take_append, hf, List.take_of_length_le (by rw [hf]; omega)]
    congr 2; omega
section
variable {P : Program} {n : Nat} {ρ : Env} {K : Env → World → Prop} {W w : World} {F D : Nat → Prop} {es ds : List Asn} {d : Nat} {ty : TypeId} {pos : String} {aft : Array Edge} {x y : Operand} {t : TypeId} {v : Value}
/-- The head of an owned slice is owned. -/
theorem St.cutOwn (hs : St W F D es ds w) {i : Nat} {ao : Option Addr} {e sz m c k : Nat} {xs : List Value} (hi : es[i]? = some (oSl (.slice ao m c) e sz m xs)) (hk : k ≤ m) : St W F D (es.set i (oSl (.slice ao k c) e sz k (xs.take (k * sz)))) ds w := by
  have h := hs.at hi
  have hle : k * sz ≤ m * sz := Nat.mul_le_mul_right _ hk
  refine hs.change hi _ rfl rfl rfl (Nat.le_refl _) (fun _ _ _ => rfl) ⟨by rw [List.length_take, h.1]; omega, ?_⟩ (fun q hq => ⟨.inl ((own_eq ao m k c c).trans hq), ?_⟩)
  · rcases h.2 with ⟨hv, h0⟩ | ⟨g, cap, cur, hv, hb, hg, hm, hcm, hcs, htk⟩
    · injection hv with h1 h2 h3
      have : k = 0 := by omega
      subst this
      exact .inl ⟨by rw [h1, h3], rfl⟩
    · injection hv with h1 h2 h3
      refine .inr ⟨g, cap, cur, by rw [h1, h3], hb, hg, by omega, hcm, hcs, ?_⟩
      rw [← htk, List.take_take, Nat.min_eq_left hle]
  · exact (hs.ef _ (List.mem_of_getElem? hi) q ((own_eq ao m k c c).trans hq)).1
theorem O_clear {d : Option Nat} {b o m c e sz k cc i : Nat} {xs : List Value} {z : Value} (hs : St W F D es ds w) (hi : es[i]? = some (oSl (.slice (some ⟨b, 0, none⟩) m c) e sz m xs)) (hd : dstOk n d = true) (hu : P.underlying t = some (.slice e)) (hz : ∀ w, (zeroValue e).run P w = .ok z w) (hzs : z.cells.size = sz) (hz1 : ∀ u ∈ z.cells.toList, u.oneCell' = true) (hx : evO ρ x = some (.slice (some ⟨b, o, none⟩) k cc)) (ho : 0 < k → o + k * sz ≤ xs.length)
    (hK : ∀ w' ys, ys.length = xs.length → ys.take o = xs.take o → St W F D (es.set i (oSl (.slice (some ⟨b, 0, none⟩) m c) e sz m ys)) ds w' → K (updo ρ d (.tuple #[])) w') : EOp P n ⟨d, .call ⟨.builtin .clear, #[x], #[t]⟩, ty, pos, aft, none⟩ K ρ w := fun a ha => by
  unfold Oper.wp
  by_cases hk : k = 0
  · subst hk
    have hrun : (execOp a.eval ⟨d, .call ⟨.builtin .clear, #[x], #[t]⟩, ty, pos, aft, none⟩).run P w = .ok (.value (.tuple #[])) w := by
      simp [execOp, resolve, invoke, builtin, ha.eval hx, Builtin.clear_, Sem.run_bind, run_underlying hu]
    rw [hrun]
    refine ⟨_, ha.puto hd _, hK _ xs rfl rfl ?_⟩
    have h := hs.at hi
    exact hs.change hi _ rfl rfl rfl (Nat.le_refl _) (fun _ _ _ => rfl) h (fun q hq => ⟨.inl hq, (hs.ef _ (List.mem_of_getElem? hi) q hq).1⟩)
  · have hown : w.ownsRow 0 e sz (.slice (some ⟨b, 0, none⟩) m c) m xs := hs.at hi
    obtain ⟨hlen, hh⟩ := hown
    rcases hh with ⟨hv0, _⟩ | ⟨g, cap, cur, hv0, hb0, hb, hmc, hcm, hcs, htk⟩
    · cases hv0
    injection hv0 with q1 q2 q3
    injection q1 with q1
    injection q1 with q1
    subst q1; subst q3
    obtain ⟨zs, hzse, hzl, hz2⟩ : ∃ zs : List Value, (Builtin.zeroCells z.cells k).toList = zs ∧ zs.length = k * sz ∧ ∀ u ∈ zs, u.oneCell' = true := by
      refine ⟨_, rfl, ?_, ?_⟩
      · rw [Array.length_toList, size_zeroCells, hzs]
      · intro u hu
        obtain ⟨i, hi, rfl⟩ := List.getElem_of_mem hu
        have hp : 0 < z.cells.size := by
          rcases Nat.eq_zero_or_pos z.cells.size with h | h
          · rw [Array.length_toList, size_zeroCells, h] at hi; omega
          · exact h
        have hm : i % z.cells.size < z.cells.size := Nat.mod_lt _ hp
        have : (Builtin.zeroCells z.cells k).toList[i] = z.cells[i % z.cells.size] := by
          simp [Builtin.zeroCells, hm]
        rw [this]
        exact hz1 _ (by simp)
    have hol := ho (by omega)
    have hcl : xs.length ≤ cur.size := by rw [hlen, hcs]; exact Nat.mul_le_mul_right _ hmc
    have hst := run_storeCells_at P b o e zs 0 cur w hb (by simp only [Nat.add_zero]; omega) hz2
    simp only [Nat.add_zero] at hst
    have hst' : (storeCells ⟨b, o, none⟩ zs).run P w = .ok () (w.setRow b (setSeg cur.toList o zs).toArray) := hst
    obtain ⟨f1, f2, f3⟩ := setRow_facts (c' := (setSeg cur.toList o zs).toArray) hb
    have hrun : (execOp a.eval ⟨d, .call ⟨.builtin .clear, #[x], #[t]⟩, ty, pos, aft, none⟩).run P w = .ok (.value (.tuple #[])) (w.setRow b (setSeg cur.toList o zs).toArray) := by
      obtain ⟨k', rfl⟩ : ∃ k', k = k' + 1 := ⟨k - 1, by omega⟩
      simp [execOp, resolve, invoke, builtin, ha.eval hx, Builtin.clear_, Sem.run_bind, run_underlying hu, hz, hzse, hst']
    rw [hrun]
    have hsplit : cur.toList = xs ++ cur.toList.drop (m * sz) := by rw [← htk, List.take_append_drop]
    have hnew : setSeg cur.toList o zs = setSeg xs o zs ++ cur.toList.drop (m * sz) := by
      conv => lhs; rw [hsplit]
      exact setSeg_append_left (by rw [hzl]; exact hol)
    have hsl : (setSeg xs o zs).length = xs.length := setSeg_len (by rw [hzl]; exact hol)
    refine ⟨_, ha.puto hd _, hK _ (setSeg xs o zs) hsl ?_ (hs.change hi _ rfl rfl rfl (by omega) (fun q _ hk => f2 q (fun e => hk (by simp [oSl, Value.ownBlock, e]))) ⟨by rw [hsl, hlen], .inr ⟨b, c, (setSeg cur.toList o zs).toArray, rfl, Nat.zero_le _, f1, hmc, hcm, ?_, ?_⟩⟩ (fun q hq => ⟨.inl hq, ?_⟩))⟩
    · unfold setSeg
      rw [List.append_assoc, List.take_append_of_le_length (by rw [List.length_take]; omega), List.take_take, Nat.min_self]
    · have hl2 := setSeg_len (xs := cur.toList) (vs := zs) (o := o) (by rw [hzl, Array.length_toList]; omega)
      rw [List.size_toArray, hl2, Array.length_toList, hcs]
    · show (setSeg cur.toList o zs).take (m * sz) = _
      rw [hnew, List.take_append_of_le_length (by rw [hsl, hlen]; exact Nat.le_refl _), List.take_of_length_le (by rw [hsl, hlen]; exact Nat.le_refl _)]
    · have : q = b := by simpa [oSl, Value.ownBlock, eq_comm] using hq
      subst this
      rw [f3]
      exact (Array.getElem?_eq_some_iff.1 hb).1
end
end Go.Proofs.YtpcojkbljgpecaaGreat
namespace Go.Proofs.YtpcojkbljgpecaaGreat
open Go

/-! ### The order of bytes -/
theorem bl_irr : ∀ a : BL, bl a a = false
  | [] => rfl
  | x :: a => by
    have h := bl_irr a
    unfold bl at h ⊢
    rw [Op.bytesLess, h]
    simp
theorem bl_cons (x y : UInt8) (a b : BL) : bl (x :: a) (y :: b) = true ↔ x < y ∨ x = y ∧ bl a b = true := by
  unfold bl
  rw [Op.bytesLess]
  simp
theorem bl_nil (a : BL) : bl a [] = false := by cases a <;> rfl
theorem bl_trans : ∀ {a b c : BL}, bl a b = true → bl b c = true → bl a c = true
  | a, [], _, h, _ => by rw [bl_nil] at h; cases h
  | _, b :: l, [], _, h => by rw [bl_nil] at h; cases h
  | [], _ :: _, _ :: _, _, _ => rfl
  | x :: a, y :: b, z :: c, h1, h2 => by
    rw [bl_cons] at *
    rcases h1 with h1 | ⟨rfl, h1⟩
    · rcases h2 with h2 | ⟨rfl, h2⟩
      · exact .inl (UInt8.lt_trans h1 h2)
      · exact .inl h1
    · rcases h2 with h2 | ⟨rfl, h2⟩
      · exact .inl h2
      · exact .inr ⟨rfl, bl_trans h1 h2⟩
theorem bl_tri : ∀ {a b : BL}, bl a b = false → bl b a = false → a = b
  | [], [], _, _ => rfl
  | [], _ :: _, h, _ => by cases h
  | _ :: _, [], _, h => by cases h
  | x :: a, y :: b, h1, h2 => by
    have g1 : ¬ (x < y ∨ x = y ∧ bl a b = true) := fun h => by rw [(bl_cons x y a b).2 h] at h1; cases h1
    have g2 : ¬ (y < x ∨ y = x ∧ bl b a = true) := fun h => by rw [(bl_cons y x b a).2 h] at h2; cases h2
    have e : x = y := by
      apply UInt8.le_antisymm
      · exact UInt8.not_lt.1 (fun h => g2 (.inl h))
      · exact UInt8.not_lt.1 (fun h => g1 (.inl h))
    subst e
    have h3 : bl a b = false := by cases h : bl a b; rfl; exact absurd (.inr ⟨rfl, h⟩) g1
    have h4 : bl b a = false := by cases h : bl b a; rfl; exact absurd (.inr ⟨rfl, h⟩) g2
    rw [bl_tri h3 h4]
theorem bl_asymm {a b : BL} (h : bl a b = true) : bl b a = false := by
  cases h2 : bl b a
  · rfl
  · have := bl_trans h h2
    rw [bl_irr] at this
    cases this
theorem bl_ne {a b : BL} (h : bl a b = true) : a ≠ b := fun e => by subst e; rw [bl_irr] at h; cases h
theorem bl_ge_trans {a b c : BL} (h1 : bl b a = false) (h2 : bl c b = false) : bl c a = false := by
  cases h : bl c a
  · rfl
  · cases h3 : bl a b
    · rw [bl_tri h1 h3] at h2
      rw [h2] at h
      cases h
    · rw [bl_trans h h3] at h2
      cases h2
theorem bl_lt_le {a b c : BL} (h1 : bl a b = true) (h2 : bl c b = false) : bl a c = true := by
  cases h3 : bl b c
  · rw [bl_tri h3 h2] at h1; exact h1
  · exact bl_trans h1 h3
theorem bl_le_lt {a b c : BL} (h1 : bl b a = false) (h2 : bl b c = true) : bl a c = true := by
  cases h3 : bl a b
  · rw [bl_tri h3 h1]; exact h2
  · exact bl_trans h3 h2

/-- What Compare tells. -/
def cmpB (a b : BL) : Int := if bl a b = true then -1 else if a = b then 0 else 1
theorem cmpB_lt {a b : BL} : cmpB a b < 0 ↔ bl a b = true := by
  unfold cmpB
  split
  · simp [*]
  · rename_i h
    split
    · simp [h]
    · simp [h]
theorem cmpB_eq {a b : BL} : cmpB a b = 0 ↔ a = b := by
  unfold cmpB
  split
  · rename_i h
    simp only [show ((-1 : Int) = 0) = False by simp, false_iff]
    exact bl_ne h
  · split
    · rename_i h; simp [h]
    · rename_i h; simp [h]

/-! ### Sorting -/
section
variable {α : Type} (key : α → BL)

/-- Each is not above those behind it. -/
def Srt (l : List α) : Prop := l.Pairwise fun x y => bl (key y) (key x) = false
/-- The same things, those of each key in the same order. -/
def EqK (l r : List α) : Prop := ∀ k, l.filter (fun x => decide (key x = k)) = r.filter (fun x => decide (key x = k))
variable {key}
theorem EqK.refl (l : List α) : EqK key l l := fun _ => rfl
theorem EqK.symm {l r : List α} (h : EqK key l r) : EqK key r l := fun k => (h k).symm
theorem EqK.trans {l r s : List α} (h : EqK key l r) (h2 : EqK key r s) : EqK key l s := fun k => (h k).trans (h2 k)
theorem EqK.app {l r l' r' : List α} (h : EqK key l r) (h' : EqK key l' r') : EqK key (l ++ l') (r ++ r') := fun k => by
  rw [List.filter_append, List.filter_append, h k, h' k]
theorem EqK.mem {l r : List α} (h : EqK key l r) {x : α} (hx : x ∈ l) : x ∈ r := by
  have : x ∈ l.filter (fun y => decide (key y = key x)) := List.mem_filter.2 ⟨hx, by simp⟩
  rw [h] at this
  exact (List.mem_filter.1 this).1
theorem EqK.len : ∀ {l r : List α}, EqK key l r → l.length = r.length
  | [], r, h => by
    cases r with
    | nil => rfl
    | cons y r =>
      have := h (key y)
      simp at this
  | x :: l, r, h => by
    have hx : x ∈ r := h.mem List.mem_cons_self
    -- the first of x's key in r
    have h1 := h (key x)
    rw [List.filter_cons_of_pos (by simp)] at h1
    obtain ⟨a, b, hr, ha⟩ : ∃ a b, r = a ++ x :: b ∧ ∀ y, y ∈ a → key y ≠ key x := by
      clear hx h
      induction r with
      | nil => simp at h1
      | cons y r ih =>
        by_cases hy : key y = key x
        · rw [List.filter_cons_of_pos (by simpa using hy)] at h1
          injection h1 with h1 _
          exact ⟨[], r, by rw [h1]; rfl, fun y hy => nomatch hy⟩
        · rw [List.filter_cons_of_neg (by simpa using hy)] at h1
          obtain ⟨a, b, hr, ha⟩ := ih h1
          exact ⟨y :: a, b, by rw [hr]; rfl, fun z hz => by
            rcases List.mem_cons.1 hz with rfl | hz
            · exact hy
            · exact ha z hz⟩
    subst hr
    have h2 : EqK key l (a ++ b) := fun k => by
      have := h k
      by_cases hk : key x = k
      · subst hk
        have hna : a.filter (fun y => decide (key y = key x)) = [] := List.filter_eq_nil_iff.2 (fun y hy => by simpa using ha y hy)
        rw [List.filter_cons_of_pos (by simp), List.filter_append, List.filter_cons_of_pos (by simp), hna, List.nil_append] at this
        injection this with _ this
        rw [List.filter_append, hna, List.nil_append, this]
      · rw [List.filter_cons_of_neg (by simpa using hk), List.filter_append, List.filter_cons_of_neg (by simpa using hk), ← List.filter_append] at this
        exact this
    have := EqK.len h2
    simp only [List.length_append, List.length_cons] at this ⊢
    omega
termination_by l => l.length
/-- Two rows change places, of which one is wholly below the other. -/
theorem EqK.swap {u v : List α} (h : ∀ x, x ∈ u → ∀ y, y ∈ v → bl (key y) (key x) = true) : EqK key (u ++ v) (v ++ u) := fun k => by
  rw [List.filter_append, List.filter_append]
  by_cases hu : u.filter (fun x => decide (key x = k)) = []
  · rw [hu]; simp
  · obtain ⟨x, hx⟩ := List.exists_mem_of_ne_nil _ hu
    rw [List.mem_filter] at hx
    have hv : v.filter (fun x => decide (key x = k)) = [] := List.filter_eq_nil_iff.2 (fun y hy => by
      have h1 := bl_ne (h x hx.1 y hy)
      have h2 : key x = k := by simpa using hx.2
      simp only [decide_eq_true_eq]
      rintro rfl
      exact h1 h2.symm)
    rw [hv]; simp
/-- The sorted row of a row is one. -/
theorem Srt.unique : ∀ {l r : List α}, Srt key l → Srt key r → EqK key l r → l = r
  | [], r, _, _, h => (List.eq_nil_of_length_eq_zero h.len.symm).symm
  | x :: l, [], _, _, h => by have := h.len; simp at this
  | x :: l, y :: r, hl, hr, h => by
    have hl' := List.pairwise_cons.1 hl
    have hr' := List.pairwise_cons.1 hr
    have hk : key x = key y := by
      apply bl_tri
      · have : y ∈ x :: l := h.symm.mem List.mem_cons_self
        cases hb : bl (key x) (key y)
        · rfl
        · have hx : x ∈ y :: r := h.mem List.mem_cons_self
          rcases List.mem_cons.1 hx with rfl | hx
          · rw [bl_irr] at hb; cases hb
          · rw [hr'.1 x hx] at hb; cases hb
      · cases hb : bl (key y) (key x)
        · rfl
        · have hy : y ∈ x :: l := h.symm.mem List.mem_cons_self
          rcases List.mem_cons.1 hy with rfl | hy
          · rw [bl_irr] at hb; cases hb
          · rw [hl'.1 y hy] at hb; cases hb
    have h1 := h (key x)
    rw [List.filter_cons_of_pos (by simp), List.filter_cons_of_pos (by simp [hk])] at h1
    injection h1 with h1 h2
    subst h1
    have : EqK key l r := fun k => by
      have := h k
      by_cases hx : key x = k
      · rw [List.filter_cons_of_pos (by simpa using hx), List.filter_cons_of_pos (by simpa using hx)] at this
        injection this
      · rw [List.filter_cons_of_neg (by simpa using hx), List.filter_cons_of_neg (by simpa using hx)] at this
        exact this
    rw [Srt.unique hl'.2 hr'.2 this]

variable (key)
/-- A thing behind all that are not above it. -/
def insK (x : α) : List α → List α
  | [] => [x]
  | y :: l => if bl (key x) (key y) = true then x :: y :: l else y :: insK x l
/-- Sorted, equals as they stood. -/
def sortK (l : List α) : List α := l.foldl (fun acc x => insK key x acc) []
variable {key}
theorem insK_mem {x z : α} : ∀ {l : List α}, z ∈ insK key x l ↔ z = x ∨ z ∈ l
  | [] => by simp [insK]
  | y :: l => by
    unfold insK
    split
    · simp
    · simp only [List.mem_cons, insK_mem (l := l)]
      constructor
      · rintro (h | h | h)
        · exact .inr (.inl h)
        · exact .inl h
        · exact .inr (.inr h)
      · rintro (h | h | h)
        · exact .inr (.inl h)
        · exact .inl h
        · exact .inr (.inr h)
theorem insK_split (x : α) : ∀ (l : List α), Srt key l → ∃ p q, l = p ++ q ∧ insK key x l = p ++ x :: q ∧ (∀ y, y ∈ p → bl (key x) (key y) = false) ∧ (∀ y, y ∈ q → bl (key x) (key y) = true)
  | [], _ => ⟨[], [], rfl, rfl, fun _ h => (nomatch h), fun _ h => (nomatch h)⟩
  | y :: l, h => by
    have h' := List.pairwise_cons.1 h
    by_cases hb : bl (key x) (key y) = true
    · refine ⟨[], y :: l, rfl, by rw [insK, if_pos hb]; rfl, fun _ h => (nomatch h), fun z hz => ?_⟩
      rcases List.mem_cons.1 hz with rfl | hz
      · exact hb
      · exact bl_lt_le hb (h'.1 z hz)
    · obtain ⟨p, q, h1, h2, h3, h4⟩ := insK_split x l h'.2
      refine ⟨y :: p, q, by rw [h1]; rfl, by rw [insK, if_neg hb, h2]; rfl, fun z hz => ?_, h4⟩
      rcases List.mem_cons.1 hz with rfl | hz
      · exact Bool.eq_false_iff.2 hb
      · exact h3 z hz
theorem Srt.app {p q : List α} (hp : Srt key p) (hq : Srt key q) (h : ∀ x, x ∈ p → ∀ y, y ∈ q → bl (key y) (key x) = false) : Srt key (p ++ q) := List.pairwise_append.2 ⟨hp, hq, h⟩
theorem insK_eqk (x : α) (l : List α) (hl : Srt key l) : EqK key (l ++ [x]) (insK key x l) := by
  obtain ⟨p, q, h1, h2, h3, h4⟩ := insK_split (key := key) x l hl
  rw [h2, h1, List.append_assoc]
  refine (EqK.refl p).app (r' := [x] ++ q) (EqK.swap fun y hy z hz => ?_)
  obtain rfl := List.mem_singleton.1 hz
  exact h4 y hy
theorem insK_srt (x : α) (l : List α) (hl : Srt key l) : Srt key (insK key x l) := by
  obtain ⟨p, q, h1, h2, h3, h4⟩ := insK_split (key := key) x l hl
  rw [h2]
  subst h1
  have hpq := List.pairwise_append.1 hl
  refine Srt.app hpq.1 (List.pairwise_cons.2 ⟨fun y hy => bl_asymm (h4 y hy), hpq.2.1⟩) fun y hy z hz => ?_
  rcases List.mem_cons.1 hz with rfl | hz
  · exact h3 y hy
  · exact hpq.2.2 y hy z hz
theorem sortK_snoc (l : List α) (x : α) : sortK key (l ++ [x]) = insK key x (sortK key l) := by simp [sortK]
theorem sortK_both (l : List α) : Srt key (sortK key l) ∧ EqK key l (sortK key l) := by
  have : ∀ n, ∀ l : List α, l.length = n → Srt key (sortK key l) ∧ EqK key l (sortK key l) := by
    intro n
    induction n with
    | zero => intro l hl; obtain rfl := List.eq_nil_of_length_eq_zero hl; exact ⟨.nil, EqK.refl _⟩
    | succ n ih =>
      intro l hl
      have hne : l ≠ [] := by intro h; subst h; simp at hl
      obtain ⟨l', x, rfl⟩ : ∃ l' x, l = l' ++ [x] := ⟨l.dropLast, l.getLast hne, (List.dropLast_concat_getLast hne).symm⟩
      obtain ⟨h1, h2⟩ := ih l' (by simpa using hl)
      rw [sortK_snoc]
      exact ⟨insK_srt x _ h1, (h2.app (EqK.refl [x])).trans (insK_eqk x _ h1)⟩
  exact this _ l rfl
theorem sortK_srt (l : List α) : Srt key (sortK key l) := (sortK_both l).1
theorem sortK_eqk (l : List α) : EqK key l (sortK key l) := (sortK_both l).2
theorem sortK_len (l : List α) : (sortK key l).length = l.length := (sortK_eqk l).len.symm
/-- Whatever is sorted, and has the same things in the same order, is the sorted row. -/
theorem sortK_of {l r : List α} (h : EqK key l r) (hr : Srt key r) : r = sortK key l := Srt.unique hr (sortK_srt l) (h.symm.trans (sortK_eqk l))
theorem sortK_self {l : List α} (h : Srt key l) : sortK key l = l := (sortK_of (EqK.refl l) h).symm
theorem sortK_congr {l r : List α} (h : EqK key l r) : sortK key l = sortK key r := (sortK_of (h.symm.trans (sortK_eqk l)) (sortK_srt l))

theorem insK_of (x : α) : ∀ (p q : List α), (∀ y, y ∈ p → bl (key x) (key y) = false) → (∀ y, y ∈ q → bl (key x) (key y) = true) → insK key x (p ++ q) = p ++ x :: q
  | [], [], _, _ => rfl
  | [], y :: q, _, h2 => by
    show insK key x (y :: q) = _
    rw [insK, if_pos (h2 y List.mem_cons_self)]; rfl
  | y :: p, q, h1, h2 => by
    show insK key x (y :: (p ++ q)) = _
    rw [insK, if_neg (by rw [h1 y List.mem_cons_self]; simp), insK_of x p q (fun z hz => h1 z (List.mem_cons_of_mem _ hz)) h2]; rfl
theorem srt_le {l : List α} (h : Srt key l) {i j : Nat} (hij : i ≤ j) (hj : j < l.length) : bl (key l[j]) (key l[i]) = false := by
  rcases Nat.lt_or_ge i j with hlt | hge
  · exact List.pairwise_iff_getElem.1 h i j (by omega) hj hlt
  · have : i = j := by omega
    subst this
    exact bl_irr _
theorem srt_one (x : α) : Srt key [x] := List.pairwise_singleton _ _
theorem srt_le1 {l : List α} (h : l.length ≤ 1) : Srt key l := by
  match l, h with
  | [], _ => exact .nil
  | [x], _ => exact srt_one x
/-- A thing behind those of a sorted row that are below it. -/
theorem sortK_front (x : α) {B : List α} (hB : Srt key B) {i : Nat} (hi : i ≤ B.length) (h1 : ∀ (h : 0 < i), bl (key (B[i - 1]'(by omega))) (key x) = true) (h2 : ∀ (h : i < B.length), bl (key B[i]) (key x) = false) : B.take i ++ x :: B.drop i = sortK key (x :: B) := by
  have hb := List.take_append_drop i B
  have hlow : ∀ y, y ∈ B.take i → bl (key y) (key x) = true := fun y hy => by
    obtain ⟨k, hk, rfl⟩ := List.getElem_of_mem hy
    rw [List.length_take] at hk
    rw [List.getElem_take]
    have g1 := h1 (by omega)
    have g2 := srt_le hB (show k ≤ i - 1 by omega) (by omega)
    exact bl_le_lt g2 g1
  have hhi : ∀ y, y ∈ B.drop i → bl (key y) (key x) = false := fun y hy => by
    obtain ⟨k, hk, rfl⟩ := List.getElem_of_mem hy
    rw [List.length_drop] at hk
    rw [List.getElem_drop]
    have g1 := h2 (by omega)
    have g2 := srt_le hB (show i ≤ i + k by omega) (by omega)
    exact bl_ge_trans g1 g2
  have hp := List.pairwise_append.1 (show Srt key (B.take i ++ B.drop i) by rw [hb]; exact hB)
  refine sortK_of ?_ (Srt.app hp.1 (List.pairwise_cons.2 ⟨hhi, hp.2.1⟩) fun y hy z hz => ?_)
  · have h3 : EqK key ([x] ++ B.take i) (B.take i ++ [x]) := EqK.swap fun y hy z hz => by
      obtain rfl := List.mem_singleton.1 hy
      exact hlow z hz
    have h4 := h3.app (EqK.refl (B.drop i))
    rw [List.append_assoc, hb, List.append_assoc] at h4
    exact h4
  · rcases List.mem_cons.1 hz with rfl | hz
    · exact bl_asymm (hlow y hy)
    · exact hp.2.2 y hy z hz
/-- A thing ahead of those of a sorted row that are above it. -/
theorem sortK_back (x : α) {A : List α} (hA : Srt key A) {i : Nat} (hi : i ≤ A.length) (h1 : ∀ (h : 0 < i), bl (key x) (key (A[i - 1]'(by omega))) = false) (h2 : ∀ (h : i < A.length), bl (key x) (key A[i]) = true) : A.take i ++ x :: A.drop i = sortK key (A ++ [x]) := by
  have hb := List.take_append_drop i A
  rw [sortK_snoc, sortK_self hA]
  conv => rhs; rw [← hb]
  refine (insK_of x _ _ (fun y hy => ?_) (fun y hy => ?_)).symm
  · obtain ⟨k, hk, rfl⟩ := List.getElem_of_mem hy
    rw [List.length_take] at hk
    rw [List.getElem_take]
    exact bl_ge_trans (srt_le hA (show k ≤ i - 1 by omega) (by omega)) (h1 (by omega))
  · obtain ⟨k, hk, rfl⟩ := List.getElem_of_mem hy
    rw [List.length_drop] at hk
    rw [List.getElem_drop]
    exact bl_lt_le (h2 (by omega)) (srt_le hA (show i ≤ i + k by omega) (by omega))
/-- Two sorted rows, cut so that what is behind the first cut is above what is ahead of the second one. -/
theorem sortK_merge {A B : List α} (hA : Srt key A) (hB : Srt key B) {i j : Nat} (hi : i ≤ A.length) (hj : j ≤ B.length)
    (h1 : ∀ (h : 0 < i) (h' : j < B.length), bl (key B[j]) (key (A[i - 1]'(by omega))) = false) (h2 : ∀ (h : i < A.length) (h' : 0 < j), bl (key (B[j - 1]'(by omega))) (key A[i]) = true) :
    EqK key (A ++ B) ((A.take i ++ B.take j) ++ (A.drop i ++ B.drop j)) ∧ sortK key (A.take i ++ B.take j) ++ sortK key (A.drop i ++ B.drop j) = sortK key (A ++ B) := by
  have ha := List.take_append_drop i A
  have hb := List.take_append_drop j B
  have hpa := List.pairwise_append.1 (show Srt key (A.take i ++ A.drop i) by rw [ha]; exact hA)
  have hpb := List.pairwise_append.1 (show Srt key (B.take j ++ B.drop j) by rw [hb]; exact hB)
  have huv : ∀ x, x ∈ A.drop i → ∀ y, y ∈ B.take j → bl (key y) (key x) = true := fun x hx y hy => by
    obtain ⟨k, hk, rfl⟩ := List.getElem_of_mem hx
    obtain ⟨q, hq, rfl⟩ := List.getElem_of_mem hy
    rw [List.length_drop] at hk
    rw [List.length_take] at hq
    rw [List.getElem_drop, List.getElem_take]
    exact bl_le_lt (srt_le hB (show q ≤ j - 1 by omega) (by omega)) (bl_lt_le (h2 (by omega) (by omega)) (srt_le hA (show i ≤ i + k by omega) (by omega)))
  have hab : ∀ x, x ∈ A.take i → ∀ y, y ∈ B.drop j → bl (key y) (key x) = false := fun x hx y hy => by
    obtain ⟨k, hk, rfl⟩ := List.getElem_of_mem hx
    obtain ⟨q, hq, rfl⟩ := List.getElem_of_mem hy
    rw [List.length_take] at hk
    rw [List.length_drop] at hq
    rw [List.getElem_take, List.getElem_drop]
    exact bl_ge_trans (bl_ge_trans (srt_le hA (show k ≤ i - 1 by omega) (by omega)) (h1 (by omega) (by omega))) (srt_le hB (show j ≤ j + q by omega) (by omega))
  have he : EqK key (A ++ B) ((A.take i ++ B.take j) ++ (A.drop i ++ B.drop j)) := by
    have h3 := (EqK.refl (key := key) (A.take i)).app ((EqK.swap huv).app (EqK.refl (B.drop j)))
    rw [List.append_assoc, hb, ← List.append_assoc, ha] at h3
    rw [List.append_assoc, ← List.append_assoc (B.take j)]
    exact h3
  refine ⟨he, sortK_of (he.trans ((sortK_eqk _).app (sortK_eqk _))) (Srt.app (sortK_srt _) (sortK_srt _) fun x hx y hy => ?_)⟩
  have hx' := (sortK_eqk (key := key) (A.take i ++ B.take j)).symm.mem hx
  have hy' := (sortK_eqk (key := key) (A.drop i ++ B.drop j)).symm.mem hy
  rcases List.mem_append.1 hx' with hx' | hx'
  · rcases List.mem_append.1 hy' with hy' | hy'
    · exact hpa.2.2 x hx' y hy'
    · exact hab x hx' y hy'
  · rcases List.mem_append.1 hy' with hy' | hy'
    · exact bl_asymm (huv y hy' x hx')
    · exact hpb.2.2 x hx' y hy'
variable (key)
/-- Rows of so many are sorted, each for itself. -/
def Rn (bs : Nat) (l : List α) : Prop := ∀ i, Srt key ((l.drop (i * bs)).take bs)
variable {key}
theorem Rn.tail {bs : Nat} {l : List α} (h : Rn key bs l) (k : Nat) : Rn key bs (l.drop (k * bs)) := fun i => by
  rw [List.drop_drop, ← Nat.add_mul]
  exact h (k + i)
theorem Rn.head {bs : Nat} {l : List α} (h : Rn key bs l) : Srt key (l.take bs) := by
  have := h 0
  simpa using this
theorem Rn.short {bs : Nat} {l : List α} (h : Srt key l) (hl : l.length ≤ bs) : Rn key bs l := fun i => (h.sublist (List.drop_sublist _ _)).sublist (List.take_sublist _ _)
/-- One sorted row more, ahead. -/
theorem Rn.cons {bs : Nat} {c l : List α} (hc : Srt key c) (hl : c.length = bs) (h : Rn key bs l) : Rn key bs (c ++ l)
  | 0 => by rw [Nat.zero_mul, List.drop_zero, List.take_append_of_le_length (by omega), List.take_of_length_le (by omega)]; exact hc
  | i + 1 => by
    have : (c ++ l).drop ((i + 1) * bs) = l.drop (i * bs) := by
      rw [List.drop_append, List.drop_of_length_le (by rw [hl, Nat.succ_mul]; omega), List.nil_append]
      congr 1
      rw [hl, Nat.succ_mul]; omega
    rw [this]
    exact h i
theorem Rn.app {bs k : Nat} {c l : List α} (hc : Rn key bs c) (hl : c.length = k * bs) (h : Rn key bs l) : Rn key bs (c ++ l) := by
  induction k generalizing c with
  | zero =>
    have : c = [] := List.eq_nil_of_length_eq_zero (by simpa using hl)
    subst this
    exact h
  | succ k ih =>
    rw [Nat.succ_mul] at hl
    have h1 := ih (c := c.drop bs) (by have := hc.tail 1; rwa [Nat.one_mul] at this) (by rw [List.length_drop]; omega)
    have h2 := Rn.cons hc.head (by rw [List.length_take]; omega) h1
    rwa [← List.append_assoc, List.take_append_drop] at h2
/-! ### Each once -/
variable (key)
/-- Of neighbours of one key the first one stays; prev: the one ahead. -/
def dedGo (prev : α) : List α → List α
  | [] => []
  | y :: r => if key y = key prev then dedGo y r else y :: dedGo y r
def ded : List α → List α
  | [] => []
  | x :: l => x :: dedGo key x l
/-- The place of the first one that is not below. -/
def lowK (x : α) (l : List α) : Nat := l.findIdx fun y => !bl (key y) (key x)
def refIns (x : α) (out : List α) : List α := if (out[lowK key x out]?).map key = some (key x) then out else out.take (lowK key x out) ++ x :: out.drop (lowK key x out)
/-- Of each key the first one, in order. -/
def refSort (l : List α) : List α := l.foldl (fun out x => refIns key x out) []
variable {key}
theorem dedGo_sub (prev : α) : ∀ (l : List α), (dedGo key prev l).Sublist l
  | [] => .slnil
  | y :: r => by
    unfold dedGo
    split
    · exact (dedGo_sub y r).cons y
    · exact (dedGo_sub y r).cons_cons y
theorem ded_sub : ∀ (l : List α), (ded key l).Sublist l
  | [] => .slnil
  | x :: l => (dedGo_sub x l).cons_cons x
theorem ded_len (l : List α) : (ded key l).length ≤ l.length := (ded_sub l).length_le
theorem dedGo_filter (prev : α) : ∀ (l : List α), Srt key (prev :: l) → ∀ k, (dedGo key prev l).filter (fun x => decide (key x = k)) = if k = key prev then [] else (l.filter (fun x => decide (key x = k))).take 1
  | [], _, k => by simp [dedGo]
  | y :: r, h, k => by
    have h1 := List.pairwise_cons.1 h
    have h2 := List.pairwise_cons.1 h1.2
    have ih := dedGo_filter y r h1.2 k
    unfold dedGo
    by_cases hy : key y = key prev
    · rw [if_pos hy, ih, hy]
      by_cases hk : k = key prev
      · rw [if_pos hk, if_pos hk]
      · rw [if_neg hk, if_neg hk, List.filter_cons_of_neg (by simp only [decide_eq_true_eq]; rw [hy]; exact fun e => hk e.symm)]
    · rw [if_neg hy]
      by_cases hk : k = key y
      · subst hk
        rw [List.filter_cons_of_pos (by simp), ih, if_pos rfl, if_neg hy, List.filter_cons_of_pos (by simp)]
        simp
      · rw [List.filter_cons_of_neg (by simp only [decide_eq_true_eq]; exact fun e => hk e.symm), ih, if_neg hk, List.filter_cons_of_neg (by simp only [decide_eq_true_eq]; exact fun e => hk e.symm)]
        by_cases hp : k = key prev
        · rw [if_pos hp]
          have : r.filter (fun x => decide (key x = k)) = [] := List.filter_eq_nil_iff.2 (fun z hz => by
            simp only [decide_eq_true_eq]
            intro e
            have g1 := h1.1 y List.mem_cons_self
            have g2 := h2.1 z hz
            rw [e, hp] at g2
            exact hy (bl_tri g1 g2))
          rw [this]; rfl
        · rw [if_neg hp]
theorem ded_filter : ∀ (l : List α), Srt key l → ∀ k, (ded key l).filter (fun x => decide (key x = k)) = (l.filter (fun x => decide (key x = k))).take 1
  | [], _, _ => rfl
  | x :: l, h, k => by
    have ih := dedGo_filter x l h k
    unfold ded
    by_cases hk : k = key x
    · subst hk
      rw [List.filter_cons_of_pos (by simp), ih, if_pos rfl, List.filter_cons_of_pos (by simp)]; simp
    · rw [List.filter_cons_of_neg (by simp only [decide_eq_true_eq]; exact fun e => hk e.symm), ih, if_neg hk, List.filter_cons_of_neg (by simp only [decide_eq_true_eq]; exact fun e => hk e.symm)]
theorem lowK_le (x : α) (l : List α) : lowK key x l ≤ l.length := List.findIdx_le_length
theorem lowK_split (x : α) (l : List α) (h : Srt key l) : (∀ y, y ∈ l.take (lowK key x l) → bl (key y) (key x) = true) ∧ (∀ y, y ∈ l.drop (lowK key x l) → bl (key y) (key x) = false) := by
  induction l with
  | nil => exact ⟨fun _ h => (nomatch h), fun _ h => (nomatch h)⟩
  | cons z l ih =>
    have h' := List.pairwise_cons.1 h
    unfold lowK
    rw [List.findIdx_cons]
    cases hz : bl (key z) (key x)
    · simp only [Bool.not_false, cond_true, List.take_zero, List.drop_zero]
      refine ⟨fun _ h => (nomatch h), fun y hy => ?_⟩
      rcases List.mem_cons.1 hy with rfl | hy
      · exact hz
      · exact bl_ge_trans hz (h'.1 y hy)
    · simp only [Bool.not_true, cond_false]
      obtain ⟨i1, i2⟩ := ih h'.2
      refine ⟨fun y hy => ?_, fun y hy => ?_⟩
      · rw [List.take_succ_cons] at hy
        rcases List.mem_cons.1 hy with rfl | hy
        · exact hz
        · exact i1 y hy
      · rw [List.drop_succ_cons] at hy
        exact i2 y hy
theorem refIns_both (x : α) (out : List α) (h : Srt key out) (hk : ∀ k, (out.filter (fun y => decide (key y = k))).length ≤ 1) :
    Srt key (refIns key x out) ∧ (∀ k, (refIns key x out).filter (fun y => decide (key y = k)) = ((out ++ [x]).filter (fun y => decide (key y = k))).take 1) := by
  obtain ⟨h1, h2⟩ := lowK_split x out h
  have hd : out.take (lowK key x out) ++ out.drop (lowK key x out) = out := List.take_append_drop _ _
  unfold refIns
  split
  · rename_i hx
    refine ⟨h, fun k => ?_⟩
    rw [List.filter_append]
    obtain ⟨z, hz, hzk⟩ := Option.map_eq_some_iff.1 hx
    have hzm : z ∈ out := List.mem_of_getElem? hz
    by_cases he : key x = k
    · have hne : z ∈ out.filter (fun y => decide (key y = k)) := List.mem_filter.2 ⟨hzm, by simp [hzk, he]⟩
      have hl := hk k
      have : 0 < (out.filter (fun y => decide (key y = k))).length := List.length_pos_of_mem hne
      rw [List.take_append_of_le_length (by omega), List.take_of_length_le hl]
    · rw [List.filter_cons_of_neg (by simpa using he), List.filter_nil, List.append_nil, List.take_of_length_le (hk k)]
  · rename_i hx
    have hno : ∀ y, y ∈ out → key y ≠ key x := by
      intro y hy e
      rw [← hd] at hy
      rcases List.mem_append.1 hy with hy | hy
      · exact bl_ne (h1 y hy) e
      · -- the head of what is behind has the key of x
        cases hdd : out.drop (lowK key x out) with
        | nil => rw [hdd] at hy; cases hy
        | cons z r =>
          rw [hdd] at hy h2
          have hsr : Srt key (z :: r) := by rw [← hdd]; exact h.sublist (List.drop_sublist _ _)
          have hzx : key z = key x := by
            apply bl_tri (h2 z List.mem_cons_self)
            rcases List.mem_cons.1 hy with rfl | hy
            · rw [e]; exact bl_irr _
            · have := (List.pairwise_cons.1 hsr).1 y hy
              rw [e] at this
              exact this
          apply hx
          have : out[lowK key x out]? = some z := by
            have := congrArg (·[0]?) hdd
            simpa using this
          rw [this, Option.map_some, hzx]
    have h3 : ∀ y, y ∈ out.drop (lowK key x out) → bl (key x) (key y) = true := fun y hy => by
      cases hb : bl (key x) (key y)
      · exact absurd (bl_tri (h2 y hy) hb) (hno y (List.mem_of_mem_drop hy))
      · rfl
    have hsp := List.pairwise_append.1 (show Srt key (out.take (lowK key x out) ++ out.drop (lowK key x out)) by rw [hd]; exact h)
    refine ⟨Srt.app hsp.1 (List.pairwise_cons.2 ⟨fun y hy => bl_asymm (h3 y hy), hsp.2.1⟩) fun y hy z hz => ?_, fun k => ?_⟩
    · rcases List.mem_cons.1 hz with rfl | hz
      · exact bl_asymm (h1 y hy)
      · exact hsp.2.2 y hy z hz
    · have hf : (out.take (lowK key x out) ++ x :: out.drop (lowK key x out)).filter (fun y => decide (key y = k)) = (out ++ [x]).filter (fun y => decide (key y = k)) := by
        have e1 : EqK key (out ++ [x]) (out.take (lowK key x out) ++ x :: out.drop (lowK key x out)) := by
          conv => lhs; rw [← hd]
          rw [List.append_assoc]
          refine (EqK.refl _).app (r' := [x] ++ _) (EqK.swap fun y hy z hz => ?_)
          obtain rfl := List.mem_singleton.1 hz
          exact h3 y hy
        exact (e1 k).symm
      rw [hf, List.take_of_length_le]
      rw [List.filter_append, List.length_append]
      by_cases he : key x = k
      · have : out.filter (fun y => decide (key y = k)) = [] := List.filter_eq_nil_iff.2 (fun y hy => by
          simp only [decide_eq_true_eq]; rw [← he]; exact hno y hy)
        rw [this]
        have := List.length_filter_le (fun y => decide (key y = k)) [x]
        simpa using this
      · rw [List.filter_cons_of_neg (by simpa using he)]
        have := hk k
        simpa using this
theorem refSort_snoc (l : List α) (x : α) : refSort key (l ++ [x]) = refIns key x (refSort key l) := by simp [refSort]
theorem refSort_both (l : List α) : Srt key (refSort key l) ∧ (∀ k, (refSort key l).filter (fun y => decide (key y = k)) = (l.filter (fun y => decide (key y = k))).take 1) := by
  have : ∀ n, ∀ l : List α, l.length = n → Srt key (refSort key l) ∧ (∀ k, (refSort key l).filter (fun y => decide (key y = k)) = (l.filter (fun y => decide (key y = k))).take 1) := by
    intro n
    induction n with
    | zero => intro l hl; obtain rfl := List.eq_nil_of_length_eq_zero hl; exact ⟨.nil, fun _ => rfl⟩
    | succ n ih =>
      intro l hl
      have hne : l ≠ [] := by intro h; subst h; simp at hl
      obtain ⟨l', x, rfl⟩ : ∃ l' x, l = l' ++ [x] := ⟨l.dropLast, l.getLast hne, (List.dropLast_concat_getLast hne).symm⟩
      obtain ⟨h1, h2⟩ := ih l' (by simpa using hl)
      have h3 := refIns_both x _ h1 (fun k => by rw [h2 k, List.length_take]; omega)
      rw [refSort_snoc]
      refine ⟨h3.1, fun k => ?_⟩
      rw [h3.2 k, List.filter_append, h2 k, List.filter_append]
      cases hq : l'.filter (fun y => decide (key y = k)) with
      | nil => rfl
      | cons z q => simp
  exact this _ l rfl
theorem ded_sortK (l : List α) : ded key (sortK key l) = refSort key l := by
  refine Srt.unique ((sortK_srt l).sublist (ded_sub _)) (refSort_both l).1 (fun k => ?_)
  rw [ded_filter _ (sortK_srt l), (refSort_both l).2, ← sortK_eqk l k]

theorem Rn.tail1 {bs : Nat} {l : List α} (h : Rn key bs l) : Rn key bs (l.drop bs) := by have := h.tail 1; rwa [Nat.one_mul] at this
theorem Rn.all {bs : Nat} {l : List α} (h : Rn key bs l) (hl : l.length ≤ bs) : Srt key l := by
  have := h.head
  rwa [List.take_of_length_le hl] at this
/-- One sorted row more, behind. -/
theorem Rn.snoc {bs k : Nat} {c l : List α} (hc : Rn key bs c) (hl : c.length = k * bs) (h : Srt key l) (h2 : l.length ≤ bs) : Rn key bs (c ++ l) := hc.app hl (Rn.short h h2)
theorem dedGo_snoc (y : α) : ∀ (l : List α) (prev : α), dedGo key prev (l ++ [y]) = dedGo key prev l ++ (if key y = key (l.getLastD prev) then [] else [y])
  | [], prev => by
    simp only [List.nil_append, dedGo, List.getLastD_nil]
    by_cases h : key y = key prev <;> simp [h]
  | z :: l, prev => by
    have h1 := dedGo_snoc y l z
    have h2 : (z :: l).getLastD prev = l.getLastD z := by cases l <;> rfl
    rw [List.cons_append, dedGo, h1, h2]
    conv => rhs; rw [dedGo]
    split <;> simp
theorem ded_take_succ {L : List α} {m : Nat} (hm : 1 ≤ m) (h : m < L.length) : ded key (L.take (m + 1)) = ded key (L.take m) ++ (if key L[m] = key (L[m - 1]'(by omega)) then [] else [L[m]]) := by
  obtain ⟨x, r, rfl⟩ : ∃ x r, L = x :: r := by
    cases L with
    | nil => simp at h
    | cons x r => exact ⟨x, r, rfl⟩
  obtain ⟨q, rfl⟩ : ∃ q, m = q + 1 := ⟨m - 1, by omega⟩
  rw [List.take_succ_eq_append_getElem h, List.take_succ_cons, List.cons_append]
  show x :: dedGo key x (r.take q ++ [_]) = (x :: dedGo key x (r.take q)) ++ _
  rw [dedGo_snoc]
  have hl : (r.take q).getLastD x = (x :: r)[q + 1 - 1]'(by simp at h ⊢; omega) := by
    simp only [Nat.add_sub_cancel]
    cases q with
    | zero => rfl
    | succ q =>
      have hq : q < r.length := by simp at h; omega
      rw [List.take_succ_eq_append_getElem hq, List.getLastD_concat]
      rfl
  rw [hl]
  rfl
theorem ded_short {L : List α} (h : L.length ≤ 1) : ded key L = L := by
  match L, h with
  | [], _ => rfl
  | [x], _ => rfl
theorem lowK_of {x : α} {l : List α} {k : Nat} (hk : k ≤ l.length) (h1 : ∀ i (h : i < l.length), i < k → bl (key l[i]) (key x) = true) (h2 : ∀ (h : k < l.length), bl (key l[k]) (key x) = false) : lowK key x l = k := by
  unfold lowK
  rcases Nat.lt_or_ge k l.length with h | h
  · rw [List.findIdx_eq h]
    exact ⟨by rw [h2 h]; rfl, fun j hj => by rw [h1 j (by omega) hj]; rfl⟩
  · rw [List.findIdx_eq_length_of_false (fun y hy => ?_)]
    · omega
    · obtain ⟨i, hi, rfl⟩ := List.getElem_of_mem hy
      rw [h1 i hi (by omega)]; rfl
theorem refIns_len (x : α) (out : List α) : (refIns key x out).length ≤ out.length + 1 := by
  unfold refIns
  split
  · omega
  · simp only [List.length_append, List.length_cons, List.length_take, List.length_drop]; omega
theorem refSort_len (l : List α) : (refSort key l).length ≤ l.length := by
  have : ∀ (l acc : List α), (l.foldl (fun out x => refIns key x out) acc).length ≤ acc.length + l.length := by
    intro l
    induction l with
    | nil => intro acc; simp
    | cons x l ih =>
      intro acc
      have h1 := ih (refIns key x acc)
      have h2 := refIns_len (key := key) x acc
      simp only [List.foldl_cons, List.length_cons]; omega
  have := this l []
  simpa [refSort] using this
/-! ### Two that change places -/
theorem swp_mid (A M B : List α) (x y : α) {i j : Nat} (hi : i = A.length) (hj : j = A.length + 1 + M.length) : ((A ++ x :: (M ++ y :: B)).set i y).set j x = A ++ y :: (M ++ x :: B) := by
  subst hi; subst hj
  rw [List.set_append_right _ _ (Nat.le_refl _), Nat.sub_self, List.set_cons_zero, List.set_append_right _ _ (by omega)]
  rw [show A.length + 1 + M.length - A.length = M.length + 1 by omega, List.set_cons_succ, List.set_append_right _ _ (Nat.le_refl _), Nat.sub_self, List.set_cons_zero]
end
end Go.Proofs.YtpcojkbljgpecaaGreat
namespace Go.Proofs.YtpcojkbljgpecaaGreat
open Go
/-- The lowest byte of a number. -/
def byteOf (z : Int) : UInt8 := UInt8.ofNat (z % 256).toNat
theorem byteOf_nat (z : Int) : ((byteOf z).toNat : Int) = z % 256 := by
  unfold byteOf
  rw [UInt8.toNat_ofNat_of_lt' (by simp [UInt8.size]; omega)]
  omega
theorem wrap_byte (z : Int) : IntKind.u8.wrap z = ((byteOf z).toNat : Int) := by
  rw [byteOf_nat]
  unfold IntKind.wrap
  simp [IntKind.bits, IntKind.signed]
/-- A number in k bytes, the highest first. -/
def beB (n : Int) : Nat → BL
  | 0 => []
  | k + 1 => byteOf (n / 2 ^ (8 * k)) :: beB n k
theorem beB_len (n : Int) : ∀ k, (beB n k).length = k
  | 0 => rfl
  | k + 1 => by rw [beB, List.length_cons, beB_len n k]
theorem cmp_cmpB : ∀ a b : BL, Lib.compareBytes a b = cmpB a b
  | [], [] => rfl
  | [], _ :: _ => rfl
  | _ :: _, [] => rfl
  | x :: a, y :: b => by
    rw [Lib.compareBytes, cmp_cmpB a b]
    unfold cmpB
    by_cases h1 : x < y
    · rw [if_pos h1, if_pos ((bl_cons x y a b).2 (.inl h1))]
    · rw [if_neg h1]
      by_cases h2 : y < x
      · rw [if_pos h2, if_neg (fun h => by
          rcases (bl_cons x y a b).1 h with h | ⟨rfl, _⟩
          · exact h1 h
          · exact h1 h2), if_neg (fun h => by injection h with h _; subst h; exact h1 h2)]
      · rw [if_neg h2]
        have e : x = y := UInt8.le_antisymm (UInt8.not_lt.1 h2) (UInt8.not_lt.1 h1)
        subst e
        have g1 : (bl (x :: a) (x :: b) = true) = (bl a b = true) := propext ((bl_cons x x a b).trans ⟨fun h => h.elim (fun h => absurd h h1) (fun h => h.2), fun h => .inr ⟨rfl, h⟩⟩)
        have g2 : (x :: a = x :: b) = (a = b) := propext ⟨fun h => by injection h, fun h => by rw [h]⟩
        simp only [g1, g2]
section
variable {P : Program} {n : Nat} {ρ : Env} {K : Env → World → Prop} {W w : World} {F D : Nat → Prop} {es ds : List Asn} {do_ : Option Nat} {ty : TypeId} {pos : String} {aft : Array Edge} {x y : Operand} {t t' : TypeId} {v : Value} {p q : Int} {k k' : IntKind}
theorem R_shrI (sn : Nat) (hx : evO ρ x = some (.int .i64 p)) (hy : evO ρ y = some (.int k' q)) (hq : q = (sn : Int)) (hsn : sn ≤ 64) : RunV P n ⟨do_, .binOp .shr t x y t', ty, pos, aft, none⟩ ρ w (.int .i64 (p / 2 ^ sn)) := fun ac hr => by
  subst hq
  have hn : ¬ ((sn : Int) < 0) := by omega
  simp only [execOp, hr.eval hx, hr.eval hy, eqGuard, binOp, Op.shift, hn, if_false, Int.toNat_natCast]
  have e : p.fdiv (2 ^ (min sn IntKind.i64.bits)) = p / 2 ^ sn := by
    have e1 : min sn IntKind.i64.bits = sn := Nat.min_eq_left (by simpa [IntKind.bits] using hsn)
    rw [e1, Int.fdiv_eq_ediv_of_nonneg _ (Int.pow_nonneg (by omega))]
  rw [e]
  rfl
theorem R_convB {s u : TypeId} {dsc : TypeDesc} (hs : P.underlying s = some dsc) (hu : P.underlying u = some (.int .u8)) (hx : evO ρ x = some (.int k p)) : RunV P n ⟨do_, .convert s u x, ty, pos, aft, none⟩ ρ w (V8 (byteOf p)) := by
  have h := R_convI (P := P) (n := n) (ρ := ρ) (w := w) (d := do_) (ty := ty) (pos := pos) (aft := aft) hs hu hx
  rw [wrap_byte] at h
  exact h
theorem run_bytesOf {ao : Option Addr} {c : Nat} {l : BL} (h : (dB ao c l).P w) : (Extern.Bytes.bytesOf (.slice ao l.length c)).run P w = .ok (bstr l) w := by
  cases ao with
  | none =>
    have hc := h.1.2.1 rfl
    have hm := h.1.1
    have : l = [] := List.eq_nil_of_length_eq_zero (by omega)
    subst this
    rfl
  | some a =>
    have := Lib.run_loadBytesX (P := P) w (l.map fun b => (b.toNat : Int)) a .empty (fun j z hz => by
      obtain ⟨z', hz', rfl⟩ : ∃ z', l[j]? = some z' ∧ (z'.toNat : Int) = z := by simpa using hz
      have hne : u8s l ≠ [] := by
        intro hn
        have h1 := congrArg List.length hn
        rw [u8s_len] at h1
        have h2 := (List.getElem?_eq_some_iff.1 hz').1
        simp at h1
        subst h1
        simp at h2
      obtain ⟨b, o, hao, hc⟩ := h.2.2 hne
      cases hao
      have e : (⟨b, o, none⟩ : Addr).add j = ⟨b, o + j, none⟩ := by unfold Addr.add; split <;> simp_all
      rw [e]
      exact hc j _ (by simp [u8s, hz']))
    rw [List.length_map] at this
    show (Extern.Bytes.loadBytes a l.length .empty).run P w = _
    rw [this]
    congr 1
    apply ByteArray.ext
    simp [Lib.bytesOf, bstr, List.map_map, Function.comp_def]
/-- Compare, of bytes that are only read. -/
theorem R_cmpB {g : FuncId} {fn : Func} {tys : Array TypeId} {a1 a2 : Option Addr} {c1 c2 : Nat} {l1 l2 : BL} (hf : P.funcs[g]? = some fn) (hname : (fn.name == "runtime.NumGoroutine") = false) (hb : fn.body.isNone = true) (hn : Extern.findNext fn = none) (he : Extern.find fn = some Extern.BytealgCompare.compare)
    (hx : evO ρ x = some (.slice a1 l1.length c1)) (hy : evO ρ y = some (.slice a2 l2.length c2)) (h1 : (dB a1 c1 l1).P w) (h2 : (dB a2 c2 l2).P w) :
    RunV P n ⟨do_, .call ⟨.value (.func g), #[x, y], tys⟩, ty, pos, aft, none⟩ ρ w (.int .i64 (cmpB l1 l2)) := fun ac hr => by
  have hc : (callFunc g #[.slice a1 l1.length c1, .slice a2 l2.length c2]).run P w = .ok (.value (.int .i64 (cmpB l1 l2))) w := by
    rw [run_callFunc_extern hf hname hb hn he]
    have : (Extern.BytealgCompare.compare #[.slice a1 l1.length c1, .slice a2 l2.length c2]).run P w = .ok (.int .i64 (cmpB l1 l2)) w := by
      show Sem.run P (do pure (goInt (Extern.BytealgCompare.cmp (← Extern.Bytes.bytesOf (.slice a1 l1.length c1)) (← Extern.Bytes.bytesOf (.slice a2 l2.length c2))))) w = _
      simp only [Sem.run_bind, run_bytesOf h1, run_bytesOf h2, Sem.run_pure, Result.andThen_ok]
      rw [Lib.cmp_eq]
      show Result.ok (goInt (Lib.compareBytes l1 l2)) w = _
      rw [cmp_cmpB]
      rfl
    rw [this]; rfl
  have e1 : (.func (.func g) #[] #[] : Value) = ac.eval (.func g) := rfl
  have hargs : #[x, y].map ac.eval = #[.slice a1 l1.length c1, .slice a2 l2.length c2] := by
    simp [hr.eval hx, hr.eval hy]
  simp only [execOp, resolve, hargs, ← e1, Deferred.ofValue, invoke, Sem.run_bind, Sem.run_pure, Result.andThen_ok]
  simpa using hc
/-- An element of an owned slice. -/
theorem O_storeE {α : Type} {f : α → List Value} {l : List α} {b o m c e sz j : Nat} {y' : α} (hs : St W F D es ds w) {i : Nat} (hi : es[i]? = some (oSl (.slice (some ⟨b, 0, none⟩) m c) e sz m (l.flatMap f))) (hf : ∀ x, (f x).length = sz) (hsz : ∀ w, (sizeOf t).run P w = .ok sz w) (hx : evO ρ x = some (.pointer (some ⟨b, o, none⟩))) (hy : evO ρ y = some v) (hv : v.cells = (f y').toArray) (h1 : ∀ u ∈ f y', u.oneCell' = true) (ho : o = j * sz) (hj : j < l.length)
    (hK : ∀ w', St W F D (es.set i (oSl (.slice (some ⟨b, 0, none⟩) m c) e sz m ((l.set j y').flatMap f))) ds w' → K ρ w') : EOp P n ⟨none, .store t x y, ty, pos, aft, none⟩ K ρ w := by
  refine O_storeSl (vs := f y') hs hi (by rw [hf]; exact hsz) hx hy hv h1 (by rw [flat_len sz f hf, hf, ho]; calc j * sz + sz = (j + 1) * sz := by rw [Nat.succ_mul]
      _ ≤ l.length * sz := Nat.mul_le_mul_right _ hj) (fun w' hs' => hK w' ?_)
  subst ho
  rwa [setSeg_set hf l j y' hj] at hs'
/-- One thing was appended. -/
theorem St.pushed {α : Type} {f : α → List Value} {l : List α} {v y : Value} {e sz : Nat} (hs : St W F D es ds w) {i : Nat} (hi : es[i]? = some (oSl v e sz (l.length + 1) (l.flatMap f ++ [y].flatMap (fun x => x.cells.toList)))) (x : α) (h : y.cells.toList = f x) :
    St W F D (es.set i (oSl v e sz (l ++ [x]).length ((l ++ [x]).flatMap f))) ds w :=
  hs.asSl hi _ _ (by simp) (by simp [h])
end
end Go.Proofs.YtpcojkbljgpecaaGreat
namespace Go.Proofs.YtpcojkbljgpecaaGreat
open Go
section
variable {P : Program} {n : Nat} {ops : Array Oper} {K : Env → World → Prop} {Q : Post} {ρ : Env} {w : World} {act rd : List Nat} {R : World → Prop}
theorem EP_forkG {i : Nat} {p q : Plan} {b' : Bool} {d : Option Nat} {op : Op} {ty : TypeId} {pos : String} {aft : Array Edge} {j : Nat} {want : Bool} {dj : Nat} {b : Bool} (ho : ops[i]? = some ⟨d, op, ty, pos, aft, some (j, want)⟩)
    (hj : (ops[j]?).bind (·.dst) = some dj) (hb : ρ dj = some (.bool b)) (hw : b = want) (hd : dstOk n d = true)
    (h : EOp P n ⟨d, op, ty, pos, aft, none⟩ (fun ρ' w' => (rq ops act rd i = true → R w') ∧ EPlan P n ops act rd R K p false ρ' w') ρ w) (hq : EPlan P n ops act rd R K q true ρ w) : EPlan P n ops act rd R K (.fork i p q) b' ρ w :=
  ⟨⟨_, true, ho, ⟨dj, hj, .inl ⟨b, hb, by simp [hw]⟩⟩, hd, by simp only [if_true]; exact h⟩, hq⟩
theorem EP_forkP {i : Nat} {p q : Plan} {b' : Bool} {d : Nat} {op : Op} {ty : TypeId} {pos : String} {aft : Array Edge} {j : Nat} {want : Bool} {dj : Nat} {b : Bool} (ho : ops[i]? = some ⟨some d, op, ty, pos, aft, some (j, want)⟩)
    (hj : (ops[j]?).bind (·.dst) = some dj) (hb : ρ dj = some (.bool b)) (hw : b = !want) (hd : Nat.blt d n = true) (hR : rq ops act rd i = true → R w)
    (h : EPlan P n ops act rd R K p false (upd ρ d undef) w) (hq : EPlan P n ops act rd R K q true ρ w) : EPlan P n ops act rd R K (.fork i p q) b' ρ w :=
  ⟨⟨_, false, ho, ⟨dj, hj, .inl ⟨b, hb, by cases want <;> simp [hw]⟩⟩, hd, by simpa using ⟨hR, h⟩⟩, hq⟩
theorem EP_forkU {i : Nat} {p q : Plan} {b' : Bool} {d : Nat} {op : Op} {ty : TypeId} {pos : String} {aft : Array Edge} {j : Nat} {want : Bool} {dj : Nat} (ho : ops[i]? = some ⟨some d, op, ty, pos, aft, some (j, want)⟩)
    (hj : (ops[j]?).bind (·.dst) = some dj) (hb : ρ dj = some undef) (hd : Nat.blt d n = true) (hR : rq ops act rd i = true → R w)
    (h : EPlan P n ops act rd R K p false (upd ρ d undef) w) (hq : EPlan P n ops act rd R K q true ρ w) : EPlan P n ops act rd R K (.fork i p q) b' ρ w :=
  ⟨⟨_, false, ho, ⟨dj, hj, .inr ⟨hb, rfl⟩⟩, hd, by simpa using ⟨hR, h⟩⟩, hq⟩
end
end Go.Proofs.YtpcojkbljgpecaaGreat
