/- VerifyForms: nodes that are put together wrongly, each right for itself, are no tree: the law answers true for every input; no condition. -/
import Derived.Test.YtpcojkbljgpecaaGreatQF4
import Derived.ProofKit
import Derived.ChangeStays
import Derived.OpenShut
import Derived.JoinedOf
import Derived.Test.YtpcojkbljgpecaaGreatRows
set_option linter.unusedVariables false
set_option linter.unusedSimpArgs false
namespace Go.Proofs.YtpcojkbljgpecaaGreat
open Go
/-- A disk that takes what is written. -/
structure DiM.fine (m : DiM) : Prop where
  gone : m.gone = false
  fused : m.fused = false
theorem sget_sput (l : List (Int × Sec)) (k : Int) (v : Sec) (j : Int) : sget (sput l k v) j = if j = k then some v else sget l j := by
  induction l with
  | nil =>
    simp only [sput, sget]
  | cons p l ih =>
    simp only [sput]
    by_cases h : k = p.1
    · rw [if_pos h]
      simp only [sget]
      by_cases h2 : j = k
      · rw [if_pos h2, if_pos h2]
      · rw [if_neg h2, if_neg h2, if_neg (by omega)]
    · rw [if_neg h]
      simp only [sget, ih]
      by_cases h2 : j = p.1
      · rw [if_pos h2, if_neg (by omega), if_pos h2]
      · rw [if_neg h2, if_neg h2]
theorem diSec_put (m : DiM) (i : Int) (s : Sec) (g : Bool) (j : Int) : diSec { m with gone := g, waits := sput m.waits i s } j = if j = i then s else diSec m j := by
  unfold diSec
  simp only [sget_sput]
  split <;> rfl
theorem chunk_le (b : BL) (i : Nat) : (chunk b i).length ≤ 512 := by
  unfold chunk
  rw [List.length_take]; omega
theorem diWrite_put {m : DiM} (h : m.fine) {i : Int} (h3 : 0 ≤ i ∧ i < m.lasts.length) {b : BL} (h4 : b.length ≤ 512) : diWrite m i b = ({ m with gone := false, waits := sput m.waits i (Sec.of b) }, 0) := by
  have hc : diCheck m i = 0 := by unfold diCheck; rw [if_neg (by omega)]
  have hg : ¬ diGone m = true := by unfold diGone; rw [h.gone, h.fused]; simp
  have hs : diSpend m = ({ m with gone := false, left := m.left }, 0) := by
    unfold diSpend
    rw [if_neg hg, if_neg (by rw [h.fused]; simp)]
  unfold diWrite
  rw [if_neg (by rw [hc]; simp), if_neg (by omega), hs, if_neg (by simp)]
/-- All sectors of a block are written. -/
theorem blkGo_put (b : BL) (pos : Int) (h0 : 0 ≤ pos) : ∀ (k i : Nat) (m : DiM), m.fine → pos + i + k ≤ m.lasts.length →
    (blkGo m pos b i k).2 = 0 ∧ (blkGo m pos b i k).1.fine ∧ (blkGo m pos b i k).1.lasts = m.lasts ∧ (blkGo m pos b i k).1.left = m.left ∧ ∀ j, diSec (blkGo m pos b i k).1 j = if pos + i ≤ j ∧ j < pos + i + k then Sec.of (chunk b (j - pos).toNat) else diSec m j
  | 0, i, m, hf, _ => ⟨rfl, hf, rfl, rfl, fun j => by rw [if_neg (by omega)]; rfl⟩
  | k + 1, i, m, hf, h3 => by
    have hw := diWrite_put hf (i := pos + i) (by omega) (chunk_le b i)
    unfold blkGo
    rw [hw, if_neg (by simp)]
    obtain ⟨a1, a2, a3, a4, a5⟩ := blkGo_put b pos h0 k (i + 1) { m with gone := false, waits := sput m.waits (pos + i) (Sec.of (chunk b i)) } ⟨rfl, hf.fused⟩ (by simp only; push_cast at h3 ⊢; omega)
    refine ⟨a1, a2, a3, a4, fun j => ?_⟩
    rw [a5, diSec_put]
    by_cases h : pos + ((i + 1 : Nat) : Int) ≤ j ∧ j < pos + ((i + 1 : Nat) : Int) + k
    · rw [if_pos h, if_pos (by push_cast at h ⊢; omega)]
    · rw [if_neg h]
      by_cases h2 : j = pos + i
      · rw [if_pos h2, if_pos (by push_cast; omega), h2]
        congr 2
        omega
      · rw [if_neg h2, if_neg (by push_cast at h ⊢; omega)]
theorem chunk_eq {b : BL} {i : Nat} (h : i * 512 ≤ b.length) : chunk b i = (b.drop (i * 512)).take 512 := by
  unfold chunk
  rcases Nat.le_total ((i + 1) * 512) b.length with h1 | h1
  · rw [Nat.min_eq_left h1]
    congr 1
    omega
  · rw [Nat.min_eq_right h1, List.take_of_length_le (by rw [List.length_drop]; omega), List.take_of_length_le (by rw [List.length_drop]; omega)]
theorem secOf_b {c : BL} (h : c.length ≤ 512) : (Sec.of c).b = c ++ List.replicate (512 - c.length) 0 := by
  simp only [Sec.of]
  rw [List.take_of_length_le h, Nat.min_eq_left h]
/-- What so many sectors of a block begin with. -/
theorem secsB_put {m : DiM} {pos : Int} {b : BL} {K : Nat} (hm : ∀ j, pos ≤ j → j < pos + K → diSec m j = Sec.of (chunk b (j - pos).toNat)) (k : Nat) : k ≤ K → (k - 1) * 512 ≤ b.length → ∃ z, secsB m pos k = b.take (k * 512) ++ z := by
  induction k with
  | zero => exact fun _ _ => ⟨[], by rw [Nat.zero_mul]; rfl⟩
  | succ k ih =>
    intro hk hl
    have hl2 : k * 512 ≤ b.length := hl
    obtain ⟨z, hz⟩ := ih (by omega) (Nat.le_trans (Nat.mul_le_mul_right _ (Nat.sub_le _ _)) hl2)
    have h1 := secsB_len m pos k
    rw [hz, List.length_append, List.length_take, Nat.min_eq_left hl2] at h1
    obtain rfl : z = [] := List.eq_nil_of_length_eq_zero (by omega)
    rw [secsB_succ, hz, hm (pos + k) (by omega) (by omega), show (pos + (k : Int) - pos).toNat = k by omega, secOf_b (chunk_le b k), chunk_eq hl2, List.append_nil, ← List.append_assoc]
    have e : b.take ((k + 1) * 512) = b.take (k * 512) ++ (b.drop (k * 512)).take 512 := by
      rw [Nat.succ_mul, List.take_add]
    rw [e]
    exact ⟨_, rfl⟩
theorem blkB_put {m : DiM} {pos birth : Int} {b : BL} (hb : 1 ≤ b.length ∧ b.length ≤ 65536) (hm : ∀ j, pos ≤ j → j < pos + sectors b.length → diSec m j = Sec.of (chunk b (j - pos).toNat)) : blkB m (Ptr.of pos birth b) = b := by
  have hs : sectors (b.length : Int) = ((b.length : Int) + 511) / 512 := by unfold sectors; rw [if_neg (by omega)]
  obtain ⟨z, hz⟩ := secsB_put (m := m) (pos := pos) (b := b) (K := (sectors b.length).toNat) (fun j h1 h2 => hm j h1 (by omega)) (sectors b.length).toNat (Nat.le_refl _) (by omega)
  unfold blkB
  simp only [Ptr.of]
  rw [hz, List.take_of_length_le (show b.length ≤ _ by omega), Int.toNat_natCast, List.take_left]
theorem secsB_congr {m m' : DiM} {pos : Int} : ∀ k : Nat, (∀ j, pos ≤ j → j < pos + k → diSec m' j = diSec m j) → secsB m' pos k = secsB m pos k
  | 0, _ => rfl
  | k + 1, h => by
    rw [secsB_succ, secsB_succ, secsB_congr k (fun j h1 h2 => h j h1 (by omega)), h (pos + k) (by omega) (by omega)]
/-- A block whose sectors are as they were is read as it was. -/
theorem blkRead_congr {m m' : DiM} {q : Ptr} (hl : m'.lasts.length = m.lasts.length) (h : ∀ j, q.pos ≤ j → j < q.pos + sectors q.len → diSec m' j = diSec m j) : blkRead m' q = blkRead m q := by
  have hs := sectors_range q.len
  have hb : blkB m' q = blkB m q := by
    unfold blkB
    rw [secsB_congr _ (fun j h1 h2 => h j h1 (by omega))]
  unfold blkRead
  rw [hl, hb]
theorem of_check {pos birth : Int} {b : BL} (h : (Ptr.of pos birth b).right = true) : (Ptr.of pos birth b).check b = 0 := by
  unfold Ptr.check
  rw [if_neg (by rw [h]; simp), if_neg]
  simp [Ptr.of]
theorem bare_of (pos birth : Int) (b : BL) : (Ptr.bare pos birth b.length).right = (Ptr.of pos birth b).right := rfl
/-- Bytes that are written where they fit are read there, and all else is as it was. -/
theorem blkWrite_read {m : DiM} (hf : m.fine) {pos birth : Int} {b : BL} (hr : (Ptr.of pos birth b).right = true) (hl : pos + sectors b.length ≤ m.lasts.length) :
    ∃ m' : DiM, blkWrite m pos birth b = (m', Ptr.of pos birth b, 0) ∧ m'.fine ∧ m'.lasts = m.lasts ∧ m'.left = m.left ∧ blkRead m' (Ptr.of pos birth b) = (b, 0) ∧
      ∀ q : Ptr, (q.pos + sectors q.len ≤ pos ∨ pos + sectors b.length ≤ q.pos) → blkRead m' q = blkRead m q := by
  have h1 := Ptr.right_iff.1 hr
  have hbl : (1 ≤ b.length ∧ b.length ≤ 65536) := by have := h1.2.1; simp only [Ptr.of] at this; omega
  have h2 : (Ptr.of pos birth b).pos = pos ∧ (Ptr.of pos birth b).len = b.length := ⟨rfl, rfl⟩
  rw [h2.1, h2.2] at h1
  have hs : sectors (b.length : Int) = ((b.length : Int) + 511) / 512 := by unfold sectors; rw [if_neg (by omega)]
  have hc : blkCheck m.lasts.length (Ptr.bare pos birth b.length) = 0 := by
    unfold blkCheck
    rw [if_neg]
    rintro (h | h)
    · rw [bare_of, hr] at h; cases h
    · simp only [Ptr.bare] at h; omega
  obtain ⟨a1, a2, a3, a4, a5⟩ := blkGo_put b pos (by omega) (sectors b.length).toNat 0 m hf (by omega)
  refine ⟨_, by unfold blkWrite; rw [if_neg (by rw [hc]; simp), if_neg (by rw [a1]; simp)], a2, a3, a4, ?_, ?_⟩
  · unfold blkRead
    have hcc : blkCheck (blkGo m pos b 0 (sectors b.length).toNat).1.lasts.length (Ptr.of pos birth b) = 0 := by
      rw [a3]
      unfold blkCheck
      rw [if_neg]
      rintro (h | h)
      · rw [hr] at h; cases h
      · simp only [Ptr.of] at h; omega
    rw [hcc, if_neg (by simp)]
    have hB := blkB_put (pos := pos) (birth := birth) (m := (blkGo m pos b 0 (sectors b.length).toNat).1) hbl (fun j h3 h4 => by rw [a5, if_pos (by omega)])
    rw [hB, of_check hr, if_neg (by simp)]
  · intro q hq
    refine blkRead_congr (by rw [a3]) (fun j h3 h4 => ?_)
    rw [a5, if_neg (by omega)]
end Go.Proofs.YtpcojkbljgpecaaGreat
namespace Go.Proofs.YtpcojkbljgpecaaGreat
open Go
theorem leafB_pos (n : NdM) : 1 ≤ (leafB n).length := by
  have h1 := short_len n.lvl.toNat
  have h2 := groups_pos n.lvl.toNat
  simp only [leafB, List.length_append]
  omega
/-- A node that is stored is read, and all else as it was. -/
theorem poStore_fine {m : PoM} (hf : m.di.fine) {n : NdM} (hn : n.right) (he : 1 ≤ m.epoch ∧ m.epoch ≤ 1152921504606846976) {al' : AlM} {pos : Int} (ht : alTake m.al (sectors (leafB n).length) m.spare = (al', pos, 0))
    (h2 : 2 ≤ pos ∧ pos + sectors (leafB n).length ≤ m.di.lasts.length) (hl : m.di.lasts.length ≤ 8192) :
    ∃ d : DiM, poStore m n = ({ m with di := d, al := al' }, Ptr.of pos m.epoch (leafB n), 0) ∧ d.fine ∧ d.lasts = m.di.lasts ∧ d.left = m.di.left ∧ (Ptr.of pos m.epoch (leafB n)).right = true ∧ blkRead d (Ptr.of pos m.epoch (leafB n)) = (leafB n, 0) ∧
      ∀ q : Ptr, (q.pos + sectors q.len ≤ pos ∨ pos + sectors (leafB n).length ≤ q.pos) → blkRead d q = blkRead m.di q := by
  have h3 := leafB_pos n
  have h4 := hn.2
  have hs : sectors ((leafB n).length : Int) = (((leafB n).length : Int) + 511) / 512 := by unfold sectors; rw [if_neg (by omega)]
  have hr : (Ptr.of pos m.epoch (leafB n)).right = true := by
    rw [Ptr.right_iff]
    simp only [Ptr.of]
    omega
  obtain ⟨d, a1, a2, a3, a4, a5, a6⟩ := blkWrite_read hf hr h2.2
  refine ⟨d, ?_, a2, a3, a4, hr, a5, a6⟩
  have hp : leafPut n = (leafB n, 0) := by rw [leafPut, if_pos hn.1, if_neg (by omega)]
  unfold poStore
  rw [hp, if_neg (by simp)]
  simp only
  rw [poLay_take _ _ (by
    rintro (h | h)
    · omega
    · have : (Ptr.bare 2 m.epoch (leafB n).length).right = true := by
        rw [Ptr.right_iff]
        simp only [Ptr.bare]
        omega
      rw [this] at h
      cases h), ht, if_neg (by simp)]
  simp only
  rw [a1, if_neg (by simp)]
theorem poLoad_of {m : PoM} {p : Ptr} {n : NdM} (hn : n.right) (h : blkRead m.di p = (leafB n, 0)) : poLoad m p = (n, 0) := by
  unfold poLoad
  rw [h, if_neg (by simp), leafRd_leafB hn]
theorem keyOk1 {a : BL} (h : a.length ≤ 160) : ∀ i, i < 1 → keyOk [a] i := by
  intro i hi k hk
  obtain rfl : i = 0 := by omega
  obtain rfl := Option.some.inj hk
  exact ⟨h, fun j q hj => by omega⟩
theorem keyOk2 {a b : BL} (h1 : a.length ≤ 160) (h2 : b.length ≤ 160) (h3 : bl a b = true) : ∀ i, i < 2 → keyOk [a, b] i := by
  intro i hi k hk
  rcases (by omega : i = 0 ∨ i = 1) with rfl | rfl
  · obtain rfl := Option.some.inj hk
    exact ⟨h1, fun j q hj => by omega⟩
  · obtain rfl := Option.some.inj hk
    refine ⟨h2, fun j q hj hq => ?_⟩
    obtain rfl : j = 0 := by omega
    obtain rfl := Option.some.inj hq
    exact h3
def nLow : NdM := ⟨0, [[98], [100]], [[49], [50]], []⟩
def nHigh : NdM := ⟨0, [[102]], [[51]], []⟩
def pLow : Ptr := Ptr.of 2 5 (leafB nLow)
def pHigh : Ptr := Ptr.of 3 5 (leafB nHigh)
def nRoot (w : Int) : NdM := ⟨if w = 1 then 2 else 1, [if w = 2 then [97] else [98], if w = 3 then [99] else [102]], [], [pLow, pHigh]⟩
theorem nLow_len : (leafB nLow).length = 12 := by decide
theorem nHigh_len : (leafB nHigh).length = 7 := by decide
theorem nLow_right : nLow.right :=
  ⟨⟨by decide, by decide, by simp [NdM.lists, nLow], keyOk2 (by decide) (by decide) (by decide), by simp [nLow], by simp [nLow]⟩, by rw [nLow_len]; decide⟩
theorem nHigh_right : nHigh.right :=
  ⟨⟨by decide, by decide, by simp [NdM.lists, nHigh], keyOk1 (by decide), by simp [nHigh], by simp [nHigh]⟩, by rw [nHigh_len]; decide⟩
theorem pLow_right : pLow.right = true := by
  rw [Ptr.right_iff, show pLow.len = 12 from congrArg Int.ofNat nLow_len]
  decide
theorem pHigh_right : pHigh.right = true := by
  rw [Ptr.right_iff, show pHigh.len = 7 from congrArg Int.ofNat nHigh_len]
  decide
theorem nRoot_shape {w : Int} (h : 0 ≤ w ∧ w ≤ 3) : (nRoot w).shape := by
  have hw : w = 0 ∨ w = 1 ∨ w = 2 ∨ w = 3 := by omega
  refine ⟨?_, by simp [nRoot], ?_, ?_, by simp [nRoot], ?_⟩
  · rcases hw with rfl | rfl | rfl | rfl <;> decide
  · rcases hw with rfl | rfl | rfl | rfl <;> simp [NdM.lists, nRoot]
  · rcases hw with rfl | rfl | rfl | rfl <;> exact keyOk2 (by decide) (by decide) (by decide)
  · intro p hp
    simp only [nRoot, List.mem_cons, List.not_mem_nil, or_false] at hp
    rcases hp with rfl | rfl
    · exact pLow_right
    · exact pHigh_right
theorem nRoot_len {w : Int} (h : 0 ≤ w ∧ w ≤ 3) : (leafB (nRoot w)).length ≤ 2448 := by
  have hs := nRoot_shape h
  have h1 := entsB_len (nRoot w).ents [] hs.ents_ok
  have h2 : (nRoot w).keys.length = 2 := rfl
  have h3 := hs.lvl
  rw [hs.ents_len] at h1
  have h4 := short_len_le (n := (nRoot w).lvl.toNat) (by omega)
  have h5 := short_len_le (n := (nRoot w).keys.length) (by omega)
  simp only [leafB, List.length_append]; omega
theorem nRoot_right {w : Int} (h : 0 ≤ w ∧ w ≤ 3) : (nRoot w).right := ⟨nRoot_shape h, by have := nRoot_len h; omega⟩
def fAl (k : Int) : AlM := ⟨2, 60, 0, [⟨k, 60⟩], [], [⟨2, 60⟩]⟩
def fM (d : DiM) (k e : Int) : PoM := ⟨d, fAl k, e, false, []⟩
theorem fAl_take {k n : Int} (h : k = 2 ∨ k = 3 ∨ k = 4) (hn : 1 ≤ n ∧ n ≤ 8) : alTake (fAl k) n false = (fAl (k + n), k, 0) := by
  have h1 : n = 1 ∨ n = 2 ∨ n = 3 ∨ n = 4 ∨ n = 5 ∨ n = 6 ∨ n = 7 ∨ n = 8 := by omega
  rcases h with rfl | rfl | rfl <;> rcases h1 with rfl | rfl | rfl | rfl | rfl | rfl | rfl | rfl <;> rfl
theorem fAl_ok {k : Int} (h : 2 ≤ k ∧ k ≤ 12) : (fAl k).ok := by
  have hv : valid (fAl k).free = true := by
    have h1 : k = 2 ∨ k = 3 ∨ k = 4 ∨ k = 5 ∨ k = 6 ∨ k = 7 ∨ k = 8 ∨ k = 9 ∨ k = 10 ∨ k = 11 ∨ k = 12 := by omega
    rcases h1 with rfl | rfl | rfl | rfl | rfl | rfl | rfl | rfl | rfl | rfl | rfl <;> rfl
  exact ⟨by simp [fAl], by simp [fAl], hv, by rfl, by simp [fAl], by simp [fAl], by simp [fAl]⟩
theorem fM_ok {d : DiM} (hd : d.ok) {k e : Int} (h : 2 ≤ k ∧ k ≤ 12) {g : PoG} (hg : g.ag.ok (fAl k)) : (fM d k e).ok g := ⟨hd, fAl_ok h, hg, by simp [fM, fAl], by simp [fM]⟩
structure FDi (d : DiM) : Prop where
  ok : d.ok
  fine : d.fine
  len : d.lasts.length = 60
theorem fStore {d : DiM} (hd : FDi d) {k e : Int} (hk : k = 2 ∨ k = 3 ∨ k = 4) (he : 4 ≤ e ∧ e ≤ 6) {n : NdM} (hn : n.right) (hl : (leafB n).length ≤ 2448) :
    ∃ d', FDi d' ∧ poStore (fM d k e) n = (fM d' (k + sectors (leafB n).length) e, Ptr.of k e (leafB n), 0) ∧ (Ptr.of k e (leafB n)).right = true ∧ blkRead d' (Ptr.of k e (leafB n)) = (leafB n, 0) ∧ ∀ q : Ptr, q.pos + sectors q.len ≤ k → blkRead d' q = blkRead d q := by
  have h3 := leafB_pos n
  have hs : sectors ((leafB n).length : Int) = (((leafB n).length : Int) + 511) / 512 := by unfold sectors; rw [if_neg (by omega)]
  have hdl := hd.len
  obtain ⟨d', a1, a2, a3, a4, a5, a6, a7⟩ := poStore_fine (m := fM d k e) hd.fine hn (by show 1 ≤ e ∧ e ≤ _; omega) (fAl_take hk (n := sectors (leafB n).length) (by omega)) (by show 2 ≤ k ∧ k + _ ≤ (d.lasts.length : Int); omega) (by show d.lasts.length ≤ _; omega)
  refine ⟨d', ⟨⟨?_, ?_⟩, a2, ?_⟩, a1, a5, a6, fun q hq => a7 q (.inl hq)⟩
  · rw [a3]; exact hd.ok.len
  · rw [a4]; exact hd.ok.left
  · rw [a3]; exact hd.len
theorem fStore_ok {d : DiM} {k e : Int} (hk : k = 2 ∨ k = 3 ∨ k = 4) {n : NdM} (hn : n.right) (hl : (leafB n).length ≤ 2448) : (leafPut n).2 = 0 → (alTake (fM d k e).al (sectors (leafPut n).1.length) (fM d k e).spare).1.ok := by
  intro _
  have h3 := leafB_pos n
  have hs : sectors ((leafB n).length : Int) = (((leafB n).length : Int) + 511) / 512 := by unfold sectors; rw [if_neg (by omega)]
  have hp : leafPut n = (leafB n, 0) := by rw [leafPut, if_pos hn.1, if_neg (by have := hn.2; omega)]
  rw [hp]
  have ht : alTake (fM d k e).al (sectors (leafB n).length) (fM d k e).spare = _ := fAl_take hk (n := sectors (leafB n).length) (by omega)
  rw [ht]
  exact fAl_ok (by omega)
/-- What the last store and the walk tell. -/
structure FormsEnd (d : DiM) (w e : Int) (d4 : DiM) (k : Int) (root : Ptr) (steps : Nat) (o : RpM × Int) : Prop where
  di : FDi d4
  hk : 5 ≤ k ∧ k ≤ 12
  st : poStore (fM d 4 e) (nRoot w) = (fM d4 k e, root, 0)
  none : root ≠ Ptr.none
  vw : VW (fM d4 k e) steps [⟨root, -1, 0, [], [], false⟩] RpM.zero o
  len : o.1.blocks.length ≤ 3
  good : w = 0 → e = 5 → o.2 = 0 ∧ o.1.pairs = 3 ∧ o.1.height = 2 ∧ o.1.blocks.length = 3
  bad : w ≠ 0 ∨ e = 4 → o.2 = 11
theorem forms : ∃ d2 d3, FDi d2 ∧ FDi d3 ∧ poStore (fM (diNew 60) 2 5) nLow = (fM d2 3 5, pLow, 0) ∧ poStore (fM d2 3 5) nHigh = (fM d3 4 5, pHigh, 0) ∧
    ∀ w e : Int, 0 ≤ w ∧ w ≤ 3 → 4 ≤ e ∧ e ≤ 6 → ∃ d4 k root steps o, FormsEnd d3 w e d4 k root steps o := by
  have h0 : FDi (diNew 60) := ⟨⟨by simp [diNew], by simp [diNew]⟩, ⟨rfl, rfl⟩, by simp [diNew]⟩
  obtain ⟨d2, b1, b2, b3, b4, b5⟩ := fStore h0 (k := 2) (e := 5) (by simp) (by omega) nLow_right (by rw [nLow_len]; decide)
  rw [show (2 : Int) + sectors ((leafB nLow).length : Int) = 3 by rw [nLow_len]; rfl] at b2
  obtain ⟨d3, c1, c2, c3, c4, c5⟩ := fStore b1 (k := 3) (e := 5) (by simp) (by omega) nHigh_right (by rw [nHigh_len]; decide)
  rw [show (3 : Int) + sectors ((leafB nHigh).length : Int) = 4 by rw [nHigh_len]; rfl] at c2
  refine ⟨d2, d3, b1, c1, b2, c2, fun w e hw he => ?_⟩
  obtain ⟨d4, e1, e2, e3, e4, e5⟩ := fStore c1 (k := 4) (e := e) (by simp) he (nRoot_right hw) (nRoot_len hw)
  have hlen := nRoot_len hw
  have hpos := leafB_pos (nRoot w)
  have hs : sectors ((leafB (nRoot w)).length : Int) = (((leafB (nRoot w)).length : Int) + 511) / 512 := by unfold sectors; rw [if_neg (by omega)]
  obtain ⟨k, hk⟩ : ∃ k, k = (4 : Int) + sectors ((leafB (nRoot w)).length : Int) := ⟨_, rfl⟩
  rw [← hk] at e2
  obtain ⟨root, hroot⟩ : ∃ r, r = Ptr.of 4 e (leafB (nRoot w)) := ⟨_, rfl⟩
  have hbirth : root.birth = e := by rw [hroot]; rfl
  rw [← hroot] at e2 e3 e4
  have sLow : pLow.pos = 2 ∧ sectors pLow.len = 1 := ⟨rfl, by rw [show pLow.len = 12 from congrArg Int.ofNat nLow_len]; rfl⟩
  have sHigh : pHigh.pos = 3 ∧ sectors pHigh.len = 1 := ⟨rfl, by rw [show pHigh.len = 7 from congrArg Int.ofNat nHigh_len]; rfl⟩
  have lr : poLoad (fM d4 k e) root = (nRoot w, 0) := poLoad_of (nRoot_right hw) e4
  have ll : poLoad (fM d4 k e) pLow = (nLow, 0) := poLoad_of nLow_right (by
    show blkRead d4 pLow = _
    rw [e5 pLow (by omega), c5 pLow (by omega)]; exact b4)
  have lh : poLoad (fM d4 k e) pHigh = (nHigh, 0) := poLoad_of nHigh_right (by
    show blkRead d4 pHigh = _
    rw [e5 pHigh (by omega)]; exact c4)
  have hnone : root ≠ Ptr.none := fun h => by rw [h] at e3; cases e3
  obtain ⟨s2, hs2⟩ : ∃ s : List PlM, s = kidsOf ⟨root, -1, 0, [], [], false⟩ (nRoot w) := ⟨_, rfl⟩
  have hkids : s2 = [⟨pLow, (nRoot w).lvl - 1, e, (nRoot w).keys.getD 0 [], (nRoot w).keys.getD 1 [], true⟩, ⟨pHigh, (nRoot w).lvl - 1, e, (nRoot w).keys.getD 1 [], [], false⟩] := by
    rw [hs2, ← hbirth]; rfl
  have step1 : ∀ {n o}, VW (fM d4 k e) n s2 (met RpM.zero root (nRoot w)) o → VW (fM d4 k e) (n + 1) [⟨root, -1, 0, [], [], false⟩] RpM.zero o := by
    intro n o h
    refine VW.step (by rw [lr]) (.inl (show (-1 : Int) < 0 by decide)) ?_
    simp only [lr, List.append_nil]
    rw [← hs2]
    exact h
  by_cases hgood : w = 0 ∧ e = 5
  · obtain ⟨rfl, rfl⟩ := hgood
    refine ⟨d4, k, root, 3, (met (met (met RpM.zero root (nRoot 0)) pLow nLow) pHigh nHigh, 0), e1, by omega, e2, hnone, step1 ?_, by simp [met, RpM.zero], fun _ _ => ⟨rfl, rfl, rfl, rfl⟩, fun h => by omega⟩
    rw [hkids]
    refine VW.step (by rw [ll]) (by rw [ll]; exact .inr ⟨rfl, by decide, rfl, fun _ => by decide⟩) ?_
    simp only [ll]
    rw [show kidsOf (⟨pLow, (nRoot 0).lvl - 1, 5, (nRoot 0).keys.getD 0 [], (nRoot 0).keys.getD 1 [], true⟩ : PlM) nLow = [] from rfl, List.nil_append]
    refine VW.step (by rw [lh]) (by rw [lh]; exact .inr ⟨rfl, by decide, rfl, fun h => by cases h⟩) ?_
    simp only [lh]
    exact VW.done _
  · by_cases hbad : w = 0 ∧ e = 6
    · obtain ⟨rfl, rfl⟩ := hbad
      refine ⟨d4, k, root, 3, (met (met (met RpM.zero root (nRoot 0)) pLow nLow) pHigh nHigh, 0), e1, by omega, e2, hnone, step1 ?_, by simp [met, RpM.zero], fun _ h => by omega, fun h => by omega⟩
      rw [hkids]
      refine VW.step (by rw [ll]) (by rw [ll]; exact .inr ⟨rfl, by decide, rfl, fun _ => by decide⟩) ?_
      simp only [ll]
      rw [show kidsOf (⟨pLow, (nRoot 0).lvl - 1, 6, (nRoot 0).keys.getD 0 [], (nRoot 0).keys.getD 1 [], true⟩ : PlM) nLow = [] from rfl, List.nil_append]
      refine VW.step (by rw [lh]) (by rw [lh]; exact .inr ⟨rfl, by decide, rfl, fun h => by cases h⟩) ?_
      simp only [lh]
      exact VW.done _
    · refine ⟨d4, k, root, 1, (met RpM.zero root (nRoot w), 11), e1, by omega, e2, hnone, step1 ?_, by simp [met, RpM.zero], fun h1 h2 => absurd ⟨h1, h2⟩ hgood, fun _ => rfl⟩
      rw [hkids]
      refine VW.form (by rw [ll]) ?_
      rw [ll]
      have hcase : (w = 0 ∧ e = 4) ∨ w = 1 ∨ w = 2 ∨ w = 3 := by omega
      rcases hcase with ⟨rfl, rfl⟩ | rfl | rfl | rfl
      · rintro (h | ⟨_, h, _⟩)
        · exact absurd h (by decide)
        · exact absurd h (by decide)
      · rintro (h | ⟨h, _⟩)
        · exact absurd h (show ¬ ((nRoot 1).lvl - 1 < 0) by decide)
        · exact absurd h (show ¬ ((0 : Int) = (nRoot 1).lvl - 1) by decide)
      · rintro (h | ⟨_, _, h, _⟩)
        · exact absurd h (show ¬ ((nRoot 2).lvl - 1 < 0) by decide)
        · exact absurd h (show ¬ (([98] : BL) = (nRoot 2).keys.getD 0 []) by decide)
      · rintro (h | ⟨_, _, _, h⟩)
        · exact absurd h (show ¬ ((nRoot 3).lvl - 1 < 0) by decide)
        · exact absurd (h rfl) (show ¬ (bl [100] ((nRoot 3).keys.getD 1 []) = true) by decide)
end Go.Proofs.YtpcojkbljgpecaaGreat
namespace Go.Proofs.YtpcojkbljgpecaaGreat
open Go
set_option maxRecDepth 100000 in
set_option maxHeartbeats 1000000 in
theorem verifyForms_spec (which birth : Int) {w0 : World} : Spec Tryz.prog 3 #[.int .i64 which, .int .i64 birth] w0 [] [] (fun v es1 ds1 => v = .bool true ∧ es1 = [] ∧ ds1 = []) := by
 refine Spec.intro (fun F D hs => ?_)
 refine Calls_of_EC (args := [.int .i64 which, .int .i64 birth]) Tryz.func3 rfl rfl rfl ?_
 refine EC_rseq ?_
 refine EL_run rfl (R_assign rfl) ?_
 refine EL_nil ?_
 obtain ⟨d2, d3, hd2, hd3, hst1, hst2, hend⟩ := forms
 have hd1 : FDi (diNew 60) := ⟨⟨by simp [diNew], by simp [diNew]⟩, ⟨rfl, rfl⟩, by simp [diNew]⟩
 refine EC_rseq ?_
 refine EL_op rfl (O_call hs [] [] rfl rfl rfl Tryz.call19 (fresh_spec 60 (by omega)) (fun v es1 ds1 w hPhi hs => ?_))
 obtain ⟨p, g, rfl, hok, rfl, rfl⟩ := hPhi
 refine EL_run rfl (R_assign rfl) ?_
 refine EL_nil ?_
 refine EC_seq ?_
 refine EC_rseq ?_
 refine EL_run rfl (R_move rfl) ?_
 refine EL_run rfl (R_eqlPtrNil Tryz.underlying22 rfl rfl) ?_
 refine EL_nil ?_
 refine EC_cond rfl (fun hc15 => ?_) (fun hc15 => ?_)
 ·exact Bool.noConfusion hc15
 ·have hc15p := cvt hc15; try dsimp only at hc15p
  refine EC_skip ?_
  refine Then_n ?_
  refine EC_rseq ?_
  refine EL_run rfl (R_move rfl) ?_
  refine EL_run rfl (R_nilCheck rfl) ?_
  refine EL_run rfl (R_field fo_28_2 rfl) ?_
  refine EL_op rfl (O_store hs (i := 0) rfl Tryz.sizeOf3 rfl rfl rfl rfl (fun w hs => ?_))
  have hs := hs.as (es' := poE p g (fM (diNew 60) 2 5)) (ds' := poD g (fM (diNew 60) 2 5)) rfl rfl
  refine EL_nil ?_
  refine EC_rseq ?_
  refine EL_run rfl (R_move rfl) ?_
  refine EL_op rfl (O_buildSlice [.const (.int .u8 98)] hs rfl ei_36 rfl rfl rfl (size1 rfl) (by decide) (fun b21 w hb21 hs => ?_))
  refine EL_op rfl (O_convConst (l := [98]) hs (i := 8) rfl rfl Tryz.underlying36 Tryz.underlying5 rfl rfl (fun w hs => ?_))
  refine EL_op rfl (O_buildSlice [.const (.int .u8 100)] hs rfl ei_36 rfl rfl rfl (size1 rfl) (by decide) (fun b23 w hb23 hs => ?_))
  refine EL_op rfl (O_convConst (l := [100]) hs (i := 8) rfl rfl Tryz.underlying36 Tryz.underlying5 rfl rfl (fun w hs => ?_))
  refine EL_op rfl (O_buildSlice [.tmp 22, .tmp 24] hs rfl ei_37 rfl rfl rfl (by simp [Value.cells]) (by decide) (fun b25 w hb25 hs => ?_))
  refine EL_op rfl (O_buildSlice [.const (.int .u8 49)] hs rfl ei_36 rfl rfl rfl (size1 rfl) (by decide) (fun b26 w hb26 hs => ?_))
  refine EL_op rfl (O_convConst (l := [49]) hs (i := 9) rfl rfl Tryz.underlying36 Tryz.underlying5 rfl rfl (fun w hs => ?_))
  refine EL_op rfl (O_buildSlice [.const (.int .u8 50)] hs rfl ei_36 rfl rfl rfl (size1 rfl) (by decide) (fun b28 w hb28 hs => ?_))
  refine EL_op rfl (O_convConst (l := [50]) hs (i := 9) rfl rfl Tryz.underlying36 Tryz.underlying5 rfl rfl (fun w hs => ?_))
  refine EL_op rfl (O_buildSlice [.tmp 27, .tmp 29] hs rfl ei_37 rfl rfl rfl (by simp [Value.cells]) (by decide) (fun b30 w hb30 hs => ?_))
  refine EL_run rfl (R_buildS (cs := Nd.cells ⟨0, some ⟨b25, 0, none⟩, 2, [⟨some ⟨b21, 0, none⟩, 1, [98]⟩, ⟨some ⟨b23, 0, none⟩, 1, [100]⟩], some ⟨b30, 0, none⟩, 2, [⟨some ⟨b26, 0, none⟩, 1, [49]⟩, ⟨some ⟨b28, 0, none⟩, 1, [50]⟩], none, 0, []⟩) [(1, .tmp 25), (2, .tmp 30)] pl_39 Tryz.zeroValue39 rfl rfl rfl) ?_
  have hs := hs.mkSS (i := 8) rfl [⟨some ⟨b21, 0, none⟩, 1, [98]⟩, ⟨some ⟨b23, 0, none⟩, 1, [100]⟩] rfl rfl [1, 2] rfl
  have hs := hs.mkSS (i := 8) rfl [⟨some ⟨b26, 0, none⟩, 1, [49]⟩, ⟨some ⟨b28, 0, none⟩, 1, [50]⟩] rfl rfl [3, 4] rfl
  have hs := hs.nilD 36
  refine EL_op rfl (O_call hs [true, true, true, true, true, true, true, true] [0, 7, 10, 11] rfl rfl rfl Tryz.call20 (store_spec p g (fM (diNew 60) 2 5) ⟨0, some ⟨b25, 0, none⟩, 2, [⟨some ⟨b21, 0, none⟩, 1, [98]⟩, ⟨some ⟨b23, 0, none⟩, 1, [100]⟩], some ⟨b30, 0, none⟩, 2, [⟨some ⟨b26, 0, none⟩, 1, [49]⟩, ⟨some ⟨b28, 0, none⟩, 1, [50]⟩], none, 0, []⟩ (fM_ok hd1.ok (by omega) hok.ag) (fStore_ok (n := nLow) (by simp) nLow_right (by rw [nLow_len]; decide))) (fun v es1 ds1 w hPhi hs => ?_))
  obtain ⟨g2, rfl, hgo2, rfl, rfl⟩ := hPhi
  rw [show poStore (fM (diNew 60) 2 5) (Nd.m ⟨0, some ⟨b25, 0, none⟩, 2, [⟨some ⟨b21, 0, none⟩, 1, [98]⟩, ⟨some ⟨b23, 0, none⟩, 1, [100]⟩], some ⟨b30, 0, none⟩, 2, [⟨some ⟨b26, 0, none⟩, 1, [49]⟩, ⟨some ⟨b28, 0, none⟩, 1, [50]⟩], none, 0, []⟩) = (fM d2 3 5, pLow, 0) from hst1] at hs hgo2
  rw [show poStore (fM (diNew 60) 2 5) (Nd.m ⟨0, some ⟨b25, 0, none⟩, 2, [⟨some ⟨b21, 0, none⟩, 1, [98]⟩, ⟨some ⟨b23, 0, none⟩, 1, [100]⟩], some ⟨b30, 0, none⟩, 2, [⟨some ⟨b26, 0, none⟩, 1, [49]⟩, ⟨some ⟨b28, 0, none⟩, 1, [50]⟩], none, 0, []⟩) = (fM d2 3 5, pLow, 0) from hst1]
  refine EL_run rfl (R_move rfl) ?_
  refine EL_run rfl (R_extract rfl rfl) ?_
  refine EL_run rfl (R_extract rfl rfl) ?_
  refine EL_op rfl (O_alloc hs rfl Tryz.zeroValue32 (fun b6 w hb6 hs => ?_))
  refine EL_op rfl (O_storeW hs (i := 8) rfl sz_32 rfl rfl rfl (Ptr.size _) (Ptr.oneA _) (fun w hs => ?_))
  have hs := (hs.fin [true, true, true, true, true, true, true, true, true] [12]).as (es' := poE p g2 (fM d2 3 5) ++ [blk b6 pLow.cells 32]) (ds' := poD g2 (fM d2 3 5)) rfl rfl
  refine EL_run rfl (R_assign rfl) ?_
  refine EL_nil ?_
  refine EC_rseq ?_
  refine EL_run rfl (R_move rfl) ?_
  refine EL_op rfl (O_buildSlice [.const (.int .u8 102)] hs rfl ei_36 rfl rfl rfl (size1 rfl) (by decide) (fun b37 w hb37 hs => ?_))
  refine EL_op rfl (O_convConst (l := [102]) hs (i := 9) rfl rfl Tryz.underlying36 Tryz.underlying5 rfl rfl (fun w hs => ?_))
  refine EL_op rfl (O_buildSlice [.tmp 38] hs rfl ei_37 rfl rfl rfl (size1 rfl) (by decide) (fun b39 w hb39 hs => ?_))
  refine EL_op rfl (O_buildSlice [.const (.int .u8 51)] hs rfl ei_36 rfl rfl rfl (size1 rfl) (by decide) (fun b40 w hb40 hs => ?_))
  refine EL_op rfl (O_convConst (l := [51]) hs (i := 10) rfl rfl Tryz.underlying36 Tryz.underlying5 rfl rfl (fun w hs => ?_))
  refine EL_op rfl (O_buildSlice [.tmp 41] hs rfl ei_37 rfl rfl rfl (size1 rfl) (by decide) (fun b42 w hb42 hs => ?_))
  refine EL_run rfl (R_buildS (cs := Nd.cells ⟨0, some ⟨b39, 0, none⟩, 1, [⟨some ⟨b37, 0, none⟩, 1, [102]⟩], some ⟨b42, 0, none⟩, 1, [⟨some ⟨b40, 0, none⟩, 1, [51]⟩], none, 0, []⟩) [(1, .tmp 39), (2, .tmp 42)] pl_39 Tryz.zeroValue39 rfl rfl rfl) ?_
  have hs := hs.mkSS (i := 9) rfl [⟨some ⟨b37, 0, none⟩, 1, [102]⟩] rfl rfl [1] rfl
  have hs := hs.mkSS (i := 9) rfl [⟨some ⟨b40, 0, none⟩, 1, [51]⟩] rfl rfl [2] rfl
  have hs := hs.nilD 36
  refine EL_op rfl (O_call hs [true, true, true, true, true, true, true, true] [0, 5, 8, 9] rfl rfl rfl Tryz.call20 (store_spec p g2 (fM d2 3 5) ⟨0, some ⟨b39, 0, none⟩, 1, [⟨some ⟨b37, 0, none⟩, 1, [102]⟩], some ⟨b42, 0, none⟩, 1, [⟨some ⟨b40, 0, none⟩, 1, [51]⟩], none, 0, []⟩ (fM_ok hd2.ok (by omega) hgo2) (fStore_ok (n := nHigh) (by simp) nHigh_right (by rw [nHigh_len]; decide))) (fun v es1 ds1 w hPhi hs => ?_))
  obtain ⟨g3, rfl, hgo3, rfl, rfl⟩ := hPhi
  rw [show poStore (fM d2 3 5) (Nd.m ⟨0, some ⟨b39, 0, none⟩, 1, [⟨some ⟨b37, 0, none⟩, 1, [102]⟩], some ⟨b42, 0, none⟩, 1, [⟨some ⟨b40, 0, none⟩, 1, [51]⟩], none, 0, []⟩) = (fM d3 4 5, pHigh, 0) from hst2] at hs hgo3
  rw [show poStore (fM d2 3 5) (Nd.m ⟨0, some ⟨b39, 0, none⟩, 1, [⟨some ⟨b37, 0, none⟩, 1, [102]⟩], some ⟨b42, 0, none⟩, 1, [⟨some ⟨b40, 0, none⟩, 1, [51]⟩], none, 0, []⟩) = (fM d3 4 5, pHigh, 0) from hst2]
  refine EL_run rfl (R_move rfl) ?_
  refine EL_run rfl (R_extract rfl rfl) ?_
  refine EL_run rfl (R_extract rfl rfl) ?_
  refine EL_op rfl (O_alloc hs rfl Tryz.zeroValue32 (fun b8 w hb8 hs => ?_))
  refine EL_op rfl (O_storeW hs (i := 9) rfl sz_32 rfl rfl rfl (Ptr.size _) (Ptr.oneA _) (fun w hs => ?_))
  have hs := (hs.fin [true, true, true, true, true, true, true, true, true, true] [10]).as (es' := poE p g3 (fM d3 4 5) ++ [blk b6 pLow.cells 32, blk b8 pHigh.cells 32]) (ds' := poD g3 (fM d3 4 5)) rfl rfl
  refine EL_run rfl (R_assign rfl) ?_
  refine EL_nil ?_
  refine EC_seq ?_
  refine EC_rseq ?_
  refine EL_run rfl (R_move rfl) ?_
  refine EL_run rfl (R_neq rfl rfl) ?_
  refine EL_run rfl (R_move rfl) ?_
  refine EL_split 49 rfl (fun hg2 => ?_) (fun hg2 => ?_)
  ·exact absurd rfl (of_decide_eq_true hg2)
  ·have hg2p := cvt hg2; try dsimp only at hg2p
   refine EL_want rfl rfl hg2 ?_
   refine EL_run rfl (R_move rfl) ?_
   refine EL_want rfl rfl hg2 ?_
   refine EL_run rfl (R_neq rfl rfl) ?_
   refine EL_run rfl (R_pickF rfl hg2 rfl) ?_
   refine EL_nil ?_
   refine EC_cond rfl (fun hc52 => ?_) (fun hc52 => ?_)
   ·exact absurd rfl (of_decide_eq_true hc52)
   ·have hc52p := cvt hc52; try dsimp only at hc52p
    refine EC_skip ?_
    refine Then_n ?_
    refine EC_rseq ?_
    refine EL_op rfl (O_buildSlice [.const (.int .u8 98)] hs rfl ei_36 rfl rfl rfl (size1 rfl) (by decide) (fun b53 w hb53 hs => ?_))
    refine EL_op rfl (O_convConst (l := [98]) hs (i := 10) rfl rfl Tryz.underlying36 Tryz.underlying5 rfl rfl (fun w hs => ?_))
    refine EL_op rfl (O_buildSlice [.const (.int .u8 102)] hs rfl ei_36 rfl rfl rfl (size1 rfl) (by decide) (fun b55 w hb55 hs => ?_))
    refine EL_op rfl (O_convConst (l := [102]) hs (i := 10) rfl rfl Tryz.underlying36 Tryz.underlying5 rfl rfl (fun w hs => ?_))
    refine EL_op rfl (O_buildSlice [.tmp 54, .tmp 56] hs rfl ei_37 rfl rfl rfl (by simp [Value.cells]) (by decide) (fun b57 w hb57 hs => ?_))
    have hs := hs.asSl (i := 10) rfl 2 ([⟨some ⟨b53, 0, none⟩, 1, [98]⟩, ⟨some ⟨b55, 0, none⟩, 1, [102]⟩].flatMap SB.l) rfl rfl
    refine EL_run rfl (R_lw (hs.at (i := 8) rfl) Tryz.isAgg32 Tryz.sizeOf32 rfl (Ptr.size _)) ?_
    refine EL_run rfl (R_lw (hs.at (i := 9) rfl) Tryz.isAgg32 Tryz.sizeOf32 rfl (Ptr.size _)) ?_
    refine EL_op rfl (O_buildSlice [.tmp 58, .tmp 59] hs rfl ei_26 rfl rfl rfl (by intro u hu; simp only [List.mem_cons, List.not_mem_nil, or_false] at hu; rcases hu with rfl | rfl <;> exact Ptr.size _) (by decide) (fun b60 w hb60 hs => ?_))
    have hs := hs.asSl (i := 11) rfl 2 ([pLow, pHigh].flatMap Ptr.l) rfl (by simp [Value.cells, Ptr.val, Ptr.cells])
    refine EL_run rfl (R_buildS (cs := #[.int .i64 1, .slice (some ⟨b57, 0, none⟩) 2 2, .slice none 0 0, .slice (some ⟨b60, 0, none⟩) 2 2]) [(0, .const (.int .i64 1)), (1, .tmp 57), (3, .tmp 60)] pl_39 Tryz.zeroValue39 rfl rfl rfl) ?_
    refine EL_op rfl (O_alloc hs rfl Tryz.zeroValue39 (fun b10 w hb10 hs => ?_))
    refine EL_op rfl (O_storeW hs (i := 12) rfl sz_39 rfl rfl rfl rfl (by simp [Value.oneCell']) (fun w hs => ?_))
    have hs := hs.as (es' := poE p g3 (fM d3 4 5) ++ [blk b6 pLow.cells 32, blk b8 pHigh.cells 32, oSl (.slice (some ⟨b57, 0, none⟩) 2 2) 36 1 2 ([⟨some ⟨b53, 0, none⟩, 1, [98]⟩, ⟨some ⟨b55, 0, none⟩, 1, [102]⟩].flatMap SB.l), oSl (.slice (some ⟨b60, 0, none⟩) 2 2) 32 36 2 ([pLow, pHigh].flatMap Ptr.l), blk b10 #[.int .i64 1, .slice (some ⟨b57, 0, none⟩) 2 2, .slice none 0 0, .slice (some ⟨b60, 0, none⟩) 2 2] 39]) rfl rfl
    refine EL_nil ?_
    refine EC_rseq ?_
    refine EL_run rfl (R_move rfl) ?_
    refine EL_run rfl (R_and3 rfl rfl) ?_
    refine EL_run rfl (R_assign rfl) ?_
    refine EL_nil ?_
    refine EC_cut (fun ρ w => ∃ (wv : Int) (n3 : Nd), (0 ≤ wv ∧ wv ≤ 3) ∧ n3.m = nRoot wv ∧ Slots ρ [(0, .int .i64 wv), (1, .int .i64 birth), (5, .pointer (some ⟨p, 0, none⟩)), (10, .pointer (some ⟨b10, 0, none⟩))] ∧ St w0 F D (poE p g3 (fM d3 4 5) ++ [blk b10 n3.cells 39]) (poD g3 (fM d3 4 5) ++ n3.ds) w) ?_ ?_
    ·skip
     refine EC_rseq ?_
     refine EL_run rfl (R_move rfl) ?_
     refine EL_nil ?_
     refine EC_block ?_
     refine EC_rseq ?_
     refine EL_run rfl (R_eql rfl rfl) ?_
     refine EL_run rfl (R_assign rfl) ?_
     refine EL_nil ?_
     refine EC_cond rfl (fun hc65 => ?_) (fun hc65 => ?_)
     ·have hc65p := cvt hc65; try dsimp only at hc65p
      refine EC_region ?_
      refine EL_run rfl (R_field fo_39_0 rfl) ?_
      refine EL_op rfl (O_store hs (i := 12) rfl Tryz.sizeOf3 rfl rfl rfl rfl (fun w hs => ?_))
      refine EL_nil ?_
      refine InBlock_n ?_
      refine Then_n ?_
      have hs := hs.mkSS (i := 10) rfl [⟨some ⟨b53, 0, none⟩, 1, [98]⟩, ⟨some ⟨b55, 0, none⟩, 1, [102]⟩] rfl rfl [1, 2] rfl
      have hs := hs.freezeAt (i := 10) rfl
      have hs := hs.nilDp SB.l SB.D 1
      exact ⟨which % 4, ⟨2, some ⟨b57, 0, none⟩, 2, [⟨some ⟨b53, 0, none⟩, 1, [98]⟩, ⟨some ⟨b55, 0, none⟩, 1, [102]⟩], none, 0, [], some ⟨b60, 0, none⟩, 2, [pLow, pHigh]⟩, by omega, by rw [show which % 4 = 1 by omega]; rfl, ⟨rfl, rfl, rfl, rfl, trivial⟩, (hs.fin [true, true, true, true, true, true, true, true, false, false, true] [0, 5, 7, 6]).as rfl rfl⟩
     ·have hc65p := cvt hc65; try dsimp only at hc65p
      refine EC_rseq ?_
      refine EL_run rfl (R_eql rfl rfl) ?_
      refine EL_run rfl (R_assign rfl) ?_
      refine EL_nil ?_
      refine EC_cond rfl (fun hc68 => ?_) (fun hc68 => ?_)
      ·have hc68p := cvt hc68; try dsimp only at hc68p
       refine EC_region ?_
       refine EL_run rfl (R_field fo_39_1 rfl) ?_
       refine EL_run rfl (R_lb (hs.at (i := 12) rfl) Tryz.isAgg37 rfl rfl) ?_
       refine EL_op rfl (O_buildSlice [.const (.int .u8 97)] hs rfl ei_36 rfl rfl rfl (size1 rfl) (by decide) (fun b72 w hb72 hs => ?_))
       refine EL_op rfl (O_convConst (l := [97]) hs (i := 13) rfl rfl Tryz.underlying36 Tryz.underlying5 rfl rfl (fun w hs => ?_))
       refine EL_run rfl (R_idx es_37 rfl (by rfl) rfl (by omega) (by omega)) ?_
       refine EL_op rfl (O_storeE (f := SB.l) (l := [⟨some ⟨b53, 0, none⟩, 1, [98]⟩, ⟨some ⟨b55, 0, none⟩, 1, [102]⟩]) (j := 0) (y' := ⟨some ⟨b72, 0, none⟩, 1, [97]⟩) hs (i := 10) rfl SB.len Tryz.sizeOf36 rfl rfl rfl (by intro u hu; obtain rfl := List.mem_singleton.1 hu; rfl) rfl (by simp) (fun w hs => ?_))
       refine EL_nil ?_
       refine InBlock_n ?_
       refine Then_n ?_
       have hs := hs.mkSS (i := 10) rfl [⟨some ⟨b72, 0, none⟩, 1, [97]⟩, ⟨some ⟨b55, 0, none⟩, 1, [102]⟩] rfl rfl [3, 2] rfl
       have hs := hs.freezeAt (i := 10) rfl
       have hs := hs.nilDp SB.l SB.D 1
       exact ⟨which % 4, ⟨1, some ⟨b57, 0, none⟩, 2, [⟨some ⟨b72, 0, none⟩, 1, [97]⟩, ⟨some ⟨b55, 0, none⟩, 1, [102]⟩], none, 0, [], some ⟨b60, 0, none⟩, 2, [pLow, pHigh]⟩, by omega, by rw [show which % 4 = 2 by omega]; rfl, ⟨rfl, rfl, rfl, rfl, trivial⟩, (hs.fin [true, true, true, true, true, true, true, true, false, false, true] [0, 6, 8, 7]).as rfl rfl⟩
      ·have hc68p := cvt hc68; try dsimp only at hc68p
       refine EC_rseq ?_
       refine EL_run rfl (R_eql rfl rfl) ?_
       refine EL_run rfl (R_assign rfl) ?_
       refine EL_nil ?_
       refine EC_cond rfl (fun hc75 => ?_) (fun hc75 => ?_)
       ·have hc75p := cvt hc75; try dsimp only at hc75p
        refine EC_region ?_
        refine EL_run rfl (R_field fo_39_1 rfl) ?_
        refine EL_run rfl (R_lb (hs.at (i := 12) rfl) Tryz.isAgg37 rfl rfl) ?_
        refine EL_op rfl (O_buildSlice [.const (.int .u8 99)] hs rfl ei_36 rfl rfl rfl (size1 rfl) (by decide) (fun b79 w hb79 hs => ?_))
        refine EL_op rfl (O_convConst (l := [99]) hs (i := 13) rfl rfl Tryz.underlying36 Tryz.underlying5 rfl rfl (fun w hs => ?_))
        refine EL_run rfl (R_idx es_37 rfl (by rfl) rfl (by omega) (by omega)) ?_
        refine EL_op rfl (O_storeE (f := SB.l) (l := [⟨some ⟨b53, 0, none⟩, 1, [98]⟩, ⟨some ⟨b55, 0, none⟩, 1, [102]⟩]) (j := 1) (y' := ⟨some ⟨b79, 0, none⟩, 1, [99]⟩) hs (i := 10) rfl SB.len Tryz.sizeOf36 rfl rfl rfl (by intro u hu; obtain rfl := List.mem_singleton.1 hu; rfl) rfl (by simp) (fun w hs => ?_))
        refine EL_nil ?_
        refine InBlock_n ?_
        refine Then_n ?_
        have hs := hs.mkSS (i := 10) rfl [⟨some ⟨b53, 0, none⟩, 1, [98]⟩, ⟨some ⟨b79, 0, none⟩, 1, [99]⟩] rfl rfl [1, 3] rfl
        have hs := hs.freezeAt (i := 10) rfl
        have hs := hs.nilDp SB.l SB.D 1
        exact ⟨which % 4, ⟨1, some ⟨b57, 0, none⟩, 2, [⟨some ⟨b53, 0, none⟩, 1, [98]⟩, ⟨some ⟨b79, 0, none⟩, 1, [99]⟩], none, 0, [], some ⟨b60, 0, none⟩, 2, [pLow, pHigh]⟩, by omega, by rw [show which % 4 = 3 by omega]; rfl, ⟨rfl, rfl, rfl, rfl, trivial⟩, (hs.fin [true, true, true, true, true, true, true, true, false, false, true] [0, 6, 8, 7]).as rfl rfl⟩
       ·have hc75p := cvt hc75; try dsimp only at hc75p
        refine EC_skip ?_
        refine InBlock_n ?_
        refine Then_n ?_
        have hs := hs.mkSS (i := 10) rfl [⟨some ⟨b53, 0, none⟩, 1, [98]⟩, ⟨some ⟨b55, 0, none⟩, 1, [102]⟩] rfl rfl [1, 2] rfl
        have hs := hs.freezeAt (i := 10) rfl
        have hs := hs.nilDp SB.l SB.D 1
        exact ⟨which % 4, ⟨1, some ⟨b57, 0, none⟩, 2, [⟨some ⟨b53, 0, none⟩, 1, [98]⟩, ⟨some ⟨b55, 0, none⟩, 1, [102]⟩], none, 0, [], some ⟨b60, 0, none⟩, 2, [pLow, pHigh]⟩, by omega, by rw [show which % 4 = 0 by omega]; rfl, ⟨rfl, rfl, rfl, rfl, trivial⟩, (hs.fin [true, true, true, true, true, true, true, true, false, false, true] [0, 5, 7, 6]).as rfl rfl⟩
    ·rintro ρ w ⟨wv, n3, hw, hn3, hsl, hs⟩
     refine EC_slots _ hsl ?_
     refine EC_rseq ?_
     refine EL_run rfl (R_move rfl) ?_
     refine EL_run rfl (R_move rfl) ?_
     refine EL_run rfl (R_and1 rfl rfl) ?_
     refine EL_run rfl (R_addI rfl rfl (by omega)) ?_
     refine EL_run rfl (R_nilCheck rfl) ?_
     refine EL_run rfl (R_field fo_28_2 rfl) ?_
     refine EL_op rfl (O_store hs (i := 0) rfl Tryz.sizeOf3 rfl rfl rfl rfl (fun w hs => ?_))
     refine EL_nil ?_
     refine EC_cut (fun ρ w => ∃ e : Int, (4 ≤ e ∧ e ≤ 6) ∧ ((wv = 0 ∧ e = 5 - birth % 2) ∨ (wv ≠ 0 ∧ 5 ≤ e)) ∧ Slots ρ [(0, .int .i64 wv), (1, .int .i64 birth), (5, .pointer (some ⟨p, 0, none⟩)), (10, .pointer (some ⟨b10, 0, none⟩))] ∧ St w0 F D (poE p g3 (fM d3 4 e) ++ [blk b10 n3.cells 39]) (poD g3 (fM d3 4 5) ++ n3.ds) w) ?_ ?_
     ·skip
      refine EC_rseq ?_
      refine EL_run rfl (R_move rfl) ?_
      refine EL_run rfl (R_eql rfl rfl) ?_
      refine EL_nil ?_
      refine EC_cond rfl (fun hc89 => ?_) (fun hc89 => ?_)
      ·have hc89p := cvt hc89; try dsimp only at hc89p
       refine EC_region ?_
       refine EL_run rfl (R_move rfl) ?_
       refine EL_run rfl (R_move rfl) ?_
       refine EL_run rfl (R_and1 rfl rfl) ?_
       refine EL_run rfl (R_subI rfl rfl (by omega)) ?_
       refine EL_run rfl (R_nilCheck rfl) ?_
       refine EL_run rfl (R_field fo_28_2 rfl) ?_
       refine EL_op rfl (O_store hs (i := 0) rfl Tryz.sizeOf3 rfl rfl rfl rfl (fun w hs => ?_))
       refine EL_nil ?_
       refine Then_n ?_
       exact ⟨5 - birth % 2, by omega, by omega, ⟨rfl, rfl, rfl, rfl, trivial⟩, hs.as rfl rfl⟩
      ·have hc89p := cvt hc89; try dsimp only at hc89p
       refine EC_skip ?_
       refine Then_n ?_
       exact ⟨5 + birth % 2, by omega, by omega, ⟨rfl, rfl, rfl, rfl, trivial⟩, hs.as rfl rfl⟩
     ·rintro ρ w ⟨e, he, he2, hsl, hs⟩
      refine EC_slots _ hsl ?_
      obtain ⟨d4, k, root, steps, o, hE⟩ := hend wv e hw he
      refine EC_rseq ?_
      refine EL_run rfl (R_move rfl) ?_
      refine EL_run rfl (R_lw (hs.at (i := 8) rfl) Tryz.isAgg39 Tryz.sizeOf39 rfl rfl) ?_
      refine EL_op rfl (O_call hs [true, true, true, true, true, true, true, true] [0, 1, 2, 3] rfl rfl rfl Tryz.call20 (store_spec p g3 (fM d3 4 e) n3 (fM_ok hd3.ok (by omega) hgo3) (by rw [hn3]; exact fStore_ok (by simp) (nRoot_right hw) (nRoot_len hw))) (fun v es1 ds1 w hPhi hs => ?_))
      obtain ⟨g4, rfl, hgo4, rfl, rfl⟩ := hPhi
      rw [hn3, hE.st] at hs hgo4
      rw [hn3, hE.st]
      refine EL_run rfl (R_move rfl) ?_
      refine EL_run rfl (R_extract rfl rfl) ?_
      refine EL_run rfl (R_extract rfl rfl) ?_
      refine EL_op rfl (O_alloc hs rfl Tryz.zeroValue32 (fun b11 w hb11 hs => ?_))
      refine EL_op rfl (O_storeW hs (i := 9) rfl sz_32 rfl rfl rfl (Ptr.size _) (Ptr.oneA _) (fun w hs => ?_))
      refine EL_run rfl (R_assign rfl) ?_
      refine EL_nil ?_
      refine EC_seq ?_
      refine EC_rseq ?_
      refine EL_run rfl (R_move rfl) ?_
      refine EL_run rfl (R_neq rfl rfl) ?_
      refine EL_nil ?_
      refine EC_cond rfl (fun hc103 => ?_) (fun hc103 => ?_)
      ·exact absurd rfl (of_decide_eq_true hc103)
      ·have hc103p := cvt hc103; try dsimp only at hc103p
       refine EC_skip ?_
       refine Then_n ?_
       refine EC_rseq ?_
       refine EL_run rfl (R_move rfl) ?_
       refine EL_run rfl (R_lw (hs.at (i := 9) rfl) Tryz.isAgg32 Tryz.sizeOf32 rfl (Ptr.size _)) ?_
       refine EL_op rfl (O_call hs [true, true, true, true, true, true, true, true] [4] rfl rfl rfl Tryz.call21 (vWalkAll_spec p g4 (fM d4 k e) root steps o (fM_ok hE.di.ok (by have := hE.hk; omega) hgo4) (.inr ⟨hE.none, hE.vw⟩) (by have := hE.len; omega)) (fun v es1 ds1 w hPhi hs => ?_))
       obtain ⟨ao, c, rfl, rfl, rfl⟩ := hPhi
       refine EL_run rfl (R_move rfl) ?_
       refine EL_run rfl (R_extract rfl rfl) ?_
       refine EL_run rfl (R_extract rfl rfl) ?_
       refine EL_op rfl (O_alloc hs rfl Tryz.zeroValue41 (fun b12 w hb12 hs => ?_))
       refine EL_op rfl (O_storeW hs (i := 10) rfl sz_41 rfl rfl rfl rfl (by simp [Value.oneCell']) (fun w hs => ?_))
       refine EL_run rfl (R_assign rfl) ?_
       refine EL_nil ?_
       refine EC_seq ?_
       refine EC_rseq ?_
       refine EL_run rfl (R_move rfl) ?_
       refine EL_run rfl (R_eql rfl rfl) ?_
       refine EL_run rfl (R_move rfl) ?_
       refine EL_split 112 rfl (fun hg2 => ?_) (fun hg2 => ?_)
       ·have hg2p := cvt hg2; try dsimp only at hg2p
        refine EL_want rfl rfl hg2 ?_
        refine EL_run rfl (R_move rfl) ?_
        refine EL_want rfl rfl hg2 ?_
        refine EL_run rfl (R_and1 rfl rfl) ?_
        refine EL_want rfl rfl hg2 ?_
        refine EL_run rfl (R_eql rfl rfl) ?_
        refine EL_run rfl (R_pickT rfl hg2 rfl) ?_
        refine EL_nil ?_
        refine EC_cond rfl (fun hc116 => ?_) (fun hc116 => ?_)
        ·have hc116p := cvt hc116; try dsimp only at hc116p
         have hG := hE.good (by omega) (by omega)
         rw [show repOf o = o.1 from if_pos hG.1] at hs
         refine EC_rseq ?_
         refine EL_run rfl (R_move rfl) ?_
         refine EL_run rfl (R_eql rfl rfl) ?_
         refine EL_run rfl (R_move rfl) ?_
         refine EL_split 119 rfl (fun hg2 => ?_) (fun hg2 => ?_)
         ·have hg2p := cvt hg2; try dsimp only at hg2p
          refine EL_want rfl rfl hg2 ?_
          refine EL_run rfl (R_field fo_41_1 rfl) ?_
          refine EL_want rfl rfl hg2 ?_
          refine EL_run rfl (R_lb (hs.at (i := 10) rfl) Tryz.isAgg3 rfl rfl) ?_
          refine EL_want rfl rfl hg2 ?_
          refine EL_run rfl (R_eql rfl rfl) ?_
          refine EL_run rfl (R_pickT rfl hg2 rfl) ?_
          refine EL_run rfl (R_move rfl) ?_
          refine EL_split 124 rfl (fun hg7 => ?_) (fun hg7 => ?_)
          ·have hg7p := cvt hg7; try dsimp only at hg7p
           refine EL_want rfl rfl hg7 ?_
           refine EL_run rfl (R_field fo_41_2 rfl) ?_
           refine EL_want rfl rfl hg7 ?_
           refine EL_run rfl (R_lb (hs.at (i := 10) rfl) Tryz.isAgg3 rfl rfl) ?_
           refine EL_want rfl rfl hg7 ?_
           refine EL_run rfl (R_eql rfl rfl) ?_
           refine EL_run rfl (R_pickT rfl hg7 rfl) ?_
           refine EL_run rfl (R_move rfl) ?_
           refine EL_split 129 rfl (fun hg12 => ?_) (fun hg12 => ?_)
           ·have hg12p := cvt hg12; try dsimp only at hg12p
            refine EL_want rfl rfl hg12 ?_
            refine EL_run rfl (R_field fo_41_0 rfl) ?_
            refine EL_want rfl rfl hg12 ?_
            refine EL_run rfl (R_lb (hs.at (i := 10) rfl) Tryz.isAgg26 rfl rfl) ?_
            refine EL_want rfl rfl hg12 ?_
            refine EL_run rfl (R_lenS Tryz.underlying26 rfl) ?_
            refine EL_want rfl rfl hg12 ?_
            refine EL_run rfl (R_eql rfl rfl) ?_
            refine EL_run rfl (R_pickT rfl hg12 rfl) ?_
            refine EL_run rfl (R_assign rfl) ?_
            refine EL_nil ?_
            refine EC_ret ?_
            refine Then_r ?_
            exact ⟨[_], ⟨rfl, trivial⟩, _, _, ⟨by show Value.bool (decide _) = _; rw [hG.2.2.2]; rfl, rfl, rfl⟩, (hs.fin [] []).as rfl rfl⟩
           ·exact absurd (hG.2.2.1) (of_decide_eq_false hg12)
          ·exact absurd (hG.2.1) (of_decide_eq_false hg7)
         ·exact absurd (hG.1) (of_decide_eq_false hg2)
        ·have hc116p := cvt hc116; try dsimp only at hc116p
         refine EC_skip ?_
         refine Then_n ?_
         have hB : o.2 = 11 := hE.bad (by omega)
         rw [show repOf o = RpM.zero from if_neg (by rw [hB]; decide)] at hs
         refine EC_rseq ?_
         refine EL_run rfl (R_move rfl) ?_
         refine EL_run rfl (R_eql rfl rfl) ?_
         refine EL_run rfl (R_move rfl) ?_
         refine EL_split 137 rfl (fun hg2 => ?_) (fun hg2 => ?_)
         ·have hg2p := cvt hg2; try dsimp only at hg2p
          refine EL_want rfl rfl hg2 ?_
          refine EL_run rfl (R_field fo_41_0 rfl) ?_
          refine EL_want rfl rfl hg2 ?_
          refine EL_run rfl (R_lb (hs.at (i := 10) rfl) Tryz.isAgg26 rfl rfl) ?_
          refine EL_want rfl rfl hg2 ?_
          refine EL_run rfl (R_lenS Tryz.underlying26 rfl) ?_
          refine EL_want rfl rfl hg2 ?_
          refine EL_run rfl (R_eql rfl rfl) ?_
          refine EL_run rfl (R_pickT rfl hg2 rfl) ?_
          refine EL_run rfl (R_assign rfl) ?_
          refine EL_nil ?_
          refine EC_ret ?_
          exact ⟨[_], ⟨rfl, trivial⟩, _, _, ⟨rfl, rfl, rfl⟩, (hs.fin [] []).as rfl rfl⟩
         ·exact absurd (hB) (of_decide_eq_false hg2)
       ·have hg2p := cvt hg2; try dsimp only at hg2p
        refine EL_pass rfl rfl rfl hg2 ?_
        refine EL_pass rfl rfl rfl hg2 ?_
        refine EL_pass rfl rfl rfl hg2 ?_
        refine EL_run rfl (R_pickF rfl hg2 rfl) ?_
        refine EL_nil ?_
        refine EC_cond rfl (fun hcx => ?_) (fun hcx => ?_)
        ·exact Bool.noConfusion hcx
        ·skip
         refine EC_skip ?_
         refine Then_n ?_
         have hB : o.2 = 11 := hE.bad (by omega)
         rw [show repOf o = RpM.zero from if_neg (by rw [hB]; decide)] at hs
         refine EC_rseq ?_
         refine EL_run rfl (R_move rfl) ?_
         refine EL_run rfl (R_eql rfl rfl) ?_
         refine EL_run rfl (R_move rfl) ?_
         refine EL_split 137 rfl (fun hg2 => ?_) (fun hg2 => ?_)
         ·have hg2p := cvt hg2; try dsimp only at hg2p
          refine EL_want rfl rfl hg2 ?_
          refine EL_run rfl (R_field fo_41_0 rfl) ?_
          refine EL_want rfl rfl hg2 ?_
          refine EL_run rfl (R_lb (hs.at (i := 10) rfl) Tryz.isAgg26 rfl rfl) ?_
          refine EL_want rfl rfl hg2 ?_
          refine EL_run rfl (R_lenS Tryz.underlying26 rfl) ?_
          refine EL_want rfl rfl hg2 ?_
          refine EL_run rfl (R_eql rfl rfl) ?_
          refine EL_run rfl (R_pickT rfl hg2 rfl) ?_
          refine EL_run rfl (R_assign rfl) ?_
          refine EL_nil ?_
          refine EC_ret ?_
          exact ⟨[_], ⟨rfl, trivial⟩, _, _, ⟨rfl, rfl, rfl⟩, (hs.fin [] []).as rfl rfl⟩
         ·exact absurd (hB) (of_decide_eq_false hg2)
end Go.Proofs.YtpcojkbljgpecaaGreat
namespace Go.Proofs.YtpcojkbljgpecaaGreat
open Go Go.ChangeShapes Go.WideShapes Go.ChangeAt Go.RowKit

section
variable {H : Type} {enc : TypeId × Value → H} {P : Program}

/-- Types whose values are read, and stay as they are read. -/
def readOk (P : Program) (ts : List TypeId) : Bool := ts.all fun t => P.readableRec t && decide (t < P.types.size)

theorem trodAll_stays (hl : laidOutB P = true) {W W' : World} {sp : Nat → Bool} : ∀ {ts : List TypeId} {vs : List Value} {ds : List (DataW H)} {p : List MemPlace}, readOk P ts = true →
    DataW.TrodAll enc P W 0 (fun _ => true) true ts vs ds p → (∀ x ∈ p, W.sameAt W' x) → (∀ x ∈ p, sp x.block = true) → DataW.TrodAll enc P W' 0 sp true ts vs ds p
  | [], vs, ds, p, _, h, _, _ => by
    obtain ⟨rfl, rfl, rfl⟩ := trodAll_nil h
    exact trodAll_mk0
  | t :: ts, vs, ds, p, hr, h, hs, hp => by
    simp only [readOk, List.all_cons, Bool.and_eq_true, decide_eq_true_eq] at hr
    obtain ⟨⟨hr1, hr2⟩, hr3⟩ := hr
    obtain ⟨v, vs', d, ds', p1, p2, rfl, rfl, rfl, ⟨n, hn⟩, ht⟩ := trodAll_cons h
    exact trodAll_cons_mk ⟨n, DataW.trod_stays (kids_book hl hr1) (book_sized hr1) (fun h => by cases h) ⟨hr2, book_self t⟩ hn (fun x hx => hs x (List.mem_append_left _ hx)) (fun x hx => hp x (List.mem_append_left _ hx))⟩
      (trodAll_stays hl (by simpa [readOk] using hr3) ht (fun x hx => hs x (List.mem_append_right _ hx)) (fun x hx => hp x (List.mem_append_right _ hx)))

theorem sameAt_frame {W W' : World} (h : ∀ k, k < W.heap.size → W'.heap[k]? = W.heap[k]?) (p : MemPlace) (hp : p.block < W.heap.size) : W.sameAt W' p := by
  cases p with
  | cell b off => exact cell_same (h b hp)
  | map b => exact h b hp

theorem keptBut_frame {W W' : World} {may : MemPlace → Prop} (ho : W'.os = W.os) (hout : W'.output = W.output) (h : ∀ k, k < W.heap.size → W'.heap[k]? = W.heap[k]?) : W.keptBut W' may := by
  refine ⟨ho, hout, fun i hi => ?_⟩
  rw [h i hi]
  cases hb : W.heap[i]? with
  | none => simp
  | some o =>
    cases o <;> simp

/-- A law that tells true, and lets everything be. -/
theorem post_true {f : Func} {s : ChangeSpec} {apart fresh handsOn : Bool} {W W' : World} {args : Array Value} {ds gs : List (DataW H)} {before : List MemPlace} {bt : TypeId} (hl : laidOutB P = true) (hr : readOk P f.params.toList = true) (hv : s.vars = [])
    (hbt : f.resultTypes = #[bt]) (hbu : P.underlying bt = some .bool) (hfn : (s.fn H ds).results = [.lit (.bool true)] ∧ (s.fn H ds).args = ds ∧ (s.fn H ds).vars = [])
    (hW : DataW.Whole enc P f.params.toList s.vars apart W args.toList ds gs before) (ho : W'.os = W.os) (hout : W'.output = W.output) (h : ∀ k, k < W.heap.size → W'.heap[k]? = W.heap[k]?) :
    s.post enc P f apart fresh handsOn false W args (.bool true) W' := by
  have hlt := hW.lt
  have hW0 := hW
  obtain ⟨p, q, hA, hV, rfl, hfz, hnd⟩ := hW
  rw [hv] at hV
  obtain ⟨rfl, rfl⟩ := trodVars_none hV
  rw [List.append_nil] at hlt
  refine ⟨ds, [], p ++ [], [], p, [], hW0, ?_, ?_, ?_, keptBut_frame ho hout h, fun hh => by cases hh⟩
  · rw [List.append_nil, hfn.1, hbt]
    exact trodAll_mk1 (shut_bool hbu _)
  · rw [List.append_nil, hfn.2.1]
    exact trodAll_stays hl hr hA (fun x hx => sameAt_frame h x (hlt x hx)) (fun x hx => by simpa using hlt x hx)
  · rw [List.append_nil, hfn.2.2, hv]
    rfl
end
end Go.Proofs.YtpcojkbljgpecaaGreat
namespace Go.Proofs.YtpcojkbljgpecaaGreat
open Go Go.ChangeShapes Go.WideShapes Go.ChangeAt Go.RowKit
/-- A number of 64 bits. -/
def I64 (n : Int) : Prop := -9223372036854775808 ≤ n ∧ n ≤ 9223372036854775807
def PtrIn (p : Ptr) : Prop := I64 p.pos ∧ I64 p.birth ∧ I64 p.len
theorem Opens.ptr {P : Program} {t ti tu ta te : TypeId} (h : PtrT P t ti tu ta te) (hc : P.cellsOf t = 36) (hci : P.cellsOf ti = 1) (hcu : P.cellsOf tu = 1) : Opens P t Ptr.l (fun _ => emp) PtrIn := by
  intro H enc w fuel cs x hx
  obtain ⟨hl, n, hf⟩ := open_field h.u hx
  rw [hc] at hl
  have hca : P.cellsOf ta = 32 := by unfold Program.cellsOf; rw [h.ia]; rfl
  have hce : P.cellsOf te = 1 := by unfold Program.cellsOf; rw [h.ie]; rfl
  have key : ∀ (i : Nat) (ty off : Nat), ((P.fieldsOf t).toList.map (fun f => (f.name == "_", f.type, f.offset)))[i]? = some (false, ty, off) → ∃ x', DataW.trod enc P w 0 (fun _ => true) true n ty ((cs.drop off).take (P.cellsOf ty)) = some x' := by
    intro i ty off hi
    rw [List.getElem?_map] at hi
    obtain ⟨f, hf1, hf2⟩ := Option.map_eq_some_iff.1 hi
    have hf3 : (P.fieldsOf t)[i]? = some f := by simpa using hf1
    obtain ⟨x', hx'⟩ := hf i f hf3
    simp only [Prod.mk.injEq] at hf2
    obtain ⟨_, rfl, rfl⟩ := hf2
    exact ⟨x', hx'⟩
  rw [h.fs] at key
  obtain ⟨_, x0⟩ := key 0 ti 0 rfl
  obtain ⟨_, x1⟩ := key 1 ti 1 rfl
  obtain ⟨_, x2⟩ := key 2 ti 2 rfl
  obtain ⟨_, x3⟩ := key 3 tu 3 rfl
  obtain ⟨_, x4⟩ := key 4 ta 4 rfl
  obtain ⟨n0, ⟨e0, _⟩, r0⟩ := Opens.int h.ui H enc w n _ _ x0
  obtain ⟨n1, ⟨e1, _⟩, r1⟩ := Opens.int h.ui H enc w n _ _ x1
  obtain ⟨n2, ⟨e2, _⟩, r2⟩ := Opens.int h.ui H enc w n _ _ x2
  obtain ⟨n3, ⟨e3, _⟩, r3⟩ := Opens.u32 h.uu H enc w n _ _ x3
  obtain ⟨l, ⟨e4, _⟩, r4⟩ := Opens.bytesN h.ua h.ue hce hca H enc w n _ _ x4
  rw [hci] at e0 e1 e2
  rw [hcu] at e3
  rw [hca] at e4
  refine ⟨⟨n0, n1, n2, n3, l, r4⟩, ⟨?_, trivial, fun _ h => h.elim⟩, r0, r1, r2⟩
  match cs, hl, e0, e1, e2, e3, e4 with
  | a :: b :: c :: d :: r, hl, e0, e1, e2, e3, e4 =>
    simp only [List.drop_zero, List.take_succ_cons, List.take_zero, List.cons.injEq, and_true] at e0
    simp only [List.drop_succ_cons, List.drop_zero, List.take_succ_cons, List.take_zero, List.cons.injEq, and_true] at e1 e2 e3
    simp only [List.drop_succ_cons, List.drop_zero] at e4
    rw [List.take_of_length_le (by simp at hl; omega)] at e4
    subst e0; subst e1; subst e2; subst e3; subst e4
    rfl
end Go.Proofs.YtpcojkbljgpecaaGreat
namespace Go.Proofs.YtpcojkbljgpecaaGreat
open Go Go.ChangeShapes Go.WideShapes Go.ChangeAt Go.RowKit
theorem own_knob : ownKnob Tryz.prog.godebug = none := by kernel_rfl
theorem laid_out : laidOutB Tryz.prog = true := by kernel_rfl

set_option maxRecDepth 100000 in
theorem verifyForms_lifted (os : Os) (started : os.Started) (H : Type) (enc : TypeId × Value → H) :
    ReturnsInHanded {} Tryz.checked os 3 .any (Rows.verifyFormsSpec.pre6 enc Tryz.prog Tryz.f3 Rows.verifyFormsRow.domain false) (Rows.verifyFormsSpec.post enc Tryz.prog Tryz.f3 false true false false) := by
  refine returnsInHanded_of_change (C := Tryz.checked) own_knob started (by kernel_rfl) Tryz.func3
    (ChangeSpec.witness6 (enc := enc) (C := Tryz.checked) false ⟨#[], #[.int .i64 0, .int .i64 0], []⟩ 8 (by kernel_rfl) (by kernel_rfl) (by kernel_rfl) (by kernel_rfl)) ?_
  intro W base args ds gs before hval0 hW hcnd _
  have hval : ∀ (j : Nat) t v, Tryz.f3.params[j]? = some t → args[j]? = some v → Value.okWide Tryz.prog W .any base t v := hval0
  have hW' := hW
  obtain ⟨p, q, hA0, hV, rfl, hfz, hnd⟩ := hW
  have hA : DataW.TrodAll enc Tryz.prog W 0 (fun _ => true) true Tryz.f3.params.toList args.toList ds p := hA0
  rw [Tryz.params3] at hA hval
  obtain ⟨v0, vs0, d0, ds0, p0, q0, hargs, rfl, rfl, h0, r0⟩ := trodAll_cons hA
  obtain ⟨v1, vs1, d1, ds1, p1, q1, rfl, rfl, rfl, h1, r1⟩ := trodAll_cons r0
  obtain ⟨rfl, rfl, rfl⟩ := trodAll_nil r1
  obtain rfl : args = #[v0, v1] := by cases args; simp_all
  obtain ⟨n0, rfl, rfl, rfl, w0⟩ := open_int Tryz.underlying3 (hval 0 3 v0 rfl rfl) h0
  obtain ⟨n1, rfl, rfl, rfl, w1⟩ := open_int Tryz.underlying3 (hval 1 3 v1 rfl rfl) h1
  have hst := St.start (W := W) (F := footL []) [] (fun d hd => nomatch hd) (fun d hd => nomatch hd)
  refine (verifyForms_spec n0 n1 _ hst).mono fun e W' he => ?_
  cases e with
  | returned v =>
    obtain ⟨es1, ds1, ⟨rfl, rfl, rfl⟩, hst1⟩ := he
    exact ⟨_, rfl, post_true laid_out (by kernel_rfl) rfl rfl Tryz.underlying4 ⟨rfl, rfl, rfl⟩ hW' hst1.os hst1.output (fun k hk => hst1.frame k hk (fun ⟨a, ha, _⟩ => nomatch ha))⟩
  | panicked c => exact he.elim
  | outgrown => exact he.elim

theorem bb {a b : Bool} (h1 : a = true) (h2 : b = true) : (a && b) = true := by rw [h1, h2]; rfl
theorem q1 : (Rows.verifyFormsRow.wf (OpenSpec.ofChange Rows.verifyFormsSpec)) = true := by kernel_rfl
theorem q3 : (mapsRowed Tryz.checked.prog) = true := by kernel_rfl
theorem q4 : (Tryz.f3.params.all (Tryz.checked.prog.readableRec ·)) = true := by kernel_rfl
theorem q5 : (namedTie Tryz.checked.prog Rows.verifyFormsRow.named Rows.verifyFormsSpec.vars) = true := by kernel_rfl
theorem q6 : ((Rows.verifyFormsRow.stops == [])) = true := by kernel_rfl
theorem q7 : ((Tryz.checked.prog.stops == [])) = true := by kernel_rfl
theorem q8 : ((Rows.verifyFormsRow.knobs == [])) = true := by kernel_rfl
theorem q9 : ((Tryz.checked.prog.stopKnobs == [])) = true := by kernel_rfl
theorem q10 : ((Rows.verifyFormsRow.inPlace == Tryz.checked.prog.inPlace 3)) = true := by kernel_rfl
theorem q11 : ((Rows.verifyFormsRow.unfollowed == Tryz.checked.prog.unfollowed 3)) = true := by kernel_rfl
theorem q12 : ((Rows.verifyFormsRow.recurses == Tryz.checked.prog.recurses 3)) = true := by kernel_rfl
theorem q13 : ((Rows.verifyFormsRow.named == Tryz.checked.prog.varsNamed 3)) = true := by kernel_rfl
theorem q14 : ((Rows.verifyFormsRow.maps == (Tryz.f3.params.toList ++ Rows.verifyFormsSpec.plain.varTypes Tryz.checked.prog).any (Tryz.checked.prog.mapsRec ·))) = true := by kernel_rfl
theorem q15 : ((Rows.verifyFormsRow.ifaces == (Tryz.f3.params.toList ++ Rows.verifyFormsSpec.plain.varTypes Tryz.checked.prog).any (Tryz.checked.prog.ifacesRec ·))) = true := by kernel_rfl
theorem q16 : ((Rows.verifyFormsRow.mapsOut == Tryz.checked.prog.mapsAmong Tryz.f3.resultTypes.toList)) = true := by kernel_rfl
theorem q17 : ((Rows.verifyFormsRow.loops == (Tryz.f3.params.toList ++ Rows.verifyFormsSpec.plain.varTypes Tryz.checked.prog).any (Tryz.checked.prog.loopsFrom ·))) = true := by kernel_rfl
theorem q18 : ((Rows.verifyFormsRow.wideKeys == (Tryz.f3.params.toList ++ Rows.verifyFormsSpec.plain.varTypes Tryz.checked.prog ++ Tryz.f3.resultTypes.toList).any (Tryz.checked.prog.wideKeysFrom ·))) = true := by kernel_rfl
theorem q19 : (Rows.verifyFormsSpec.vars.all (Tryz.checked.prog.varReadable ·)) = true := by kernel_rfl
theorem q20 : (Tryz.f3.resultTypes.all (fun t => Tryz.checked.prog.readableRec t && decide (t < Tryz.checked.prog.types.size))) = true := by kernel_rfl
theorem q21 : ((Rows.verifyFormsRow.ifacesOut == Tryz.f3.resultTypes.toList.any (Tryz.checked.prog.ifacesRec ·))) = true := by kernel_rfl
theorem q22 : ((Rows.verifyFormsRow.loopsOut == Tryz.f3.resultTypes.toList.any (Tryz.checked.prog.loopsFrom ·))) = true := by kernel_rfl
theorem q23 : ((Rows.verifyFormsRow.plainKeys == Tryz.checked.prog.plainKeys)) = true := by kernel_rfl
theorem q24 : (Rows.verifyFormsRow.shortTexts.isNone) = true := by kernel_rfl
theorem q25 : (Tryz.checked.prog.stopsHeard) = true := by kernel_rfl
theorem q26 : (Tryz.checked.prog.mayEnter) = true := by kernel_rfl
theorem q27 : ((Rows.verifyFormsRow.lifted == Tryz.checked.prog.liftsFinal)) = true := by kernel_rfl
theorem q28 : ((Tryz.checked.prog.make == some Rows.verifyFormsRow.make)) = true := by kernel_rfl
theorem q30 : ((Rows.verifyFormsRow.pinned == Rows.verifyFormsRow.pinnedBy)) = true := by kernel_rfl
theorem q31 : ((Rows.verifyFormsRow.veiled == (Tryz.f3.params.toList ++ Rows.verifyFormsSpec.plain.varTypes Tryz.checked.prog ++ Tryz.f3.resultTypes.toList).any (Tryz.checked.prog.veiledRec ·))) = true := by kernel_rfl
theorem q32 : (Rows.verifyFormsRow.veiledFits Tryz.checked.prog Tryz.f3.params.toList (Tryz.f3.params.toList ++ Rows.verifyFormsSpec.plain.varTypes Tryz.checked.prog ++ Tryz.f3.resultTypes.toList)) = true := by kernel_rfl
theorem closed : joinedFacts Tryz.checked.prog 3 Tryz.f3 Rows.verifyFormsSpec Rows.verifyFormsRow = true := by
  unfold joinedFacts
  refine bb (bb (bb (bb (bb (bb (bb (bb (bb (bb (bb (bb (bb (bb (bb (bb (bb (bb (bb (bb (bb (bb (bb (bb (bb (bb (bb (bb (bb (bb (bb (q1) laid_out) q3) q4) q5) q6) q7) q8) q9) q10) q11) q12) q13) q14) q15) q16) q17) q18) q19) q20) q21) q22) q23) q24) q25) q26) q27) q28) ?_) q30) q31) q32
  kernel_rfl
/-- The statement. -/
theorem verifyForms_holds : Rows.VerifyFormsSaid :=
  OpenClaim.holds_of_wide 3 Tryz.f3 rfl rfl rfl rfl rfl rfl rfl ⟨rfl, rfl, rfl, rfl, rfl⟩ rfl rfl rfl rfl rfl (by kernel_rfl) Tryz.func3 closed
    (of_decide_eq_true (by kernel_rfl)) (by unfold Func.isWrapper; first | (rw [if_pos (by decide +kernel)]; kernel_rfl) | (rw [if_neg (by decide +kernel)]; exact ⟨rfl, rfl⟩))
    (fun os started H enc _ => verifyForms_lifted os started H enc)
#print axioms verifyForms_holds
end Go.Proofs.YtpcojkbljgpecaaGreat
