/- Plain laws: bytes that are laid on a fresh pool of 40 sectors. -/
import Derived.Test.YtpcojkbljgpecaaW9
namespace Go.Proofs.Ytpcojkbljgpecaa
open Go
def fresh5 : PoM := { freshM 40 with epoch := 5 }
theorem lay_nil : poLay fresh5 [] = (fresh5, Ptr.none, 2) := by
  unfold poLay
  rw [if_pos (Or.inl (by rfl))]
def layAl (k : Int) : AlM := ⟨2, 40, 0, [⟨2 + k, 40⟩], [], [⟨2, 40⟩]⟩
theorem take_al {k : Int} (h : 1 ≤ k ∧ k ≤ 10) : alTake (freshM 40).al k false = (layAl k, 2, 0) := by
  have h1 : k = 1 ∨ k = 2 ∨ k = 3 ∨ k = 4 ∨ k = 5 ∨ k = 6 ∨ k = 7 ∨ k = 8 ∨ k = 9 ∨ k = 10 := by omega
  rcases h1 with rfl | rfl | rfl | rfl | rfl | rfl | rfl | rfl | rfl | rfl <;> rfl
theorem give_al {k : Int} (h : 1 ≤ k ∧ k ≤ 10) : alGive (layAl k) ⟨2, 2 + k⟩ = (⟨2, 40, 0, [⟨2, 40⟩], [], [⟨2, 40⟩]⟩, 0) := by
  have h1 : k = 1 ∨ k = 2 ∨ k = 3 ∨ k = 4 ∨ k = 5 ∨ k = 6 ∨ k = 7 ∨ k = 8 ∨ k = 9 ∨ k = 10 := by omega
  rcases h1 with rfl | rfl | rfl | rfl | rfl | rfl | rfl | rfl | rfl | rfl <;> rfl
theorem again_al {k : Int} (h : 1 ≤ k ∧ k ≤ 10) : alGive ⟨2, 40, 0, [⟨2, 40⟩], [], [⟨2, 40⟩]⟩ ⟨2, 2 + k⟩ = (⟨2, 40, 0, [⟨2, 40⟩], [], [⟨2, 40⟩]⟩, 13) := by
  have h1 : k = 1 ∨ k = 2 ∨ k = 3 ∨ k = 4 ∨ k = 5 ∨ k = 6 ∨ k = 7 ∨ k = 8 ∨ k = 9 ∨ k = 10 := by omega
  rcases h1 with rfl | rfl | rfl | rfl | rfl | rfl | rfl | rfl | rfl | rfl <;> rfl
theorem use_al {k : Int} (h : 1 ≤ k ∧ k ≤ 10) : alUse (layAl k) = k ∧ alUse ⟨2, 40, 0, [⟨2, 40⟩], [], [⟨2, 40⟩]⟩ = 0 ∧ (alLater (layAl k) ⟨2, 3⟩).2 = 0 := by
  have h1 : k = 1 ∨ k = 2 ∨ k = 3 ∨ k = 4 ∨ k = 5 ∨ k = 6 ∨ k = 7 ∨ k = 8 ∨ k = 9 ∨ k = 10 := by omega
  rcases h1 with rfl | rfl | rfl | rfl | rfl | rfl | rfl | rfl | rfl | rfl <;> exact ⟨rfl, rfl, rfl⟩
theorem chunk_len (b : BL) (i : Nat) : (chunk b i).length ≤ 512 := by
  unfold chunk
  rw [List.length_take]; omega
/-- A disk that is not cut takes what is written on it. -/
theorem diWrite_fine {m : DiM} (h1 : m.gone = false) (h2 : m.fused = false) {i : Int} (h3 : 0 ≤ i ∧ i < m.lasts.length) {b : BL} (h4 : b.length ≤ 512) : diWrite m i b = ({ m with gone := false, waits := sput m.waits i (Sec.of b) }, 0) := by
  have hc : diCheck m i = 0 := by unfold diCheck; rw [if_neg (by omega)]
  have hg : ¬ diGone m = true := by unfold diGone; rw [h1, h2]; simp
  have hs : diSpend m = ({ m with gone := false, left := m.left }, 0) := by
    unfold diSpend
    rw [if_neg hg, if_neg (by rw [h2]; simp)]
  unfold diWrite
  rw [if_neg (by rw [hc]; simp), if_neg (by omega), hs, if_neg (by simp)]
theorem blkGo_fine (b : BL) (pos : Int) (h0 : 0 ≤ pos) : ∀ (k i : Nat) (m : DiM), m.gone = false → m.fused = false → pos + i + k ≤ m.lasts.length → (blkGo m pos b i k).2 = 0
  | 0, _, _, _, _, _ => rfl
  | k + 1, i, m, h1, h2, h3 => by
    have hw := diWrite_fine h1 h2 (i := pos + i) (by omega) (chunk_len b i)
    unfold blkGo
    rw [hw, if_neg (by simp)]
    exact blkGo_fine b pos h0 k (i + 1) _ rfl h2 (by simp only; push_cast at h3 ⊢; omega)
theorem blkGo_ok (b : BL) (pos : Int) : ∀ (k i : Nat) (m : DiM), m.ok → (blkGo m pos b i k).1.ok
  | 0, _, _, h => h
  | k + 1, i, m, h => by
    unfold blkGo
    split
    · exact diWrite_ok h _ _
    · exact blkGo_ok b pos k (i + 1) _ (diWrite_ok h _ _)
theorem blkWrite_ok {m : DiM} (h : m.ok) (pos birth : Int) (b : BL) : (blkWrite m pos birth b).1.ok := by
  unfold blkWrite
  split
  · exact h
  · split
    · exact blkGo_ok b pos _ _ m h
    · exact blkGo_ok b pos _ _ m h
theorem len_sectors {len : Int} (h : 1 ≤ len ∧ len ≤ 5000) : 1 ≤ sectors len ∧ sectors len ≤ 10 := by
  unfold sectors; rw [if_neg (by omega)]; omega
theorem bare_right {len : Int} (h : 1 ≤ len ∧ len ≤ 5000) : (Ptr.bare 2 5 len).right = true := by
  have := len_sectors h
  rw [Ptr.right_iff]
  simp only [Ptr.bare]
  omega
theorem blkWrite_fine {b : BL} (h : 1 ≤ b.length ∧ b.length ≤ 5000) : (blkWrite (diNew 40) 2 5 b).2 = (Ptr.of 2 5 b, 0) := by
  have hs := len_sectors (len := (b.length : Int)) (by omega)
  have hc : blkCheck (diNew 40).lasts.length (Ptr.bare 2 5 b.length) = 0 := by
    unfold blkCheck
    rw [if_neg]
    rintro (h1 | h1)
    · rw [bare_right (by omega)] at h1; cases h1
    · simp only [Ptr.bare, diNew, List.length_replicate] at h1; omega
  have hg : (blkGo (diNew 40) 2 b 0 (sectors b.length).toNat).2 = 0 := blkGo_fine b 2 (by omega) _ 0 _ rfl rfl (by simp [diNew]; omega)
  unfold blkWrite
  rw [if_neg (by rw [hc]; simp), if_neg (by rw [hg]; simp)]
def layM (b : BL) : PoM := { fresh5 with di := (blkWrite (diNew 40) 2 5 b).1, al := layAl (sectors b.length) }
theorem lay_ok {b : BL} (h : 1 ≤ b.length ∧ b.length ≤ 5000) : poLay fresh5 b = (layM b, Ptr.of 2 5 b, 0) := by
  have hs := len_sectors (len := (b.length : Int)) (by omega)
  have ht : alTake fresh5.al (sectors b.length) fresh5.spare = (layAl (sectors b.length), 2, 0) := take_al hs
  have hb : (blkWrite fresh5.di 2 fresh5.epoch b).2 = (Ptr.of 2 5 b, 0) := blkWrite_fine h
  rw [poLay_take _ _ (by
    rintro (h1 | h1)
    · omega
    · have := bare_right (len := (b.length : Int)) (by omega)
      rw [show fresh5.epoch = 5 from rfl, this] at h1
      cases h1), ht]
  simp only
  rw [if_neg (by simp), hb]
  simp only
  rw [if_neg (by simp)]
  rfl
def freeAl : AlM := ⟨2, 40, 0, [⟨2, 40⟩], [], [⟨2, 40⟩]⟩
theorem layAl_ok {k : Int} (h : 1 ≤ k ∧ k ≤ 10) : (layAl k).ok := by
  have hv : valid (layAl k).free = true := by
    have h1 : k = 1 ∨ k = 2 ∨ k = 3 ∨ k = 4 ∨ k = 5 ∨ k = 6 ∨ k = 7 ∨ k = 8 ∨ k = 9 ∨ k = 10 := by omega
    rcases h1 with rfl | rfl | rfl | rfl | rfl | rfl | rfl | rfl | rfl | rfl <;> rfl
  exact ⟨by simp [layAl], by simp [layAl], hv, by rfl, by simp [layAl], by simp [layAl], by simp [layAl]⟩
theorem freeAl_ok : freeAl.ok := ⟨by simp [freeAl], by simp [freeAl], by rfl, by rfl, by simp [freeAl], by simp [freeAl], by simp [freeAl]⟩
theorem diNew_ok {n : Nat} (h : 1 ≤ n ∧ n ≤ 8192) : (diNew n).ok := ⟨by simp [diNew]; omega, by simp [diNew]⟩
theorem layM_ok {b : BL} (h : 1 ≤ b.length ∧ b.length ≤ 5000) {g : PoG} (hg : g.ag.ok (layM b).al) (e : Int) : ({ layM b with epoch := e } : PoM).ok g :=
  ⟨blkWrite_ok (diNew_ok (by omega)) _ _ _, layAl_ok (len_sectors (by omega)), hg, by simp [layM, layAl], by simp [layM, fresh5, freshM]⟩
theorem of_right {b : BL} (h : 1 ≤ b.length ∧ b.length ≤ 5000) : (Ptr.of 2 5 b).right = true := bare_right (len := (b.length : Int)) (by omega)
def goneM (b : BL) : PoM := { layM b with al := freeAl }
theorem kill_own {b : BL} (h : 1 ≤ b.length ∧ b.length ≤ 5000) : poKill (layM b) (Ptr.of 2 5 b) = (goneM b, 0) := by
  have hs := len_sectors (len := (b.length : Int)) (by omega)
  have hg : alGive (layM b).al (Ptr.of 2 5 b).span = (freeAl, 0) := give_al hs
  rw [poKill, if_neg (by rw [of_right h]; simp), if_pos (show (Ptr.of 2 5 b).birth = (layM b).epoch from rfl), hg]
  rfl
theorem kill_again {b : BL} (h : 1 ≤ b.length ∧ b.length ≤ 5000) : poKill (goneM b) (Ptr.of 2 5 b) = (goneM b, 13) := by
  have hs := len_sectors (len := (b.length : Int)) (by omega)
  have hg : alGive (goneM b).al (Ptr.of 2 5 b).span = (freeAl, 13) := again_al hs
  rw [poKill, if_neg (by rw [of_right h]; simp), if_pos (show (Ptr.of 2 5 b).birth = (goneM b).epoch from rfl), hg]
  rfl
def elderM (b : BL) : PoM := { layM b with epoch := 6, killed := [Ptr.of 2 5 b] }
theorem kill_elder {b : BL} (h : 1 ≤ b.length ∧ b.length ≤ 5000) : poKill { layM b with epoch := 6 } (Ptr.of 2 5 b) = (elderM b, 0) := by
  rw [poKill, if_neg (by rw [of_right h]; simp), if_neg (by simp [Ptr.of])]
  rfl
theorem kill_none (m : PoM) : poKill m Ptr.none = (m, 2) := by
  rw [poKill, if_pos (by rfl)]
end Go.Proofs.Ytpcojkbljgpecaa
