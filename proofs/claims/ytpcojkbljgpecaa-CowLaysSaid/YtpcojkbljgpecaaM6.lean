/- Models: sectors on a disk. -/
import Derived.Test.YtpcojkbljgpecaaM3
import Derived.Test.YtpcojkbljgpecaaE14
namespace Go.Proofs.Ytpcojkbljgpecaa
open Go
structure Sec where
  b : BL
  h : b.length = 512
deriving DecidableEq
def Sec.l (s : Sec) : List Value := u8s s.b
theorem Sec.len (s : Sec) : s.l.length = 512 := by simp [Sec.l, u8s, s.h]
def Sec.zero : Sec := ⟨List.replicate 512 0, List.length_replicate⟩
def Sec.of (l : BL) : Sec := ⟨l.take 512 ++ List.replicate (512 - min l.length 512) 0, by simp; omega⟩
def Sec.val (s : Sec) : Value := .agg s.l.toArray
structure DiM where
  lasts : List Sec
  waits : List (Int × Sec)
  fused : Bool
  left : Int
  gone : Bool
structure DiG where
  lb : Nat
  mb : Nat
def diSl (g : DiG) (m : DiM) : Value := .slice (some ⟨g.lb, 0, none⟩) m.lasts.length m.lasts.length
def diCells (g : DiG) (m : DiM) : Array Value := #[diSl g m, .map (some g.mb), .bool m.fused, .int .i64 m.left, .bool m.gone]
def diMap (m : DiM) : List (Int × Value) := m.waits.map fun p => (p.1, p.2.val)
abbrev diE (d : Nat) (g : DiG) (m : DiM) : List Asn := [blk d (diCells g m) 78, oSl (diSl g m) 98 512 m.lasts.length (m.lasts.flatMap Sec.l), mpA g.mb (diMap m)]
structure DiM.ok (m : DiM) : Prop where
  len : 1 ≤ m.lasts.length ∧ m.lasts.length ≤ 8192
  left : 0 ≤ m.left ∧ m.left ≤ 1000000000000
def diNew (n : Nat) : DiM := ⟨List.replicate n Sec.zero, [], false, 0, false⟩
def diCheck (m : DiM) (i : Int) : Int := if i < 0 ∨ (m.lasts.length : Int) ≤ i then 2 else 0
def diGone (m : DiM) : Bool := m.gone || (m.fused && decide (m.left = 0))
def diSpend (m : DiM) : DiM × Int := if diGone m = true then ({ m with gone := true }, 17) else ({ m with gone := false, left := if m.fused = true then m.left - 1 else m.left }, 0)
def diBad (m : DiM) (i : Int) (b : BL) : Int := if diCheck m i ≠ 0 then diCheck m i else if 512 < b.length then 3 else 0
def sput : List (Int × Sec) → Int → Sec → List (Int × Sec)
  | [], k, v => [(k, v)]
  | p :: l, k, v => if k = p.1 then (k, v) :: l else p :: sput l k v
theorem diMap_put (l : List (Int × Sec)) (k : Int) (v : Sec) : mput (l.map fun p => (p.1, p.2.val)) k v.val = (sput l k v).map fun p => (p.1, p.2.val) := by
  induction l with
  | nil => rfl
  | cons p l ih =>
    simp only [List.map_cons, mput, sput]
    split
    · rfl
    · rw [ih]; rfl
def diWrite (m : DiM) (i : Int) (b : BL) : DiM × Int :=
  if diCheck m i ≠ 0 then (m, diCheck m i)
  else if 512 < b.length then (m, 3)
  else if (diSpend m).2 ≠ 0 then diSpend m
  else ({ (diSpend m).1 with waits := sput (diSpend m).1.waits i (Sec.of b) }, 0)
theorem diWrite_bad {m : DiM} {i : Int} {b : BL} {e : Int} (he : e = diBad m i b) (h : ¬ e = 0) : diWrite m i b = (m, e) := by
  subst he
  unfold diBad at h ⊢
  unfold diWrite
  split
  · rfl
  · rename_i h1
    rw [if_neg h1] at h
    split
    · rfl
    · rename_i h2
      rw [if_neg h2] at h; exact absurd rfl h
theorem diWrite_spend {m : DiM} {i : Int} {b : BL} (he : diBad m i b = 0) : (diSpend m).2 ≠ 0 ∧ diWrite m i b = ((diSpend m).1, (diSpend m).2) ∨ (diSpend m).2 = 0 ∧ diWrite m i b = ({ (diSpend m).1 with waits := sput (diSpend m).1.waits i (Sec.of b) }, 0) := by
  unfold diBad at he
  unfold diWrite
  split at he
  · rename_i h; exact absurd he h
  · rename_i h1
    split at he
    · cases he
    · rename_i h2
      rw [if_neg h1, if_neg h2]
      by_cases h3 : (diSpend m).2 = 0
      · right; exact ⟨h3, by rw [if_neg (by simpa using h3)]⟩
      · left; exact ⟨h3, by rw [if_pos h3]⟩
theorem sec_copy (b : BL) : Sec.zero.l.take 0 ++ (u8s b).take 512 ++ Sec.zero.l.drop (0 + min b.length 512) = (Sec.of b).l := by
  have h1 : Sec.zero.l = List.replicate 512 (.int .u8 0) := by
    simp only [Sec.zero, Sec.l, u8s, List.map_replicate]; rfl
  rw [h1, List.take_zero, List.nil_append, Nat.zero_add, List.drop_replicate]
  simp only [Sec.of, Sec.l, u8s, List.map_append, List.map_take, List.map_replicate]
  rfl
theorem diSpend_ok {m : DiM} (h : m.ok) : (diSpend m).1.ok := by
  obtain ⟨h1, h2⟩ := h
  unfold diSpend
  split
  · exact ⟨h1, h2⟩
  · rename_i hg
    refine ⟨h1, ?_⟩
    simp only
    split
    · rename_i hf
      have : m.left ≠ 0 := by
        intro e
        apply hg
        simp [diGone, hf, e]
      omega
    · exact h2
theorem diSpend_lasts (m : DiM) : (diSpend m).1.lasts = m.lasts ∧ (diSpend m).1.waits = m.waits := by
  unfold diSpend; split <;> exact ⟨rfl, rfl⟩
theorem diE_spend (d : Nat) (g : DiG) (m : DiM) : [blk d (diCells g (diSpend m).1) 78, oSl (diSl g m) 98 512 m.lasts.length (m.lasts.flatMap Sec.l), mpA g.mb (diMap m)] = diE d g (diSpend m).1 := by
  obtain ⟨h1, h2⟩ := diSpend_lasts m
  unfold diE diSl diMap
  rw [h1, h2]
theorem diE_put (d : Nat) (g : DiG) (m : DiM) (i : Int) (q : Sec) : diE d g { m with waits := sput m.waits i q } = [blk d (diCells g m) 78, oSl (diSl g m) 98 512 m.lasts.length (m.lasts.flatMap Sec.l), mpA g.mb (mput (diMap m) i q.val)] := by
  have h : diMap { m with waits := sput m.waits i q } = mput (diMap m) i q.val := (diMap_put m.waits i q).symm
  unfold diE
  rw [h]
  rfl
theorem diWrite_lasts (m : DiM) (i : Int) (b : BL) : (diWrite m i b).1.lasts = m.lasts := by
  unfold diWrite
  repeat' split
  all_goals first | rfl | exact (diSpend_lasts m).1
theorem diWrite_ok {m : DiM} (h : m.ok) (i : Int) (b : BL) : (diWrite m i b).1.ok := by
  have hs := diSpend_ok h
  unfold diWrite
  repeat' split
  all_goals first | exact h | exact hs | exact ⟨hs.1, hs.2⟩
def Ptr.bare (pos birth len : Int) : Ptr := ⟨pos, birth, len, 0, List.replicate 32 0, rfl⟩
def blkCheck (n : Nat) (p : Ptr) : Int := if p.right = false ∨ (n : Int) < p.pos + sectors p.len then 2 else 0
def chunk (b : BL) (i : Nat) : BL := (b.drop (i * 512)).take (min ((i + 1) * 512) b.length - i * 512)
def blkGo (m : DiM) (pos : Int) (b : BL) : Nat → Nat → DiM × Int
  | _, 0 => (m, 0)
  | i, k + 1 => if (diWrite m (pos + i) (chunk b i)).2 ≠ 0 then diWrite m (pos + i) (chunk b i) else blkGo (diWrite m (pos + i) (chunk b i)).1 pos b (i + 1) k
def blkWrite (m : DiM) (pos birth : Int) (b : BL) : DiM × Ptr × Int :=
  if blkCheck m.lasts.length (Ptr.bare pos birth b.length) ≠ 0 then (m, Ptr.none, blkCheck m.lasts.length (Ptr.bare pos birth b.length))
  else if (blkGo m pos b 0 (sectors b.length).toNat).2 ≠ 0 then ((blkGo m pos b 0 (sectors b.length).toNat).1, Ptr.none, (blkGo m pos b 0 (sectors b.length).toNat).2)
  else ((blkGo m pos b 0 (sectors b.length).toNat).1, Ptr.of pos birth b, 0)
theorem sectors_of {len : Int} (h : 0 < sectors len) : 1 ≤ len ∧ len ≤ 65536 ∧ sectors len = (len + 511) / 512 := by
  unfold sectors at h ⊢
  split at h
  · omega
  · rename_i h1
    rw [if_neg h1]; omega
theorem secs_zero (n : Nat) (z : Array Value) (hz : z = Sec.zero.l.toArray) : (madeCells z (n * 512)).toList = (List.replicate n Sec.zero).flatMap Sec.l := by
  subst hz
  have h1 : Sec.zero.l = List.replicate 512 (.int .u8 0) := by
    simp only [Sec.zero, Sec.l, u8s, List.map_replicate]; rfl
  rw [flatMap_replicate Sec.l Sec.zero (.int .u8 0) 512 h1]
  refine madeCells_const (fun i hi => ?_) (by simp [Sec.len]) _
  simp only [h1, List.getElem_toArray, List.getElem_replicate]
end Go.Proofs.Ytpcojkbljgpecaa
