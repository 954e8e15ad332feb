/- Models: a pool of blocks. -/
import Derived.Test.YtpcojkbljgpecaaM5
import Derived.Test.YtpcojkbljgpecaaM6
namespace Go.Proofs.Ytpcojkbljgpecaa
open Go
structure PoM where
  di : DiM
  al : AlM
  epoch : Int
  spare : Bool
  killed : List Ptr
structure PoG where
  d : Nat
  dg : DiG
  a : Nat
  ag : AlG
  ko : Option Addr
  kc : Nat
def poKs (g : PoG) (m : PoM) : Value := .slice g.ko m.killed.length g.kc
def poCells (g : PoG) (m : PoM) : Array Value := #[.pointer (some ⟨g.d, 0, none⟩), .pointer (some ⟨g.a, 0, none⟩), .int .i64 m.epoch, .bool m.spare, poKs g m]
abbrev poE (p : Nat) (g : PoG) (m : PoM) : List Asn := blk p (poCells g m) 40 :: oSl (poKs g m) 30 36 m.killed.length (m.killed.flatMap Ptr.l) :: (diE g.d g.dg m.di ++ alE g.a g.ag m.al)
abbrev poD (g : PoG) (m : PoM) : List Asn := [dS g.ag.fo g.ag.fc m.al.free]
structure PoM.ok (g : PoG) (m : PoM) : Prop where
  di : m.di.ok
  al : m.al.ok
  ag : g.ag.ok m.al
  some : m.al.lo < m.al.hi
  kl : m.killed.length ≤ 100000
def Ptr.span (p : Ptr) : Sp := ⟨p.pos, p.pos + sectors p.len⟩
def poKill (m : PoM) (p : Ptr) : PoM × Int :=
  if p.right = false then (m, 2)
  else if p.birth = m.epoch then ({ m with al := (alGive m.al p.span).1 }, (alGive m.al p.span).2)
  else ({ m with killed := m.killed ++ [p] }, 0)
def poLay (m : PoM) (b : BL) : PoM × Ptr × Int :=
  if sectors b.length = 0 ∨ (Ptr.bare 2 m.epoch b.length).right = false then (m, Ptr.none, 2)
  else if (alTake m.al (sectors b.length) m.spare).2.2 ≠ 0 then ({ m with al := (alTake m.al (sectors b.length) m.spare).1 }, Ptr.none, (alTake m.al (sectors b.length) m.spare).2.2)
  else if (blkWrite m.di (alTake m.al (sectors b.length) m.spare).2.1 m.epoch b).2.2 ≠ 0 then
    ({ m with di := (blkWrite m.di (alTake m.al (sectors b.length) m.spare).2.1 m.epoch b).1, al := (alGive (alTake m.al (sectors b.length) m.spare).1 ⟨(alTake m.al (sectors b.length) m.spare).2.1, (alTake m.al (sectors b.length) m.spare).2.1 + sectors b.length⟩).1 }, (blkWrite m.di (alTake m.al (sectors b.length) m.spare).2.1 m.epoch b).2)
  else ({ m with di := (blkWrite m.di (alTake m.al (sectors b.length) m.spare).2.1 m.epoch b).1, al := (alTake m.al (sectors b.length) m.spare).1 }, (blkWrite m.di (alTake m.al (sectors b.length) m.spare).2.1 m.epoch b).2)
theorem poLay_take (m : PoM) (b : BL) (h : ¬ (sectors (b.length : Int) = 0 ∨ (Ptr.bare 2 m.epoch b.length).right = false)) : poLay m b =
    if (alTake m.al (sectors b.length) m.spare).2.2 ≠ 0 then ({ m with al := (alTake m.al (sectors b.length) m.spare).1 }, Ptr.none, (alTake m.al (sectors b.length) m.spare).2.2)
    else if (blkWrite m.di (alTake m.al (sectors b.length) m.spare).2.1 m.epoch b).2.2 ≠ 0 then
      ({ m with di := (blkWrite m.di (alTake m.al (sectors b.length) m.spare).2.1 m.epoch b).1, al := (alGive (alTake m.al (sectors b.length) m.spare).1 ⟨(alTake m.al (sectors b.length) m.spare).2.1, (alTake m.al (sectors b.length) m.spare).2.1 + sectors b.length⟩).1 }, (blkWrite m.di (alTake m.al (sectors b.length) m.spare).2.1 m.epoch b).2)
    else ({ m with di := (blkWrite m.di (alTake m.al (sectors b.length) m.spare).2.1 m.epoch b).1, al := (alTake m.al (sectors b.length) m.spare).1 }, (blkWrite m.di (alTake m.al (sectors b.length) m.spare).2.1 m.epoch b).2) := by
  rw [poLay, if_neg h]
theorem alTake_waits (m : AlM) (n : Int) (sp : Bool) : (alTake m n sp).1.waits = m.waits := by
  unfold alTake
  repeat' split
  all_goals rfl
theorem alTake_gok {g : AlG} {m : AlM} {n : Int} {sp : Bool} {fo : Option Addr} {fc : Nat} (h : g.ok m) : AlG.ok { g with fo := fo, fc := fc } (alTake m n sp).1 := by
  intro hh
  rw [alTake_waits]
  exact h hh
theorem alGive_gok {g : AlG} {m : AlM} {s : Sp} {fo : Option Addr} {fc : Nat} (h : g.ok m) : AlG.ok { g with fo := fo, fc := fc } (alGive m s).1 := by
  intro hh
  have hw : (alGive m s).1.waits = m.waits := by
    unfold alGive
    split <;> rfl
  rw [hw]
  exact h hh
theorem alTake_range {m : AlM} (h : valid m.free = true) (n : Int) (sp : Bool) : 0 ≤ (alTake m n sp).2.1 ∧ (alTake m n sp).2.1 ≤ 1099511627776 := by
  have := spFind_le (n := n) h
  unfold alTake
  repeat' split
  all_goals simp only
  all_goals omega
theorem alE_of {a : Nat} {g : AlG} {m m1 : AlM} {fo : Option Addr} {fc : Nat} (hw : m1.waits = m.waits) : alE a { g with fo := fo, fc := fc } m1 = [blk a (alCells { g with fo := fo, fc := fc } m1) 71, mpA g.mb (alMap g m), oSl (alW g m) 49 2 m.waits.length (m.waits.flatMap Sp.l)] := by
  unfold alE alMap alW
  rw [hw]
theorem poE_of {p : Nat} {g : PoG} {m : PoM} {m1 : AlM} {fo : Option Addr} {fc : Nat} (hw : m1.waits = m.al.waits) : poE p { g with ag := { g.ag with fo := fo, fc := fc } } { m with al := m1 } = blk p (poCells g m) 40 :: oSl (poKs g m) 30 36 m.killed.length (m.killed.flatMap Ptr.l) :: (diE g.d g.dg m.di ++ [blk g.a (alCells { g.ag with fo := fo, fc := fc } m1) 71, mpA g.ag.mb (alMap g.ag m.al), oSl (alW g.ag m.al) 49 2 m.al.waits.length (m.al.waits.flatMap Sp.l)]) := by
  unfold poE
  simp only
  rw [alE_of hw]
  rfl
theorem spRemove_len (l : List Sp) (s : Sp) : (spRemove l s).length ≤ 3 * l.length := by
  unfold spRemove
  split
  · have h1 := remGo_le s (l.drop (firstAt l (s.a + 1)))
    rw [List.length_drop] at h1
    have h2 := spReplace_len l (firstAt l (s.a + 1)) (firstAt l (s.a + 1) + (remGo s (l.drop (firstAt l (s.a + 1)))).2) (remGo s (l.drop (firstAt l (s.a + 1)))).1 (by omega)
    omega
  · omega
theorem alUse_sum (m : AlM) : total m.free + alUse m + total (alWaiting m) = m.hi - m.lo := by unfold alUse; omega
end Go.Proofs.Ytpcojkbljgpecaa
