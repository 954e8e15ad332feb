/- Models: which sectors are free. -/
import Derived.Test.YtpcojkbljgpecaaM4
import Derived.Test.YtpcojkbljgpecaaE13
namespace Go.Proofs.Ytpcojkbljgpecaa
open Go
structure AlM where
  lo : Int
  hi : Int
  reserve : Int
  free : List Sp
  waits : List Sp
  was : List Sp
/-- Where it lies. -/
structure AlG where
  mb : Nat
  vo : Option Addr
  vc : Nat
  has : Bool
  fo : Option Addr
  fc : Nat
  wo : Option Addr
  wc : Nat
def alCells (g : AlG) (m : AlM) : Array Value := #[.int .i64 m.lo, .int .i64 m.hi, .bool true, .int .i64 m.reserve, .slice g.fo m.free.length g.fc, .map (some g.mb), .slice g.wo m.was.length g.wc]
def alW (g : AlG) (m : AlM) : Value := .slice g.vo m.waits.length g.vc
def alMap (g : AlG) (m : AlM) : List (Int × Value) := if g.has then [(1, alW g m)] else []
abbrev alE (a : Nat) (g : AlG) (m : AlM) : List Asn := [blk a (alCells g m) 71, mpA g.mb (alMap g m), oSl (alW g m) 49 2 m.waits.length (m.waits.flatMap Sp.l)]
abbrev alD (g : AlG) (m : AlM) : List Asn := [dS g.fo g.fc m.free, dS g.wo g.wc m.was]
/-- What the places say of what waits. -/
def AlG.ok (g : AlG) (m : AlM) : Prop := g.has = false → m.waits = [] ∧ g.vo = none ∧ g.vc = 0
structure AlM.ok (m : AlM) : Prop where
  lo : 0 ≤ m.lo ∧ m.lo ≤ m.hi ∧ m.hi ≤ 8192
  res : 0 ≤ m.reserve ∧ m.reserve ≤ 8192
  vf : valid m.free = true
  vw : valid m.was = true
  lf : m.free.length ≤ 100000
  lw : m.waits.length ≤ 100000
  lz : m.was.length ≤ 100000
def spFold (l : List Sp) : List Sp := l.foldl spAdd []
theorem spReplace_len (l : List Sp) (a b : Nat) (ins : List Sp) (h : a ≤ b) : (spReplace l a b ins).length ≤ l.length + ins.length := by
  simp only [spReplace, List.length_append, List.length_take, List.length_drop]; omega
theorem spAdd_len (l : List Sp) (s : Sp) : (spAdd l s).length ≤ l.length + 1 := by
  unfold spAdd
  split
  · exact spReplace_len _ _ _ _ (by omega)
  · omega
theorem spFold_len' : ∀ (l acc : List Sp), (l.foldl spAdd acc).length ≤ acc.length + l.length
  | [], acc => by simp
  | s :: l, acc => by
    have h1 := spFold_len' l (spAdd acc s)
    have h2 := spAdd_len acc s
    simp only [List.foldl_cons, List.length_cons]; omega
theorem spFold_len (l : List Sp) : (spFold l).length ≤ l.length := by
  have := spFold_len' l []
  unfold spFold
  simpa using this
def alWaiting (m : AlM) : List Sp := spFold m.waits
def alCheck (m : AlM) (s : Sp) : Int := if s.a < m.lo ∨ s.b ≤ s.a ∨ m.hi < s.b then 2 else 0
def alUsed (m : AlM) (s : Sp) : Int := if alCheck m s = 0 then (if spMeets m.free s = true ∨ spMeets (alWaiting m) s = true then 13 else 0) else alCheck m s
theorem sum_range : ∀ (l : List Sp), (∀ s ∈ l, 0 ≤ s.b - s.a ∧ s.b - s.a ≤ 1099511627776) → 0 ≤ (l.map fun s => s.b - s.a).sum ∧ (l.map fun s => s.b - s.a).sum ≤ (l.length : Int) * 1099511627776
  | [], _ => by simp
  | s :: l, h => by
    have h1 := sum_range l (fun x hx => h x (List.mem_cons_of_mem _ hx))
    have h2 := h s List.mem_cons_self
    simp only [List.map_cons, List.sum_cons, List.length_cons]
    push_cast
    omega
theorem total_range (l : List Sp) : 0 ≤ total l ∧ total l ≤ (l.length : Int) * 1099511627776 := by
  unfold total
  split
  · rename_i h
    exact sum_range l (fun s hs => by
      obtain ⟨i, hi, rfl⟩ := List.getElem_of_mem hs
      have := valid_get h i hi
      omega)
  · omega
def alTake (m : AlM) (n : Int) (spare : Bool) : AlM × Int × Int :=
  if n < 1 then (m, 0, 2) else if spFind m.free n < 0 ∨ (spare = false ∧ total m.free - n < m.reserve) then (m, 0, 15) else ({ m with free := spRemove m.free ⟨spFind m.free n, spFind m.free n + n⟩ }, spFind m.free n, 0)
def alGive (m : AlM) (s : Sp) : AlM × Int := if alUsed m s = 0 then ({ m with free := spAdd m.free s }, 0) else (m, alUsed m s)
def alLater (m : AlM) (s : Sp) : AlM × Int := if alUsed m s = 0 then ({ m with waits := m.waits ++ [s] }, 0) else (m, alUsed m s)
theorem spFind_le {l : List Sp} {n : Int} (h : valid l = true) : -1 ≤ spFind l n ∧ spFind l n ≤ 1099511627776 := by
  unfold spFind
  split
  · omega
  · split
    · rename_i s hs
      obtain ⟨i, hi, rfl⟩ := List.getElem_of_mem (List.mem_of_find?_eq_some hs)
      have := valid_get h i hi
      omega
    · omega
theorem alMap_get {g : AlG} {m : AlM} (h : g.ok m) : (mget (alMap g m) 1).getD (.slice none 0 0) = alW g m := by
  unfold alMap
  cases hb : g.has
  · obtain ⟨h1, h2, h3⟩ := h hb
    simp [mget, alW, h1, h2, h3]
  · simp [mget]
theorem alMap_put (g : AlG) (m : AlM) (v : Value) : mput (alMap g m) 1 v = [(1, v)] := by
  unfold alMap
  cases g.has <;> simp [mput]
def alUse (m : AlM) : Int := m.hi - m.lo - total m.free - total (alWaiting m)
end Go.Proofs.Ytpcojkbljgpecaa
