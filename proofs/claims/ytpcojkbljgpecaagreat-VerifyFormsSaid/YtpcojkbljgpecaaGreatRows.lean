/-
  No cell of these rows narrows 'for every input' (looked for: loops, veiled, ifaces, maps, wideKeys, modest, calm, conditions, laid).
  DERIVED. THE GIVEN ROWS OF THIS SEAT. 16 by the template 'for every input the law returns true; each argument reads behind the call as it read before'; 0 by the template 'total and deterministic' (their statements: YtpcojkbljgpecaaGreatTotals.lean).
  GIVEN WITH THE SEED: the statements are not yours to turn. If you find one false, say at which input.
  Laid BY PROGRAM, IN A SANDBOX (cutbox-rows.mjs): the forced cells as the released guide's own fill.sh prints them over the translation 74950b7ed468ee97… (all of the seat's roots in one cut). By AI agents, Wed Nov 11 2026. No macro, syntax, notation, axiom, sorry.
-/
import Derived.Test.YtpcojkbljgpecaaGreatChecked
import GoSem.Claim
import GoSem.ClaimJoined
import GoSem.ClaimMapViews
import Derived.JoinedTies
import Derived.KernelRfl
namespace Go.Proofs.YtpcojkbljgpecaaGreat
/- THE CELL 'sum', in the pinned program and in every row, IS THE sha256 OF THE DUMP (.gsa) THAT YtpcojkbljgpecaaGreatProg.lean LOADS. Nothing in Lean hashes anything: it is a label: what it is worth is what the hold of that sum in a sandbox is worth. -/
noncomputable def Tryz.pinned : Pinned := { name := "ytpcojkbljgpecaagreat", sum := "74950b7ed468ee978080a70ffe08fb2de0c8c44c035b83884d28c1d4454665d0", checked := Tryz.checked }
namespace Rows
def none {H : Type} : Left H := { results := [], args := [] }

/-- 'shadowboxlaw20.VerifyForms': WHATEVER THE INPUT: true; the input reads as it did. -/
def verifyFormsSpec : ChangeSpec := { name := "verifyForms", fn := fun _ => fun
  | [d1, d2] => { results := [.lit (.bool true)], args := [d1, d2] }
  | _ => none }
def verifyFormsRow : OpenClaim := { program := "ytpcojkbljgpecaagreat", sum := "74950b7ed468ee978080a70ffe08fb2de0c8c44c035b83884d28c1d4454665d0", func := "shadowbox/shadowboxlaw20.VerifyForms", spec := "verifyForms", inPlace := ["internal/bytealg.Compare"], unfollowed := true, recurses := true, plainKeys := false, apart := false }
def VerifyFormsSaid : Prop := verifyFormsRow.holds Tryz.pinned (OpenSpec.ofChange verifyFormsSpec)

/-- ITS FALSE NEIGHBOUR: 'it returns false'. Refute it at one input. -/
def verifyFormsWrong : ChangeSpec := { name := "verifyForms", fn := fun _ => fun
  | [d1, d2] => { results := [.lit (.bool false)], args := [d1, d2] }
  | _ => none }
def VerifyFormsWrongFalsely : Prop := verifyFormsRow.holds Tryz.pinned (OpenSpec.ofChange verifyFormsWrong)

/-- 'shadowboxlaw18.CowElder': WHATEVER THE INPUT: true; the input reads as it did. -/
def cowElderSpec : ChangeSpec := { name := "cowElder", fn := fun _ => fun
  | [d] => { results := [.lit (.bool true)], args := [d] }
  | _ => none }
def cowElderRow : OpenClaim := { program := "ytpcojkbljgpecaagreat", sum := "74950b7ed468ee978080a70ffe08fb2de0c8c44c035b83884d28c1d4454665d0", func := "shadowbox/shadowboxlaw18.CowElder", spec := "cowElder", inPlace := ["internal/bytealg.Compare"], unfollowed := true, recurses := true, plainKeys := false, apart := false }
def CowElderSaid : Prop := cowElderRow.holds Tryz.pinned (OpenSpec.ofChange cowElderSpec)

/-- ITS FALSE NEIGHBOUR: 'it returns false'. Refute it at one input. -/
def cowElderWrong : ChangeSpec := { name := "cowElder", fn := fun _ => fun
  | [d] => { results := [.lit (.bool false)], args := [d] }
  | _ => none }
def CowElderWrongFalsely : Prop := cowElderRow.holds Tryz.pinned (OpenSpec.ofChange cowElderWrong)

/-- 'shadowboxlaw18.CowWrong': WHATEVER THE INPUT: true; the input reads as it did. -/
def cowWrongSpec : ChangeSpec := { name := "cowWrong", fn := fun _ => fun
  | [d1, d2, d3] => { results := [.lit (.bool true)], args := [d1, d2, d3] }
  | _ => none }
def cowWrongRow : OpenClaim := { program := "ytpcojkbljgpecaagreat", sum := "74950b7ed468ee978080a70ffe08fb2de0c8c44c035b83884d28c1d4454665d0", func := "shadowbox/shadowboxlaw18.CowWrong", spec := "cowWrong", inPlace := ["internal/bytealg.Compare"], unfollowed := true, recurses := true, plainKeys := false, apart := false }
def CowWrongSaid : Prop := cowWrongRow.holds Tryz.pinned (OpenSpec.ofChange cowWrongSpec)

/-- ITS FALSE NEIGHBOUR: 'it returns false'. Refute it at one input. -/
def cowWrongWrong : ChangeSpec := { name := "cowWrong", fn := fun _ => fun
  | [d1, d2, d3] => { results := [.lit (.bool false)], args := [d1, d2, d3] }
  | _ => none }
def CowWrongWrongFalsely : Prop := cowWrongRow.holds Tryz.pinned (OpenSpec.ofChange cowWrongWrong)

/-- 'shadowboxlaw20.VerifyWalks': WHATEVER THE INPUT: true; the input reads as it did. -/
def verifyWalksSpec : ChangeSpec := { name := "verifyWalks", fn := fun _ => fun
  | [d] => { results := [.lit (.bool true)], args := [d] }
  | _ => none }
def verifyWalksRow : OpenClaim := { program := "ytpcojkbljgpecaagreat", sum := "74950b7ed468ee978080a70ffe08fb2de0c8c44c035b83884d28c1d4454665d0", func := "shadowbox/shadowboxlaw20.VerifyWalks", spec := "verifyWalks", inPlace := ["internal/bytealg.Compare"], unfollowed := true, recurses := true, plainKeys := false, apart := false }
def VerifyWalksSaid : Prop := verifyWalksRow.holds Tryz.pinned (OpenSpec.ofChange verifyWalksSpec)

/-- ITS FALSE NEIGHBOUR: 'it returns false'. Refute it at one input. -/
def verifyWalksWrong : ChangeSpec := { name := "verifyWalks", fn := fun _ => fun
  | [d] => { results := [.lit (.bool false)], args := [d] }
  | _ => none }
def VerifyWalksWrongFalsely : Prop := verifyWalksRow.holds Tryz.pinned (OpenSpec.ofChange verifyWalksWrong)

/-- 'shadowboxlaw19.CursorWalks': WHATEVER THE INPUT: true; the input reads as it did. -/
def cursorWalksSpec : ChangeSpec := { name := "cursorWalks", fn := fun _ => fun
  | [d1, d2] => { results := [.lit (.bool true)], args := [d1, d2] }
  | _ => none }
def cursorWalksRow : OpenClaim := { program := "ytpcojkbljgpecaagreat", sum := "74950b7ed468ee978080a70ffe08fb2de0c8c44c035b83884d28c1d4454665d0", func := "shadowbox/shadowboxlaw19.CursorWalks", spec := "cursorWalks", inPlace := ["internal/bytealg.Compare"], unfollowed := true, recurses := true, plainKeys := false, apart := false }
def CursorWalksSaid : Prop := cursorWalksRow.holds Tryz.pinned (OpenSpec.ofChange cursorWalksSpec)

/-- ITS FALSE NEIGHBOUR: 'it returns false'. Refute it at one input. -/
def cursorWalksWrong : ChangeSpec := { name := "cursorWalks", fn := fun _ => fun
  | [d1, d2] => { results := [.lit (.bool false)], args := [d1, d2] }
  | _ => none }
def CursorWalksWrongFalsely : Prop := cursorWalksRow.holds Tryz.pinned (OpenSpec.ofChange cursorWalksWrong)

/-- 'shadowboxlaw19.CursorBack': WHATEVER THE INPUT: true; the input reads as it did. -/
def cursorBackSpec : ChangeSpec := { name := "cursorBack", fn := fun _ => fun
  | [d] => { results := [.lit (.bool true)], args := [d] }
  | _ => none }
def cursorBackRow : OpenClaim := { program := "ytpcojkbljgpecaagreat", sum := "74950b7ed468ee978080a70ffe08fb2de0c8c44c035b83884d28c1d4454665d0", func := "shadowbox/shadowboxlaw19.CursorBack", spec := "cursorBack", inPlace := ["internal/bytealg.Compare"], unfollowed := true, recurses := true, plainKeys := false, apart := false }
def CursorBackSaid : Prop := cursorBackRow.holds Tryz.pinned (OpenSpec.ofChange cursorBackSpec)

/-- ITS FALSE NEIGHBOUR: 'it returns false'. Refute it at one input. -/
def cursorBackWrong : ChangeSpec := { name := "cursorBack", fn := fun _ => fun
  | [d] => { results := [.lit (.bool false)], args := [d] }
  | _ => none }
def CursorBackWrongFalsely : Prop := cursorBackRow.holds Tryz.pinned (OpenSpec.ofChange cursorBackWrong)

/-- 'shadowboxlaw19.CursorRanges': WHATEVER THE INPUT: true; the input reads as it did. -/
def cursorRangesSpec : ChangeSpec := { name := "cursorRanges", fn := fun _ => fun
  | [d1, d2, d3] => { results := [.lit (.bool true)], args := [d1, d2, d3] }
  | _ => none }
def cursorRangesRow : OpenClaim := { program := "ytpcojkbljgpecaagreat", sum := "74950b7ed468ee978080a70ffe08fb2de0c8c44c035b83884d28c1d4454665d0", func := "shadowbox/shadowboxlaw19.CursorRanges", spec := "cursorRanges", inPlace := ["internal/bytealg.Compare"], unfollowed := true, recurses := true, plainKeys := false, apart := false }
def CursorRangesSaid : Prop := cursorRangesRow.holds Tryz.pinned (OpenSpec.ofChange cursorRangesSpec)

/-- ITS FALSE NEIGHBOUR: 'it returns false'. Refute it at one input. -/
def cursorRangesWrong : ChangeSpec := { name := "cursorRanges", fn := fun _ => fun
  | [d1, d2, d3] => { results := [.lit (.bool false)], args := [d1, d2, d3] }
  | _ => none }
def CursorRangesWrongFalsely : Prop := cursorRangesRow.holds Tryz.pinned (OpenSpec.ofChange cursorRangesWrong)

/-- 'shadowboxlaw22.CatalogNames': WHATEVER THE INPUT: true; the input reads as it did. -/
def catalogNamesSpec : ChangeSpec := { name := "catalogNames", fn := fun _ => fun
  | [d1, d2] => { results := [.lit (.bool true)], args := [d1, d2] }
  | _ => none }
def catalogNamesRow : OpenClaim := { program := "ytpcojkbljgpecaagreat", sum := "74950b7ed468ee978080a70ffe08fb2de0c8c44c035b83884d28c1d4454665d0", func := "shadowbox/shadowboxlaw22.CatalogNames", spec := "catalogNames", inPlace := ["internal/bytealg.Compare"], unfollowed := true, recurses := true, plainKeys := false, apart := false }
def CatalogNamesSaid : Prop := catalogNamesRow.holds Tryz.pinned (OpenSpec.ofChange catalogNamesSpec)

/-- ITS FALSE NEIGHBOUR: 'it returns false'. Refute it at one input. -/
def catalogNamesWrong : ChangeSpec := { name := "catalogNames", fn := fun _ => fun
  | [d1, d2] => { results := [.lit (.bool false)], args := [d1, d2] }
  | _ => none }
def CatalogNamesWrongFalsely : Prop := catalogNamesRow.holds Tryz.pinned (OpenSpec.ofChange catalogNamesWrong)

/-- 'shadowboxlaw21.DeadParts': WHATEVER THE INPUT: true; the input reads as it did. -/
def deadPartsSpec : ChangeSpec := { name := "deadParts", fn := fun _ => fun
  | [d1, d2] => { results := [.lit (.bool true)], args := [d1, d2] }
  | _ => none }
def deadPartsRow : OpenClaim := { program := "ytpcojkbljgpecaagreat", sum := "74950b7ed468ee978080a70ffe08fb2de0c8c44c035b83884d28c1d4454665d0", func := "shadowbox/shadowboxlaw21.DeadParts", spec := "deadParts", inPlace := ["internal/bytealg.Compare"], unfollowed := true, recurses := true, plainKeys := false, apart := false }
def DeadPartsSaid : Prop := deadPartsRow.holds Tryz.pinned (OpenSpec.ofChange deadPartsSpec)

/-- ITS FALSE NEIGHBOUR: 'it returns false'. Refute it at one input. -/
def deadPartsWrong : ChangeSpec := { name := "deadParts", fn := fun _ => fun
  | [d1, d2] => { results := [.lit (.bool false)], args := [d1, d2] }
  | _ => none }
def DeadPartsWrongFalsely : Prop := deadPartsRow.holds Tryz.pinned (OpenSpec.ofChange deadPartsWrong)

/-- 'shadowboxlaw23.TxgLabels': WHATEVER THE INPUT: true; the input reads as it did. -/
def txgLabelsSpec : ChangeSpec := { name := "txgLabels", fn := fun _ => fun
  | [d1, d2] => { results := [.lit (.bool true)], args := [d1, d2] }
  | _ => none }
def txgLabelsRow : OpenClaim := { program := "ytpcojkbljgpecaagreat", sum := "74950b7ed468ee978080a70ffe08fb2de0c8c44c035b83884d28c1d4454665d0", func := "shadowbox/shadowboxlaw23.TxgLabels", spec := "txgLabels", inPlace := ["internal/bytealg.Compare"], unfollowed := true, recurses := true, plainKeys := false, apart := false }
def TxgLabelsSaid : Prop := txgLabelsRow.holds Tryz.pinned (OpenSpec.ofChange txgLabelsSpec)

/-- ITS FALSE NEIGHBOUR: 'it returns false'. Refute it at one input. -/
def txgLabelsWrong : ChangeSpec := { name := "txgLabels", fn := fun _ => fun
  | [d1, d2] => { results := [.lit (.bool false)], args := [d1, d2] }
  | _ => none }
def TxgLabelsWrongFalsely : Prop := txgLabelsRow.holds Tryz.pinned (OpenSpec.ofChange txgLabelsWrong)

/-- 'shadowboxlaw22.CatalogPlays': WHATEVER THE INPUT: true; the input reads as it did. -/
def catalogPlaysSpec : ChangeSpec := { name := "catalogPlays", fn := fun _ => fun
  | [d] => { results := [.lit (.bool true)], args := [d] }
  | _ => none }
def catalogPlaysRow : OpenClaim := { program := "ytpcojkbljgpecaagreat", sum := "74950b7ed468ee978080a70ffe08fb2de0c8c44c035b83884d28c1d4454665d0", func := "shadowbox/shadowboxlaw22.CatalogPlays", spec := "catalogPlays", inPlace := ["internal/bytealg.Compare"], unfollowed := true, recurses := true, plainKeys := false, apart := false }
def CatalogPlaysSaid : Prop := catalogPlaysRow.holds Tryz.pinned (OpenSpec.ofChange catalogPlaysSpec)

/-- ITS FALSE NEIGHBOUR: 'it returns false'. Refute it at one input. -/
def catalogPlaysWrong : ChangeSpec := { name := "catalogPlays", fn := fun _ => fun
  | [d] => { results := [.lit (.bool false)], args := [d] }
  | _ => none }
def CatalogPlaysWrongFalsely : Prop := catalogPlaysRow.holds Tryz.pinned (OpenSpec.ofChange catalogPlaysWrong)

/-- 'shadowboxlaw23.TxgStates': WHATEVER THE INPUT: true; the input reads as it did. -/
def txgStatesSpec : ChangeSpec := { name := "txgStates", fn := fun _ => fun
  | [d] => { results := [.lit (.bool true)], args := [d] }
  | _ => none }
def txgStatesRow : OpenClaim := { program := "ytpcojkbljgpecaagreat", sum := "74950b7ed468ee978080a70ffe08fb2de0c8c44c035b83884d28c1d4454665d0", func := "shadowbox/shadowboxlaw23.TxgStates", spec := "txgStates", inPlace := ["internal/bytealg.Compare"], unfollowed := true, recurses := true, plainKeys := false, apart := false }
def TxgStatesSaid : Prop := txgStatesRow.holds Tryz.pinned (OpenSpec.ofChange txgStatesSpec)

/-- ITS FALSE NEIGHBOUR: 'it returns false'. Refute it at one input. -/
def txgStatesWrong : ChangeSpec := { name := "txgStates", fn := fun _ => fun
  | [d] => { results := [.lit (.bool false)], args := [d] }
  | _ => none }
def TxgStatesWrongFalsely : Prop := txgStatesRow.holds Tryz.pinned (OpenSpec.ofChange txgStatesWrong)

/-- 'shadowboxlaw23.TxgMeans': WHATEVER THE INPUT: true; the input reads as it did. -/
def txgMeansSpec : ChangeSpec := { name := "txgMeans", fn := fun _ => fun
  | [d] => { results := [.lit (.bool true)], args := [d] }
  | _ => none }
def txgMeansRow : OpenClaim := { program := "ytpcojkbljgpecaagreat", sum := "74950b7ed468ee978080a70ffe08fb2de0c8c44c035b83884d28c1d4454665d0", func := "shadowbox/shadowboxlaw23.TxgMeans", spec := "txgMeans", inPlace := ["internal/bytealg.Compare"], unfollowed := true, recurses := true, plainKeys := false, apart := false }
def TxgMeansSaid : Prop := txgMeansRow.holds Tryz.pinned (OpenSpec.ofChange txgMeansSpec)

/-- ITS FALSE NEIGHBOUR: 'it returns false'. Refute it at one input. -/
def txgMeansWrong : ChangeSpec := { name := "txgMeans", fn := fun _ => fun
  | [d] => { results := [.lit (.bool false)], args := [d] }
  | _ => none }
def TxgMeansWrongFalsely : Prop := txgMeansRow.holds Tryz.pinned (OpenSpec.ofChange txgMeansWrong)

/-- 'shadowboxlaw23.TxgMarks': WHATEVER THE INPUT: true; the input reads as it did. -/
def txgMarksSpec : ChangeSpec := { name := "txgMarks", fn := fun _ => fun
  | [d1, d2, d3] => { results := [.lit (.bool true)], args := [d1, d2, d3] }
  | _ => none }
def txgMarksRow : OpenClaim := { program := "ytpcojkbljgpecaagreat", sum := "74950b7ed468ee978080a70ffe08fb2de0c8c44c035b83884d28c1d4454665d0", func := "shadowbox/shadowboxlaw23.TxgMarks", spec := "txgMarks", inPlace := ["internal/bytealg.Compare"], unfollowed := true, recurses := true, plainKeys := false, apart := false }
def TxgMarksSaid : Prop := txgMarksRow.holds Tryz.pinned (OpenSpec.ofChange txgMarksSpec)

/-- ITS FALSE NEIGHBOUR: 'it returns false'. Refute it at one input. -/
def txgMarksWrong : ChangeSpec := { name := "txgMarks", fn := fun _ => fun
  | [d1, d2, d3] => { results := [.lit (.bool false)], args := [d1, d2, d3] }
  | _ => none }
def TxgMarksWrongFalsely : Prop := txgMarksRow.holds Tryz.pinned (OpenSpec.ofChange txgMarksWrong)

/-- 'shadowboxlaw23.TxgKeeps': WHATEVER THE INPUT: true; the input reads as it did. -/
def txgKeepsSpec : ChangeSpec := { name := "txgKeeps", fn := fun _ => fun
  | [d] => { results := [.lit (.bool true)], args := [d] }
  | _ => none }
def txgKeepsRow : OpenClaim := { program := "ytpcojkbljgpecaagreat", sum := "74950b7ed468ee978080a70ffe08fb2de0c8c44c035b83884d28c1d4454665d0", func := "shadowbox/shadowboxlaw23.TxgKeeps", spec := "txgKeeps", inPlace := ["internal/bytealg.Compare"], unfollowed := true, recurses := true, plainKeys := false, apart := false }
def TxgKeepsSaid : Prop := txgKeepsRow.holds Tryz.pinned (OpenSpec.ofChange txgKeepsSpec)

/-- ITS FALSE NEIGHBOUR: 'it returns false'. Refute it at one input. -/
def txgKeepsWrong : ChangeSpec := { name := "txgKeeps", fn := fun _ => fun
  | [d] => { results := [.lit (.bool false)], args := [d] }
  | _ => none }
def TxgKeepsWrongFalsely : Prop := txgKeepsRow.holds Tryz.pinned (OpenSpec.ofChange txgKeepsWrong)

/-- 'shadowboxlaw23.TxgCrash': WHATEVER THE INPUT: true; the input reads as it did. -/
def txgCrashSpec : ChangeSpec := { name := "txgCrash", fn := fun _ => fun
  | [d] => { results := [.lit (.bool true)], args := [d] }
  | _ => none }
def txgCrashRow : OpenClaim := { program := "ytpcojkbljgpecaagreat", sum := "74950b7ed468ee978080a70ffe08fb2de0c8c44c035b83884d28c1d4454665d0", func := "shadowbox/shadowboxlaw23.TxgCrash", spec := "txgCrash", inPlace := ["internal/bytealg.Compare"], unfollowed := true, recurses := true, plainKeys := false, apart := false }
def TxgCrashSaid : Prop := txgCrashRow.holds Tryz.pinned (OpenSpec.ofChange txgCrashSpec)

/-- ITS FALSE NEIGHBOUR: 'it returns false'. Refute it at one input. -/
def txgCrashWrong : ChangeSpec := { name := "txgCrash", fn := fun _ => fun
  | [d] => { results := [.lit (.bool false)], args := [d] }
  | _ => none }
def TxgCrashWrongFalsely : Prop := txgCrashRow.holds Tryz.pinned (OpenSpec.ofChange txgCrashWrong)

/- THE SECOND FORM. 'bulk': how many values and letters a reading holds, each counted each time it is reached (what is shared counts as often as it is met; a slice's spare places count too). A statement '..UptoSaid' is the law's where the arguments, and the package variables that the reading takes, are together of bulk at most 1048576: NARROWER than '..Said'. Prove '..Said' where nothing that the law and all that it calls make is longer than what came in: it says more and counts as full. Else prove '..UptoSaid'. A law counts once. -/
mutual
def uptoBulk {H : Type} : DataW H → Nat
  | .lit (.string bytes) => bytes.length + 1
  | .lit _ => 1
  | .nil => 1
  | .ptr d => uptoBulk d + 1
  | .slice elems spare => uptoBulkAll elems + uptoBulkAll spare + 1
  | .agg parts => uptoBulkAll parts + 1
  | .iface _ d => uptoBulk d + 1
  | .map entries => uptoBulkEntries entries + 1
  | .held _ => 1
def uptoBulkAll {H : Type} : List (DataW H) → Nat
  | [] => 0
  | d :: r => uptoBulk d + uptoBulkAll r
def uptoBulkEntries {H : Type} : List (Lit × DataW H) → Nat
  | [] => 0
  | x :: r => uptoBulkEntry x + uptoBulkEntries r
def uptoBulkEntry {H : Type} : Lit × DataW H → Nat
  | (.string bytes, d) => bytes.length + uptoBulk d + 1
  | (_, d) => uptoBulk d + 1
 end
def uptoSmall : (H : Type) → List (DataW H) → Bool := fun _ ds => decide (uptoBulkAll ds ≤ 1048576)
def OpenSpec.upto (s : _root_.Go.ChangeSpec) : _root_.Go.OpenSpec := { _root_.Go.OpenSpec.ofChange s with cond := some uptoSmall }

/-- 'shadowboxlaw20.VerifyForms', WHERE WHAT IT READS IS OF BULK AT MOST 1048576: true; the input reads as it did. -/
def verifyFormsUptoRow : OpenClaim := { program := "ytpcojkbljgpecaagreat", sum := "74950b7ed468ee978080a70ffe08fb2de0c8c44c035b83884d28c1d4454665d0", func := "shadowbox/shadowboxlaw20.VerifyForms", spec := "verifyForms", inPlace := ["internal/bytealg.Compare"], unfollowed := true, recurses := true, plainKeys := false, apart := false, narrowed := true }
def VerifyFormsUptoSaid : Prop := verifyFormsUptoRow.holds Tryz.pinned (OpenSpec.upto verifyFormsSpec)

/-- 'shadowboxlaw18.CowElder', WHERE WHAT IT READS IS OF BULK AT MOST 1048576: true; the input reads as it did. -/
def cowElderUptoRow : OpenClaim := { program := "ytpcojkbljgpecaagreat", sum := "74950b7ed468ee978080a70ffe08fb2de0c8c44c035b83884d28c1d4454665d0", func := "shadowbox/shadowboxlaw18.CowElder", spec := "cowElder", inPlace := ["internal/bytealg.Compare"], unfollowed := true, recurses := true, plainKeys := false, apart := false, narrowed := true }
def CowElderUptoSaid : Prop := cowElderUptoRow.holds Tryz.pinned (OpenSpec.upto cowElderSpec)

/-- 'shadowboxlaw18.CowWrong', WHERE WHAT IT READS IS OF BULK AT MOST 1048576: true; the input reads as it did. -/
def cowWrongUptoRow : OpenClaim := { program := "ytpcojkbljgpecaagreat", sum := "74950b7ed468ee978080a70ffe08fb2de0c8c44c035b83884d28c1d4454665d0", func := "shadowbox/shadowboxlaw18.CowWrong", spec := "cowWrong", inPlace := ["internal/bytealg.Compare"], unfollowed := true, recurses := true, plainKeys := false, apart := false, narrowed := true }
def CowWrongUptoSaid : Prop := cowWrongUptoRow.holds Tryz.pinned (OpenSpec.upto cowWrongSpec)

/-- 'shadowboxlaw20.VerifyWalks', WHERE WHAT IT READS IS OF BULK AT MOST 1048576: true; the input reads as it did. -/
def verifyWalksUptoRow : OpenClaim := { program := "ytpcojkbljgpecaagreat", sum := "74950b7ed468ee978080a70ffe08fb2de0c8c44c035b83884d28c1d4454665d0", func := "shadowbox/shadowboxlaw20.VerifyWalks", spec := "verifyWalks", inPlace := ["internal/bytealg.Compare"], unfollowed := true, recurses := true, plainKeys := false, apart := false, narrowed := true }
def VerifyWalksUptoSaid : Prop := verifyWalksUptoRow.holds Tryz.pinned (OpenSpec.upto verifyWalksSpec)

/-- 'shadowboxlaw19.CursorWalks', WHERE WHAT IT READS IS OF BULK AT MOST 1048576: true; the input reads as it did. -/
def cursorWalksUptoRow : OpenClaim := { program := "ytpcojkbljgpecaagreat", sum := "74950b7ed468ee978080a70ffe08fb2de0c8c44c035b83884d28c1d4454665d0", func := "shadowbox/shadowboxlaw19.CursorWalks", spec := "cursorWalks", inPlace := ["internal/bytealg.Compare"], unfollowed := true, recurses := true, plainKeys := false, apart := false, narrowed := true }
def CursorWalksUptoSaid : Prop := cursorWalksUptoRow.holds Tryz.pinned (OpenSpec.upto cursorWalksSpec)

/-- 'shadowboxlaw19.CursorBack', WHERE WHAT IT READS IS OF BULK AT MOST 1048576: true; the input reads as it did. -/
def cursorBackUptoRow : OpenClaim := { program := "ytpcojkbljgpecaagreat", sum := "74950b7ed468ee978080a70ffe08fb2de0c8c44c035b83884d28c1d4454665d0", func := "shadowbox/shadowboxlaw19.CursorBack", spec := "cursorBack", inPlace := ["internal/bytealg.Compare"], unfollowed := true, recurses := true, plainKeys := false, apart := false, narrowed := true }
def CursorBackUptoSaid : Prop := cursorBackUptoRow.holds Tryz.pinned (OpenSpec.upto cursorBackSpec)

/-- 'shadowboxlaw19.CursorRanges', WHERE WHAT IT READS IS OF BULK AT MOST 1048576: true; the input reads as it did. -/
def cursorRangesUptoRow : OpenClaim := { program := "ytpcojkbljgpecaagreat", sum := "74950b7ed468ee978080a70ffe08fb2de0c8c44c035b83884d28c1d4454665d0", func := "shadowbox/shadowboxlaw19.CursorRanges", spec := "cursorRanges", inPlace := ["internal/bytealg.Compare"], unfollowed := true, recurses := true, plainKeys := false, apart := false, narrowed := true }
def CursorRangesUptoSaid : Prop := cursorRangesUptoRow.holds Tryz.pinned (OpenSpec.upto cursorRangesSpec)

/-- 'shadowboxlaw22.CatalogNames', WHERE WHAT IT READS IS OF BULK AT MOST 1048576: true; the input reads as it did. -/
def catalogNamesUptoRow : OpenClaim := { program := "ytpcojkbljgpecaagreat", sum := "74950b7ed468ee978080a70ffe08fb2de0c8c44c035b83884d28c1d4454665d0", func := "shadowbox/shadowboxlaw22.CatalogNames", spec := "catalogNames", inPlace := ["internal/bytealg.Compare"], unfollowed := true, recurses := true, plainKeys := false, apart := false, narrowed := true }
def CatalogNamesUptoSaid : Prop := catalogNamesUptoRow.holds Tryz.pinned (OpenSpec.upto catalogNamesSpec)

/-- 'shadowboxlaw21.DeadParts', WHERE WHAT IT READS IS OF BULK AT MOST 1048576: true; the input reads as it did. -/
def deadPartsUptoRow : OpenClaim := { program := "ytpcojkbljgpecaagreat", sum := "74950b7ed468ee978080a70ffe08fb2de0c8c44c035b83884d28c1d4454665d0", func := "shadowbox/shadowboxlaw21.DeadParts", spec := "deadParts", inPlace := ["internal/bytealg.Compare"], unfollowed := true, recurses := true, plainKeys := false, apart := false, narrowed := true }
def DeadPartsUptoSaid : Prop := deadPartsUptoRow.holds Tryz.pinned (OpenSpec.upto deadPartsSpec)

/-- 'shadowboxlaw23.TxgLabels', WHERE WHAT IT READS IS OF BULK AT MOST 1048576: true; the input reads as it did. -/
def txgLabelsUptoRow : OpenClaim := { program := "ytpcojkbljgpecaagreat", sum := "74950b7ed468ee978080a70ffe08fb2de0c8c44c035b83884d28c1d4454665d0", func := "shadowbox/shadowboxlaw23.TxgLabels", spec := "txgLabels", inPlace := ["internal/bytealg.Compare"], unfollowed := true, recurses := true, plainKeys := false, apart := false, narrowed := true }
def TxgLabelsUptoSaid : Prop := txgLabelsUptoRow.holds Tryz.pinned (OpenSpec.upto txgLabelsSpec)

/-- 'shadowboxlaw22.CatalogPlays', WHERE WHAT IT READS IS OF BULK AT MOST 1048576: true; the input reads as it did. -/
def catalogPlaysUptoRow : OpenClaim := { program := "ytpcojkbljgpecaagreat", sum := "74950b7ed468ee978080a70ffe08fb2de0c8c44c035b83884d28c1d4454665d0", func := "shadowbox/shadowboxlaw22.CatalogPlays", spec := "catalogPlays", inPlace := ["internal/bytealg.Compare"], unfollowed := true, recurses := true, plainKeys := false, apart := false, narrowed := true }
def CatalogPlaysUptoSaid : Prop := catalogPlaysUptoRow.holds Tryz.pinned (OpenSpec.upto catalogPlaysSpec)

/-- 'shadowboxlaw23.TxgStates', WHERE WHAT IT READS IS OF BULK AT MOST 1048576: true; the input reads as it did. -/
def txgStatesUptoRow : OpenClaim := { program := "ytpcojkbljgpecaagreat", sum := "74950b7ed468ee978080a70ffe08fb2de0c8c44c035b83884d28c1d4454665d0", func := "shadowbox/shadowboxlaw23.TxgStates", spec := "txgStates", inPlace := ["internal/bytealg.Compare"], unfollowed := true, recurses := true, plainKeys := false, apart := false, narrowed := true }
def TxgStatesUptoSaid : Prop := txgStatesUptoRow.holds Tryz.pinned (OpenSpec.upto txgStatesSpec)

/-- 'shadowboxlaw23.TxgMeans', WHERE WHAT IT READS IS OF BULK AT MOST 1048576: true; the input reads as it did. -/
def txgMeansUptoRow : OpenClaim := { program := "ytpcojkbljgpecaagreat", sum := "74950b7ed468ee978080a70ffe08fb2de0c8c44c035b83884d28c1d4454665d0", func := "shadowbox/shadowboxlaw23.TxgMeans", spec := "txgMeans", inPlace := ["internal/bytealg.Compare"], unfollowed := true, recurses := true, plainKeys := false, apart := false, narrowed := true }
def TxgMeansUptoSaid : Prop := txgMeansUptoRow.holds Tryz.pinned (OpenSpec.upto txgMeansSpec)

/-- 'shadowboxlaw23.TxgMarks', WHERE WHAT IT READS IS OF BULK AT MOST 1048576: true; the input reads as it did. -/
def txgMarksUptoRow : OpenClaim := { program := "ytpcojkbljgpecaagreat", sum := "74950b7ed468ee978080a70ffe08fb2de0c8c44c035b83884d28c1d4454665d0", func := "shadowbox/shadowboxlaw23.TxgMarks", spec := "txgMarks", inPlace := ["internal/bytealg.Compare"], unfollowed := true, recurses := true, plainKeys := false, apart := false, narrowed := true }
def TxgMarksUptoSaid : Prop := txgMarksUptoRow.holds Tryz.pinned (OpenSpec.upto txgMarksSpec)

/-- 'shadowboxlaw23.TxgKeeps', WHERE WHAT IT READS IS OF BULK AT MOST 1048576: true; the input reads as it did. -/
def txgKeepsUptoRow : OpenClaim := { program := "ytpcojkbljgpecaagreat", sum := "74950b7ed468ee978080a70ffe08fb2de0c8c44c035b83884d28c1d4454665d0", func := "shadowbox/shadowboxlaw23.TxgKeeps", spec := "txgKeeps", inPlace := ["internal/bytealg.Compare"], unfollowed := true, recurses := true, plainKeys := false, apart := false, narrowed := true }
def TxgKeepsUptoSaid : Prop := txgKeepsUptoRow.holds Tryz.pinned (OpenSpec.upto txgKeepsSpec)

/-- 'shadowboxlaw23.TxgCrash', WHERE WHAT IT READS IS OF BULK AT MOST 1048576: true; the input reads as it did. -/
def txgCrashUptoRow : OpenClaim := { program := "ytpcojkbljgpecaagreat", sum := "74950b7ed468ee978080a70ffe08fb2de0c8c44c035b83884d28c1d4454665d0", func := "shadowbox/shadowboxlaw23.TxgCrash", spec := "txgCrash", inPlace := ["internal/bytealg.Compare"], unfollowed := true, recurses := true, plainKeys := false, apart := false, narrowed := true }
def TxgCrashUptoSaid : Prop := txgCrashUptoRow.holds Tryz.pinned (OpenSpec.upto txgCrashSpec)

end Rows
end Go.Proofs.YtpcojkbljgpecaaGreat
