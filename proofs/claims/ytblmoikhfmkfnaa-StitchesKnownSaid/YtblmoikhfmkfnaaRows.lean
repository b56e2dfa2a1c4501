/-
  No cell of these rows narrows 'for every input' (looked for: loops, veiled, ifaces, maps, wideKeys, modest, calm, conditions, laid).
  DERIVED. THE GIVEN ROWS OF THIS SEAT. 7 by the template 'for every input the law returns true; each argument reads behind the call as it read before'; 0 by the template 'total and deterministic' (their statements: YtblmoikhfmkfnaaTotals.lean).
  GIVEN WITH THE SEED: the statements are not yours to turn. If you find one false, say at which input.
  Laid BY PROGRAM, IN A SANDBOX (cutbox-rows.mjs): the forced cells as the released guide's own fill.sh prints them over the translation e2ee65cc13745158… (all of the seat's roots in one cut). By AI agents, Wed Nov 11 2026. No macro, syntax, notation, axiom, sorry.
-/
import Derived.Test.YtblmoikhfmkfnaaChecked
import GoSem.Claim
import GoSem.ClaimJoined
import GoSem.ClaimMapViews
import Derived.JoinedTies
import Derived.KernelRfl
namespace Go.Proofs.Ytblmoikhfmkfnaa
/- THE CELL 'sum', in the pinned program and in every row, IS THE sha256 OF THE DUMP (.gsa) THAT YtblmoikhfmkfnaaProg.lean LOADS. Nothing in Lean hashes anything: it is a label: what it is worth is what the hold of that sum in a sandbox is worth. -/
noncomputable def Try.pinned : Pinned := { name := "ytblmoikhfmkfnaa", sum := "e2ee65cc13745158ef81a43bc7947ef4044fdf6d7d31e42fb6357e6cbdce2aa2", checked := Try.checked }
namespace Rows
def none {H : Type} : Left H := { results := [], args := [] }

/-- 'ganseylaw12.StitchesLoads': WHATEVER THE INPUT: true; the input reads as it did. -/
def stitchesLoadsSpec : ChangeSpec := { name := "stitchesLoads", fn := fun _ => fun
  | [d1, d2] => { results := [.lit (.bool true)], args := [d1, d2] }
  | _ => none }
def stitchesLoadsRow : OpenClaim := { program := "ytblmoikhfmkfnaa", sum := "e2ee65cc13745158ef81a43bc7947ef4044fdf6d7d31e42fb6357e6cbdce2aa2", func := "gansey/ganseylaw12.StitchesLoads", spec := "stitchesLoads", apart := false }
def StitchesLoadsSaid : Prop := stitchesLoadsRow.holds Try.pinned (OpenSpec.ofChange stitchesLoadsSpec)

/-- ITS FALSE NEIGHBOUR: 'it returns false'. Refute it at one input. -/
def stitchesLoadsWrong : ChangeSpec := { name := "stitchesLoads", fn := fun _ => fun
  | [d1, d2] => { results := [.lit (.bool false)], args := [d1, d2] }
  | _ => none }
def StitchesLoadsWrongFalsely : Prop := stitchesLoadsRow.holds Try.pinned (OpenSpec.ofChange stitchesLoadsWrong)

/-- 'ganseylaw12.StitchesFit': WHATEVER THE INPUT: true; the input reads as it did. -/
def stitchesFitSpec : ChangeSpec := { name := "stitchesFit", fn := fun _ => fun
  | [d1, d2] => { results := [.lit (.bool true)], args := [d1, d2] }
  | _ => none }
def stitchesFitRow : OpenClaim := { program := "ytblmoikhfmkfnaa", sum := "e2ee65cc13745158ef81a43bc7947ef4044fdf6d7d31e42fb6357e6cbdce2aa2", func := "gansey/ganseylaw12.StitchesFit", spec := "stitchesFit", apart := false }
def StitchesFitSaid : Prop := stitchesFitRow.holds Try.pinned (OpenSpec.ofChange stitchesFitSpec)

/-- ITS FALSE NEIGHBOUR: 'it returns false'. Refute it at one input. -/
def stitchesFitWrong : ChangeSpec := { name := "stitchesFit", fn := fun _ => fun
  | [d1, d2] => { results := [.lit (.bool false)], args := [d1, d2] }
  | _ => none }
def StitchesFitWrongFalsely : Prop := stitchesFitRow.holds Try.pinned (OpenSpec.ofChange stitchesFitWrong)

/-- 'ganseylaw12.StitchesMirror': WHATEVER THE INPUT: true; the input reads as it did. -/
def stitchesMirrorSpec : ChangeSpec := { name := "stitchesMirror", fn := fun _ => fun
  | [d] => { results := [.lit (.bool true)], args := [d] }
  | _ => none }
def stitchesMirrorRow : OpenClaim := { program := "ytblmoikhfmkfnaa", sum := "e2ee65cc13745158ef81a43bc7947ef4044fdf6d7d31e42fb6357e6cbdce2aa2", func := "gansey/ganseylaw12.StitchesMirror", spec := "stitchesMirror", apart := false }
def StitchesMirrorSaid : Prop := stitchesMirrorRow.holds Try.pinned (OpenSpec.ofChange stitchesMirrorSpec)

/-- ITS FALSE NEIGHBOUR: 'it returns false'. Refute it at one input. -/
def stitchesMirrorWrong : ChangeSpec := { name := "stitchesMirror", fn := fun _ => fun
  | [d] => { results := [.lit (.bool false)], args := [d] }
  | _ => none }
def StitchesMirrorWrongFalsely : Prop := stitchesMirrorRow.holds Try.pinned (OpenSpec.ofChange stitchesMirrorWrong)

/-- 'ganseylaw12.StitchesText': WHATEVER THE INPUT: true; the input reads as it did. -/
def stitchesTextSpec : ChangeSpec := { name := "stitchesText", fn := fun _ => fun
  | [d1, d2] => { results := [.lit (.bool true)], args := [d1, d2] }
  | _ => none }
def stitchesTextRow : OpenClaim := { program := "ytblmoikhfmkfnaa", sum := "e2ee65cc13745158ef81a43bc7947ef4044fdf6d7d31e42fb6357e6cbdce2aa2", func := "gansey/ganseylaw12.StitchesText", spec := "stitchesText", apart := false }
def StitchesTextSaid : Prop := stitchesTextRow.holds Try.pinned (OpenSpec.ofChange stitchesTextSpec)

/-- ITS FALSE NEIGHBOUR: 'it returns false'. Refute it at one input. -/
def stitchesTextWrong : ChangeSpec := { name := "stitchesText", fn := fun _ => fun
  | [d1, d2] => { results := [.lit (.bool false)], args := [d1, d2] }
  | _ => none }
def StitchesTextWrongFalsely : Prop := stitchesTextRow.holds Try.pinned (OpenSpec.ofChange stitchesTextWrong)

/-- 'ganseylaw12.StitchesApart': WHATEVER THE INPUT: true; the input reads as it did. -/
def stitchesApartSpec : ChangeSpec := { name := "stitchesApart", fn := fun _ => fun
  | [d1, d2] => { results := [.lit (.bool true)], args := [d1, d2] }
  | _ => none }
def stitchesApartRow : OpenClaim := { program := "ytblmoikhfmkfnaa", sum := "e2ee65cc13745158ef81a43bc7947ef4044fdf6d7d31e42fb6357e6cbdce2aa2", func := "gansey/ganseylaw12.StitchesApart", spec := "stitchesApart", apart := false }
def StitchesApartSaid : Prop := stitchesApartRow.holds Try.pinned (OpenSpec.ofChange stitchesApartSpec)

/-- ITS FALSE NEIGHBOUR: 'it returns false'. Refute it at one input. -/
def stitchesApartWrong : ChangeSpec := { name := "stitchesApart", fn := fun _ => fun
  | [d1, d2] => { results := [.lit (.bool false)], args := [d1, d2] }
  | _ => none }
def StitchesApartWrongFalsely : Prop := stitchesApartRow.holds Try.pinned (OpenSpec.ofChange stitchesApartWrong)

/-- 'ganseylaw12.StitchesCheck': WHATEVER THE INPUT: true; the input reads as it did. -/
def stitchesCheckSpec : ChangeSpec := { name := "stitchesCheck", fn := fun _ => fun
  | [d] => { results := [.lit (.bool true)], args := [d] }
  | _ => none }
def stitchesCheckRow : OpenClaim := { program := "ytblmoikhfmkfnaa", sum := "e2ee65cc13745158ef81a43bc7947ef4044fdf6d7d31e42fb6357e6cbdce2aa2", func := "gansey/ganseylaw12.StitchesCheck", spec := "stitchesCheck", apart := false }
def StitchesCheckSaid : Prop := stitchesCheckRow.holds Try.pinned (OpenSpec.ofChange stitchesCheckSpec)

/-- ITS FALSE NEIGHBOUR: 'it returns false'. Refute it at one input. -/
def stitchesCheckWrong : ChangeSpec := { name := "stitchesCheck", fn := fun _ => fun
  | [d] => { results := [.lit (.bool false)], args := [d] }
  | _ => none }
def StitchesCheckWrongFalsely : Prop := stitchesCheckRow.holds Try.pinned (OpenSpec.ofChange stitchesCheckWrong)

/-- 'ganseylaw12.StitchesKnown': WHATEVER THE INPUT: true; the input reads as it did. -/
def stitchesKnownSpec : ChangeSpec := { name := "stitchesKnown", fn := fun _ => fun
  | [] => { results := [.lit (.bool true)], args := [] }
  | _ => none }
def stitchesKnownRow : OpenClaim := { program := "ytblmoikhfmkfnaa", sum := "e2ee65cc13745158ef81a43bc7947ef4044fdf6d7d31e42fb6357e6cbdce2aa2", func := "gansey/ganseylaw12.StitchesKnown", spec := "stitchesKnown", apart := false }
def StitchesKnownSaid : Prop := stitchesKnownRow.holds Try.pinned (OpenSpec.ofChange stitchesKnownSpec)

/-- ITS FALSE NEIGHBOUR: 'it returns false'. Refute it at one input. -/
def stitchesKnownWrong : ChangeSpec := { name := "stitchesKnown", fn := fun _ => fun
  | [] => { results := [.lit (.bool false)], args := [] }
  | _ => none }
def StitchesKnownWrongFalsely : Prop := stitchesKnownRow.holds Try.pinned (OpenSpec.ofChange stitchesKnownWrong)

/- THE SECOND FORM. 'bulk': how many values and letters a reading holds, each counted each time it is reached (what is shared counts as often as it is met; a slice's spare places count too). A statement '..UptoSaid' is the law's where the arguments, and the package variables that the reading takes, are together of bulk at most 1048576: NARROWER than '..Said'. Prove '..Said' where nothing that the law and all that it calls make is longer than what came in: it says more and counts as full. Else prove '..UptoSaid'. A law counts once. -/
mutual
def uptoBulk {H : Type} : DataW H → Nat
  | .lit (.string bytes) => bytes.length + 1
  | .lit _ => 1
  | .nil => 1
  | .ptr d => uptoBulk d + 1
  | .slice elems spare => uptoBulkAll elems + uptoBulkAll spare + 1
  | .agg parts => uptoBulkAll parts + 1
  | .iface _ d => uptoBulk d + 1
  | .map entries => uptoBulkEntries entries + 1
  | .held _ => 1
def uptoBulkAll {H : Type} : List (DataW H) → Nat
  | [] => 0
  | d :: r => uptoBulk d + uptoBulkAll r
def uptoBulkEntries {H : Type} : List (Lit × DataW H) → Nat
  | [] => 0
  | x :: r => uptoBulkEntry x + uptoBulkEntries r
def uptoBulkEntry {H : Type} : Lit × DataW H → Nat
  | (.string bytes, d) => bytes.length + uptoBulk d + 1
  | (_, d) => uptoBulk d + 1
 end
def uptoSmall : (H : Type) → List (DataW H) → Bool := fun _ ds => decide (uptoBulkAll ds ≤ 1048576)
def OpenSpec.upto (s : _root_.Go.ChangeSpec) : _root_.Go.OpenSpec := { _root_.Go.OpenSpec.ofChange s with cond := some uptoSmall }

/-- 'ganseylaw12.StitchesLoads', WHERE WHAT IT READS IS OF BULK AT MOST 1048576: true; the input reads as it did. -/
def stitchesLoadsUptoRow : OpenClaim := { program := "ytblmoikhfmkfnaa", sum := "e2ee65cc13745158ef81a43bc7947ef4044fdf6d7d31e42fb6357e6cbdce2aa2", func := "gansey/ganseylaw12.StitchesLoads", spec := "stitchesLoads", apart := false, narrowed := true }
def StitchesLoadsUptoSaid : Prop := stitchesLoadsUptoRow.holds Try.pinned (OpenSpec.upto stitchesLoadsSpec)

/-- 'ganseylaw12.StitchesFit', WHERE WHAT IT READS IS OF BULK AT MOST 1048576: true; the input reads as it did. -/
def stitchesFitUptoRow : OpenClaim := { program := "ytblmoikhfmkfnaa", sum := "e2ee65cc13745158ef81a43bc7947ef4044fdf6d7d31e42fb6357e6cbdce2aa2", func := "gansey/ganseylaw12.StitchesFit", spec := "stitchesFit", apart := false, narrowed := true }
def StitchesFitUptoSaid : Prop := stitchesFitUptoRow.holds Try.pinned (OpenSpec.upto stitchesFitSpec)

/-- 'ganseylaw12.StitchesMirror', WHERE WHAT IT READS IS OF BULK AT MOST 1048576: true; the input reads as it did. -/
def stitchesMirrorUptoRow : OpenClaim := { program := "ytblmoikhfmkfnaa", sum := "e2ee65cc13745158ef81a43bc7947ef4044fdf6d7d31e42fb6357e6cbdce2aa2", func := "gansey/ganseylaw12.StitchesMirror", spec := "stitchesMirror", apart := false, narrowed := true }
def StitchesMirrorUptoSaid : Prop := stitchesMirrorUptoRow.holds Try.pinned (OpenSpec.upto stitchesMirrorSpec)

/-- 'ganseylaw12.StitchesText', WHERE WHAT IT READS IS OF BULK AT MOST 1048576: true; the input reads as it did. -/
def stitchesTextUptoRow : OpenClaim := { program := "ytblmoikhfmkfnaa", sum := "e2ee65cc13745158ef81a43bc7947ef4044fdf6d7d31e42fb6357e6cbdce2aa2", func := "gansey/ganseylaw12.StitchesText", spec := "stitchesText", apart := false, narrowed := true }
def StitchesTextUptoSaid : Prop := stitchesTextUptoRow.holds Try.pinned (OpenSpec.upto stitchesTextSpec)

/-- 'ganseylaw12.StitchesApart', WHERE WHAT IT READS IS OF BULK AT MOST 1048576: true; the input reads as it did. -/
def stitchesApartUptoRow : OpenClaim := { program := "ytblmoikhfmkfnaa", sum := "e2ee65cc13745158ef81a43bc7947ef4044fdf6d7d31e42fb6357e6cbdce2aa2", func := "gansey/ganseylaw12.StitchesApart", spec := "stitchesApart", apart := false, narrowed := true }
def StitchesApartUptoSaid : Prop := stitchesApartUptoRow.holds Try.pinned (OpenSpec.upto stitchesApartSpec)

/-- 'ganseylaw12.StitchesCheck', WHERE WHAT IT READS IS OF BULK AT MOST 1048576: true; the input reads as it did. -/
def stitchesCheckUptoRow : OpenClaim := { program := "ytblmoikhfmkfnaa", sum := "e2ee65cc13745158ef81a43bc7947ef4044fdf6d7d31e42fb6357e6cbdce2aa2", func := "gansey/ganseylaw12.StitchesCheck", spec := "stitchesCheck", apart := false, narrowed := true }
def StitchesCheckUptoSaid : Prop := stitchesCheckUptoRow.holds Try.pinned (OpenSpec.upto stitchesCheckSpec)

/-- 'ganseylaw12.StitchesKnown', WHERE WHAT IT READS IS OF BULK AT MOST 1048576: true; the input reads as it did. -/
def stitchesKnownUptoRow : OpenClaim := { program := "ytblmoikhfmkfnaa", sum := "e2ee65cc13745158ef81a43bc7947ef4044fdf6d7d31e42fb6357e6cbdce2aa2", func := "gansey/ganseylaw12.StitchesKnown", spec := "stitchesKnown", apart := false, narrowed := true }
def StitchesKnownUptoSaid : Prop := stitchesKnownUptoRow.holds Try.pinned (OpenSpec.upto stitchesKnownSpec)

end Rows
end Go.Proofs.Ytblmoikhfmkfnaa
