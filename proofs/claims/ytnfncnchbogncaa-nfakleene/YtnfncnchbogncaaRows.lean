/-
  NARROWER THAN 'FOR EVERY INPUT', by the rows' own cells (each row's printed sentence says how): NfaOf: loops · NfaKleene: loops.
  DERIVED. THE GIVEN ROWS OF THIS SEAT. 4 by the template 'for every input the law returns true; each argument reads behind the call as it read before'; 0 by the template 'total and deterministic' (their statements: YtnfncnchbogncaaTotals.lean).
  GIVEN WITH THE SEED: the statements are not yours to turn. If you find one false, say at which input.
  Laid BY PROGRAM, IN A SANDBOX (cutbox-rows.mjs): the forced cells as the released guide's own fill.sh prints them over the translation 327bfcb91bb98f07… (all of the seat's roots in one cut). By AI agents, Wed Nov 11 2026. No macro, syntax, notation, axiom, sorry.
-/
import Derived.Test.YtnfncnchbogncaaChecked
import GoSem.Claim
import GoSem.ClaimJoined
import GoSem.ClaimMapViews
import Derived.JoinedTies
import Derived.KernelRfl
namespace Go.Proofs.Ytnfncnchbogncaa
/- THE CELL 'sum', in the pinned program and in every row, IS THE sha256 OF THE DUMP (.gsa) THAT YtnfncnchbogncaaProg.lean LOADS. Nothing in Lean hashes anything: it is a label: what it is worth is what the hold of that sum in a sandbox is worth. -/
noncomputable def Try.pinned : Pinned := { name := "ytnfncnchbogncaa", sum := "327bfcb91bb98f07960b2f5bb0c3fb7a9a3fc3c21fa5f2d4037f1390b980f035", checked := Try.checked }
namespace Rows
def none {H : Type} : Left H := { results := [], args := [] }

/-- 'kerflaw23.EditTrees': WHATEVER THE INPUT: true; the input reads as it did. -/
def editTreesSpec : ChangeSpec := { name := "editTrees", fn := fun _ => fun
  | [d1, d2] => { results := [.lit (.bool true)], args := [d1, d2] }
  | _ => none }
def editTreesRow : OpenClaim := { program := "ytnfncnchbogncaa", sum := "327bfcb91bb98f07960b2f5bb0c3fb7a9a3fc3c21fa5f2d4037f1390b980f035", func := "kerf/kerflaw23.EditTrees", spec := "editTrees", unfollowed := true, recurses := true, apart := false }
def EditTreesSaid : Prop := editTreesRow.holds Try.pinned (OpenSpec.ofChange editTreesSpec)

/-- ITS FALSE NEIGHBOUR: 'it returns false'. Refute it at one input. -/
def editTreesWrong : ChangeSpec := { name := "editTrees", fn := fun _ => fun
  | [d1, d2] => { results := [.lit (.bool false)], args := [d1, d2] }
  | _ => none }
def EditTreesWrongFalsely : Prop := editTreesRow.holds Try.pinned (OpenSpec.ofChange editTreesWrong)

/-- 'kerflaw06.NfaOf': WHATEVER THE INPUT: true; the input reads as it did. -/
def nfaOfSpec : ChangeSpec := { name := "nfaOf", fn := fun _ => fun
  | [d] => { results := [.lit (.bool true)], args := [d] }
  | _ => none }
def nfaOfRow : OpenClaim := { program := "ytnfncnchbogncaa", sum := "327bfcb91bb98f07960b2f5bb0c3fb7a9a3fc3c21fa5f2d4037f1390b980f035", func := "kerf/kerflaw06.NfaOf", spec := "nfaOf", unfollowed := true, recurses := true, loops := true, apart := false }
def NfaOfSaid : Prop := nfaOfRow.holds Try.pinned (OpenSpec.ofChange nfaOfSpec)

/-- ITS FALSE NEIGHBOUR: 'it returns false'. Refute it at one input. -/
def nfaOfWrong : ChangeSpec := { name := "nfaOf", fn := fun _ => fun
  | [d] => { results := [.lit (.bool false)], args := [d] }
  | _ => none }
def NfaOfWrongFalsely : Prop := nfaOfRow.holds Try.pinned (OpenSpec.ofChange nfaOfWrong)

/-- 'kerflaw06.NfaKleene': WHATEVER THE INPUT: true; the input reads as it did. -/
def nfaKleeneSpec : ChangeSpec := { name := "nfaKleene", fn := fun _ => fun
  | [d1, d2] => { results := [.lit (.bool true)], args := [d1, d2] }
  | _ => none }
def nfaKleeneRow : OpenClaim := { program := "ytnfncnchbogncaa", sum := "327bfcb91bb98f07960b2f5bb0c3fb7a9a3fc3c21fa5f2d4037f1390b980f035", func := "kerf/kerflaw06.NfaKleene", spec := "nfaKleene", unfollowed := true, recurses := true, loops := true, apart := false }
def NfaKleeneSaid : Prop := nfaKleeneRow.holds Try.pinned (OpenSpec.ofChange nfaKleeneSpec)

/-- ITS FALSE NEIGHBOUR: 'it returns false'. Refute it at one input. -/
def nfaKleeneWrong : ChangeSpec := { name := "nfaKleene", fn := fun _ => fun
  | [d1, d2] => { results := [.lit (.bool false)], args := [d1, d2] }
  | _ => none }
def NfaKleeneWrongFalsely : Prop := nfaKleeneRow.holds Try.pinned (OpenSpec.ofChange nfaKleeneWrong)

/-- 'kerflaw05.PatternNames': WHATEVER THE INPUT: true; the input reads as it did. -/
def patternNamesSpec : ChangeSpec := { name := "patternNames", fn := fun _ => fun
  | [] => { results := [.lit (.bool true)], args := [] }
  | _ => none }
def patternNamesRow : OpenClaim := { program := "ytnfncnchbogncaa", sum := "327bfcb91bb98f07960b2f5bb0c3fb7a9a3fc3c21fa5f2d4037f1390b980f035", func := "kerf/kerflaw05.PatternNames", spec := "patternNames", inPlace := ["internal/abi.NoEscape", "internal/bytealg.MakeNoZero"], unfollowed := true, recurses := true, apart := false }
def PatternNamesSaid : Prop := patternNamesRow.holds Try.pinned (OpenSpec.ofChange patternNamesSpec)

/-- ITS FALSE NEIGHBOUR: 'it returns false'. Refute it at one input. -/
def patternNamesWrong : ChangeSpec := { name := "patternNames", fn := fun _ => fun
  | [] => { results := [.lit (.bool false)], args := [] }
  | _ => none }
def PatternNamesWrongFalsely : Prop := patternNamesRow.holds Try.pinned (OpenSpec.ofChange patternNamesWrong)

/- THE SECOND FORM. 'bulk': how many values and letters a reading holds, each counted each time it is reached (what is shared counts as often as it is met; a slice's spare places count too). A statement '..UptoSaid' is the law's where the arguments, and the package variables that the reading takes, are together of bulk at most 1048576: NARROWER than '..Said'. Prove '..Said' where nothing that the law and all that it calls make is longer than what came in: it says more and counts as full. Else prove '..UptoSaid'. A law counts once. -/
mutual
def uptoBulk {H : Type} : DataW H → Nat
  | .lit (.string bytes) => bytes.length + 1
  | .lit _ => 1
  | .nil => 1
  | .ptr d => uptoBulk d + 1
  | .slice elems spare => uptoBulkAll elems + uptoBulkAll spare + 1
  | .agg parts => uptoBulkAll parts + 1
  | .iface _ d => uptoBulk d + 1
  | .map entries => uptoBulkEntries entries + 1
  | .held _ => 1
def uptoBulkAll {H : Type} : List (DataW H) → Nat
  | [] => 0
  | d :: r => uptoBulk d + uptoBulkAll r
def uptoBulkEntries {H : Type} : List (Lit × DataW H) → Nat
  | [] => 0
  | x :: r => uptoBulkEntry x + uptoBulkEntries r
def uptoBulkEntry {H : Type} : Lit × DataW H → Nat
  | (.string bytes, d) => bytes.length + uptoBulk d + 1
  | (_, d) => uptoBulk d + 1
 end
def uptoSmall : (H : Type) → List (DataW H) → Bool := fun _ ds => decide (uptoBulkAll ds ≤ 1048576)
def OpenSpec.upto (s : _root_.Go.ChangeSpec) : _root_.Go.OpenSpec := { _root_.Go.OpenSpec.ofChange s with cond := some uptoSmall }

/-- 'kerflaw23.EditTrees', WHERE WHAT IT READS IS OF BULK AT MOST 1048576: true; the input reads as it did. -/
def editTreesUptoRow : OpenClaim := { program := "ytnfncnchbogncaa", sum := "327bfcb91bb98f07960b2f5bb0c3fb7a9a3fc3c21fa5f2d4037f1390b980f035", func := "kerf/kerflaw23.EditTrees", spec := "editTrees", unfollowed := true, recurses := true, apart := false, narrowed := true }
def EditTreesUptoSaid : Prop := editTreesUptoRow.holds Try.pinned (OpenSpec.upto editTreesSpec)

/-- 'kerflaw06.NfaOf', WHERE WHAT IT READS IS OF BULK AT MOST 1048576: true; the input reads as it did. -/
def nfaOfUptoRow : OpenClaim := { program := "ytnfncnchbogncaa", sum := "327bfcb91bb98f07960b2f5bb0c3fb7a9a3fc3c21fa5f2d4037f1390b980f035", func := "kerf/kerflaw06.NfaOf", spec := "nfaOf", unfollowed := true, recurses := true, loops := true, apart := false, narrowed := true }
def NfaOfUptoSaid : Prop := nfaOfUptoRow.holds Try.pinned (OpenSpec.upto nfaOfSpec)

/-- 'kerflaw06.NfaKleene', WHERE WHAT IT READS IS OF BULK AT MOST 1048576: true; the input reads as it did. -/
def nfaKleeneUptoRow : OpenClaim := { program := "ytnfncnchbogncaa", sum := "327bfcb91bb98f07960b2f5bb0c3fb7a9a3fc3c21fa5f2d4037f1390b980f035", func := "kerf/kerflaw06.NfaKleene", spec := "nfaKleene", unfollowed := true, recurses := true, loops := true, apart := false, narrowed := true }
def NfaKleeneUptoSaid : Prop := nfaKleeneUptoRow.holds Try.pinned (OpenSpec.upto nfaKleeneSpec)

/-- 'kerflaw05.PatternNames', WHERE WHAT IT READS IS OF BULK AT MOST 1048576: true; the input reads as it did. -/
def patternNamesUptoRow : OpenClaim := { program := "ytnfncnchbogncaa", sum := "327bfcb91bb98f07960b2f5bb0c3fb7a9a3fc3c21fa5f2d4037f1390b980f035", func := "kerf/kerflaw05.PatternNames", spec := "patternNames", inPlace := ["internal/abi.NoEscape", "internal/bytealg.MakeNoZero"], unfollowed := true, recurses := true, apart := false, narrowed := true }
def PatternNamesUptoSaid : Prop := patternNamesUptoRow.holds Try.pinned (OpenSpec.upto patternNamesSpec)

end Rows
end Go.Proofs.Ytnfncnchbogncaa
