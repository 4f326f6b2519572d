/-
  No cell of these rows narrows 'for every input' (looked for: loops, veiled, ifaces, maps, wideKeys, modest, calm, conditions, laid).
  DERIVED. THE GIVEN ROWS OF THIS SEAT. 6 by the template 'for every input the law returns true; each argument reads behind the call as it read before'; 0 by the template 'total and deterministic' (their statements: YtinanagjoaaacaaTotals.lean).
  GIVEN WITH THE SEED: the statements are not yours to turn. If you find one false, say at which input.
  Laid BY PROGRAM, IN A SANDBOX (cutbox-rows.mjs): the forced cells as the released guide's own fill.sh prints them over the translation 4540e52ccadc8451… (all of the seat's roots in one cut). By AI agents, Wed Nov 11 2026. No macro, syntax, notation, axiom, sorry.
-/
import Derived.Test.YtinanagjoaaacaaChecked
import GoSem.Claim
import GoSem.ClaimJoined
import GoSem.ClaimMapViews
import Derived.JoinedTies
import Derived.KernelRfl
namespace Go.Proofs.Ytinanagjoaaacaa
/- THE CELL 'sum', in the pinned program and in every row, IS THE sha256 OF THE DUMP (.gsa) THAT YtinanagjoaaacaaProg.lean LOADS. Nothing in Lean hashes anything: it is a label: what it is worth is what the hold of that sum in a sandbox is worth. -/
noncomputable def Try.pinned : Pinned := { name := "ytinanagjoaaacaa", sum := "4540e52ccadc84517a706c47eefea9e05111b96391bb5bd5e3d4c72222dd7fa6", checked := Try.checked }
namespace Rows
def none {H : Type} : Left H := { results := [], args := [] }

/-- 'rostrumlaw21.EditsOnes': WHATEVER THE INPUT: true; the input reads as it did. -/
def editsOnesSpec : ChangeSpec := { name := "editsOnes", fn := fun _ => fun
  | [d1, d2] => { results := [.lit (.bool true)], args := [d1, d2] }
  | _ => none }
def editsOnesRow : OpenClaim := { program := "ytinanagjoaaacaa", sum := "4540e52ccadc84517a706c47eefea9e05111b96391bb5bd5e3d4c72222dd7fa6", func := "rostrum/rostrumlaw21.EditsOnes", spec := "editsOnes", inPlace := ["internal/abi.NoEscape"], unfollowed := true, recurses := true, apart := false }
def EditsOnesSaid : Prop := editsOnesRow.holds Try.pinned (OpenSpec.ofChange editsOnesSpec)

/-- ITS FALSE NEIGHBOUR: 'it returns false'. Refute it at one input. -/
def editsOnesWrong : ChangeSpec := { name := "editsOnes", fn := fun _ => fun
  | [d1, d2] => { results := [.lit (.bool false)], args := [d1, d2] }
  | _ => none }
def EditsOnesWrongFalsely : Prop := editsOnesRow.holds Try.pinned (OpenSpec.ofChange editsOnesWrong)

/-- 'rostrumlaw21.EditsMake': WHATEVER THE INPUT: true; the input reads as it did. -/
def editsMakeSpec : ChangeSpec := { name := "editsMake", fn := fun _ => fun
  | [d1, d2] => { results := [.lit (.bool true)], args := [d1, d2] }
  | _ => none }
def editsMakeRow : OpenClaim := { program := "ytinanagjoaaacaa", sum := "4540e52ccadc84517a706c47eefea9e05111b96391bb5bd5e3d4c72222dd7fa6", func := "rostrum/rostrumlaw21.EditsMake", spec := "editsMake", inPlace := ["internal/abi.NoEscape"], unfollowed := true, recurses := true, apart := false }
def EditsMakeSaid : Prop := editsMakeRow.holds Try.pinned (OpenSpec.ofChange editsMakeSpec)

/-- ITS FALSE NEIGHBOUR: 'it returns false'. Refute it at one input. -/
def editsMakeWrong : ChangeSpec := { name := "editsMake", fn := fun _ => fun
  | [d1, d2] => { results := [.lit (.bool false)], args := [d1, d2] }
  | _ => none }
def EditsMakeWrongFalsely : Prop := editsMakeRow.holds Try.pinned (OpenSpec.ofChange editsMakeWrong)

/-- 'rostrumlaw21.EditsDo': WHATEVER THE INPUT: true; the input reads as it did. -/
def editsDoSpec : ChangeSpec := { name := "editsDo", fn := fun _ => fun
  | [d1, d2, d3] => { results := [.lit (.bool true)], args := [d1, d2, d3] }
  | _ => none }
def editsDoRow : OpenClaim := { program := "ytinanagjoaaacaa", sum := "4540e52ccadc84517a706c47eefea9e05111b96391bb5bd5e3d4c72222dd7fa6", func := "rostrum/rostrumlaw21.EditsDo", spec := "editsDo", inPlace := ["internal/abi.NoEscape"], unfollowed := true, recurses := true, apart := false }
def EditsDoSaid : Prop := editsDoRow.holds Try.pinned (OpenSpec.ofChange editsDoSpec)

/-- ITS FALSE NEIGHBOUR: 'it returns false'. Refute it at one input. -/
def editsDoWrong : ChangeSpec := { name := "editsDo", fn := fun _ => fun
  | [d1, d2, d3] => { results := [.lit (.bool false)], args := [d1, d2, d3] }
  | _ => none }
def EditsDoWrongFalsely : Prop := editsDoRow.holds Try.pinned (OpenSpec.ofChange editsDoWrong)

/-- 'rostrumlaw21.EditsDiff': WHATEVER THE INPUT: true; the input reads as it did. -/
def editsDiffSpec : ChangeSpec := { name := "editsDiff", fn := fun _ => fun
  | [d1, d2] => { results := [.lit (.bool true)], args := [d1, d2] }
  | _ => none }
def editsDiffRow : OpenClaim := { program := "ytinanagjoaaacaa", sum := "4540e52ccadc84517a706c47eefea9e05111b96391bb5bd5e3d4c72222dd7fa6", func := "rostrum/rostrumlaw21.EditsDiff", spec := "editsDiff", inPlace := ["internal/abi.NoEscape"], unfollowed := true, recurses := true, apart := false }
def EditsDiffSaid : Prop := editsDiffRow.holds Try.pinned (OpenSpec.ofChange editsDiffSpec)

/-- ITS FALSE NEIGHBOUR: 'it returns false'. Refute it at one input. -/
def editsDiffWrong : ChangeSpec := { name := "editsDiff", fn := fun _ => fun
  | [d1, d2] => { results := [.lit (.bool false)], args := [d1, d2] }
  | _ => none }
def EditsDiffWrongFalsely : Prop := editsDiffRow.holds Try.pinned (OpenSpec.ofChange editsDiffWrong)

/-- 'rostrumlaw21.EditsNames': WHATEVER THE INPUT: true; the input reads as it did. -/
def editsNamesSpec : ChangeSpec := { name := "editsNames", fn := fun _ => fun
  | [] => { results := [.lit (.bool true)], args := [] }
  | _ => none }
def editsNamesRow : OpenClaim := { program := "ytinanagjoaaacaa", sum := "4540e52ccadc84517a706c47eefea9e05111b96391bb5bd5e3d4c72222dd7fa6", func := "rostrum/rostrumlaw21.EditsNames", spec := "editsNames", inPlace := ["internal/abi.NoEscape"], unfollowed := true, recurses := true, apart := false }
def EditsNamesSaid : Prop := editsNamesRow.holds Try.pinned (OpenSpec.ofChange editsNamesSpec)

/-- ITS FALSE NEIGHBOUR: 'it returns false'. Refute it at one input. -/
def editsNamesWrong : ChangeSpec := { name := "editsNames", fn := fun _ => fun
  | [] => { results := [.lit (.bool false)], args := [] }
  | _ => none }
def EditsNamesWrongFalsely : Prop := editsNamesRow.holds Try.pinned (OpenSpec.ofChange editsNamesWrong)

/-- 'rostrumlaw21.EditsBack': WHATEVER THE INPUT: true; the input reads as it did. -/
def editsBackSpec : ChangeSpec := { name := "editsBack", fn := fun _ => fun
  | [d1, d2] => { results := [.lit (.bool true)], args := [d1, d2] }
  | _ => none }
def editsBackRow : OpenClaim := { program := "ytinanagjoaaacaa", sum := "4540e52ccadc84517a706c47eefea9e05111b96391bb5bd5e3d4c72222dd7fa6", func := "rostrum/rostrumlaw21.EditsBack", spec := "editsBack", inPlace := ["internal/abi.NoEscape"], unfollowed := true, recurses := true, apart := false }
def EditsBackSaid : Prop := editsBackRow.holds Try.pinned (OpenSpec.ofChange editsBackSpec)

/-- ITS FALSE NEIGHBOUR: 'it returns false'. Refute it at one input. -/
def editsBackWrong : ChangeSpec := { name := "editsBack", fn := fun _ => fun
  | [d1, d2] => { results := [.lit (.bool false)], args := [d1, d2] }
  | _ => none }
def EditsBackWrongFalsely : Prop := editsBackRow.holds Try.pinned (OpenSpec.ofChange editsBackWrong)

/- THE SECOND FORM. 'bulk': how many values and letters a reading holds, each counted each time it is reached (what is shared counts as often as it is met; a slice's spare places count too). A statement '..UptoSaid' is the law's where the arguments, and the package variables that the reading takes, are together of bulk at most 1048576: NARROWER than '..Said'. Prove '..Said' where nothing that the law and all that it calls make is longer than what came in: it says more and counts as full. Else prove '..UptoSaid'. A law counts once. -/
mutual
def uptoBulk {H : Type} : DataW H → Nat
  | .lit (.string bytes) => bytes.length + 1
  | .lit _ => 1
  | .nil => 1
  | .ptr d => uptoBulk d + 1
  | .slice elems spare => uptoBulkAll elems + uptoBulkAll spare + 1
  | .agg parts => uptoBulkAll parts + 1
  | .iface _ d => uptoBulk d + 1
  | .map entries => uptoBulkEntries entries + 1
  | .held _ => 1
def uptoBulkAll {H : Type} : List (DataW H) → Nat
  | [] => 0
  | d :: r => uptoBulk d + uptoBulkAll r
def uptoBulkEntries {H : Type} : List (Lit × DataW H) → Nat
  | [] => 0
  | x :: r => uptoBulkEntry x + uptoBulkEntries r
def uptoBulkEntry {H : Type} : Lit × DataW H → Nat
  | (.string bytes, d) => bytes.length + uptoBulk d + 1
  | (_, d) => uptoBulk d + 1
 end
def uptoSmall : (H : Type) → List (DataW H) → Bool := fun _ ds => decide (uptoBulkAll ds ≤ 1048576)
def OpenSpec.upto (s : _root_.Go.ChangeSpec) : _root_.Go.OpenSpec := { _root_.Go.OpenSpec.ofChange s with cond := some uptoSmall }

/-- 'rostrumlaw21.EditsOnes', WHERE WHAT IT READS IS OF BULK AT MOST 1048576: true; the input reads as it did. -/
def editsOnesUptoRow : OpenClaim := { program := "ytinanagjoaaacaa", sum := "4540e52ccadc84517a706c47eefea9e05111b96391bb5bd5e3d4c72222dd7fa6", func := "rostrum/rostrumlaw21.EditsOnes", spec := "editsOnes", inPlace := ["internal/abi.NoEscape"], unfollowed := true, recurses := true, apart := false, narrowed := true }
def EditsOnesUptoSaid : Prop := editsOnesUptoRow.holds Try.pinned (OpenSpec.upto editsOnesSpec)

/-- 'rostrumlaw21.EditsMake', WHERE WHAT IT READS IS OF BULK AT MOST 1048576: true; the input reads as it did. -/
def editsMakeUptoRow : OpenClaim := { program := "ytinanagjoaaacaa", sum := "4540e52ccadc84517a706c47eefea9e05111b96391bb5bd5e3d4c72222dd7fa6", func := "rostrum/rostrumlaw21.EditsMake", spec := "editsMake", inPlace := ["internal/abi.NoEscape"], unfollowed := true, recurses := true, apart := false, narrowed := true }
def EditsMakeUptoSaid : Prop := editsMakeUptoRow.holds Try.pinned (OpenSpec.upto editsMakeSpec)

/-- 'rostrumlaw21.EditsDo', WHERE WHAT IT READS IS OF BULK AT MOST 1048576: true; the input reads as it did. -/
def editsDoUptoRow : OpenClaim := { program := "ytinanagjoaaacaa", sum := "4540e52ccadc84517a706c47eefea9e05111b96391bb5bd5e3d4c72222dd7fa6", func := "rostrum/rostrumlaw21.EditsDo", spec := "editsDo", inPlace := ["internal/abi.NoEscape"], unfollowed := true, recurses := true, apart := false, narrowed := true }
def EditsDoUptoSaid : Prop := editsDoUptoRow.holds Try.pinned (OpenSpec.upto editsDoSpec)

/-- 'rostrumlaw21.EditsDiff', WHERE WHAT IT READS IS OF BULK AT MOST 1048576: true; the input reads as it did. -/
def editsDiffUptoRow : OpenClaim := { program := "ytinanagjoaaacaa", sum := "4540e52ccadc84517a706c47eefea9e05111b96391bb5bd5e3d4c72222dd7fa6", func := "rostrum/rostrumlaw21.EditsDiff", spec := "editsDiff", inPlace := ["internal/abi.NoEscape"], unfollowed := true, recurses := true, apart := false, narrowed := true }
def EditsDiffUptoSaid : Prop := editsDiffUptoRow.holds Try.pinned (OpenSpec.upto editsDiffSpec)

/-- 'rostrumlaw21.EditsNames', WHERE WHAT IT READS IS OF BULK AT MOST 1048576: true; the input reads as it did. -/
def editsNamesUptoRow : OpenClaim := { program := "ytinanagjoaaacaa", sum := "4540e52ccadc84517a706c47eefea9e05111b96391bb5bd5e3d4c72222dd7fa6", func := "rostrum/rostrumlaw21.EditsNames", spec := "editsNames", inPlace := ["internal/abi.NoEscape"], unfollowed := true, recurses := true, apart := false, narrowed := true }
def EditsNamesUptoSaid : Prop := editsNamesUptoRow.holds Try.pinned (OpenSpec.upto editsNamesSpec)

/-- 'rostrumlaw21.EditsBack', WHERE WHAT IT READS IS OF BULK AT MOST 1048576: true; the input reads as it did. -/
def editsBackUptoRow : OpenClaim := { program := "ytinanagjoaaacaa", sum := "4540e52ccadc84517a706c47eefea9e05111b96391bb5bd5e3d4c72222dd7fa6", func := "rostrum/rostrumlaw21.EditsBack", spec := "editsBack", inPlace := ["internal/abi.NoEscape"], unfollowed := true, recurses := true, apart := false, narrowed := true }
def EditsBackUptoSaid : Prop := editsBackUptoRow.holds Try.pinned (OpenSpec.upto editsBackSpec)

end Rows
end Go.Proofs.Ytinanagjoaaacaa
