/-
  NARROWER THAN 'FOR EVERY INPUT', by the rows' own cells (each row's printed sentence says how): DiffApplies: loops · DiffBack: loops · DiffThen: loops · DiffMoved: loops.
  DERIVED. THE GIVEN ROWS OF THIS SEAT. 4 by the template 'for every input the law returns true; each argument reads behind the call as it read before'; 0 by the template 'total and deterministic' (their statements: YtgmomhdammdjgaaGreatTotals.lean).
  GIVEN WITH THE SEED: the statements are not yours to turn. If you find one false, say at which input.
  Laid BY PROGRAM, IN A SANDBOX (cutbox-rows.mjs): the forced cells as the released guide's own fill.sh prints them over the translation bd82329509952c32… (all of the seat's roots in one cut). By AI agents, Wed Nov 11 2026. No macro, syntax, notation, axiom, sorry.
-/
import Derived.Test.YtgmomhdammdjgaaGreatChecked
import GoSem.Claim
import GoSem.ClaimJoined
import GoSem.ClaimMapViews
import Derived.JoinedTies
import Derived.KernelRfl
namespace Go.Proofs.YtgmomhdammdjgaaGreat
/- THE CELL 'sum', in the pinned program and in every row, IS THE sha256 OF THE DUMP (.gsa) THAT YtgmomhdammdjgaaGreatProg.lean LOADS. Nothing in Lean hashes anything: it is a label: what it is worth is what the hold of that sum in a sandbox is worth. -/
noncomputable def Tryz.pinned : Pinned := { name := "ytgmomhdammdjgaagreat", sum := "bd82329509952c32dad3368becf959b4e352397cbf44c64beac2fab6e1ed22c7", checked := Tryz.checked }
namespace Rows
def none {H : Type} : Left H := { results := [], args := [] }

/-- 'twinelaw13.DiffApplies': WHATEVER THE INPUT: true; the input reads as it did. -/
def diffAppliesSpec : ChangeSpec := { name := "diffApplies", fn := fun _ => fun
  | [d1, d2] => { results := [.lit (.bool true)], args := [d1, d2] }
  | _ => none }
def diffAppliesRow : OpenClaim := { program := "ytgmomhdammdjgaagreat", sum := "bd82329509952c32dad3368becf959b4e352397cbf44c64beac2fab6e1ed22c7", func := "twine/twinelaw13.DiffApplies", spec := "diffApplies", inPlace := ["slices.overlaps[string]", "slices.overlaps[*twine/tree.Tree]"], unfollowed := true, recurses := true, loops := true, plainKeys := false, apart := false }
def DiffAppliesSaid : Prop := diffAppliesRow.holds Tryz.pinned (OpenSpec.ofChange diffAppliesSpec)

/-- ITS FALSE NEIGHBOUR: 'it returns false'. Refute it at one input. -/
def diffAppliesWrong : ChangeSpec := { name := "diffApplies", fn := fun _ => fun
  | [d1, d2] => { results := [.lit (.bool false)], args := [d1, d2] }
  | _ => none }
def DiffAppliesWrongFalsely : Prop := diffAppliesRow.holds Tryz.pinned (OpenSpec.ofChange diffAppliesWrong)

/-- 'twinelaw13.DiffBack': WHATEVER THE INPUT: true; the input reads as it did. -/
def diffBackSpec : ChangeSpec := { name := "diffBack", fn := fun _ => fun
  | [d1, d2] => { results := [.lit (.bool true)], args := [d1, d2] }
  | _ => none }
def diffBackRow : OpenClaim := { program := "ytgmomhdammdjgaagreat", sum := "bd82329509952c32dad3368becf959b4e352397cbf44c64beac2fab6e1ed22c7", func := "twine/twinelaw13.DiffBack", spec := "diffBack", inPlace := ["slices.overlaps[string]", "slices.overlaps[*twine/tree.Tree]"], unfollowed := true, recurses := true, loops := true, plainKeys := false, apart := false }
def DiffBackSaid : Prop := diffBackRow.holds Tryz.pinned (OpenSpec.ofChange diffBackSpec)

/-- ITS FALSE NEIGHBOUR: 'it returns false'. Refute it at one input. -/
def diffBackWrong : ChangeSpec := { name := "diffBack", fn := fun _ => fun
  | [d1, d2] => { results := [.lit (.bool false)], args := [d1, d2] }
  | _ => none }
def DiffBackWrongFalsely : Prop := diffBackRow.holds Tryz.pinned (OpenSpec.ofChange diffBackWrong)

/-- 'twinelaw13.DiffThen': WHATEVER THE INPUT: true; the input reads as it did. -/
def diffThenSpec : ChangeSpec := { name := "diffThen", fn := fun _ => fun
  | [d1, d2, d3, d4] => { results := [.lit (.bool true)], args := [d1, d2, d3, d4] }
  | _ => none }
def diffThenRow : OpenClaim := { program := "ytgmomhdammdjgaagreat", sum := "bd82329509952c32dad3368becf959b4e352397cbf44c64beac2fab6e1ed22c7", func := "twine/twinelaw13.DiffThen", spec := "diffThen", inPlace := ["slices.overlaps[string]", "slices.overlaps[*twine/tree.Tree]"], unfollowed := true, recurses := true, loops := true, plainKeys := false, apart := false }
def DiffThenSaid : Prop := diffThenRow.holds Tryz.pinned (OpenSpec.ofChange diffThenSpec)

/-- ITS FALSE NEIGHBOUR: 'it returns false'. Refute it at one input. -/
def diffThenWrong : ChangeSpec := { name := "diffThen", fn := fun _ => fun
  | [d1, d2, d3, d4] => { results := [.lit (.bool false)], args := [d1, d2, d3, d4] }
  | _ => none }
def DiffThenWrongFalsely : Prop := diffThenRow.holds Tryz.pinned (OpenSpec.ofChange diffThenWrong)

/-- 'twinelaw13.DiffMoved': WHATEVER THE INPUT: true; the input reads as it did. -/
def diffMovedSpec : ChangeSpec := { name := "diffMoved", fn := fun _ => fun
  | [d1, d2] => { results := [.lit (.bool true)], args := [d1, d2] }
  | _ => none }
def diffMovedRow : OpenClaim := { program := "ytgmomhdammdjgaagreat", sum := "bd82329509952c32dad3368becf959b4e352397cbf44c64beac2fab6e1ed22c7", func := "twine/twinelaw13.DiffMoved", spec := "diffMoved", inPlace := ["slices.overlaps[string]", "slices.overlaps[*twine/tree.Tree]"], unfollowed := true, recurses := true, loops := true, plainKeys := false, apart := false }
def DiffMovedSaid : Prop := diffMovedRow.holds Tryz.pinned (OpenSpec.ofChange diffMovedSpec)

/-- ITS FALSE NEIGHBOUR: 'it returns false'. Refute it at one input. -/
def diffMovedWrong : ChangeSpec := { name := "diffMoved", fn := fun _ => fun
  | [d1, d2] => { results := [.lit (.bool false)], args := [d1, d2] }
  | _ => none }
def DiffMovedWrongFalsely : Prop := diffMovedRow.holds Tryz.pinned (OpenSpec.ofChange diffMovedWrong)

/- THE SECOND FORM. 'bulk': how many values and letters a reading holds, each counted each time it is reached (what is shared counts as often as it is met; a slice's spare places count too). A statement '..UptoSaid' is the law's where the arguments, and the package variables that the reading takes, are together of bulk at most 1048576: NARROWER than '..Said'. Prove '..Said' where nothing that the law and all that it calls make is longer than what came in: it says more and counts as full. Else prove '..UptoSaid'. A law counts once. -/
mutual
def uptoBulk {H : Type} : DataW H → Nat
  | .lit (.string bytes) => bytes.length + 1
  | .lit _ => 1
  | .nil => 1
  | .ptr d => uptoBulk d + 1
  | .slice elems spare => uptoBulkAll elems + uptoBulkAll spare + 1
  | .agg parts => uptoBulkAll parts + 1
  | .iface _ d => uptoBulk d + 1
  | .map entries => uptoBulkEntries entries + 1
  | .held _ => 1
def uptoBulkAll {H : Type} : List (DataW H) → Nat
  | [] => 0
  | d :: r => uptoBulk d + uptoBulkAll r
def uptoBulkEntries {H : Type} : List (Lit × DataW H) → Nat
  | [] => 0
  | x :: r => uptoBulkEntry x + uptoBulkEntries r
def uptoBulkEntry {H : Type} : Lit × DataW H → Nat
  | (.string bytes, d) => bytes.length + uptoBulk d + 1
  | (_, d) => uptoBulk d + 1
 end
def uptoSmall : (H : Type) → List (DataW H) → Bool := fun _ ds => decide (uptoBulkAll ds ≤ 1048576)
def OpenSpec.upto (s : _root_.Go.ChangeSpec) : _root_.Go.OpenSpec := { _root_.Go.OpenSpec.ofChange s with cond := some uptoSmall }

/-- 'twinelaw13.DiffApplies', WHERE WHAT IT READS IS OF BULK AT MOST 1048576: true; the input reads as it did. -/
def diffAppliesUptoRow : OpenClaim := { program := "ytgmomhdammdjgaagreat", sum := "bd82329509952c32dad3368becf959b4e352397cbf44c64beac2fab6e1ed22c7", func := "twine/twinelaw13.DiffApplies", spec := "diffApplies", inPlace := ["slices.overlaps[string]", "slices.overlaps[*twine/tree.Tree]"], unfollowed := true, recurses := true, loops := true, plainKeys := false, apart := false, narrowed := true }
def DiffAppliesUptoSaid : Prop := diffAppliesUptoRow.holds Tryz.pinned (OpenSpec.upto diffAppliesSpec)

/-- 'twinelaw13.DiffBack', WHERE WHAT IT READS IS OF BULK AT MOST 1048576: true; the input reads as it did. -/
def diffBackUptoRow : OpenClaim := { program := "ytgmomhdammdjgaagreat", sum := "bd82329509952c32dad3368becf959b4e352397cbf44c64beac2fab6e1ed22c7", func := "twine/twinelaw13.DiffBack", spec := "diffBack", inPlace := ["slices.overlaps[string]", "slices.overlaps[*twine/tree.Tree]"], unfollowed := true, recurses := true, loops := true, plainKeys := false, apart := false, narrowed := true }
def DiffBackUptoSaid : Prop := diffBackUptoRow.holds Tryz.pinned (OpenSpec.upto diffBackSpec)

/-- 'twinelaw13.DiffThen', WHERE WHAT IT READS IS OF BULK AT MOST 1048576: true; the input reads as it did. -/
def diffThenUptoRow : OpenClaim := { program := "ytgmomhdammdjgaagreat", sum := "bd82329509952c32dad3368becf959b4e352397cbf44c64beac2fab6e1ed22c7", func := "twine/twinelaw13.DiffThen", spec := "diffThen", inPlace := ["slices.overlaps[string]", "slices.overlaps[*twine/tree.Tree]"], unfollowed := true, recurses := true, loops := true, plainKeys := false, apart := false, narrowed := true }
def DiffThenUptoSaid : Prop := diffThenUptoRow.holds Tryz.pinned (OpenSpec.upto diffThenSpec)

/-- 'twinelaw13.DiffMoved', WHERE WHAT IT READS IS OF BULK AT MOST 1048576: true; the input reads as it did. -/
def diffMovedUptoRow : OpenClaim := { program := "ytgmomhdammdjgaagreat", sum := "bd82329509952c32dad3368becf959b4e352397cbf44c64beac2fab6e1ed22c7", func := "twine/twinelaw13.DiffMoved", spec := "diffMoved", inPlace := ["slices.overlaps[string]", "slices.overlaps[*twine/tree.Tree]"], unfollowed := true, recurses := true, loops := true, plainKeys := false, apart := false, narrowed := true }
def DiffMovedUptoSaid : Prop := diffMovedUptoRow.holds Tryz.pinned (OpenSpec.upto diffMovedSpec)

end Rows
end Go.Proofs.YtgmomhdammdjgaaGreat
