/-
  No cell of these rows narrows 'for every input' (looked for: loops, veiled, ifaces, maps, wideKeys, modest, calm, conditions, laid).
  DERIVED. THE GIVEN ROWS OF THIS SEAT. 5 by the template 'for every input the law returns true; each argument reads behind the call as it read before'; 0 by the template 'total and deterministic' (their statements: YtebehdjjkpffjaaTotals.lean).
  GIVEN WITH THE SEED: the statements are not yours to turn. If you find one false, say at which input.
  Laid BY PROGRAM, IN A SANDBOX (cutbox-rows.mjs): the forced cells as the released guide's own fill.sh prints them over the translation d8deb643714ffc47… (all of the seat's roots in one cut). By AI agents, Wed Nov 11 2026. No macro, syntax, notation, axiom, sorry.
-/
import Derived.Test.YtebehdjjkpffjaaChecked
import GoSem.Claim
import GoSem.ClaimJoined
import GoSem.ClaimMapViews
import Derived.JoinedTies
import Derived.KernelRfl
namespace Go.Proofs.Ytebehdjjkpffjaa
/- THE CELL 'sum', in the pinned program and in every row, IS THE sha256 OF THE DUMP (.gsa) THAT YtebehdjjkpffjaaProg.lean LOADS. Nothing in Lean hashes anything: it is a label: what it is worth is what the hold of that sum in a sandbox is worth. -/
noncomputable def Try.pinned : Pinned := { name := "ytebehdjjkpffjaa", sum := "d8deb643714ffc47044ca7af04f492e405e0e7043a4829b9e4c6a4e8dd4d7240", checked := Try.checked }
namespace Rows
def none {H : Type} : Left H := { results := [], args := [] }

/-- 'cohesionlaw38.RoundsPlans': WHATEVER THE INPUT: true; the input reads as it did. -/
def roundsPlansSpec : ChangeSpec := { name := "roundsPlans", fn := fun _ => fun
  | [d] => { results := [.lit (.bool true)], args := [d] }
  | _ => none }
def roundsPlansRow : OpenClaim := { program := "ytebehdjjkpffjaa", sum := "d8deb643714ffc47044ca7af04f492e405e0e7043a4829b9e4c6a4e8dd4d7240", func := "cohesion/cohesionlaw38.RoundsPlans", spec := "roundsPlans", unfollowed := true, recurses := true, apart := false }
def RoundsPlansSaid : Prop := roundsPlansRow.holds Try.pinned (OpenSpec.ofChange roundsPlansSpec)

/-- ITS FALSE NEIGHBOUR: 'it returns false'. Refute it at one input. -/
def roundsPlansWrong : ChangeSpec := { name := "roundsPlans", fn := fun _ => fun
  | [d] => { results := [.lit (.bool false)], args := [d] }
  | _ => none }
def RoundsPlansWrongFalsely : Prop := roundsPlansRow.holds Try.pinned (OpenSpec.ofChange roundsPlansWrong)

/-- 'cohesionlaw38.RoundsFalls': WHATEVER THE INPUT: true; the input reads as it did. -/
def roundsFallsSpec : ChangeSpec := { name := "roundsFalls", fn := fun _ => fun
  | [d1, d2] => { results := [.lit (.bool true)], args := [d1, d2] }
  | _ => none }
def roundsFallsRow : OpenClaim := { program := "ytebehdjjkpffjaa", sum := "d8deb643714ffc47044ca7af04f492e405e0e7043a4829b9e4c6a4e8dd4d7240", func := "cohesion/cohesionlaw38.RoundsFalls", spec := "roundsFalls", unfollowed := true, recurses := true, apart := false }
def RoundsFallsSaid : Prop := roundsFallsRow.holds Try.pinned (OpenSpec.ofChange roundsFallsSpec)

/-- ITS FALSE NEIGHBOUR: 'it returns false'. Refute it at one input. -/
def roundsFallsWrong : ChangeSpec := { name := "roundsFalls", fn := fun _ => fun
  | [d1, d2] => { results := [.lit (.bool false)], args := [d1, d2] }
  | _ => none }
def RoundsFallsWrongFalsely : Prop := roundsFallsRow.holds Try.pinned (OpenSpec.ofChange roundsFallsWrong)

/-- 'cohesionlaw38.RoundsFew': WHATEVER THE INPUT: true; the input reads as it did. -/
def roundsFewSpec : ChangeSpec := { name := "roundsFew", fn := fun _ => fun
  | [d1, d2] => { results := [.lit (.bool true)], args := [d1, d2] }
  | _ => none }
def roundsFewRow : OpenClaim := { program := "ytebehdjjkpffjaa", sum := "d8deb643714ffc47044ca7af04f492e405e0e7043a4829b9e4c6a4e8dd4d7240", func := "cohesion/cohesionlaw38.RoundsFew", spec := "roundsFew", unfollowed := true, recurses := true, apart := false }
def RoundsFewSaid : Prop := roundsFewRow.holds Try.pinned (OpenSpec.ofChange roundsFewSpec)

/-- ITS FALSE NEIGHBOUR: 'it returns false'. Refute it at one input. -/
def roundsFewWrong : ChangeSpec := { name := "roundsFew", fn := fun _ => fun
  | [d1, d2] => { results := [.lit (.bool false)], args := [d1, d2] }
  | _ => none }
def RoundsFewWrongFalsely : Prop := roundsFewRow.holds Try.pinned (OpenSpec.ofChange roundsFewWrong)

/-- 'cohesionlaw38.RoundsEnds': WHATEVER THE INPUT: true; the input reads as it did. -/
def roundsEndsSpec : ChangeSpec := { name := "roundsEnds", fn := fun _ => fun
  | [d1, d2] => { results := [.lit (.bool true)], args := [d1, d2] }
  | _ => none }
def roundsEndsRow : OpenClaim := { program := "ytebehdjjkpffjaa", sum := "d8deb643714ffc47044ca7af04f492e405e0e7043a4829b9e4c6a4e8dd4d7240", func := "cohesion/cohesionlaw38.RoundsEnds", spec := "roundsEnds", unfollowed := true, recurses := true, apart := false }
def RoundsEndsSaid : Prop := roundsEndsRow.holds Try.pinned (OpenSpec.ofChange roundsEndsSpec)

/-- ITS FALSE NEIGHBOUR: 'it returns false'. Refute it at one input. -/
def roundsEndsWrong : ChangeSpec := { name := "roundsEnds", fn := fun _ => fun
  | [d1, d2] => { results := [.lit (.bool false)], args := [d1, d2] }
  | _ => none }
def RoundsEndsWrongFalsely : Prop := roundsEndsRow.holds Try.pinned (OpenSpec.ofChange roundsEndsWrong)

/-- 'cohesionlaw38.RoundsKnow': WHATEVER THE INPUT: true; the input reads as it did. -/
def roundsKnowSpec : ChangeSpec := { name := "roundsKnow", fn := fun _ => fun
  | [d1, d2, d3] => { results := [.lit (.bool true)], args := [d1, d2, d3] }
  | _ => none }
def roundsKnowRow : OpenClaim := { program := "ytebehdjjkpffjaa", sum := "d8deb643714ffc47044ca7af04f492e405e0e7043a4829b9e4c6a4e8dd4d7240", func := "cohesion/cohesionlaw38.RoundsKnow", spec := "roundsKnow", unfollowed := true, recurses := true, apart := false }
def RoundsKnowSaid : Prop := roundsKnowRow.holds Try.pinned (OpenSpec.ofChange roundsKnowSpec)

/-- ITS FALSE NEIGHBOUR: 'it returns false'. Refute it at one input. -/
def roundsKnowWrong : ChangeSpec := { name := "roundsKnow", fn := fun _ => fun
  | [d1, d2, d3] => { results := [.lit (.bool false)], args := [d1, d2, d3] }
  | _ => none }
def RoundsKnowWrongFalsely : Prop := roundsKnowRow.holds Try.pinned (OpenSpec.ofChange roundsKnowWrong)

/- THE SECOND FORM. 'bulk': how many values and letters a reading holds, each counted each time it is reached (what is shared counts as often as it is met; a slice's spare places count too). A statement '..UptoSaid' is the law's where the arguments, and the package variables that the reading takes, are together of bulk at most 1048576: NARROWER than '..Said'. Prove '..Said' where nothing that the law and all that it calls make is longer than what came in: it says more and counts as full. Else prove '..UptoSaid'. A law counts once. -/
mutual
def uptoBulk {H : Type} : DataW H → Nat
  | .lit (.string bytes) => bytes.length + 1
  | .lit _ => 1
  | .nil => 1
  | .ptr d => uptoBulk d + 1
  | .slice elems spare => uptoBulkAll elems + uptoBulkAll spare + 1
  | .agg parts => uptoBulkAll parts + 1
  | .iface _ d => uptoBulk d + 1
  | .map entries => uptoBulkEntries entries + 1
  | .held _ => 1
def uptoBulkAll {H : Type} : List (DataW H) → Nat
  | [] => 0
  | d :: r => uptoBulk d + uptoBulkAll r
def uptoBulkEntries {H : Type} : List (Lit × DataW H) → Nat
  | [] => 0
  | x :: r => uptoBulkEntry x + uptoBulkEntries r
def uptoBulkEntry {H : Type} : Lit × DataW H → Nat
  | (.string bytes, d) => bytes.length + uptoBulk d + 1
  | (_, d) => uptoBulk d + 1
 end
def uptoSmall : (H : Type) → List (DataW H) → Bool := fun _ ds => decide (uptoBulkAll ds ≤ 1048576)
def OpenSpec.upto (s : _root_.Go.ChangeSpec) : _root_.Go.OpenSpec := { _root_.Go.OpenSpec.ofChange s with cond := some uptoSmall }

/-- 'cohesionlaw38.RoundsPlans', WHERE WHAT IT READS IS OF BULK AT MOST 1048576: true; the input reads as it did. -/
def roundsPlansUptoRow : OpenClaim := { program := "ytebehdjjkpffjaa", sum := "d8deb643714ffc47044ca7af04f492e405e0e7043a4829b9e4c6a4e8dd4d7240", func := "cohesion/cohesionlaw38.RoundsPlans", spec := "roundsPlans", unfollowed := true, recurses := true, apart := false, narrowed := true }
def RoundsPlansUptoSaid : Prop := roundsPlansUptoRow.holds Try.pinned (OpenSpec.upto roundsPlansSpec)

/-- 'cohesionlaw38.RoundsFalls', WHERE WHAT IT READS IS OF BULK AT MOST 1048576: true; the input reads as it did. -/
def roundsFallsUptoRow : OpenClaim := { program := "ytebehdjjkpffjaa", sum := "d8deb643714ffc47044ca7af04f492e405e0e7043a4829b9e4c6a4e8dd4d7240", func := "cohesion/cohesionlaw38.RoundsFalls", spec := "roundsFalls", unfollowed := true, recurses := true, apart := false, narrowed := true }
def RoundsFallsUptoSaid : Prop := roundsFallsUptoRow.holds Try.pinned (OpenSpec.upto roundsFallsSpec)

/-- 'cohesionlaw38.RoundsFew', WHERE WHAT IT READS IS OF BULK AT MOST 1048576: true; the input reads as it did. -/
def roundsFewUptoRow : OpenClaim := { program := "ytebehdjjkpffjaa", sum := "d8deb643714ffc47044ca7af04f492e405e0e7043a4829b9e4c6a4e8dd4d7240", func := "cohesion/cohesionlaw38.RoundsFew", spec := "roundsFew", unfollowed := true, recurses := true, apart := false, narrowed := true }
def RoundsFewUptoSaid : Prop := roundsFewUptoRow.holds Try.pinned (OpenSpec.upto roundsFewSpec)

/-- 'cohesionlaw38.RoundsEnds', WHERE WHAT IT READS IS OF BULK AT MOST 1048576: true; the input reads as it did. -/
def roundsEndsUptoRow : OpenClaim := { program := "ytebehdjjkpffjaa", sum := "d8deb643714ffc47044ca7af04f492e405e0e7043a4829b9e4c6a4e8dd4d7240", func := "cohesion/cohesionlaw38.RoundsEnds", spec := "roundsEnds", unfollowed := true, recurses := true, apart := false, narrowed := true }
def RoundsEndsUptoSaid : Prop := roundsEndsUptoRow.holds Try.pinned (OpenSpec.upto roundsEndsSpec)

/-- 'cohesionlaw38.RoundsKnow', WHERE WHAT IT READS IS OF BULK AT MOST 1048576: true; the input reads as it did. -/
def roundsKnowUptoRow : OpenClaim := { program := "ytebehdjjkpffjaa", sum := "d8deb643714ffc47044ca7af04f492e405e0e7043a4829b9e4c6a4e8dd4d7240", func := "cohesion/cohesionlaw38.RoundsKnow", spec := "roundsKnow", unfollowed := true, recurses := true, apart := false, narrowed := true }
def RoundsKnowUptoSaid : Prop := roundsKnowUptoRow.holds Try.pinned (OpenSpec.upto roundsKnowSpec)

end Rows
end Go.Proofs.Ytebehdjjkpffjaa
