/-
  No cell of these rows narrows 'for every input' (looked for: loops, veiled, ifaces, maps, wideKeys, modest, calm, conditions, laid).
  DERIVED. THE GIVEN ROWS OF THIS SEAT. 6 by the template 'for every input the law returns true; each argument reads behind the call as it read before'; 0 by the template 'total and deterministic' (their statements: YtnieabocheadpaaTotals.lean).
  GIVEN WITH THE SEED: the statements are not yours to turn. If you find one false, say at which input.
  Laid BY PROGRAM, IN A SANDBOX (cutbox-rows.mjs): the forced cells as the released guide's own fill.sh prints them over the translation b34e7c25e61b4d1c… (all of the seat's roots in one cut). By AI agents, Wed Nov 11 2026. No macro, syntax, notation, axiom, sorry.
-/
import Derived.Test.YtnieabocheadpaaChecked
import GoSem.Claim
import GoSem.ClaimJoined
import GoSem.ClaimMapViews
import Derived.JoinedTies
import Derived.KernelRfl
namespace Go.Proofs.Ytnieabocheadpaa
/- THE CELL 'sum', in the pinned program and in every row, IS THE sha256 OF THE DUMP (.gsa) THAT YtnieabocheadpaaProg.lean LOADS. Nothing in Lean hashes anything: it is a label: what it is worth is what the hold of that sum in a sandbox is worth. -/
noncomputable def Try.pinned : Pinned := { name := "ytnieabocheadpaa", sum := "b34e7c25e61b4d1c97fc83efd42fe782054ebda848440859fb68a31b22ad0ced", checked := Try.checked }
namespace Rows
def none {H : Type} : Left H := { results := [], args := [] }

/-- 'laws.FnExactTableNew': WHATEVER THE INPUT: true; the input reads as it did. -/
def fnExactTableNewSpec : ChangeSpec := { name := "fnExactTableNew", fn := fun _ => fun
  | [d] => { results := [.lit (.bool true)], args := [d] }
  | _ => none }
def fnExactTableNewRow : OpenClaim := { program := "ytnieabocheadpaa", sum := "b34e7c25e61b4d1c97fc83efd42fe782054ebda848440859fb68a31b22ad0ced", func := "loop.example/g00271/laws.FnExactTableNew", spec := "fnExactTableNew", unfollowed := true, recurses := true, apart := false }
def FnExactTableNewSaid : Prop := fnExactTableNewRow.holds Try.pinned (OpenSpec.ofChange fnExactTableNewSpec)

/-- ITS FALSE NEIGHBOUR: 'it returns false'. Refute it at one input. -/
def fnExactTableNewWrong : ChangeSpec := { name := "fnExactTableNew", fn := fun _ => fun
  | [d] => { results := [.lit (.bool false)], args := [d] }
  | _ => none }
def FnExactTableNewWrongFalsely : Prop := fnExactTableNewRow.holds Try.pinned (OpenSpec.ofChange fnExactTableNewWrong)

/-- 'laws.FnExactTableRight': WHATEVER THE INPUT: true; the input reads as it did. -/
def fnExactTableRightSpec : ChangeSpec := { name := "fnExactTableRight", fn := fun _ => fun
  | [d] => { results := [.lit (.bool true)], args := [d] }
  | _ => none }
def fnExactTableRightRow : OpenClaim := { program := "ytnieabocheadpaa", sum := "b34e7c25e61b4d1c97fc83efd42fe782054ebda848440859fb68a31b22ad0ced", func := "loop.example/g00271/laws.FnExactTableRight", spec := "fnExactTableRight", inPlace := ["internal/bytealg.abigen_runtime_cmpstring"], unfollowed := true, recurses := true, apart := false }
def FnExactTableRightSaid : Prop := fnExactTableRightRow.holds Try.pinned (OpenSpec.ofChange fnExactTableRightSpec)

/-- ITS FALSE NEIGHBOUR: 'it returns false'. Refute it at one input. -/
def fnExactTableRightWrong : ChangeSpec := { name := "fnExactTableRight", fn := fun _ => fun
  | [d] => { results := [.lit (.bool false)], args := [d] }
  | _ => none }
def FnExactTableRightWrongFalsely : Prop := fnExactTableRightRow.holds Try.pinned (OpenSpec.ofChange fnExactTableRightWrong)

/-- 'laws.FnExactDbRight': WHATEVER THE INPUT: true; the input reads as it did. -/
def fnExactDbRightSpec : ChangeSpec := { name := "fnExactDbRight", fn := fun _ => fun
  | [d] => { results := [.lit (.bool true)], args := [d] }
  | _ => none }
def fnExactDbRightRow : OpenClaim := { program := "ytnieabocheadpaa", sum := "b34e7c25e61b4d1c97fc83efd42fe782054ebda848440859fb68a31b22ad0ced", func := "loop.example/g00271/laws.FnExactDbRight", spec := "fnExactDbRight", inPlace := ["internal/bytealg.abigen_runtime_cmpstring"], unfollowed := true, recurses := true, apart := false }
def FnExactDbRightSaid : Prop := fnExactDbRightRow.holds Try.pinned (OpenSpec.ofChange fnExactDbRightSpec)

/-- ITS FALSE NEIGHBOUR: 'it returns false'. Refute it at one input. -/
def fnExactDbRightWrong : ChangeSpec := { name := "fnExactDbRight", fn := fun _ => fun
  | [d] => { results := [.lit (.bool false)], args := [d] }
  | _ => none }
def FnExactDbRightWrongFalsely : Prop := fnExactDbRightRow.holds Try.pinned (OpenSpec.ofChange fnExactDbRightWrong)

/-- 'laws.FnExactTableGet': WHATEVER THE INPUT: true; the input reads as it did. -/
def fnExactTableGetSpec : ChangeSpec := { name := "fnExactTableGet", fn := fun _ => fun
  | [d1, d2] => { results := [.lit (.bool true)], args := [d1, d2] }
  | _ => none }
def fnExactTableGetRow : OpenClaim := { program := "ytnieabocheadpaa", sum := "b34e7c25e61b4d1c97fc83efd42fe782054ebda848440859fb68a31b22ad0ced", func := "loop.example/g00271/laws.FnExactTableGet", spec := "fnExactTableGet", inPlace := ["internal/bytealg.abigen_runtime_cmpstring"], unfollowed := true, recurses := true, apart := false }
def FnExactTableGetSaid : Prop := fnExactTableGetRow.holds Try.pinned (OpenSpec.ofChange fnExactTableGetSpec)

/-- ITS FALSE NEIGHBOUR: 'it returns false'. Refute it at one input. -/
def fnExactTableGetWrong : ChangeSpec := { name := "fnExactTableGet", fn := fun _ => fun
  | [d1, d2] => { results := [.lit (.bool false)], args := [d1, d2] }
  | _ => none }
def FnExactTableGetWrongFalsely : Prop := fnExactTableGetRow.holds Try.pinned (OpenSpec.ofChange fnExactTableGetWrong)

/-- 'laws.FnExactTableFind': WHATEVER THE INPUT: true; the input reads as it did. -/
def fnExactTableFindSpec : ChangeSpec := { name := "fnExactTableFind", fn := fun _ => fun
  | [d1, d2, d3] => { results := [.lit (.bool true)], args := [d1, d2, d3] }
  | _ => none }
def fnExactTableFindRow : OpenClaim := { program := "ytnieabocheadpaa", sum := "b34e7c25e61b4d1c97fc83efd42fe782054ebda848440859fb68a31b22ad0ced", func := "loop.example/g00271/laws.FnExactTableFind", spec := "fnExactTableFind", inPlace := ["internal/bytealg.abigen_runtime_cmpstring"], unfollowed := true, recurses := true, apart := false }
def FnExactTableFindSaid : Prop := fnExactTableFindRow.holds Try.pinned (OpenSpec.ofChange fnExactTableFindSpec)

/-- ITS FALSE NEIGHBOUR: 'it returns false'. Refute it at one input. -/
def fnExactTableFindWrong : ChangeSpec := { name := "fnExactTableFind", fn := fun _ => fun
  | [d1, d2, d3] => { results := [.lit (.bool false)], args := [d1, d2, d3] }
  | _ => none }
def FnExactTableFindWrongFalsely : Prop := fnExactTableFindRow.holds Try.pinned (OpenSpec.ofChange fnExactTableFindWrong)

/-- 'laws.FnTable': WHATEVER THE INPUT: true; the input reads as it did. -/
def fnTableSpec : ChangeSpec := { name := "fnTable", fn := fun _ => fun
  | [d1, d2] => { results := [.lit (.bool true)], args := [d1, d2] }
  | _ => none }
def fnTableRow : OpenClaim := { program := "ytnieabocheadpaa", sum := "b34e7c25e61b4d1c97fc83efd42fe782054ebda848440859fb68a31b22ad0ced", func := "loop.example/g00271/laws.FnTable", spec := "fnTable", inPlace := ["internal/bytealg.abigen_runtime_cmpstring", "slices.overlaps[[]loop.example/g00271/impl.Value]"], unfollowed := true, recurses := true, apart := false }
def FnTableSaid : Prop := fnTableRow.holds Try.pinned (OpenSpec.ofChange fnTableSpec)

/-- ITS FALSE NEIGHBOUR: 'it returns false'. Refute it at one input. -/
def fnTableWrong : ChangeSpec := { name := "fnTable", fn := fun _ => fun
  | [d1, d2] => { results := [.lit (.bool false)], args := [d1, d2] }
  | _ => none }
def FnTableWrongFalsely : Prop := fnTableRow.holds Try.pinned (OpenSpec.ofChange fnTableWrong)

/- THE SECOND FORM. 'bulk': how many values and letters a reading holds, each counted each time it is reached (what is shared counts as often as it is met; a slice's spare places count too). A statement '..UptoSaid' is the law's where the arguments, and the package variables that the reading takes, are together of bulk at most 1048576: NARROWER than '..Said'. Prove '..Said' where nothing that the law and all that it calls make is longer than what came in: it says more and counts as full. Else prove '..UptoSaid'. A law counts once. -/
mutual
def uptoBulk {H : Type} : DataW H → Nat
  | .lit (.string bytes) => bytes.length + 1
  | .lit _ => 1
  | .nil => 1
  | .ptr d => uptoBulk d + 1
  | .slice elems spare => uptoBulkAll elems + uptoBulkAll spare + 1
  | .agg parts => uptoBulkAll parts + 1
  | .iface _ d => uptoBulk d + 1
  | .map entries => uptoBulkEntries entries + 1
  | .held _ => 1
def uptoBulkAll {H : Type} : List (DataW H) → Nat
  | [] => 0
  | d :: r => uptoBulk d + uptoBulkAll r
def uptoBulkEntries {H : Type} : List (Lit × DataW H) → Nat
  | [] => 0
  | x :: r => uptoBulkEntry x + uptoBulkEntries r
def uptoBulkEntry {H : Type} : Lit × DataW H → Nat
  | (.string bytes, d) => bytes.length + uptoBulk d + 1
  | (_, d) => uptoBulk d + 1
 end
def uptoSmall : (H : Type) → List (DataW H) → Bool := fun _ ds => decide (uptoBulkAll ds ≤ 1048576)
def OpenSpec.upto (s : _root_.Go.ChangeSpec) : _root_.Go.OpenSpec := { _root_.Go.OpenSpec.ofChange s with cond := some uptoSmall }

/-- 'laws.FnExactTableNew', WHERE WHAT IT READS IS OF BULK AT MOST 1048576: true; the input reads as it did. -/
def fnExactTableNewUptoRow : OpenClaim := { program := "ytnieabocheadpaa", sum := "b34e7c25e61b4d1c97fc83efd42fe782054ebda848440859fb68a31b22ad0ced", func := "loop.example/g00271/laws.FnExactTableNew", spec := "fnExactTableNew", unfollowed := true, recurses := true, apart := false, narrowed := true }
def FnExactTableNewUptoSaid : Prop := fnExactTableNewUptoRow.holds Try.pinned (OpenSpec.upto fnExactTableNewSpec)

/-- 'laws.FnExactTableRight', WHERE WHAT IT READS IS OF BULK AT MOST 1048576: true; the input reads as it did. -/
def fnExactTableRightUptoRow : OpenClaim := { program := "ytnieabocheadpaa", sum := "b34e7c25e61b4d1c97fc83efd42fe782054ebda848440859fb68a31b22ad0ced", func := "loop.example/g00271/laws.FnExactTableRight", spec := "fnExactTableRight", inPlace := ["internal/bytealg.abigen_runtime_cmpstring"], unfollowed := true, recurses := true, apart := false, narrowed := true }
def FnExactTableRightUptoSaid : Prop := fnExactTableRightUptoRow.holds Try.pinned (OpenSpec.upto fnExactTableRightSpec)

/-- 'laws.FnExactDbRight', WHERE WHAT IT READS IS OF BULK AT MOST 1048576: true; the input reads as it did. -/
def fnExactDbRightUptoRow : OpenClaim := { program := "ytnieabocheadpaa", sum := "b34e7c25e61b4d1c97fc83efd42fe782054ebda848440859fb68a31b22ad0ced", func := "loop.example/g00271/laws.FnExactDbRight", spec := "fnExactDbRight", inPlace := ["internal/bytealg.abigen_runtime_cmpstring"], unfollowed := true, recurses := true, apart := false, narrowed := true }
def FnExactDbRightUptoSaid : Prop := fnExactDbRightUptoRow.holds Try.pinned (OpenSpec.upto fnExactDbRightSpec)

/-- 'laws.FnExactTableGet', WHERE WHAT IT READS IS OF BULK AT MOST 1048576: true; the input reads as it did. -/
def fnExactTableGetUptoRow : OpenClaim := { program := "ytnieabocheadpaa", sum := "b34e7c25e61b4d1c97fc83efd42fe782054ebda848440859fb68a31b22ad0ced", func := "loop.example/g00271/laws.FnExactTableGet", spec := "fnExactTableGet", inPlace := ["internal/bytealg.abigen_runtime_cmpstring"], unfollowed := true, recurses := true, apart := false, narrowed := true }
def FnExactTableGetUptoSaid : Prop := fnExactTableGetUptoRow.holds Try.pinned (OpenSpec.upto fnExactTableGetSpec)

/-- 'laws.FnExactTableFind', WHERE WHAT IT READS IS OF BULK AT MOST 1048576: true; the input reads as it did. -/
def fnExactTableFindUptoRow : OpenClaim := { program := "ytnieabocheadpaa", sum := "b34e7c25e61b4d1c97fc83efd42fe782054ebda848440859fb68a31b22ad0ced", func := "loop.example/g00271/laws.FnExactTableFind", spec := "fnExactTableFind", inPlace := ["internal/bytealg.abigen_runtime_cmpstring"], unfollowed := true, recurses := true, apart := false, narrowed := true }
def FnExactTableFindUptoSaid : Prop := fnExactTableFindUptoRow.holds Try.pinned (OpenSpec.upto fnExactTableFindSpec)

/-- 'laws.FnTable', WHERE WHAT IT READS IS OF BULK AT MOST 1048576: true; the input reads as it did. -/
def fnTableUptoRow : OpenClaim := { program := "ytnieabocheadpaa", sum := "b34e7c25e61b4d1c97fc83efd42fe782054ebda848440859fb68a31b22ad0ced", func := "loop.example/g00271/laws.FnTable", spec := "fnTable", inPlace := ["internal/bytealg.abigen_runtime_cmpstring", "slices.overlaps[[]loop.example/g00271/impl.Value]"], unfollowed := true, recurses := true, apart := false, narrowed := true }
def FnTableUptoSaid : Prop := fnTableUptoRow.holds Try.pinned (OpenSpec.upto fnTableSpec)

end Rows
end Go.Proofs.Ytnieabocheadpaa
