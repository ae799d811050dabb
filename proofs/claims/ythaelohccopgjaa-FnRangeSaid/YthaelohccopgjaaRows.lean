/-
  NARROWER THAN 'FOR EVERY INPUT', by the rows' own cells (each row's printed sentence says how): FnExactTreeRange: loops · FnExactTreePut: loops · FnExactTreeDel: loops.
  DERIVED. THE GIVEN ROWS OF THIS SEAT. 5 by the template 'for every input the law returns true; each argument reads behind the call as it read before'; 0 by the template 'total and deterministic' (their statements: YthaelohccopgjaaTotals.lean).
  GIVEN WITH THE SEED: the statements are not yours to turn. If you find one false, say at which input.
  Laid BY PROGRAM, IN A SANDBOX (cutbox-rows.mjs): the forced cells as the released guide's own fill.sh prints them over the translation d0b54c3b243a9519… (all of the seat's roots in one cut). By AI agents, Wed Nov 11 2026. No macro, syntax, notation, axiom, sorry.
-/
import Derived.Test.YthaelohccopgjaaChecked
import GoSem.Claim
import GoSem.ClaimJoined
import GoSem.ClaimMapViews
import Derived.JoinedTies
import Derived.KernelRfl
namespace Go.Proofs.Ythaelohccopgjaa
/- THE CELL 'sum', in the pinned program and in every row, IS THE sha256 OF THE DUMP (.gsa) THAT YthaelohccopgjaaProg.lean LOADS. Nothing in Lean hashes anything: it is a label: what it is worth is what the hold of that sum in a sandbox is worth. -/
noncomputable def Try.pinned : Pinned := { name := "ythaelohccopgjaa", sum := "d0b54c3b243a951951eb45a00558b2377058a83e0da6be61286bbe7212a9f8d1", checked := Try.checked }
namespace Rows
def none {H : Type} : Left H := { results := [], args := [] }

/-- 'laws.FnTree': WHATEVER THE INPUT: true; the input reads as it did. -/
def fnTreeSpec : ChangeSpec := { name := "fnTree", fn := fun _ => fun
  | [d1, d2] => { results := [.lit (.bool true)], args := [d1, d2] }
  | _ => none }
def fnTreeRow : OpenClaim := { program := "ythaelohccopgjaa", sum := "d0b54c3b243a951951eb45a00558b2377058a83e0da6be61286bbe7212a9f8d1", func := "loop.example/g00271/laws.FnTree", spec := "fnTree", inPlace := ["slices.overlaps[string]", "slices.overlaps[loop.example/g00271/impl.Tree]"], recurses := true, apart := false }
def FnTreeSaid : Prop := fnTreeRow.holds Try.pinned (OpenSpec.ofChange fnTreeSpec)

/-- ITS FALSE NEIGHBOUR: 'it returns false'. Refute it at one input. -/
def fnTreeWrong : ChangeSpec := { name := "fnTree", fn := fun _ => fun
  | [d1, d2] => { results := [.lit (.bool false)], args := [d1, d2] }
  | _ => none }
def FnTreeWrongFalsely : Prop := fnTreeRow.holds Try.pinned (OpenSpec.ofChange fnTreeWrong)

/-- 'laws.FnExactTreeRange': WHATEVER THE INPUT: true; the input reads as it did. -/
def fnExactTreeRangeSpec : ChangeSpec := { name := "fnExactTreeRange", fn := fun _ => fun
  | [d1, d2, d3] => { results := [.lit (.bool true)], args := [d1, d2, d3] }
  | _ => none }
def fnExactTreeRangeRow : OpenClaim := { program := "ythaelohccopgjaa", sum := "d0b54c3b243a951951eb45a00558b2377058a83e0da6be61286bbe7212a9f8d1", func := "loop.example/g00271/laws.FnExactTreeRange", spec := "fnExactTreeRange", recurses := true, loops := true, apart := false }
def FnExactTreeRangeSaid : Prop := fnExactTreeRangeRow.holds Try.pinned (OpenSpec.ofChange fnExactTreeRangeSpec)

/-- ITS FALSE NEIGHBOUR: 'it returns false'. Refute it at one input. -/
def fnExactTreeRangeWrong : ChangeSpec := { name := "fnExactTreeRange", fn := fun _ => fun
  | [d1, d2, d3] => { results := [.lit (.bool false)], args := [d1, d2, d3] }
  | _ => none }
def FnExactTreeRangeWrongFalsely : Prop := fnExactTreeRangeRow.holds Try.pinned (OpenSpec.ofChange fnExactTreeRangeWrong)

/-- 'laws.FnRange': WHATEVER THE INPUT: true; the input reads as it did. -/
def fnRangeSpec : ChangeSpec := { name := "fnRange", fn := fun _ => fun
  | [d] => { results := [.lit (.bool true)], args := [d] }
  | _ => none }
def fnRangeRow : OpenClaim := { program := "ythaelohccopgjaa", sum := "d0b54c3b243a951951eb45a00558b2377058a83e0da6be61286bbe7212a9f8d1", func := "loop.example/g00271/laws.FnRange", spec := "fnRange", recurses := true, apart := false }
def FnRangeSaid : Prop := fnRangeRow.holds Try.pinned (OpenSpec.ofChange fnRangeSpec)

/-- ITS FALSE NEIGHBOUR: 'it returns false'. Refute it at one input. -/
def fnRangeWrong : ChangeSpec := { name := "fnRange", fn := fun _ => fun
  | [d] => { results := [.lit (.bool false)], args := [d] }
  | _ => none }
def FnRangeWrongFalsely : Prop := fnRangeRow.holds Try.pinned (OpenSpec.ofChange fnRangeWrong)

/-- 'laws.FnExactTreePut': WHATEVER THE INPUT: true; the input reads as it did. -/
def fnExactTreePutSpec : ChangeSpec := { name := "fnExactTreePut", fn := fun _ => fun
  | [d1, d2, d3] => { results := [.lit (.bool true)], args := [d1, d2, d3] }
  | _ => none }
def fnExactTreePutRow : OpenClaim := { program := "ythaelohccopgjaa", sum := "d0b54c3b243a951951eb45a00558b2377058a83e0da6be61286bbe7212a9f8d1", func := "loop.example/g00271/laws.FnExactTreePut", spec := "fnExactTreePut", inPlace := ["slices.overlaps[string]", "slices.overlaps[loop.example/g00271/impl.Tree]"], recurses := true, loops := true, apart := false }
def FnExactTreePutSaid : Prop := fnExactTreePutRow.holds Try.pinned (OpenSpec.ofChange fnExactTreePutSpec)

/-- ITS FALSE NEIGHBOUR: 'it returns false'. Refute it at one input. -/
def fnExactTreePutWrong : ChangeSpec := { name := "fnExactTreePut", fn := fun _ => fun
  | [d1, d2, d3] => { results := [.lit (.bool false)], args := [d1, d2, d3] }
  | _ => none }
def FnExactTreePutWrongFalsely : Prop := fnExactTreePutRow.holds Try.pinned (OpenSpec.ofChange fnExactTreePutWrong)

/-- 'laws.FnExactTreeDel': WHATEVER THE INPUT: true; the input reads as it did. -/
def fnExactTreeDelSpec : ChangeSpec := { name := "fnExactTreeDel", fn := fun _ => fun
  | [d1, d2] => { results := [.lit (.bool true)], args := [d1, d2] }
  | _ => none }
def fnExactTreeDelRow : OpenClaim := { program := "ythaelohccopgjaa", sum := "d0b54c3b243a951951eb45a00558b2377058a83e0da6be61286bbe7212a9f8d1", func := "loop.example/g00271/laws.FnExactTreeDel", spec := "fnExactTreeDel", inPlace := ["slices.overlaps[string]", "slices.overlaps[loop.example/g00271/impl.Tree]"], recurses := true, loops := true, apart := false }
def FnExactTreeDelSaid : Prop := fnExactTreeDelRow.holds Try.pinned (OpenSpec.ofChange fnExactTreeDelSpec)

/-- ITS FALSE NEIGHBOUR: 'it returns false'. Refute it at one input. -/
def fnExactTreeDelWrong : ChangeSpec := { name := "fnExactTreeDel", fn := fun _ => fun
  | [d1, d2] => { results := [.lit (.bool false)], args := [d1, d2] }
  | _ => none }
def FnExactTreeDelWrongFalsely : Prop := fnExactTreeDelRow.holds Try.pinned (OpenSpec.ofChange fnExactTreeDelWrong)

/- THE SECOND FORM. 'bulk': how many values and letters a reading holds, each counted each time it is reached (what is shared counts as often as it is met; a slice's spare places count too). A statement '..UptoSaid' is the law's where the arguments, and the package variables that the reading takes, are together of bulk at most 1048576: NARROWER than '..Said'. Prove '..Said' where nothing that the law and all that it calls make is longer than what came in: it says more and counts as full. Else prove '..UptoSaid'. A law counts once. -/
mutual
def uptoBulk {H : Type} : DataW H → Nat
  | .lit (.string bytes) => bytes.length + 1
  | .lit _ => 1
  | .nil => 1
  | .ptr d => uptoBulk d + 1
  | .slice elems spare => uptoBulkAll elems + uptoBulkAll spare + 1
  | .agg parts => uptoBulkAll parts + 1
  | .iface _ d => uptoBulk d + 1
  | .map entries => uptoBulkEntries entries + 1
  | .held _ => 1
def uptoBulkAll {H : Type} : List (DataW H) → Nat
  | [] => 0
  | d :: r => uptoBulk d + uptoBulkAll r
def uptoBulkEntries {H : Type} : List (Lit × DataW H) → Nat
  | [] => 0
  | x :: r => uptoBulkEntry x + uptoBulkEntries r
def uptoBulkEntry {H : Type} : Lit × DataW H → Nat
  | (.string bytes, d) => bytes.length + uptoBulk d + 1
  | (_, d) => uptoBulk d + 1
 end
def uptoSmall : (H : Type) → List (DataW H) → Bool := fun _ ds => decide (uptoBulkAll ds ≤ 1048576)
def OpenSpec.upto (s : _root_.Go.ChangeSpec) : _root_.Go.OpenSpec := { _root_.Go.OpenSpec.ofChange s with cond := some uptoSmall }

/-- 'laws.FnTree', WHERE WHAT IT READS IS OF BULK AT MOST 1048576: true; the input reads as it did. -/
def fnTreeUptoRow : OpenClaim := { program := "ythaelohccopgjaa", sum := "d0b54c3b243a951951eb45a00558b2377058a83e0da6be61286bbe7212a9f8d1", func := "loop.example/g00271/laws.FnTree", spec := "fnTree", inPlace := ["slices.overlaps[string]", "slices.overlaps[loop.example/g00271/impl.Tree]"], recurses := true, apart := false, narrowed := true }
def FnTreeUptoSaid : Prop := fnTreeUptoRow.holds Try.pinned (OpenSpec.upto fnTreeSpec)

/-- 'laws.FnExactTreeRange', WHERE WHAT IT READS IS OF BULK AT MOST 1048576: true; the input reads as it did. -/
def fnExactTreeRangeUptoRow : OpenClaim := { program := "ythaelohccopgjaa", sum := "d0b54c3b243a951951eb45a00558b2377058a83e0da6be61286bbe7212a9f8d1", func := "loop.example/g00271/laws.FnExactTreeRange", spec := "fnExactTreeRange", recurses := true, loops := true, apart := false, narrowed := true }
def FnExactTreeRangeUptoSaid : Prop := fnExactTreeRangeUptoRow.holds Try.pinned (OpenSpec.upto fnExactTreeRangeSpec)

/-- 'laws.FnRange', WHERE WHAT IT READS IS OF BULK AT MOST 1048576: true; the input reads as it did. -/
def fnRangeUptoRow : OpenClaim := { program := "ythaelohccopgjaa", sum := "d0b54c3b243a951951eb45a00558b2377058a83e0da6be61286bbe7212a9f8d1", func := "loop.example/g00271/laws.FnRange", spec := "fnRange", recurses := true, apart := false, narrowed := true }
def FnRangeUptoSaid : Prop := fnRangeUptoRow.holds Try.pinned (OpenSpec.upto fnRangeSpec)

/-- 'laws.FnExactTreePut', WHERE WHAT IT READS IS OF BULK AT MOST 1048576: true; the input reads as it did. -/
def fnExactTreePutUptoRow : OpenClaim := { program := "ythaelohccopgjaa", sum := "d0b54c3b243a951951eb45a00558b2377058a83e0da6be61286bbe7212a9f8d1", func := "loop.example/g00271/laws.FnExactTreePut", spec := "fnExactTreePut", inPlace := ["slices.overlaps[string]", "slices.overlaps[loop.example/g00271/impl.Tree]"], recurses := true, loops := true, apart := false, narrowed := true }
def FnExactTreePutUptoSaid : Prop := fnExactTreePutUptoRow.holds Try.pinned (OpenSpec.upto fnExactTreePutSpec)

/-- 'laws.FnExactTreeDel', WHERE WHAT IT READS IS OF BULK AT MOST 1048576: true; the input reads as it did. -/
def fnExactTreeDelUptoRow : OpenClaim := { program := "ythaelohccopgjaa", sum := "d0b54c3b243a951951eb45a00558b2377058a83e0da6be61286bbe7212a9f8d1", func := "loop.example/g00271/laws.FnExactTreeDel", spec := "fnExactTreeDel", inPlace := ["slices.overlaps[string]", "slices.overlaps[loop.example/g00271/impl.Tree]"], recurses := true, loops := true, apart := false, narrowed := true }
def FnExactTreeDelUptoSaid : Prop := fnExactTreeDelUptoRow.holds Try.pinned (OpenSpec.upto fnExactTreeDelSpec)

end Rows
end Go.Proofs.Ythaelohccopgjaa
