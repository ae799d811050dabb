/-
  No cell of these rows narrows 'for every input' (looked for: loops, veiled, ifaces, maps, wideKeys, modest, calm, conditions, laid).
  DERIVED. THE GIVEN ROWS OF THIS SEAT. 11 by the template 'for every input the law returns true; each argument reads behind the call as it read before'; 0 by the template 'total and deterministic' (their statements: YtcmgkfoppofniaaTotals.lean).
  GIVEN WITH THE SEED: the statements are not yours to turn. If you find one false, say at which input.
  Laid BY PROGRAM, IN A SANDBOX (cutbox-rows.mjs): the forced cells as the released guide's own fill.sh prints them over the translation aaa5b1d9e8d0a425… (all of the seat's roots in one cut). By AI agents, Wed Nov 11 2026. No macro, syntax, notation, axiom, sorry.
-/
import Derived.Test.YtcmgkfoppofniaaChecked
import GoSem.Claim
import GoSem.ClaimJoined
import GoSem.ClaimMapViews
import Derived.JoinedTies
import Derived.KernelRfl
namespace Go.Proofs.Ytcmgkfoppofniaa
/- THE CELL 'sum', in the pinned program and in every row, IS THE sha256 OF THE DUMP (.gsa) THAT YtcmgkfoppofniaaProg.lean LOADS. Nothing in Lean hashes anything: it is a label: what it is worth is what the hold of that sum in a sandbox is worth. -/
noncomputable def Try.pinned : Pinned := { name := "ytcmgkfoppofniaa", sum := "aaa5b1d9e8d0a4255bf6f7fb6af0656086ed88b3734734d3afeb3c3d487bfcdc", checked := Try.checked }
namespace Rows
def none {H : Type} : Left H := { results := [], args := [] }

/-- 'laws.FnNums': WHATEVER THE INPUT: true; the input reads as it did. -/
def fnNumsSpec : ChangeSpec := { name := "fnNums", fn := fun _ => fun
  | [d1, d2] => { results := [.lit (.bool true)], args := [d1, d2] }
  | _ => none }
def fnNumsRow : OpenClaim := { program := "ytcmgkfoppofniaa", sum := "aaa5b1d9e8d0a4255bf6f7fb6af0656086ed88b3734734d3afeb3c3d487bfcdc", func := "loop.example/g00271/laws.FnNums", spec := "fnNums", apart := false }
def FnNumsSaid : Prop := fnNumsRow.holds Try.pinned (OpenSpec.ofChange fnNumsSpec)

/-- ITS FALSE NEIGHBOUR: 'it returns false'. Refute it at one input. -/
def fnNumsWrong : ChangeSpec := { name := "fnNums", fn := fun _ => fun
  | [d1, d2] => { results := [.lit (.bool false)], args := [d1, d2] }
  | _ => none }
def FnNumsWrongFalsely : Prop := fnNumsRow.holds Try.pinned (OpenSpec.ofChange fnNumsWrong)

/-- 'laws.FnSeal': WHATEVER THE INPUT: true; the input reads as it did. -/
def fnSealSpec : ChangeSpec := { name := "fnSeal", fn := fun _ => fun
  | [d1, d2] => { results := [.lit (.bool true)], args := [d1, d2] }
  | _ => none }
def fnSealRow : OpenClaim := { program := "ytcmgkfoppofniaa", sum := "aaa5b1d9e8d0a4255bf6f7fb6af0656086ed88b3734734d3afeb3c3d487bfcdc", func := "loop.example/g00271/laws.FnSeal", spec := "fnSeal", apart := false }
def FnSealSaid : Prop := fnSealRow.holds Try.pinned (OpenSpec.ofChange fnSealSpec)

/-- ITS FALSE NEIGHBOUR: 'it returns false'. Refute it at one input. -/
def fnSealWrong : ChangeSpec := { name := "fnSeal", fn := fun _ => fun
  | [d1, d2] => { results := [.lit (.bool false)], args := [d1, d2] }
  | _ => none }
def FnSealWrongFalsely : Prop := fnSealRow.holds Try.pinned (OpenSpec.ofChange fnSealWrong)

/-- 'laws.FnExactCompare': WHATEVER THE INPUT: true; the input reads as it did. -/
def fnExactCompareSpec : ChangeSpec := { name := "fnExactCompare", fn := fun _ => fun
  | [d1, d2] => { results := [.lit (.bool true)], args := [d1, d2] }
  | _ => none }
def fnExactCompareRow : OpenClaim := { program := "ytcmgkfoppofniaa", sum := "aaa5b1d9e8d0a4255bf6f7fb6af0656086ed88b3734734d3afeb3c3d487bfcdc", func := "loop.example/g00271/laws.FnExactCompare", spec := "fnExactCompare", inPlace := ["internal/bytealg.abigen_runtime_cmpstring"], unfollowed := true, recurses := true, apart := false }
def FnExactCompareSaid : Prop := fnExactCompareRow.holds Try.pinned (OpenSpec.ofChange fnExactCompareSpec)

/-- ITS FALSE NEIGHBOUR: 'it returns false'. Refute it at one input. -/
def fnExactCompareWrong : ChangeSpec := { name := "fnExactCompare", fn := fun _ => fun
  | [d1, d2] => { results := [.lit (.bool false)], args := [d1, d2] }
  | _ => none }
def FnExactCompareWrongFalsely : Prop := fnExactCompareRow.holds Try.pinned (OpenSpec.ofChange fnExactCompareWrong)

/-- 'laws.FnExactPick': WHATEVER THE INPUT: true; the input reads as it did. -/
def fnExactPickSpec : ChangeSpec := { name := "fnExactPick", fn := fun _ => fun
  | [d1, d2] => { results := [.lit (.bool true)], args := [d1, d2] }
  | _ => none }
def fnExactPickRow : OpenClaim := { program := "ytcmgkfoppofniaa", sum := "aaa5b1d9e8d0a4255bf6f7fb6af0656086ed88b3734734d3afeb3c3d487bfcdc", func := "loop.example/g00271/laws.FnExactPick", spec := "fnExactPick", unfollowed := true, recurses := true, apart := false }
def FnExactPickSaid : Prop := fnExactPickRow.holds Try.pinned (OpenSpec.ofChange fnExactPickSpec)

/-- ITS FALSE NEIGHBOUR: 'it returns false'. Refute it at one input. -/
def fnExactPickWrong : ChangeSpec := { name := "fnExactPick", fn := fun _ => fun
  | [d1, d2] => { results := [.lit (.bool false)], args := [d1, d2] }
  | _ => none }
def FnExactPickWrongFalsely : Prop := fnExactPickRow.holds Try.pinned (OpenSpec.ofChange fnExactPickWrong)

/-- 'laws.FnExactKeyRead': WHATEVER THE INPUT: true; the input reads as it did. -/
def fnExactKeyReadSpec : ChangeSpec := { name := "fnExactKeyRead", fn := fun _ => fun
  | [d] => { results := [.lit (.bool true)], args := [d] }
  | _ => none }
def fnExactKeyReadRow : OpenClaim := { program := "ytcmgkfoppofniaa", sum := "aaa5b1d9e8d0a4255bf6f7fb6af0656086ed88b3734734d3afeb3c3d487bfcdc", func := "loop.example/g00271/laws.FnExactKeyRead", spec := "fnExactKeyRead", apart := false }
def FnExactKeyReadSaid : Prop := fnExactKeyReadRow.holds Try.pinned (OpenSpec.ofChange fnExactKeyReadSpec)

/-- ITS FALSE NEIGHBOUR: 'it returns false'. Refute it at one input. -/
def fnExactKeyReadWrong : ChangeSpec := { name := "fnExactKeyRead", fn := fun _ => fun
  | [d] => { results := [.lit (.bool false)], args := [d] }
  | _ => none }
def FnExactKeyReadWrongFalsely : Prop := fnExactKeyReadRow.holds Try.pinned (OpenSpec.ofChange fnExactKeyReadWrong)

/-- 'laws.FnExactSchemaRight': WHATEVER THE INPUT: true; the input reads as it did. -/
def fnExactSchemaRightSpec : ChangeSpec := { name := "fnExactSchemaRight", fn := fun _ => fun
  | [d] => { results := [.lit (.bool true)], args := [d] }
  | _ => none }
def fnExactSchemaRightRow : OpenClaim := { program := "ytcmgkfoppofniaa", sum := "aaa5b1d9e8d0a4255bf6f7fb6af0656086ed88b3734734d3afeb3c3d487bfcdc", func := "loop.example/g00271/laws.FnExactSchemaRight", spec := "fnExactSchemaRight", unfollowed := true, recurses := true, apart := false }
def FnExactSchemaRightSaid : Prop := fnExactSchemaRightRow.holds Try.pinned (OpenSpec.ofChange fnExactSchemaRightSpec)

/-- ITS FALSE NEIGHBOUR: 'it returns false'. Refute it at one input. -/
def fnExactSchemaRightWrong : ChangeSpec := { name := "fnExactSchemaRight", fn := fun _ => fun
  | [d] => { results := [.lit (.bool false)], args := [d] }
  | _ => none }
def FnExactSchemaRightWrongFalsely : Prop := fnExactSchemaRightRow.holds Try.pinned (OpenSpec.ofChange fnExactSchemaRightWrong)

/-- 'laws.FnExactColumnOf': WHATEVER THE INPUT: true; the input reads as it did. -/
def fnExactColumnOfSpec : ChangeSpec := { name := "fnExactColumnOf", fn := fun _ => fun
  | [d1, d2] => { results := [.lit (.bool true)], args := [d1, d2] }
  | _ => none }
def fnExactColumnOfRow : OpenClaim := { program := "ytcmgkfoppofniaa", sum := "aaa5b1d9e8d0a4255bf6f7fb6af0656086ed88b3734734d3afeb3c3d487bfcdc", func := "loop.example/g00271/laws.FnExactColumnOf", spec := "fnExactColumnOf", unfollowed := true, recurses := true, apart := false }
def FnExactColumnOfSaid : Prop := fnExactColumnOfRow.holds Try.pinned (OpenSpec.ofChange fnExactColumnOfSpec)

/-- ITS FALSE NEIGHBOUR: 'it returns false'. Refute it at one input. -/
def fnExactColumnOfWrong : ChangeSpec := { name := "fnExactColumnOf", fn := fun _ => fun
  | [d1, d2] => { results := [.lit (.bool false)], args := [d1, d2] }
  | _ => none }
def FnExactColumnOfWrongFalsely : Prop := fnExactColumnOfRow.holds Try.pinned (OpenSpec.ofChange fnExactColumnOfWrong)

/-- 'laws.FnExactRowRight': WHATEVER THE INPUT: true; the input reads as it did. -/
def fnExactRowRightSpec : ChangeSpec := { name := "fnExactRowRight", fn := fun _ => fun
  | [d1, d2] => { results := [.lit (.bool true)], args := [d1, d2] }
  | _ => none }
def fnExactRowRightRow : OpenClaim := { program := "ytcmgkfoppofniaa", sum := "aaa5b1d9e8d0a4255bf6f7fb6af0656086ed88b3734734d3afeb3c3d487bfcdc", func := "loop.example/g00271/laws.FnExactRowRight", spec := "fnExactRowRight", unfollowed := true, recurses := true, apart := false }
def FnExactRowRightSaid : Prop := fnExactRowRightRow.holds Try.pinned (OpenSpec.ofChange fnExactRowRightSpec)

/-- ITS FALSE NEIGHBOUR: 'it returns false'. Refute it at one input. -/
def fnExactRowRightWrong : ChangeSpec := { name := "fnExactRowRight", fn := fun _ => fun
  | [d1, d2] => { results := [.lit (.bool false)], args := [d1, d2] }
  | _ => none }
def FnExactRowRightWrongFalsely : Prop := fnExactRowRightRow.holds Try.pinned (OpenSpec.ofChange fnExactRowRightWrong)

/-- 'laws.FnExactSchemaBytes': WHATEVER THE INPUT: true; the input reads as it did. -/
def fnExactSchemaBytesSpec : ChangeSpec := { name := "fnExactSchemaBytes", fn := fun _ => fun
  | [d] => { results := [.lit (.bool true)], args := [d] }
  | _ => none }
def fnExactSchemaBytesRow : OpenClaim := { program := "ytcmgkfoppofniaa", sum := "aaa5b1d9e8d0a4255bf6f7fb6af0656086ed88b3734734d3afeb3c3d487bfcdc", func := "loop.example/g00271/laws.FnExactSchemaBytes", spec := "fnExactSchemaBytes", inPlace := ["internal/abi.NoEscape"], unfollowed := true, recurses := true, apart := false }
def FnExactSchemaBytesSaid : Prop := fnExactSchemaBytesRow.holds Try.pinned (OpenSpec.ofChange fnExactSchemaBytesSpec)

/-- ITS FALSE NEIGHBOUR: 'it returns false'. Refute it at one input. -/
def fnExactSchemaBytesWrong : ChangeSpec := { name := "fnExactSchemaBytes", fn := fun _ => fun
  | [d] => { results := [.lit (.bool false)], args := [d] }
  | _ => none }
def FnExactSchemaBytesWrongFalsely : Prop := fnExactSchemaBytesRow.holds Try.pinned (OpenSpec.ofChange fnExactSchemaBytesWrong)

/-- 'laws.FnExactOpsRight': WHATEVER THE INPUT: true; the input reads as it did. -/
def fnExactOpsRightSpec : ChangeSpec := { name := "fnExactOpsRight", fn := fun _ => fun
  | [d] => { results := [.lit (.bool true)], args := [d] }
  | _ => none }
def fnExactOpsRightRow : OpenClaim := { program := "ytcmgkfoppofniaa", sum := "aaa5b1d9e8d0a4255bf6f7fb6af0656086ed88b3734734d3afeb3c3d487bfcdc", func := "loop.example/g00271/laws.FnExactOpsRight", spec := "fnExactOpsRight", unfollowed := true, recurses := true, apart := false }
def FnExactOpsRightSaid : Prop := fnExactOpsRightRow.holds Try.pinned (OpenSpec.ofChange fnExactOpsRightSpec)

/-- ITS FALSE NEIGHBOUR: 'it returns false'. Refute it at one input. -/
def fnExactOpsRightWrong : ChangeSpec := { name := "fnExactOpsRight", fn := fun _ => fun
  | [d] => { results := [.lit (.bool false)], args := [d] }
  | _ => none }
def FnExactOpsRightWrongFalsely : Prop := fnExactOpsRightRow.holds Try.pinned (OpenSpec.ofChange fnExactOpsRightWrong)

/-- 'laws.FnExactQueryRight': WHATEVER THE INPUT: true; the input reads as it did. -/
def fnExactQueryRightSpec : ChangeSpec := { name := "fnExactQueryRight", fn := fun _ => fun
  | [d] => { results := [.lit (.bool true)], args := [d] }
  | _ => none }
def fnExactQueryRightRow : OpenClaim := { program := "ytcmgkfoppofniaa", sum := "aaa5b1d9e8d0a4255bf6f7fb6af0656086ed88b3734734d3afeb3c3d487bfcdc", func := "loop.example/g00271/laws.FnExactQueryRight", spec := "fnExactQueryRight", inPlace := ["internal/bytealg.IndexByteString", "internal/bytealg.IndexString"], unfollowed := true, recurses := true, named := ["internal/bytealg.MaxLen"], apart := false }
def FnExactQueryRightSaid : Prop := fnExactQueryRightRow.holds Try.pinned (OpenSpec.ofChange fnExactQueryRightSpec)

/-- ITS FALSE NEIGHBOUR: 'it returns false'. Refute it at one input. -/
def fnExactQueryRightWrong : ChangeSpec := { name := "fnExactQueryRight", fn := fun _ => fun
  | [d] => { results := [.lit (.bool false)], args := [d] }
  | _ => none }
def FnExactQueryRightWrongFalsely : Prop := fnExactQueryRightRow.holds Try.pinned (OpenSpec.ofChange fnExactQueryRightWrong)

/- THE SECOND FORM. 'bulk': how many values and letters a reading holds, each counted each time it is reached (what is shared counts as often as it is met; a slice's spare places count too). A statement '..UptoSaid' is the law's where the arguments, and the package variables that the reading takes, are together of bulk at most 1048576: NARROWER than '..Said'. Prove '..Said' where nothing that the law and all that it calls make is longer than what came in: it says more and counts as full. Else prove '..UptoSaid'. A law counts once. -/
mutual
def uptoBulk {H : Type} : DataW H → Nat
  | .lit (.string bytes) => bytes.length + 1
  | .lit _ => 1
  | .nil => 1
  | .ptr d => uptoBulk d + 1
  | .slice elems spare => uptoBulkAll elems + uptoBulkAll spare + 1
  | .agg parts => uptoBulkAll parts + 1
  | .iface _ d => uptoBulk d + 1
  | .map entries => uptoBulkEntries entries + 1
  | .held _ => 1
def uptoBulkAll {H : Type} : List (DataW H) → Nat
  | [] => 0
  | d :: r => uptoBulk d + uptoBulkAll r
def uptoBulkEntries {H : Type} : List (Lit × DataW H) → Nat
  | [] => 0
  | x :: r => uptoBulkEntry x + uptoBulkEntries r
def uptoBulkEntry {H : Type} : Lit × DataW H → Nat
  | (.string bytes, d) => bytes.length + uptoBulk d + 1
  | (_, d) => uptoBulk d + 1
 end
def uptoSmall : (H : Type) → List (DataW H) → Bool := fun _ ds => decide (uptoBulkAll ds ≤ 1048576)
def OpenSpec.upto (s : _root_.Go.ChangeSpec) : _root_.Go.OpenSpec := { _root_.Go.OpenSpec.ofChange s with cond := some uptoSmall }

/-- 'laws.FnNums', WHERE WHAT IT READS IS OF BULK AT MOST 1048576: true; the input reads as it did. -/
def fnNumsUptoRow : OpenClaim := { program := "ytcmgkfoppofniaa", sum := "aaa5b1d9e8d0a4255bf6f7fb6af0656086ed88b3734734d3afeb3c3d487bfcdc", func := "loop.example/g00271/laws.FnNums", spec := "fnNums", apart := false, narrowed := true }
def FnNumsUptoSaid : Prop := fnNumsUptoRow.holds Try.pinned (OpenSpec.upto fnNumsSpec)

/-- 'laws.FnSeal', WHERE WHAT IT READS IS OF BULK AT MOST 1048576: true; the input reads as it did. -/
def fnSealUptoRow : OpenClaim := { program := "ytcmgkfoppofniaa", sum := "aaa5b1d9e8d0a4255bf6f7fb6af0656086ed88b3734734d3afeb3c3d487bfcdc", func := "loop.example/g00271/laws.FnSeal", spec := "fnSeal", apart := false, narrowed := true }
def FnSealUptoSaid : Prop := fnSealUptoRow.holds Try.pinned (OpenSpec.upto fnSealSpec)

/-- 'laws.FnExactCompare', WHERE WHAT IT READS IS OF BULK AT MOST 1048576: true; the input reads as it did. -/
def fnExactCompareUptoRow : OpenClaim := { program := "ytcmgkfoppofniaa", sum := "aaa5b1d9e8d0a4255bf6f7fb6af0656086ed88b3734734d3afeb3c3d487bfcdc", func := "loop.example/g00271/laws.FnExactCompare", spec := "fnExactCompare", inPlace := ["internal/bytealg.abigen_runtime_cmpstring"], unfollowed := true, recurses := true, apart := false, narrowed := true }
def FnExactCompareUptoSaid : Prop := fnExactCompareUptoRow.holds Try.pinned (OpenSpec.upto fnExactCompareSpec)

/-- 'laws.FnExactPick', WHERE WHAT IT READS IS OF BULK AT MOST 1048576: true; the input reads as it did. -/
def fnExactPickUptoRow : OpenClaim := { program := "ytcmgkfoppofniaa", sum := "aaa5b1d9e8d0a4255bf6f7fb6af0656086ed88b3734734d3afeb3c3d487bfcdc", func := "loop.example/g00271/laws.FnExactPick", spec := "fnExactPick", unfollowed := true, recurses := true, apart := false, narrowed := true }
def FnExactPickUptoSaid : Prop := fnExactPickUptoRow.holds Try.pinned (OpenSpec.upto fnExactPickSpec)

/-- 'laws.FnExactKeyRead', WHERE WHAT IT READS IS OF BULK AT MOST 1048576: true; the input reads as it did. -/
def fnExactKeyReadUptoRow : OpenClaim := { program := "ytcmgkfoppofniaa", sum := "aaa5b1d9e8d0a4255bf6f7fb6af0656086ed88b3734734d3afeb3c3d487bfcdc", func := "loop.example/g00271/laws.FnExactKeyRead", spec := "fnExactKeyRead", apart := false, narrowed := true }
def FnExactKeyReadUptoSaid : Prop := fnExactKeyReadUptoRow.holds Try.pinned (OpenSpec.upto fnExactKeyReadSpec)

/-- 'laws.FnExactSchemaRight', WHERE WHAT IT READS IS OF BULK AT MOST 1048576: true; the input reads as it did. -/
def fnExactSchemaRightUptoRow : OpenClaim := { program := "ytcmgkfoppofniaa", sum := "aaa5b1d9e8d0a4255bf6f7fb6af0656086ed88b3734734d3afeb3c3d487bfcdc", func := "loop.example/g00271/laws.FnExactSchemaRight", spec := "fnExactSchemaRight", unfollowed := true, recurses := true, apart := false, narrowed := true }
def FnExactSchemaRightUptoSaid : Prop := fnExactSchemaRightUptoRow.holds Try.pinned (OpenSpec.upto fnExactSchemaRightSpec)

/-- 'laws.FnExactColumnOf', WHERE WHAT IT READS IS OF BULK AT MOST 1048576: true; the input reads as it did. -/
def fnExactColumnOfUptoRow : OpenClaim := { program := "ytcmgkfoppofniaa", sum := "aaa5b1d9e8d0a4255bf6f7fb6af0656086ed88b3734734d3afeb3c3d487bfcdc", func := "loop.example/g00271/laws.FnExactColumnOf", spec := "fnExactColumnOf", unfollowed := true, recurses := true, apart := false, narrowed := true }
def FnExactColumnOfUptoSaid : Prop := fnExactColumnOfUptoRow.holds Try.pinned (OpenSpec.upto fnExactColumnOfSpec)

/-- 'laws.FnExactRowRight', WHERE WHAT IT READS IS OF BULK AT MOST 1048576: true; the input reads as it did. -/
def fnExactRowRightUptoRow : OpenClaim := { program := "ytcmgkfoppofniaa", sum := "aaa5b1d9e8d0a4255bf6f7fb6af0656086ed88b3734734d3afeb3c3d487bfcdc", func := "loop.example/g00271/laws.FnExactRowRight", spec := "fnExactRowRight", unfollowed := true, recurses := true, apart := false, narrowed := true }
def FnExactRowRightUptoSaid : Prop := fnExactRowRightUptoRow.holds Try.pinned (OpenSpec.upto fnExactRowRightSpec)

/-- 'laws.FnExactSchemaBytes', WHERE WHAT IT READS IS OF BULK AT MOST 1048576: true; the input reads as it did. -/
def fnExactSchemaBytesUptoRow : OpenClaim := { program := "ytcmgkfoppofniaa", sum := "aaa5b1d9e8d0a4255bf6f7fb6af0656086ed88b3734734d3afeb3c3d487bfcdc", func := "loop.example/g00271/laws.FnExactSchemaBytes", spec := "fnExactSchemaBytes", inPlace := ["internal/abi.NoEscape"], unfollowed := true, recurses := true, apart := false, narrowed := true }
def FnExactSchemaBytesUptoSaid : Prop := fnExactSchemaBytesUptoRow.holds Try.pinned (OpenSpec.upto fnExactSchemaBytesSpec)

/-- 'laws.FnExactOpsRight', WHERE WHAT IT READS IS OF BULK AT MOST 1048576: true; the input reads as it did. -/
def fnExactOpsRightUptoRow : OpenClaim := { program := "ytcmgkfoppofniaa", sum := "aaa5b1d9e8d0a4255bf6f7fb6af0656086ed88b3734734d3afeb3c3d487bfcdc", func := "loop.example/g00271/laws.FnExactOpsRight", spec := "fnExactOpsRight", unfollowed := true, recurses := true, apart := false, narrowed := true }
def FnExactOpsRightUptoSaid : Prop := fnExactOpsRightUptoRow.holds Try.pinned (OpenSpec.upto fnExactOpsRightSpec)

/-- 'laws.FnExactQueryRight', WHERE WHAT IT READS IS OF BULK AT MOST 1048576: true; the input reads as it did. -/
def fnExactQueryRightUptoRow : OpenClaim := { program := "ytcmgkfoppofniaa", sum := "aaa5b1d9e8d0a4255bf6f7fb6af0656086ed88b3734734d3afeb3c3d487bfcdc", func := "loop.example/g00271/laws.FnExactQueryRight", spec := "fnExactQueryRight", inPlace := ["internal/bytealg.IndexByteString", "internal/bytealg.IndexString"], unfollowed := true, recurses := true, named := ["internal/bytealg.MaxLen"], apart := false, narrowed := true }
def FnExactQueryRightUptoSaid : Prop := fnExactQueryRightUptoRow.holds Try.pinned (OpenSpec.upto fnExactQueryRightSpec)

end Rows
end Go.Proofs.Ytcmgkfoppofniaa
