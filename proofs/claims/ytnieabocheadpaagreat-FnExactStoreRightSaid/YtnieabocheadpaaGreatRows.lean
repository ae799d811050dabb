/-
  No cell of these rows narrows 'for every input' (looked for: loops, veiled, ifaces, maps, wideKeys, modest, calm, conditions, laid).
  DERIVED. THE GIVEN ROWS OF THIS SEAT. 4 by the template 'for every input the law returns true; each argument reads behind the call as it read before'; 0 by the template 'total and deterministic' (their statements: YtnieabocheadpaaGreatTotals.lean).
  GIVEN WITH THE SEED: the statements are not yours to turn. If you find one false, say at which input.
  Laid BY PROGRAM, IN A SANDBOX (cutbox-rows.mjs): the forced cells as the released guide's own fill.sh prints them over the translation 1735f596407afc09… (all of the seat's roots in one cut). By AI agents, Wed Nov 11 2026. No macro, syntax, notation, axiom, sorry.
-/
import Derived.Test.YtnieabocheadpaaGreatChecked
import GoSem.Claim
import GoSem.ClaimJoined
import GoSem.ClaimMapViews
import Derived.JoinedTies
import Derived.KernelRfl
namespace Go.Proofs.YtnieabocheadpaaGreat
/- THE CELL 'sum', in the pinned program and in every row, IS THE sha256 OF THE DUMP (.gsa) THAT YtnieabocheadpaaGreatProg.lean LOADS. Nothing in Lean hashes anything: it is a label: what it is worth is what the hold of that sum in a sandbox is worth. -/
noncomputable def Tryz.pinned : Pinned := { name := "ytnieabocheadpaagreat", sum := "1735f596407afc097a5e9b280f483b0e935461a737aa52a9b62a925f7104faba", checked := Tryz.checked }
namespace Rows
def none {H : Type} : Left H := { results := [], args := [] }

/-- 'laws.FnExactTableDelete': WHATEVER THE INPUT: true; the input reads as it did. -/
def fnExactTableDeleteSpec : ChangeSpec := { name := "fnExactTableDelete", fn := fun _ => fun
  | [d1, d2] => { results := [.lit (.bool true)], args := [d1, d2] }
  | _ => none }
def fnExactTableDeleteRow : OpenClaim := { program := "ytnieabocheadpaagreat", sum := "1735f596407afc097a5e9b280f483b0e935461a737aa52a9b62a925f7104faba", func := "loop.example/g00271/laws.FnExactTableDelete", spec := "fnExactTableDelete", inPlace := ["internal/bytealg.abigen_runtime_cmpstring"], unfollowed := true, recurses := true, apart := false }
def FnExactTableDeleteSaid : Prop := fnExactTableDeleteRow.holds Tryz.pinned (OpenSpec.ofChange fnExactTableDeleteSpec)

/-- ITS FALSE NEIGHBOUR: 'it returns false'. Refute it at one input. -/
def fnExactTableDeleteWrong : ChangeSpec := { name := "fnExactTableDelete", fn := fun _ => fun
  | [d1, d2] => { results := [.lit (.bool false)], args := [d1, d2] }
  | _ => none }
def FnExactTableDeleteWrongFalsely : Prop := fnExactTableDeleteRow.holds Tryz.pinned (OpenSpec.ofChange fnExactTableDeleteWrong)

/-- 'laws.FnExactTableUpdate': WHATEVER THE INPUT: true; the input reads as it did. -/
def fnExactTableUpdateSpec : ChangeSpec := { name := "fnExactTableUpdate", fn := fun _ => fun
  | [d1, d2] => { results := [.lit (.bool true)], args := [d1, d2] }
  | _ => none }
def fnExactTableUpdateRow : OpenClaim := { program := "ytnieabocheadpaagreat", sum := "1735f596407afc097a5e9b280f483b0e935461a737aa52a9b62a925f7104faba", func := "loop.example/g00271/laws.FnExactTableUpdate", spec := "fnExactTableUpdate", inPlace := ["internal/bytealg.abigen_runtime_cmpstring"], unfollowed := true, recurses := true, apart := false }
def FnExactTableUpdateSaid : Prop := fnExactTableUpdateRow.holds Tryz.pinned (OpenSpec.ofChange fnExactTableUpdateSpec)

/-- ITS FALSE NEIGHBOUR: 'it returns false'. Refute it at one input. -/
def fnExactTableUpdateWrong : ChangeSpec := { name := "fnExactTableUpdate", fn := fun _ => fun
  | [d1, d2] => { results := [.lit (.bool false)], args := [d1, d2] }
  | _ => none }
def FnExactTableUpdateWrongFalsely : Prop := fnExactTableUpdateRow.holds Tryz.pinned (OpenSpec.ofChange fnExactTableUpdateWrong)

/-- 'laws.FnExactStoreRight': WHATEVER THE INPUT: true; the input reads as it did. -/
def fnExactStoreRightSpec : ChangeSpec := { name := "fnExactStoreRight", fn := fun _ => fun
  | [d] => { results := [.lit (.bool true)], args := [d] }
  | _ => none }
def fnExactStoreRightRow : OpenClaim := { program := "ytnieabocheadpaagreat", sum := "1735f596407afc097a5e9b280f483b0e935461a737aa52a9b62a925f7104faba", func := "loop.example/g00271/laws.FnExactStoreRight", spec := "fnExactStoreRight", inPlace := ["internal/bytealg.abigen_runtime_cmpstring", "internal/abi.NoEscape", "internal/bytealg.MakeNoZero"], unfollowed := true, recurses := true, apart := false }
def FnExactStoreRightSaid : Prop := fnExactStoreRightRow.holds Tryz.pinned (OpenSpec.ofChange fnExactStoreRightSpec)

/-- ITS FALSE NEIGHBOUR: 'it returns false'. Refute it at one input. -/
def fnExactStoreRightWrong : ChangeSpec := { name := "fnExactStoreRight", fn := fun _ => fun
  | [d] => { results := [.lit (.bool false)], args := [d] }
  | _ => none }
def FnExactStoreRightWrongFalsely : Prop := fnExactStoreRightRow.holds Tryz.pinned (OpenSpec.ofChange fnExactStoreRightWrong)

/-- 'laws.FnExactTableInsert': WHATEVER THE INPUT: true; the input reads as it did. -/
def fnExactTableInsertSpec : ChangeSpec := { name := "fnExactTableInsert", fn := fun _ => fun
  | [d1, d2] => { results := [.lit (.bool true)], args := [d1, d2] }
  | _ => none }
def fnExactTableInsertRow : OpenClaim := { program := "ytnieabocheadpaagreat", sum := "1735f596407afc097a5e9b280f483b0e935461a737aa52a9b62a925f7104faba", func := "loop.example/g00271/laws.FnExactTableInsert", spec := "fnExactTableInsert", inPlace := ["internal/bytealg.abigen_runtime_cmpstring", "slices.overlaps[[]loop.example/g00271/impl.Value]"], unfollowed := true, recurses := true, apart := false }
def FnExactTableInsertSaid : Prop := fnExactTableInsertRow.holds Tryz.pinned (OpenSpec.ofChange fnExactTableInsertSpec)

/-- ITS FALSE NEIGHBOUR: 'it returns false'. Refute it at one input. -/
def fnExactTableInsertWrong : ChangeSpec := { name := "fnExactTableInsert", fn := fun _ => fun
  | [d1, d2] => { results := [.lit (.bool false)], args := [d1, d2] }
  | _ => none }
def FnExactTableInsertWrongFalsely : Prop := fnExactTableInsertRow.holds Tryz.pinned (OpenSpec.ofChange fnExactTableInsertWrong)

/- THE SECOND FORM. 'bulk': how many values and letters a reading holds, each counted each time it is reached (what is shared counts as often as it is met; a slice's spare places count too). A statement '..UptoSaid' is the law's where the arguments, and the package variables that the reading takes, are together of bulk at most 1048576: NARROWER than '..Said'. Prove '..Said' where nothing that the law and all that it calls make is longer than what came in: it says more and counts as full. Else prove '..UptoSaid'. A law counts once. -/
mutual
def uptoBulk {H : Type} : DataW H → Nat
  | .lit (.string bytes) => bytes.length + 1
  | .lit _ => 1
  | .nil => 1
  | .ptr d => uptoBulk d + 1
  | .slice elems spare => uptoBulkAll elems + uptoBulkAll spare + 1
  | .agg parts => uptoBulkAll parts + 1
  | .iface _ d => uptoBulk d + 1
  | .map entries => uptoBulkEntries entries + 1
  | .held _ => 1
def uptoBulkAll {H : Type} : List (DataW H) → Nat
  | [] => 0
  | d :: r => uptoBulk d + uptoBulkAll r
def uptoBulkEntries {H : Type} : List (Lit × DataW H) → Nat
  | [] => 0
  | x :: r => uptoBulkEntry x + uptoBulkEntries r
def uptoBulkEntry {H : Type} : Lit × DataW H → Nat
  | (.string bytes, d) => bytes.length + uptoBulk d + 1
  | (_, d) => uptoBulk d + 1
 end
def uptoSmall : (H : Type) → List (DataW H) → Bool := fun _ ds => decide (uptoBulkAll ds ≤ 1048576)
def OpenSpec.upto (s : _root_.Go.ChangeSpec) : _root_.Go.OpenSpec := { _root_.Go.OpenSpec.ofChange s with cond := some uptoSmall }

/-- 'laws.FnExactTableDelete', WHERE WHAT IT READS IS OF BULK AT MOST 1048576: true; the input reads as it did. -/
def fnExactTableDeleteUptoRow : OpenClaim := { program := "ytnieabocheadpaagreat", sum := "1735f596407afc097a5e9b280f483b0e935461a737aa52a9b62a925f7104faba", func := "loop.example/g00271/laws.FnExactTableDelete", spec := "fnExactTableDelete", inPlace := ["internal/bytealg.abigen_runtime_cmpstring"], unfollowed := true, recurses := true, apart := false, narrowed := true }
def FnExactTableDeleteUptoSaid : Prop := fnExactTableDeleteUptoRow.holds Tryz.pinned (OpenSpec.upto fnExactTableDeleteSpec)

/-- 'laws.FnExactTableUpdate', WHERE WHAT IT READS IS OF BULK AT MOST 1048576: true; the input reads as it did. -/
def fnExactTableUpdateUptoRow : OpenClaim := { program := "ytnieabocheadpaagreat", sum := "1735f596407afc097a5e9b280f483b0e935461a737aa52a9b62a925f7104faba", func := "loop.example/g00271/laws.FnExactTableUpdate", spec := "fnExactTableUpdate", inPlace := ["internal/bytealg.abigen_runtime_cmpstring"], unfollowed := true, recurses := true, apart := false, narrowed := true }
def FnExactTableUpdateUptoSaid : Prop := fnExactTableUpdateUptoRow.holds Tryz.pinned (OpenSpec.upto fnExactTableUpdateSpec)

/-- 'laws.FnExactStoreRight', WHERE WHAT IT READS IS OF BULK AT MOST 1048576: true; the input reads as it did. -/
def fnExactStoreRightUptoRow : OpenClaim := { program := "ytnieabocheadpaagreat", sum := "1735f596407afc097a5e9b280f483b0e935461a737aa52a9b62a925f7104faba", func := "loop.example/g00271/laws.FnExactStoreRight", spec := "fnExactStoreRight", inPlace := ["internal/bytealg.abigen_runtime_cmpstring", "internal/abi.NoEscape", "internal/bytealg.MakeNoZero"], unfollowed := true, recurses := true, apart := false, narrowed := true }
def FnExactStoreRightUptoSaid : Prop := fnExactStoreRightUptoRow.holds Tryz.pinned (OpenSpec.upto fnExactStoreRightSpec)

/-- 'laws.FnExactTableInsert', WHERE WHAT IT READS IS OF BULK AT MOST 1048576: true; the input reads as it did. -/
def fnExactTableInsertUptoRow : OpenClaim := { program := "ytnieabocheadpaagreat", sum := "1735f596407afc097a5e9b280f483b0e935461a737aa52a9b62a925f7104faba", func := "loop.example/g00271/laws.FnExactTableInsert", spec := "fnExactTableInsert", inPlace := ["internal/bytealg.abigen_runtime_cmpstring", "slices.overlaps[[]loop.example/g00271/impl.Value]"], unfollowed := true, recurses := true, apart := false, narrowed := true }
def FnExactTableInsertUptoSaid : Prop := fnExactTableInsertUptoRow.holds Tryz.pinned (OpenSpec.upto fnExactTableInsertSpec)

end Rows
end Go.Proofs.YtnieabocheadpaaGreat
