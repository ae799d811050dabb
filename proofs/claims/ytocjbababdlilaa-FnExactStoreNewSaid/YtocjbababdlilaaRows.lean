/-
  No cell of these rows narrows 'for every input' (looked for: loops, veiled, ifaces, maps, wideKeys, modest, calm, conditions, laid).
  DERIVED. THE GIVEN ROWS OF THIS SEAT. 12 by the template 'for every input the law returns true; each argument reads behind the call as it read before'; 0 by the template 'total and deterministic' (their statements: YtocjbababdlilaaTotals.lean).
  GIVEN WITH THE SEED: the statements are not yours to turn. If you find one false, say at which input.
  Laid BY PROGRAM, IN A SANDBOX (cutbox-rows.mjs): the forced cells as the released guide's own fill.sh prints them over the translation b77aeec2c57e28e0… (all of the seat's roots in one cut). By AI agents, Wed Nov 11 2026. No macro, syntax, notation, axiom, sorry.
-/
import Derived.Test.YtocjbababdlilaaChecked
import GoSem.Claim
import GoSem.ClaimJoined
import GoSem.ClaimMapViews
import Derived.JoinedTies
import Derived.KernelRfl
namespace Go.Proofs.Ytocjbababdlilaa
/- THE CELL 'sum', in the pinned program and in every row, IS THE sha256 OF THE DUMP (.gsa) THAT YtocjbababdlilaaProg.lean LOADS. Nothing in Lean hashes anything: it is a label: what it is worth is what the hold of that sum in a sandbox is worth. -/
noncomputable def Try.pinned : Pinned := { name := "ytocjbababdlilaa", sum := "b77aeec2c57e28e008394ad0222e26de25724137cab128dcb09a82d396fb65f1", checked := Try.checked }
namespace Rows
def none {H : Type} : Left H := { results := [], args := [] }

/-- 'laws.FnExactDiskRight': WHATEVER THE INPUT: true; the input reads as it did. -/
def fnExactDiskRightSpec : ChangeSpec := { name := "fnExactDiskRight", fn := fun _ => fun
  | [d] => { results := [.lit (.bool true)], args := [d] }
  | _ => none }
def fnExactDiskRightRow : OpenClaim := { program := "ytocjbababdlilaa", sum := "b77aeec2c57e28e008394ad0222e26de25724137cab128dcb09a82d396fb65f1", func := "loop.example/g00271/laws.FnExactDiskRight", spec := "fnExactDiskRight", apart := false }
def FnExactDiskRightSaid : Prop := fnExactDiskRightRow.holds Try.pinned (OpenSpec.ofChange fnExactDiskRightSpec)

/-- ITS FALSE NEIGHBOUR: 'it returns false'. Refute it at one input. -/
def fnExactDiskRightWrong : ChangeSpec := { name := "fnExactDiskRight", fn := fun _ => fun
  | [d] => { results := [.lit (.bool false)], args := [d] }
  | _ => none }
def FnExactDiskRightWrongFalsely : Prop := fnExactDiskRightRow.holds Try.pinned (OpenSpec.ofChange fnExactDiskRightWrong)

/-- 'laws.FnExactDiskFlush': WHATEVER THE INPUT: true; the input reads as it did. -/
def fnExactDiskFlushSpec : ChangeSpec := { name := "fnExactDiskFlush", fn := fun _ => fun
  | [d] => { results := [.lit (.bool true)], args := [d] }
  | _ => none }
def fnExactDiskFlushRow : OpenClaim := { program := "ytocjbababdlilaa", sum := "b77aeec2c57e28e008394ad0222e26de25724137cab128dcb09a82d396fb65f1", func := "loop.example/g00271/laws.FnExactDiskFlush", spec := "fnExactDiskFlush", apart := false }
def FnExactDiskFlushSaid : Prop := fnExactDiskFlushRow.holds Try.pinned (OpenSpec.ofChange fnExactDiskFlushSpec)

/-- ITS FALSE NEIGHBOUR: 'it returns false'. Refute it at one input. -/
def fnExactDiskFlushWrong : ChangeSpec := { name := "fnExactDiskFlush", fn := fun _ => fun
  | [d] => { results := [.lit (.bool false)], args := [d] }
  | _ => none }
def FnExactDiskFlushWrongFalsely : Prop := fnExactDiskFlushRow.holds Try.pinned (OpenSpec.ofChange fnExactDiskFlushWrong)

/-- 'laws.FnExactDiskCrash': WHATEVER THE INPUT: true; the input reads as it did. -/
def fnExactDiskCrashSpec : ChangeSpec := { name := "fnExactDiskCrash", fn := fun _ => fun
  | [d1, d2] => { results := [.lit (.bool true)], args := [d1, d2] }
  | _ => none }
def fnExactDiskCrashRow : OpenClaim := { program := "ytocjbababdlilaa", sum := "b77aeec2c57e28e008394ad0222e26de25724137cab128dcb09a82d396fb65f1", func := "loop.example/g00271/laws.FnExactDiskCrash", spec := "fnExactDiskCrash", apart := false }
def FnExactDiskCrashSaid : Prop := fnExactDiskCrashRow.holds Try.pinned (OpenSpec.ofChange fnExactDiskCrashSpec)

/-- ITS FALSE NEIGHBOUR: 'it returns false'. Refute it at one input. -/
def fnExactDiskCrashWrong : ChangeSpec := { name := "fnExactDiskCrash", fn := fun _ => fun
  | [d1, d2] => { results := [.lit (.bool false)], args := [d1, d2] }
  | _ => none }
def FnExactDiskCrashWrongFalsely : Prop := fnExactDiskCrashRow.holds Try.pinned (OpenSpec.ofChange fnExactDiskCrashWrong)

/-- 'laws.FnExactDiskNew': WHATEVER THE INPUT: true; the input reads as it did. -/
def fnExactDiskNewSpec : ChangeSpec := { name := "fnExactDiskNew", fn := fun _ => fun
  | [d] => { results := [.lit (.bool true)], args := [d] }
  | _ => none }
def fnExactDiskNewRow : OpenClaim := { program := "ytocjbababdlilaa", sum := "b77aeec2c57e28e008394ad0222e26de25724137cab128dcb09a82d396fb65f1", func := "loop.example/g00271/laws.FnExactDiskNew", spec := "fnExactDiskNew", inPlace := ["internal/abi.NoEscape", "internal/bytealg.MakeNoZero"], apart := false }
def FnExactDiskNewSaid : Prop := fnExactDiskNewRow.holds Try.pinned (OpenSpec.ofChange fnExactDiskNewSpec)

/-- ITS FALSE NEIGHBOUR: 'it returns false'. Refute it at one input. -/
def fnExactDiskNewWrong : ChangeSpec := { name := "fnExactDiskNew", fn := fun _ => fun
  | [d] => { results := [.lit (.bool false)], args := [d] }
  | _ => none }
def FnExactDiskNewWrongFalsely : Prop := fnExactDiskNewRow.holds Try.pinned (OpenSpec.ofChange fnExactDiskNewWrong)

/-- 'laws.FnExactDiskRead': WHATEVER THE INPUT: true; the input reads as it did. -/
def fnExactDiskReadSpec : ChangeSpec := { name := "fnExactDiskRead", fn := fun _ => fun
  | [d1, d2, d3] => { results := [.lit (.bool true)], args := [d1, d2, d3] }
  | _ => none }
def fnExactDiskReadRow : OpenClaim := { program := "ytocjbababdlilaa", sum := "b77aeec2c57e28e008394ad0222e26de25724137cab128dcb09a82d396fb65f1", func := "loop.example/g00271/laws.FnExactDiskRead", spec := "fnExactDiskRead", inPlace := ["internal/abi.NoEscape", "internal/bytealg.MakeNoZero"], apart := false }
def FnExactDiskReadSaid : Prop := fnExactDiskReadRow.holds Try.pinned (OpenSpec.ofChange fnExactDiskReadSpec)

/-- ITS FALSE NEIGHBOUR: 'it returns false'. Refute it at one input. -/
def fnExactDiskReadWrong : ChangeSpec := { name := "fnExactDiskRead", fn := fun _ => fun
  | [d1, d2, d3] => { results := [.lit (.bool false)], args := [d1, d2, d3] }
  | _ => none }
def FnExactDiskReadWrongFalsely : Prop := fnExactDiskReadRow.holds Try.pinned (OpenSpec.ofChange fnExactDiskReadWrong)

/-- 'laws.FnExactDiskWrite': WHATEVER THE INPUT: true; the input reads as it did. -/
def fnExactDiskWriteSpec : ChangeSpec := { name := "fnExactDiskWrite", fn := fun _ => fun
  | [d1, d2, d3] => { results := [.lit (.bool true)], args := [d1, d2, d3] }
  | _ => none }
def fnExactDiskWriteRow : OpenClaim := { program := "ytocjbababdlilaa", sum := "b77aeec2c57e28e008394ad0222e26de25724137cab128dcb09a82d396fb65f1", func := "loop.example/g00271/laws.FnExactDiskWrite", spec := "fnExactDiskWrite", inPlace := ["internal/abi.NoEscape", "internal/bytealg.MakeNoZero"], apart := false }
def FnExactDiskWriteSaid : Prop := fnExactDiskWriteRow.holds Try.pinned (OpenSpec.ofChange fnExactDiskWriteSpec)

/-- ITS FALSE NEIGHBOUR: 'it returns false'. Refute it at one input. -/
def fnExactDiskWriteWrong : ChangeSpec := { name := "fnExactDiskWrite", fn := fun _ => fun
  | [d1, d2, d3] => { results := [.lit (.bool false)], args := [d1, d2, d3] }
  | _ => none }
def FnExactDiskWriteWrongFalsely : Prop := fnExactDiskWriteRow.holds Try.pinned (OpenSpec.ofChange fnExactDiskWriteWrong)

/-- 'laws.FnExactRecordBytes': WHATEVER THE INPUT: true; the input reads as it did. -/
def fnExactRecordBytesSpec : ChangeSpec := { name := "fnExactRecordBytes", fn := fun _ => fun
  | [d] => { results := [.lit (.bool true)], args := [d] }
  | _ => none }
def fnExactRecordBytesRow : OpenClaim := { program := "ytocjbababdlilaa", sum := "b77aeec2c57e28e008394ad0222e26de25724137cab128dcb09a82d396fb65f1", func := "loop.example/g00271/laws.FnExactRecordBytes", spec := "fnExactRecordBytes", apart := false }
def FnExactRecordBytesSaid : Prop := fnExactRecordBytesRow.holds Try.pinned (OpenSpec.ofChange fnExactRecordBytesSpec)

/-- ITS FALSE NEIGHBOUR: 'it returns false'. Refute it at one input. -/
def fnExactRecordBytesWrong : ChangeSpec := { name := "fnExactRecordBytes", fn := fun _ => fun
  | [d] => { results := [.lit (.bool false)], args := [d] }
  | _ => none }
def FnExactRecordBytesWrongFalsely : Prop := fnExactRecordBytesRow.holds Try.pinned (OpenSpec.ofChange fnExactRecordBytesWrong)

/-- 'laws.FnDisk': WHATEVER THE INPUT: true; the input reads as it did. -/
def fnDiskSpec : ChangeSpec := { name := "fnDisk", fn := fun _ => fun
  | [d1, d2] => { results := [.lit (.bool true)], args := [d1, d2] }
  | _ => none }
def fnDiskRow : OpenClaim := { program := "ytocjbababdlilaa", sum := "b77aeec2c57e28e008394ad0222e26de25724137cab128dcb09a82d396fb65f1", func := "loop.example/g00271/laws.FnDisk", spec := "fnDisk", inPlace := ["internal/abi.NoEscape", "internal/bytealg.MakeNoZero"], apart := false }
def FnDiskSaid : Prop := fnDiskRow.holds Try.pinned (OpenSpec.ofChange fnDiskSpec)

/-- ITS FALSE NEIGHBOUR: 'it returns false'. Refute it at one input. -/
def fnDiskWrong : ChangeSpec := { name := "fnDisk", fn := fun _ => fun
  | [d1, d2] => { results := [.lit (.bool false)], args := [d1, d2] }
  | _ => none }
def FnDiskWrongFalsely : Prop := fnDiskRow.holds Try.pinned (OpenSpec.ofChange fnDiskWrong)

/-- 'laws.FnExactStoreNew': WHATEVER THE INPUT: true; the input reads as it did. -/
def fnExactStoreNewSpec : ChangeSpec := { name := "fnExactStoreNew", fn := fun _ => fun
  | [] => { results := [.lit (.bool true)], args := [] }
  | _ => none }
def fnExactStoreNewRow : OpenClaim := { program := "ytocjbababdlilaa", sum := "b77aeec2c57e28e008394ad0222e26de25724137cab128dcb09a82d396fb65f1", func := "loop.example/g00271/laws.FnExactStoreNew", spec := "fnExactStoreNew", inPlace := ["internal/abi.NoEscape", "internal/bytealg.MakeNoZero"], apart := false }
def FnExactStoreNewSaid : Prop := fnExactStoreNewRow.holds Try.pinned (OpenSpec.ofChange fnExactStoreNewSpec)

/-- ITS FALSE NEIGHBOUR: 'it returns false'. Refute it at one input. -/
def fnExactStoreNewWrong : ChangeSpec := { name := "fnExactStoreNew", fn := fun _ => fun
  | [] => { results := [.lit (.bool false)], args := [] }
  | _ => none }
def FnExactStoreNewWrongFalsely : Prop := fnExactStoreNewRow.holds Try.pinned (OpenSpec.ofChange fnExactStoreNewWrong)

/-- 'laws.FnExactLogRead': WHATEVER THE INPUT: true; the input reads as it did. -/
def fnExactLogReadSpec : ChangeSpec := { name := "fnExactLogRead", fn := fun _ => fun
  | [d1, d2, d3] => { results := [.lit (.bool true)], args := [d1, d2, d3] }
  | _ => none }
def fnExactLogReadRow : OpenClaim := { program := "ytocjbababdlilaa", sum := "b77aeec2c57e28e008394ad0222e26de25724137cab128dcb09a82d396fb65f1", func := "loop.example/g00271/laws.FnExactLogRead", spec := "fnExactLogRead", inPlace := ["internal/abi.NoEscape", "internal/bytealg.MakeNoZero"], apart := false }
def FnExactLogReadSaid : Prop := fnExactLogReadRow.holds Try.pinned (OpenSpec.ofChange fnExactLogReadSpec)

/-- ITS FALSE NEIGHBOUR: 'it returns false'. Refute it at one input. -/
def fnExactLogReadWrong : ChangeSpec := { name := "fnExactLogRead", fn := fun _ => fun
  | [d1, d2, d3] => { results := [.lit (.bool false)], args := [d1, d2, d3] }
  | _ => none }
def FnExactLogReadWrongFalsely : Prop := fnExactLogReadRow.holds Try.pinned (OpenSpec.ofChange fnExactLogReadWrong)

/-- 'laws.FnExactLogAppend': WHATEVER THE INPUT: true; the input reads as it did. -/
def fnExactLogAppendSpec : ChangeSpec := { name := "fnExactLogAppend", fn := fun _ => fun
  | [d1, d2, d3] => { results := [.lit (.bool true)], args := [d1, d2, d3] }
  | _ => none }
def fnExactLogAppendRow : OpenClaim := { program := "ytocjbababdlilaa", sum := "b77aeec2c57e28e008394ad0222e26de25724137cab128dcb09a82d396fb65f1", func := "loop.example/g00271/laws.FnExactLogAppend", spec := "fnExactLogAppend", inPlace := ["internal/abi.NoEscape", "internal/bytealg.MakeNoZero"], apart := false }
def FnExactLogAppendSaid : Prop := fnExactLogAppendRow.holds Try.pinned (OpenSpec.ofChange fnExactLogAppendSpec)

/-- ITS FALSE NEIGHBOUR: 'it returns false'. Refute it at one input. -/
def fnExactLogAppendWrong : ChangeSpec := { name := "fnExactLogAppend", fn := fun _ => fun
  | [d1, d2, d3] => { results := [.lit (.bool false)], args := [d1, d2, d3] }
  | _ => none }
def FnExactLogAppendWrongFalsely : Prop := fnExactLogAppendRow.holds Try.pinned (OpenSpec.ofChange fnExactLogAppendWrong)

/-- 'laws.FnLog': WHATEVER THE INPUT: true; the input reads as it did. -/
def fnLogSpec : ChangeSpec := { name := "fnLog", fn := fun _ => fun
  | [d1, d2] => { results := [.lit (.bool true)], args := [d1, d2] }
  | _ => none }
def fnLogRow : OpenClaim := { program := "ytocjbababdlilaa", sum := "b77aeec2c57e28e008394ad0222e26de25724137cab128dcb09a82d396fb65f1", func := "loop.example/g00271/laws.FnLog", spec := "fnLog", inPlace := ["internal/abi.NoEscape", "internal/bytealg.MakeNoZero"], apart := false }
def FnLogSaid : Prop := fnLogRow.holds Try.pinned (OpenSpec.ofChange fnLogSpec)

/-- ITS FALSE NEIGHBOUR: 'it returns false'. Refute it at one input. -/
def fnLogWrong : ChangeSpec := { name := "fnLog", fn := fun _ => fun
  | [d1, d2] => { results := [.lit (.bool false)], args := [d1, d2] }
  | _ => none }
def FnLogWrongFalsely : Prop := fnLogRow.holds Try.pinned (OpenSpec.ofChange fnLogWrong)

/- THE SECOND FORM. 'bulk': how many values and letters a reading holds, each counted each time it is reached (what is shared counts as often as it is met; a slice's spare places count too). A statement '..UptoSaid' is the law's where the arguments, and the package variables that the reading takes, are together of bulk at most 1048576: NARROWER than '..Said'. Prove '..Said' where nothing that the law and all that it calls make is longer than what came in: it says more and counts as full. Else prove '..UptoSaid'. A law counts once. -/
mutual
def uptoBulk {H : Type} : DataW H → Nat
  | .lit (.string bytes) => bytes.length + 1
  | .lit _ => 1
  | .nil => 1
  | .ptr d => uptoBulk d + 1
  | .slice elems spare => uptoBulkAll elems + uptoBulkAll spare + 1
  | .agg parts => uptoBulkAll parts + 1
  | .iface _ d => uptoBulk d + 1
  | .map entries => uptoBulkEntries entries + 1
  | .held _ => 1
def uptoBulkAll {H : Type} : List (DataW H) → Nat
  | [] => 0
  | d :: r => uptoBulk d + uptoBulkAll r
def uptoBulkEntries {H : Type} : List (Lit × DataW H) → Nat
  | [] => 0
  | x :: r => uptoBulkEntry x + uptoBulkEntries r
def uptoBulkEntry {H : Type} : Lit × DataW H → Nat
  | (.string bytes, d) => bytes.length + uptoBulk d + 1
  | (_, d) => uptoBulk d + 1
 end
def uptoSmall : (H : Type) → List (DataW H) → Bool := fun _ ds => decide (uptoBulkAll ds ≤ 1048576)
def OpenSpec.upto (s : _root_.Go.ChangeSpec) : _root_.Go.OpenSpec := { _root_.Go.OpenSpec.ofChange s with cond := some uptoSmall }

/-- 'laws.FnExactDiskRight', WHERE WHAT IT READS IS OF BULK AT MOST 1048576: true; the input reads as it did. -/
def fnExactDiskRightUptoRow : OpenClaim := { program := "ytocjbababdlilaa", sum := "b77aeec2c57e28e008394ad0222e26de25724137cab128dcb09a82d396fb65f1", func := "loop.example/g00271/laws.FnExactDiskRight", spec := "fnExactDiskRight", apart := false, narrowed := true }
def FnExactDiskRightUptoSaid : Prop := fnExactDiskRightUptoRow.holds Try.pinned (OpenSpec.upto fnExactDiskRightSpec)

/-- 'laws.FnExactDiskFlush', WHERE WHAT IT READS IS OF BULK AT MOST 1048576: true; the input reads as it did. -/
def fnExactDiskFlushUptoRow : OpenClaim := { program := "ytocjbababdlilaa", sum := "b77aeec2c57e28e008394ad0222e26de25724137cab128dcb09a82d396fb65f1", func := "loop.example/g00271/laws.FnExactDiskFlush", spec := "fnExactDiskFlush", apart := false, narrowed := true }
def FnExactDiskFlushUptoSaid : Prop := fnExactDiskFlushUptoRow.holds Try.pinned (OpenSpec.upto fnExactDiskFlushSpec)

/-- 'laws.FnExactDiskCrash', WHERE WHAT IT READS IS OF BULK AT MOST 1048576: true; the input reads as it did. -/
def fnExactDiskCrashUptoRow : OpenClaim := { program := "ytocjbababdlilaa", sum := "b77aeec2c57e28e008394ad0222e26de25724137cab128dcb09a82d396fb65f1", func := "loop.example/g00271/laws.FnExactDiskCrash", spec := "fnExactDiskCrash", apart := false, narrowed := true }
def FnExactDiskCrashUptoSaid : Prop := fnExactDiskCrashUptoRow.holds Try.pinned (OpenSpec.upto fnExactDiskCrashSpec)

/-- 'laws.FnExactDiskNew', WHERE WHAT IT READS IS OF BULK AT MOST 1048576: true; the input reads as it did. -/
def fnExactDiskNewUptoRow : OpenClaim := { program := "ytocjbababdlilaa", sum := "b77aeec2c57e28e008394ad0222e26de25724137cab128dcb09a82d396fb65f1", func := "loop.example/g00271/laws.FnExactDiskNew", spec := "fnExactDiskNew", inPlace := ["internal/abi.NoEscape", "internal/bytealg.MakeNoZero"], apart := false, narrowed := true }
def FnExactDiskNewUptoSaid : Prop := fnExactDiskNewUptoRow.holds Try.pinned (OpenSpec.upto fnExactDiskNewSpec)

/-- 'laws.FnExactDiskRead', WHERE WHAT IT READS IS OF BULK AT MOST 1048576: true; the input reads as it did. -/
def fnExactDiskReadUptoRow : OpenClaim := { program := "ytocjbababdlilaa", sum := "b77aeec2c57e28e008394ad0222e26de25724137cab128dcb09a82d396fb65f1", func := "loop.example/g00271/laws.FnExactDiskRead", spec := "fnExactDiskRead", inPlace := ["internal/abi.NoEscape", "internal/bytealg.MakeNoZero"], apart := false, narrowed := true }
def FnExactDiskReadUptoSaid : Prop := fnExactDiskReadUptoRow.holds Try.pinned (OpenSpec.upto fnExactDiskReadSpec)

/-- 'laws.FnExactDiskWrite', WHERE WHAT IT READS IS OF BULK AT MOST 1048576: true; the input reads as it did. -/
def fnExactDiskWriteUptoRow : OpenClaim := { program := "ytocjbababdlilaa", sum := "b77aeec2c57e28e008394ad0222e26de25724137cab128dcb09a82d396fb65f1", func := "loop.example/g00271/laws.FnExactDiskWrite", spec := "fnExactDiskWrite", inPlace := ["internal/abi.NoEscape", "internal/bytealg.MakeNoZero"], apart := false, narrowed := true }
def FnExactDiskWriteUptoSaid : Prop := fnExactDiskWriteUptoRow.holds Try.pinned (OpenSpec.upto fnExactDiskWriteSpec)

/-- 'laws.FnExactRecordBytes', WHERE WHAT IT READS IS OF BULK AT MOST 1048576: true; the input reads as it did. -/
def fnExactRecordBytesUptoRow : OpenClaim := { program := "ytocjbababdlilaa", sum := "b77aeec2c57e28e008394ad0222e26de25724137cab128dcb09a82d396fb65f1", func := "loop.example/g00271/laws.FnExactRecordBytes", spec := "fnExactRecordBytes", apart := false, narrowed := true }
def FnExactRecordBytesUptoSaid : Prop := fnExactRecordBytesUptoRow.holds Try.pinned (OpenSpec.upto fnExactRecordBytesSpec)

/-- 'laws.FnDisk', WHERE WHAT IT READS IS OF BULK AT MOST 1048576: true; the input reads as it did. -/
def fnDiskUptoRow : OpenClaim := { program := "ytocjbababdlilaa", sum := "b77aeec2c57e28e008394ad0222e26de25724137cab128dcb09a82d396fb65f1", func := "loop.example/g00271/laws.FnDisk", spec := "fnDisk", inPlace := ["internal/abi.NoEscape", "internal/bytealg.MakeNoZero"], apart := false, narrowed := true }
def FnDiskUptoSaid : Prop := fnDiskUptoRow.holds Try.pinned (OpenSpec.upto fnDiskSpec)

/-- 'laws.FnExactStoreNew', WHERE WHAT IT READS IS OF BULK AT MOST 1048576: true; the input reads as it did. -/
def fnExactStoreNewUptoRow : OpenClaim := { program := "ytocjbababdlilaa", sum := "b77aeec2c57e28e008394ad0222e26de25724137cab128dcb09a82d396fb65f1", func := "loop.example/g00271/laws.FnExactStoreNew", spec := "fnExactStoreNew", inPlace := ["internal/abi.NoEscape", "internal/bytealg.MakeNoZero"], apart := false, narrowed := true }
def FnExactStoreNewUptoSaid : Prop := fnExactStoreNewUptoRow.holds Try.pinned (OpenSpec.upto fnExactStoreNewSpec)

/-- 'laws.FnExactLogRead', WHERE WHAT IT READS IS OF BULK AT MOST 1048576: true; the input reads as it did. -/
def fnExactLogReadUptoRow : OpenClaim := { program := "ytocjbababdlilaa", sum := "b77aeec2c57e28e008394ad0222e26de25724137cab128dcb09a82d396fb65f1", func := "loop.example/g00271/laws.FnExactLogRead", spec := "fnExactLogRead", inPlace := ["internal/abi.NoEscape", "internal/bytealg.MakeNoZero"], apart := false, narrowed := true }
def FnExactLogReadUptoSaid : Prop := fnExactLogReadUptoRow.holds Try.pinned (OpenSpec.upto fnExactLogReadSpec)

/-- 'laws.FnExactLogAppend', WHERE WHAT IT READS IS OF BULK AT MOST 1048576: true; the input reads as it did. -/
def fnExactLogAppendUptoRow : OpenClaim := { program := "ytocjbababdlilaa", sum := "b77aeec2c57e28e008394ad0222e26de25724137cab128dcb09a82d396fb65f1", func := "loop.example/g00271/laws.FnExactLogAppend", spec := "fnExactLogAppend", inPlace := ["internal/abi.NoEscape", "internal/bytealg.MakeNoZero"], apart := false, narrowed := true }
def FnExactLogAppendUptoSaid : Prop := fnExactLogAppendUptoRow.holds Try.pinned (OpenSpec.upto fnExactLogAppendSpec)

/-- 'laws.FnLog', WHERE WHAT IT READS IS OF BULK AT MOST 1048576: true; the input reads as it did. -/
def fnLogUptoRow : OpenClaim := { program := "ytocjbababdlilaa", sum := "b77aeec2c57e28e008394ad0222e26de25724137cab128dcb09a82d396fb65f1", func := "loop.example/g00271/laws.FnLog", spec := "fnLog", inPlace := ["internal/abi.NoEscape", "internal/bytealg.MakeNoZero"], apart := false, narrowed := true }
def FnLogUptoSaid : Prop := fnLogUptoRow.holds Try.pinned (OpenSpec.upto fnLogSpec)

end Rows
end Go.Proofs.Ytocjbababdlilaa
