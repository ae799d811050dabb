/-
  No cell of these rows narrows 'for every input' (looked for: loops, veiled, ifaces, maps, wideKeys, modest, calm, conditions, laid).
  DERIVED. THE GIVEN ROWS OF THIS SEAT. 11 by the template 'for every input the law returns true; each argument reads behind the call as it read before'; 0 by the template 'total and deterministic' (their statements: YteennikekhiedaaTotals.lean).
  GIVEN WITH THE SEED: the statements are not yours to turn. If you find one false, say at which input.
  Laid BY PROGRAM, IN A SANDBOX (cutbox-rows.mjs): the forced cells as the released guide's own fill.sh prints them over the translation 00681f08ea13fd37… (all of the seat's roots in one cut). By AI agents, Wed Nov 11 2026. No macro, syntax, notation, axiom, sorry.
-/
import Derived.Test.YteennikekhiedaaChecked
import GoSem.Claim
import GoSem.ClaimJoined
import GoSem.ClaimMapViews
import Derived.JoinedTies
import Derived.KernelRfl
namespace Go.Proofs.Yteennikekhiedaa
/- THE CELL 'sum', in the pinned program and in every row, IS THE sha256 OF THE DUMP (.gsa) THAT YteennikekhiedaaProg.lean LOADS. Nothing in Lean hashes anything: it is a label: what it is worth is what the hold of that sum in a sandbox is worth. -/
noncomputable def Try.pinned : Pinned := { name := "yteennikekhiedaa", sum := "00681f08ea13fd37bd5256d700fb917c4de863b548cb7f1d0a2074cefbc4a656", checked := Try.checked }
namespace Rows
def none {H : Type} : Left H := { results := [], args := [] }

/-- 'laws.FnExactConstants': WHATEVER THE INPUT: true; the input reads as it did. -/
def fnExactConstantsSpec : ChangeSpec := { name := "fnExactConstants", fn := fun _ => fun
  | [] => { results := [.lit (.bool true)], args := [] }
  | _ => none }
def fnExactConstantsRow : OpenClaim := { program := "yteennikekhiedaa", sum := "00681f08ea13fd37bd5256d700fb917c4de863b548cb7f1d0a2074cefbc4a656", func := "loop.example/g00271/laws.FnExactConstants", spec := "fnExactConstants", apart := false }
def FnExactConstantsSaid : Prop := fnExactConstantsRow.holds Try.pinned (OpenSpec.ofChange fnExactConstantsSpec)

/-- ITS FALSE NEIGHBOUR: 'it returns false'. Refute it at one input. -/
def fnExactConstantsWrong : ChangeSpec := { name := "fnExactConstants", fn := fun _ => fun
  | [] => { results := [.lit (.bool false)], args := [] }
  | _ => none }
def FnExactConstantsWrongFalsely : Prop := fnExactConstantsRow.holds Try.pinned (OpenSpec.ofChange fnExactConstantsWrong)

/-- 'laws.FnExactRecordRight': WHATEVER THE INPUT: true; the input reads as it did. -/
def fnExactRecordRightSpec : ChangeSpec := { name := "fnExactRecordRight", fn := fun _ => fun
  | [d] => { results := [.lit (.bool true)], args := [d] }
  | _ => none }
def fnExactRecordRightRow : OpenClaim := { program := "yteennikekhiedaa", sum := "00681f08ea13fd37bd5256d700fb917c4de863b548cb7f1d0a2074cefbc4a656", func := "loop.example/g00271/laws.FnExactRecordRight", spec := "fnExactRecordRight", apart := false }
def FnExactRecordRightSaid : Prop := fnExactRecordRightRow.holds Try.pinned (OpenSpec.ofChange fnExactRecordRightSpec)

/-- ITS FALSE NEIGHBOUR: 'it returns false'. Refute it at one input. -/
def fnExactRecordRightWrong : ChangeSpec := { name := "fnExactRecordRight", fn := fun _ => fun
  | [d] => { results := [.lit (.bool false)], args := [d] }
  | _ => none }
def FnExactRecordRightWrongFalsely : Prop := fnExactRecordRightRow.holds Try.pinned (OpenSpec.ofChange fnExactRecordRightWrong)

/-- 'laws.FnExactNameRight': WHATEVER THE INPUT: true; the input reads as it did. -/
def fnExactNameRightSpec : ChangeSpec := { name := "fnExactNameRight", fn := fun _ => fun
  | [d] => { results := [.lit (.bool true)], args := [d] }
  | _ => none }
def fnExactNameRightRow : OpenClaim := { program := "yteennikekhiedaa", sum := "00681f08ea13fd37bd5256d700fb917c4de863b548cb7f1d0a2074cefbc4a656", func := "loop.example/g00271/laws.FnExactNameRight", spec := "fnExactNameRight", apart := false }
def FnExactNameRightSaid : Prop := fnExactNameRightRow.holds Try.pinned (OpenSpec.ofChange fnExactNameRightSpec)

/-- ITS FALSE NEIGHBOUR: 'it returns false'. Refute it at one input. -/
def fnExactNameRightWrong : ChangeSpec := { name := "fnExactNameRight", fn := fun _ => fun
  | [d] => { results := [.lit (.bool false)], args := [d] }
  | _ => none }
def FnExactNameRightWrongFalsely : Prop := fnExactNameRightRow.holds Try.pinned (OpenSpec.ofChange fnExactNameRightWrong)

/-- 'laws.FnExactPutNum': WHATEVER THE INPUT: true; the input reads as it did. -/
def fnExactPutNumSpec : ChangeSpec := { name := "fnExactPutNum", fn := fun _ => fun
  | [d] => { results := [.lit (.bool true)], args := [d] }
  | _ => none }
def fnExactPutNumRow : OpenClaim := { program := "yteennikekhiedaa", sum := "00681f08ea13fd37bd5256d700fb917c4de863b548cb7f1d0a2074cefbc4a656", func := "loop.example/g00271/laws.FnExactPutNum", spec := "fnExactPutNum", apart := false }
def FnExactPutNumSaid : Prop := fnExactPutNumRow.holds Try.pinned (OpenSpec.ofChange fnExactPutNumSpec)

/-- ITS FALSE NEIGHBOUR: 'it returns false'. Refute it at one input. -/
def fnExactPutNumWrong : ChangeSpec := { name := "fnExactPutNum", fn := fun _ => fun
  | [d] => { results := [.lit (.bool false)], args := [d] }
  | _ => none }
def FnExactPutNumWrongFalsely : Prop := fnExactPutNumRow.holds Try.pinned (OpenSpec.ofChange fnExactPutNumWrong)

/-- 'laws.FnExactValueRight': WHATEVER THE INPUT: true; the input reads as it did. -/
def fnExactValueRightSpec : ChangeSpec := { name := "fnExactValueRight", fn := fun _ => fun
  | [d] => { results := [.lit (.bool true)], args := [d] }
  | _ => none }
def fnExactValueRightRow : OpenClaim := { program := "yteennikekhiedaa", sum := "00681f08ea13fd37bd5256d700fb917c4de863b548cb7f1d0a2074cefbc4a656", func := "loop.example/g00271/laws.FnExactValueRight", spec := "fnExactValueRight", apart := false }
def FnExactValueRightSaid : Prop := fnExactValueRightRow.holds Try.pinned (OpenSpec.ofChange fnExactValueRightSpec)

/-- ITS FALSE NEIGHBOUR: 'it returns false'. Refute it at one input. -/
def fnExactValueRightWrong : ChangeSpec := { name := "fnExactValueRight", fn := fun _ => fun
  | [d] => { results := [.lit (.bool false)], args := [d] }
  | _ => none }
def FnExactValueRightWrongFalsely : Prop := fnExactValueRightRow.holds Try.pinned (OpenSpec.ofChange fnExactValueRightWrong)

/-- 'laws.FnExactPutText': WHATEVER THE INPUT: true; the input reads as it did. -/
def fnExactPutTextSpec : ChangeSpec := { name := "fnExactPutText", fn := fun _ => fun
  | [d] => { results := [.lit (.bool true)], args := [d] }
  | _ => none }
def fnExactPutTextRow : OpenClaim := { program := "yteennikekhiedaa", sum := "00681f08ea13fd37bd5256d700fb917c4de863b548cb7f1d0a2074cefbc4a656", func := "loop.example/g00271/laws.FnExactPutText", spec := "fnExactPutText", apart := false }
def FnExactPutTextSaid : Prop := fnExactPutTextRow.holds Try.pinned (OpenSpec.ofChange fnExactPutTextSpec)

/-- ITS FALSE NEIGHBOUR: 'it returns false'. Refute it at one input. -/
def fnExactPutTextWrong : ChangeSpec := { name := "fnExactPutText", fn := fun _ => fun
  | [d] => { results := [.lit (.bool false)], args := [d] }
  | _ => none }
def FnExactPutTextWrongFalsely : Prop := fnExactPutTextRow.holds Try.pinned (OpenSpec.ofChange fnExactPutTextWrong)

/-- 'laws.FnExactSeal': WHATEVER THE INPUT: true; the input reads as it did. -/
def fnExactSealSpec : ChangeSpec := { name := "fnExactSeal", fn := fun _ => fun
  | [d] => { results := [.lit (.bool true)], args := [d] }
  | _ => none }
def fnExactSealRow : OpenClaim := { program := "yteennikekhiedaa", sum := "00681f08ea13fd37bd5256d700fb917c4de863b548cb7f1d0a2074cefbc4a656", func := "loop.example/g00271/laws.FnExactSeal", spec := "fnExactSeal", apart := false }
def FnExactSealSaid : Prop := fnExactSealRow.holds Try.pinned (OpenSpec.ofChange fnExactSealSpec)

/-- ITS FALSE NEIGHBOUR: 'it returns false'. Refute it at one input. -/
def fnExactSealWrong : ChangeSpec := { name := "fnExactSeal", fn := fun _ => fun
  | [d] => { results := [.lit (.bool false)], args := [d] }
  | _ => none }
def FnExactSealWrongFalsely : Prop := fnExactSealRow.holds Try.pinned (OpenSpec.ofChange fnExactSealWrong)

/-- 'laws.FnExactCrc': WHATEVER THE INPUT: true; the input reads as it did. -/
def fnExactCrcSpec : ChangeSpec := { name := "fnExactCrc", fn := fun _ => fun
  | [d] => { results := [.lit (.bool true)], args := [d] }
  | _ => none }
def fnExactCrcRow : OpenClaim := { program := "yteennikekhiedaa", sum := "00681f08ea13fd37bd5256d700fb917c4de863b548cb7f1d0a2074cefbc4a656", func := "loop.example/g00271/laws.FnExactCrc", spec := "fnExactCrc", apart := false }
def FnExactCrcSaid : Prop := fnExactCrcRow.holds Try.pinned (OpenSpec.ofChange fnExactCrcSpec)

/-- ITS FALSE NEIGHBOUR: 'it returns false'. Refute it at one input. -/
def fnExactCrcWrong : ChangeSpec := { name := "fnExactCrc", fn := fun _ => fun
  | [d] => { results := [.lit (.bool false)], args := [d] }
  | _ => none }
def FnExactCrcWrongFalsely : Prop := fnExactCrcRow.holds Try.pinned (OpenSpec.ofChange fnExactCrcWrong)

/-- 'laws.FnExactCrcMore': WHATEVER THE INPUT: true; the input reads as it did. -/
def fnExactCrcMoreSpec : ChangeSpec := { name := "fnExactCrcMore", fn := fun _ => fun
  | [d1, d2] => { results := [.lit (.bool true)], args := [d1, d2] }
  | _ => none }
def fnExactCrcMoreRow : OpenClaim := { program := "yteennikekhiedaa", sum := "00681f08ea13fd37bd5256d700fb917c4de863b548cb7f1d0a2074cefbc4a656", func := "loop.example/g00271/laws.FnExactCrcMore", spec := "fnExactCrcMore", apart := false }
def FnExactCrcMoreSaid : Prop := fnExactCrcMoreRow.holds Try.pinned (OpenSpec.ofChange fnExactCrcMoreSpec)

/-- ITS FALSE NEIGHBOUR: 'it returns false'. Refute it at one input. -/
def fnExactCrcMoreWrong : ChangeSpec := { name := "fnExactCrcMore", fn := fun _ => fun
  | [d1, d2] => { results := [.lit (.bool false)], args := [d1, d2] }
  | _ => none }
def FnExactCrcMoreWrongFalsely : Prop := fnExactCrcMoreRow.holds Try.pinned (OpenSpec.ofChange fnExactCrcMoreWrong)

/-- 'laws.FnExactUnseal': WHATEVER THE INPUT: true; the input reads as it did. -/
def fnExactUnsealSpec : ChangeSpec := { name := "fnExactUnseal", fn := fun _ => fun
  | [d] => { results := [.lit (.bool true)], args := [d] }
  | _ => none }
def fnExactUnsealRow : OpenClaim := { program := "yteennikekhiedaa", sum := "00681f08ea13fd37bd5256d700fb917c4de863b548cb7f1d0a2074cefbc4a656", func := "loop.example/g00271/laws.FnExactUnseal", spec := "fnExactUnseal", apart := false }
def FnExactUnsealSaid : Prop := fnExactUnsealRow.holds Try.pinned (OpenSpec.ofChange fnExactUnsealSpec)

/-- ITS FALSE NEIGHBOUR: 'it returns false'. Refute it at one input. -/
def fnExactUnsealWrong : ChangeSpec := { name := "fnExactUnseal", fn := fun _ => fun
  | [d] => { results := [.lit (.bool false)], args := [d] }
  | _ => none }
def FnExactUnsealWrongFalsely : Prop := fnExactUnsealRow.holds Try.pinned (OpenSpec.ofChange fnExactUnsealWrong)

/-- 'laws.FnExactValuesRight': WHATEVER THE INPUT: true; the input reads as it did. -/
def fnExactValuesRightSpec : ChangeSpec := { name := "fnExactValuesRight", fn := fun _ => fun
  | [d] => { results := [.lit (.bool true)], args := [d] }
  | _ => none }
def fnExactValuesRightRow : OpenClaim := { program := "yteennikekhiedaa", sum := "00681f08ea13fd37bd5256d700fb917c4de863b548cb7f1d0a2074cefbc4a656", func := "loop.example/g00271/laws.FnExactValuesRight", spec := "fnExactValuesRight", unfollowed := true, recurses := true, apart := false }
def FnExactValuesRightSaid : Prop := fnExactValuesRightRow.holds Try.pinned (OpenSpec.ofChange fnExactValuesRightSpec)

/-- ITS FALSE NEIGHBOUR: 'it returns false'. Refute it at one input. -/
def fnExactValuesRightWrong : ChangeSpec := { name := "fnExactValuesRight", fn := fun _ => fun
  | [d] => { results := [.lit (.bool false)], args := [d] }
  | _ => none }
def FnExactValuesRightWrongFalsely : Prop := fnExactValuesRightRow.holds Try.pinned (OpenSpec.ofChange fnExactValuesRightWrong)

/- THE SECOND FORM. 'bulk': how many values and letters a reading holds, each counted each time it is reached (what is shared counts as often as it is met; a slice's spare places count too). A statement '..UptoSaid' is the law's where the arguments, and the package variables that the reading takes, are together of bulk at most 1048576: NARROWER than '..Said'. Prove '..Said' where nothing that the law and all that it calls make is longer than what came in: it says more and counts as full. Else prove '..UptoSaid'. A law counts once. -/
mutual
def uptoBulk {H : Type} : DataW H → Nat
  | .lit (.string bytes) => bytes.length + 1
  | .lit _ => 1
  | .nil => 1
  | .ptr d => uptoBulk d + 1
  | .slice elems spare => uptoBulkAll elems + uptoBulkAll spare + 1
  | .agg parts => uptoBulkAll parts + 1
  | .iface _ d => uptoBulk d + 1
  | .map entries => uptoBulkEntries entries + 1
  | .held _ => 1
def uptoBulkAll {H : Type} : List (DataW H) → Nat
  | [] => 0
  | d :: r => uptoBulk d + uptoBulkAll r
def uptoBulkEntries {H : Type} : List (Lit × DataW H) → Nat
  | [] => 0
  | x :: r => uptoBulkEntry x + uptoBulkEntries r
def uptoBulkEntry {H : Type} : Lit × DataW H → Nat
  | (.string bytes, d) => bytes.length + uptoBulk d + 1
  | (_, d) => uptoBulk d + 1
 end
def uptoSmall : (H : Type) → List (DataW H) → Bool := fun _ ds => decide (uptoBulkAll ds ≤ 1048576)
def OpenSpec.upto (s : _root_.Go.ChangeSpec) : _root_.Go.OpenSpec := { _root_.Go.OpenSpec.ofChange s with cond := some uptoSmall }

/-- 'laws.FnExactConstants', WHERE WHAT IT READS IS OF BULK AT MOST 1048576: true; the input reads as it did. -/
def fnExactConstantsUptoRow : OpenClaim := { program := "yteennikekhiedaa", sum := "00681f08ea13fd37bd5256d700fb917c4de863b548cb7f1d0a2074cefbc4a656", func := "loop.example/g00271/laws.FnExactConstants", spec := "fnExactConstants", apart := false, narrowed := true }
def FnExactConstantsUptoSaid : Prop := fnExactConstantsUptoRow.holds Try.pinned (OpenSpec.upto fnExactConstantsSpec)

/-- 'laws.FnExactRecordRight', WHERE WHAT IT READS IS OF BULK AT MOST 1048576: true; the input reads as it did. -/
def fnExactRecordRightUptoRow : OpenClaim := { program := "yteennikekhiedaa", sum := "00681f08ea13fd37bd5256d700fb917c4de863b548cb7f1d0a2074cefbc4a656", func := "loop.example/g00271/laws.FnExactRecordRight", spec := "fnExactRecordRight", apart := false, narrowed := true }
def FnExactRecordRightUptoSaid : Prop := fnExactRecordRightUptoRow.holds Try.pinned (OpenSpec.upto fnExactRecordRightSpec)

/-- 'laws.FnExactNameRight', WHERE WHAT IT READS IS OF BULK AT MOST 1048576: true; the input reads as it did. -/
def fnExactNameRightUptoRow : OpenClaim := { program := "yteennikekhiedaa", sum := "00681f08ea13fd37bd5256d700fb917c4de863b548cb7f1d0a2074cefbc4a656", func := "loop.example/g00271/laws.FnExactNameRight", spec := "fnExactNameRight", apart := false, narrowed := true }
def FnExactNameRightUptoSaid : Prop := fnExactNameRightUptoRow.holds Try.pinned (OpenSpec.upto fnExactNameRightSpec)

/-- 'laws.FnExactPutNum', WHERE WHAT IT READS IS OF BULK AT MOST 1048576: true; the input reads as it did. -/
def fnExactPutNumUptoRow : OpenClaim := { program := "yteennikekhiedaa", sum := "00681f08ea13fd37bd5256d700fb917c4de863b548cb7f1d0a2074cefbc4a656", func := "loop.example/g00271/laws.FnExactPutNum", spec := "fnExactPutNum", apart := false, narrowed := true }
def FnExactPutNumUptoSaid : Prop := fnExactPutNumUptoRow.holds Try.pinned (OpenSpec.upto fnExactPutNumSpec)

/-- 'laws.FnExactValueRight', WHERE WHAT IT READS IS OF BULK AT MOST 1048576: true; the input reads as it did. -/
def fnExactValueRightUptoRow : OpenClaim := { program := "yteennikekhiedaa", sum := "00681f08ea13fd37bd5256d700fb917c4de863b548cb7f1d0a2074cefbc4a656", func := "loop.example/g00271/laws.FnExactValueRight", spec := "fnExactValueRight", apart := false, narrowed := true }
def FnExactValueRightUptoSaid : Prop := fnExactValueRightUptoRow.holds Try.pinned (OpenSpec.upto fnExactValueRightSpec)

/-- 'laws.FnExactPutText', WHERE WHAT IT READS IS OF BULK AT MOST 1048576: true; the input reads as it did. -/
def fnExactPutTextUptoRow : OpenClaim := { program := "yteennikekhiedaa", sum := "00681f08ea13fd37bd5256d700fb917c4de863b548cb7f1d0a2074cefbc4a656", func := "loop.example/g00271/laws.FnExactPutText", spec := "fnExactPutText", apart := false, narrowed := true }
def FnExactPutTextUptoSaid : Prop := fnExactPutTextUptoRow.holds Try.pinned (OpenSpec.upto fnExactPutTextSpec)

/-- 'laws.FnExactSeal', WHERE WHAT IT READS IS OF BULK AT MOST 1048576: true; the input reads as it did. -/
def fnExactSealUptoRow : OpenClaim := { program := "yteennikekhiedaa", sum := "00681f08ea13fd37bd5256d700fb917c4de863b548cb7f1d0a2074cefbc4a656", func := "loop.example/g00271/laws.FnExactSeal", spec := "fnExactSeal", apart := false, narrowed := true }
def FnExactSealUptoSaid : Prop := fnExactSealUptoRow.holds Try.pinned (OpenSpec.upto fnExactSealSpec)

/-- 'laws.FnExactCrc', WHERE WHAT IT READS IS OF BULK AT MOST 1048576: true; the input reads as it did. -/
def fnExactCrcUptoRow : OpenClaim := { program := "yteennikekhiedaa", sum := "00681f08ea13fd37bd5256d700fb917c4de863b548cb7f1d0a2074cefbc4a656", func := "loop.example/g00271/laws.FnExactCrc", spec := "fnExactCrc", apart := false, narrowed := true }
def FnExactCrcUptoSaid : Prop := fnExactCrcUptoRow.holds Try.pinned (OpenSpec.upto fnExactCrcSpec)

/-- 'laws.FnExactCrcMore', WHERE WHAT IT READS IS OF BULK AT MOST 1048576: true; the input reads as it did. -/
def fnExactCrcMoreUptoRow : OpenClaim := { program := "yteennikekhiedaa", sum := "00681f08ea13fd37bd5256d700fb917c4de863b548cb7f1d0a2074cefbc4a656", func := "loop.example/g00271/laws.FnExactCrcMore", spec := "fnExactCrcMore", apart := false, narrowed := true }
def FnExactCrcMoreUptoSaid : Prop := fnExactCrcMoreUptoRow.holds Try.pinned (OpenSpec.upto fnExactCrcMoreSpec)

/-- 'laws.FnExactUnseal', WHERE WHAT IT READS IS OF BULK AT MOST 1048576: true; the input reads as it did. -/
def fnExactUnsealUptoRow : OpenClaim := { program := "yteennikekhiedaa", sum := "00681f08ea13fd37bd5256d700fb917c4de863b548cb7f1d0a2074cefbc4a656", func := "loop.example/g00271/laws.FnExactUnseal", spec := "fnExactUnseal", apart := false, narrowed := true }
def FnExactUnsealUptoSaid : Prop := fnExactUnsealUptoRow.holds Try.pinned (OpenSpec.upto fnExactUnsealSpec)

/-- 'laws.FnExactValuesRight', WHERE WHAT IT READS IS OF BULK AT MOST 1048576: true; the input reads as it did. -/
def fnExactValuesRightUptoRow : OpenClaim := { program := "yteennikekhiedaa", sum := "00681f08ea13fd37bd5256d700fb917c4de863b548cb7f1d0a2074cefbc4a656", func := "loop.example/g00271/laws.FnExactValuesRight", spec := "fnExactValuesRight", unfollowed := true, recurses := true, apart := false, narrowed := true }
def FnExactValuesRightUptoSaid : Prop := fnExactValuesRightUptoRow.holds Try.pinned (OpenSpec.upto fnExactValuesRightSpec)

end Rows
end Go.Proofs.Yteennikekhiedaa
