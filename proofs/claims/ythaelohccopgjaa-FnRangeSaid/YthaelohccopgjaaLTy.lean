/- Functions of the program, each with what it returns, run by the evaluator; the conditions stand in the theorems. -/
import Derived.Test.YthaelohccopgjaaLBytes
namespace Go.Proofs.Ythaelohccopgjaa
open Go Go.Proofs.YthaelohccopgjaaW Go.Proofs
set_option linter.unusedVariables false
set_option linter.unusedSimpArgs false
set_option maxRecDepth 100000
set_option maxHeartbeats 8000000
def szS (s : ByteArray) (left : Int) : Int := next (less1 left s.size) fun q => q
theorem szS_sz : SzOk szS (fun s => s.size ≤ 1048576) := by
  intro v left h0 h1 hn
  unfold szS at hn ⊢
  obtain ⟨a, e⟩ := less1_ok h0 hn
  rw [e]
  exact ⟨by omega, by omega, by omega⟩
/-- Behind what is counted down, nothing more. -/
def endQ (q : Int) : Int := q
structure Val where
  k : Int
  n : Int
  s : ByteArray
  deriving Inhabited
def Val.row (v : Val) : List Y := [(yN v.k), (yN v.n), (yS v.s)]
def Val.sz (v : Val) (q : Int) : Int := next (less1 q v.s.size) (fun q => endQ q)
def Val.Bd (M : Nat) (v : Val) : Prop := v.s.size ≤ M ∧ True
def Val.Rg (v : Val) : Prop := I64 v.k ∧ I64 v.n ∧ True
def Val.RP : List Y → Prop := RParts [rI .i64, rI .i64, rS]
theorem Val.lift {ys : List Y} (h : Val.RP ys) : ∃ v : Val, ys = v.row ∧ Val.Bd maxLen v ∧ Val.Rg v := by
  obtain ⟨_, _, rfl, ⟨x0, w0, rfl⟩, ⟨_, _, rfl, ⟨x1, w1, rfl⟩, ⟨_, _, rfl, ⟨x2, w2, rfl⟩, rfl⟩⟩⟩ := h
  exact ⟨⟨x0, x1, x2⟩, rfl, ⟨w2, trivial⟩, ⟨I64_of w0, I64_of w1, trivial⟩⟩
theorem Val.sz_ok : SzOk Val.sz (Val.Bd 1048576) := by
  intro v left h0 h1 hn
  unfold Val.sz at hn ⊢
  obtain ⟨a1, e⟩ := less1_ok h0 hn
  rw [e] at hn ⊢
  clear e
  obtain ⟨q1, hq1⟩ : ∃ q1, q1 = left - v.s.size := ⟨_, rfl⟩
  rw [← hq1] at hn ⊢
  have b1 : 0 ≤ q1 ∧ q1 ≤ left := by omega
  unfold endQ at hn ⊢
  exact ⟨⟨by omega, trivial⟩, by omega, by omega⟩
def zeroValueS : List Y := [yN 0, yN 0, yS ⟨⟨[]⟩⟩]
structure Col where
  name : ByteArray
  kind : Int
  nul : Bool
  deriving Inhabited
def Col.row (v : Col) : List Y := [(yS v.name), (yN v.kind), (yB v.nul)]
def Col.sz (v : Col) (q : Int) : Int := next (less1 q v.name.size) (fun q => endQ q)
def Col.Bd (M : Nat) (v : Col) : Prop := v.name.size ≤ M ∧ True
def Col.Rg (v : Col) : Prop := I64 v.kind ∧ True
def Col.RP : List Y → Prop := RParts [rS, rI .i64, rB]
theorem Col.lift {ys : List Y} (h : Col.RP ys) : ∃ v : Col, ys = v.row ∧ Col.Bd maxLen v ∧ Col.Rg v := by
  obtain ⟨_, _, rfl, ⟨x0, w0, rfl⟩, ⟨_, _, rfl, ⟨x1, w1, rfl⟩, ⟨_, _, rfl, ⟨x2, rfl⟩, rfl⟩⟩⟩ := h
  exact ⟨⟨x0, x1, x2⟩, rfl, ⟨w0, trivial⟩, ⟨I64_of w1, trivial⟩⟩
theorem Col.sz_ok : SzOk Col.sz (Col.Bd 1048576) := by
  intro v left h0 h1 hn
  unfold Col.sz at hn ⊢
  obtain ⟨a1, e⟩ := less1_ok h0 hn
  rw [e] at hn ⊢
  clear e
  obtain ⟨q1, hq1⟩ : ∃ q1, q1 = left - v.name.size := ⟨_, rfl⟩
  rw [← hq1] at hn ⊢
  have b1 : 0 ≤ q1 ∧ q1 ≤ left := by omega
  unfold endQ at hn ⊢
  exact ⟨⟨by omega, trivial⟩, by omega, by omega⟩
def zeroColumnS : List Y := [yS ⟨⟨[]⟩⟩, yN 0, yB false]
def zeroInt64S : List Y := [yN 0]
structure Idx where
  cols : List Int
  uniq : Bool
  deriving Inhabited
def Idx.row (v : Idx) : List Y := [(.sl 1 (v.cols.map rowI)), (yB v.uniq)]
def Idx.sz (v : Idx) (q : Int) : Int := next (szN v.cols q) (fun q => endQ q)
def Idx.Bd (M : Nat) (v : Idx) : Prop := v.cols.length ≤ M ∧ True
def Idx.Rg (v : Idx) : Prop := (∀ u ∈ v.cols, I64 u) ∧ True
def Idx.RP : List Y → Prop := RParts [rL 1 (rI .i64), rB]
theorem Idx.lift {ys : List Y} (h : Idx.RP ys) : ∃ v : Idx, ys = v.row ∧ Idx.Bd maxLen v ∧ Idx.Rg v := by
  obtain ⟨_, _, rfl, r0, ⟨_, _, rfl, ⟨x1, rfl⟩, rfl⟩⟩ := h
  obtain ⟨x0, rfl, b0, c0⟩ := liftL (row := rowI) (B := I64) (fun ys ⟨a, ha, e⟩ => ⟨a, e, I64_of ha⟩) r0
  exact ⟨⟨x0, x1⟩, rfl, ⟨b0, trivial⟩, ⟨c0, trivial⟩⟩
theorem Idx.sz_ok : SzOk Idx.sz (Idx.Bd 1048576) := by
  intro v left h0 h1 hn
  unfold Idx.sz at hn ⊢
  obtain ⟨c1, e⟩ := next_ok hn
  rw [e] at hn ⊢
  clear e
  obtain ⟨a1, b1, d1⟩ := szN_ok _ _ h0 h1 c1
  generalize szN v.cols left = q1 at hn c1 b1 d1 ⊢
  have b1 : 0 ≤ q1 ∧ q1 ≤ left := ⟨b1, d1⟩
  unfold endQ at hn ⊢
  exact ⟨⟨a1, trivial⟩, by omega, by omega⟩
def zeroIndexS : List Y := [.sl 1 [], yB false]
structure Sch where
  name : ByteArray
  cols : List Col
  key : List Int
  idx : List Idx
  deriving Inhabited
def Sch.row (v : Sch) : List Y := [(yS v.name), (.sl 3 (v.cols.map Col.row)), (.sl 1 (v.key.map rowI)), (.sl 2 (v.idx.map Idx.row))]
def Sch.sz (v : Sch) (q : Int) : Int := next (less1 q v.name.size) (fun q => next (szL Col.sz v.cols q) (fun q => next (szN v.key q) (fun q => next (szL Idx.sz v.idx q) (fun q => endQ q))))
def Sch.Bd (M : Nat) (v : Sch) : Prop := v.name.size ≤ M ∧ (v.cols.length ≤ M ∧ ∀ u ∈ v.cols, Col.Bd M u) ∧ v.key.length ≤ M ∧ (v.idx.length ≤ M ∧ ∀ u ∈ v.idx, Idx.Bd M u) ∧ True
def Sch.Rg (v : Sch) : Prop := (∀ u ∈ v.cols, Col.Rg u) ∧ (∀ u ∈ v.key, I64 u) ∧ (∀ u ∈ v.idx, Idx.Rg u) ∧ True
def Sch.RP : List Y → Prop := RParts [rS, rL 3 (Col.RP), rL 1 (rI .i64), rL 2 (Idx.RP)]
theorem Sch.lift {ys : List Y} (h : Sch.RP ys) : ∃ v : Sch, ys = v.row ∧ Sch.Bd maxLen v ∧ Sch.Rg v := by
  obtain ⟨_, _, rfl, ⟨x0, w0, rfl⟩, ⟨_, _, rfl, r1, ⟨_, _, rfl, r2, ⟨_, _, rfl, r3, rfl⟩⟩⟩⟩ := h
  obtain ⟨x1, rfl, b1, c1⟩ := liftL (row := Col.row) (B := fun v => Col.Bd maxLen v ∧ Col.Rg v) (fun ys h => Col.lift h) r1
  obtain ⟨x2, rfl, b2, c2⟩ := liftL (row := rowI) (B := I64) (fun ys ⟨a, ha, e⟩ => ⟨a, e, I64_of ha⟩) r2
  obtain ⟨x3, rfl, b3, c3⟩ := liftL (row := Idx.row) (B := fun v => Idx.Bd maxLen v ∧ Idx.Rg v) (fun ys h => Idx.lift h) r3
  exact ⟨⟨x0, x1, x2, x3⟩, rfl, ⟨w0, ⟨b1, fun u hu => (c1 u hu).1⟩, b2, ⟨b3, fun u hu => (c3 u hu).1⟩, trivial⟩, ⟨(fun u hu => (c1 u hu).2), c2, (fun u hu => (c3 u hu).2), trivial⟩⟩
theorem Sch.sz_ok : SzOk Sch.sz (Sch.Bd 1048576) := by
  intro v left h0 h1 hn
  unfold Sch.sz at hn ⊢
  obtain ⟨a1, e⟩ := less1_ok h0 hn
  rw [e] at hn ⊢
  clear e
  obtain ⟨q1, hq1⟩ : ∃ q1, q1 = left - v.name.size := ⟨_, rfl⟩
  rw [← hq1] at hn ⊢
  have b1 : 0 ≤ q1 ∧ q1 ≤ left := by omega
  have g1 : 0 ≤ q1 := b1.1
  obtain ⟨c2, e⟩ := next_ok hn
  rw [e] at hn ⊢
  clear e
  obtain ⟨a2, b2, d2⟩ := (szL_ok Col.sz_ok) _ _ (g1) (by omega) c2
  generalize szL Col.sz v.cols q1 = q2 at hn c2 b2 d2 ⊢
  have b2 : 0 ≤ q2 ∧ q2 ≤ q1 := ⟨b2, d2⟩
  have g2 : 0 ≤ q2 := b2.1
  obtain ⟨c3, e⟩ := next_ok hn
  rw [e] at hn ⊢
  clear e
  obtain ⟨a3, b3, d3⟩ := szN_ok _ _ (g2) (by omega) c3
  generalize szN v.key q2 = q3 at hn c3 b3 d3 ⊢
  have b3 : 0 ≤ q3 ∧ q3 ≤ q2 := ⟨b3, d3⟩
  have g3 : 0 ≤ q3 := b3.1
  obtain ⟨c4, e⟩ := next_ok hn
  rw [e] at hn ⊢
  clear e
  obtain ⟨a4, b4, d4⟩ := (szL_ok Idx.sz_ok) _ _ (g3) (by omega) c4
  generalize szL Idx.sz v.idx q3 = q4 at hn c4 b4 d4 ⊢
  have b4 : 0 ≤ q4 ∧ q4 ≤ q3 := ⟨b4, d4⟩
  unfold endQ at hn ⊢
  exact ⟨⟨by omega, a2, a3, a4, trivial⟩, by omega, by omega⟩
def zeroSchemaS : List Y := [yS ⟨⟨[]⟩⟩, .sl 3 [], .sl 1 [], .sl 2 []]
structure Opn where
  kind : Int
  table : ByteArray
  sch : Sch
  row_ : List Val
  deriving Inhabited
def Opn.row (v : Opn) : List Y := [(yN v.kind), (yS v.table), (yS v.sch.name), (.sl 3 (v.sch.cols.map Col.row)), (.sl 1 (v.sch.key.map rowI)), (.sl 2 (v.sch.idx.map Idx.row)), (.sl 3 (v.row_.map Val.row))]
def Opn.sz (v : Opn) (q : Int) : Int := next (less1 q v.table.size) (fun q => next (Sch.sz v.sch q) (fun q => next (szL Val.sz v.row_ q) (fun q => endQ q)))
def Opn.Bd (M : Nat) (v : Opn) : Prop := v.table.size ≤ M ∧ Sch.Bd M v.sch ∧ (v.row_.length ≤ M ∧ ∀ u ∈ v.row_, Val.Bd M u) ∧ True
def Opn.Rg (v : Opn) : Prop := I64 v.kind ∧ Sch.Rg v.sch ∧ (∀ u ∈ v.row_, Val.Rg u) ∧ True
def Opn.RP : List Y → Prop := RParts [rI .i64, rS, Sch.RP, rL 3 (Val.RP)]
theorem Opn.lift {ys : List Y} (h : Opn.RP ys) : ∃ v : Opn, ys = v.row ∧ Opn.Bd maxLen v ∧ Opn.Rg v := by
  obtain ⟨_, _, rfl, ⟨x0, w0, rfl⟩, ⟨_, _, rfl, ⟨x1, w1, rfl⟩, ⟨_, _, rfl, r2, ⟨_, _, rfl, r3, rfl⟩⟩⟩⟩ := h
  obtain ⟨x2, rfl, b2, c2⟩ := Sch.lift r2
  obtain ⟨x3, rfl, b3, c3⟩ := liftL (row := Val.row) (B := fun v => Val.Bd maxLen v ∧ Val.Rg v) (fun ys h => Val.lift h) r3
  exact ⟨⟨x0, x1, x2, x3⟩, rfl, ⟨w1, b2, ⟨b3, fun u hu => (c3 u hu).1⟩, trivial⟩, ⟨I64_of w0, c2, (fun u hu => (c3 u hu).2), trivial⟩⟩
theorem Opn.sz_ok : SzOk Opn.sz (Opn.Bd 1048576) := by
  intro v left h0 h1 hn
  unfold Opn.sz at hn ⊢
  obtain ⟨a1, e⟩ := less1_ok h0 hn
  rw [e] at hn ⊢
  clear e
  obtain ⟨q1, hq1⟩ : ∃ q1, q1 = left - v.table.size := ⟨_, rfl⟩
  rw [← hq1] at hn ⊢
  have b1 : 0 ≤ q1 ∧ q1 ≤ left := by omega
  have g1 : 0 ≤ q1 := b1.1
  obtain ⟨c2, e⟩ := next_ok hn
  rw [e] at hn ⊢
  clear e
  obtain ⟨a2, b2, d2⟩ := Sch.sz_ok _ _ (g1) (by omega) c2
  generalize Sch.sz v.sch q1 = q2 at hn c2 b2 d2 ⊢
  have b2 : 0 ≤ q2 ∧ q2 ≤ q1 := ⟨b2, d2⟩
  have g2 : 0 ≤ q2 := b2.1
  obtain ⟨c3, e⟩ := next_ok hn
  rw [e] at hn ⊢
  clear e
  obtain ⟨a3, b3, d3⟩ := (szL_ok Val.sz_ok) _ _ (g2) (by omega) c3
  generalize szL Val.sz v.row_ q2 = q3 at hn c3 b3 d3 ⊢
  have b3 : 0 ≤ q3 ∧ q3 ≤ q2 := ⟨b3, d3⟩
  unfold endQ at hn ⊢
  exact ⟨⟨by omega, a2, a3, trivial⟩, by omega, by omega⟩
def zeroOpS : List Y := [yN 0, yS ⟨⟨[]⟩⟩, yS ⟨⟨[]⟩⟩, .sl 3 [], .sl 1 [], .sl 2 [], .sl 3 []]
structure Itm where
  agg : Int
  col : ByteArray
  deriving Inhabited
def Itm.row (v : Itm) : List Y := [(yN v.agg), (yS v.col)]
def Itm.sz (v : Itm) (q : Int) : Int := next (less1 q v.col.size) (fun q => endQ q)
def Itm.Bd (M : Nat) (v : Itm) : Prop := v.col.size ≤ M ∧ True
def Itm.Rg (v : Itm) : Prop := I64 v.agg ∧ True
def Itm.RP : List Y → Prop := RParts [rI .i64, rS]
theorem Itm.lift {ys : List Y} (h : Itm.RP ys) : ∃ v : Itm, ys = v.row ∧ Itm.Bd maxLen v ∧ Itm.Rg v := by
  obtain ⟨_, _, rfl, ⟨x0, w0, rfl⟩, ⟨_, _, rfl, ⟨x1, w1, rfl⟩, rfl⟩⟩ := h
  exact ⟨⟨x0, x1⟩, rfl, ⟨w1, trivial⟩, ⟨I64_of w0, trivial⟩⟩
theorem Itm.sz_ok : SzOk Itm.sz (Itm.Bd 1048576) := by
  intro v left h0 h1 hn
  unfold Itm.sz at hn ⊢
  obtain ⟨a1, e⟩ := less1_ok h0 hn
  rw [e] at hn ⊢
  clear e
  obtain ⟨q1, hq1⟩ : ∃ q1, q1 = left - v.col.size := ⟨_, rfl⟩
  rw [← hq1] at hn ⊢
  have b1 : 0 ≤ q1 ∧ q1 ≤ left := by omega
  unfold endQ at hn ⊢
  exact ⟨⟨by omega, trivial⟩, by omega, by omega⟩
def zeroItemS : List Y := [yN 0, yS ⟨⟨[]⟩⟩]
structure Trm where
  col : ByteArray
  op : ByteArray
  val : Val
  deriving Inhabited
def Trm.row (v : Trm) : List Y := [(yS v.col), (yS v.op), (yN v.val.k), (yN v.val.n), (yS v.val.s)]
def Trm.sz (v : Trm) (q : Int) : Int := next (less1 q v.col.size) (fun q => next (less1 q v.op.size) (fun q => next (Val.sz v.val q) (fun q => endQ q)))
def Trm.Bd (M : Nat) (v : Trm) : Prop := v.col.size ≤ M ∧ v.op.size ≤ M ∧ Val.Bd M v.val ∧ True
def Trm.Rg (v : Trm) : Prop := Val.Rg v.val ∧ True
def Trm.RP : List Y → Prop := RParts [rS, rS, Val.RP]
theorem Trm.lift {ys : List Y} (h : Trm.RP ys) : ∃ v : Trm, ys = v.row ∧ Trm.Bd maxLen v ∧ Trm.Rg v := by
  obtain ⟨_, _, rfl, ⟨x0, w0, rfl⟩, ⟨_, _, rfl, ⟨x1, w1, rfl⟩, ⟨_, _, rfl, r2, rfl⟩⟩⟩ := h
  obtain ⟨x2, rfl, b2, c2⟩ := Val.lift r2
  exact ⟨⟨x0, x1, x2⟩, rfl, ⟨w0, w1, b2, trivial⟩, ⟨c2, trivial⟩⟩
theorem Trm.sz_ok : SzOk Trm.sz (Trm.Bd 1048576) := by
  intro v left h0 h1 hn
  unfold Trm.sz at hn ⊢
  obtain ⟨a1, e⟩ := less1_ok h0 hn
  rw [e] at hn ⊢
  clear e
  obtain ⟨q1, hq1⟩ : ∃ q1, q1 = left - v.col.size := ⟨_, rfl⟩
  rw [← hq1] at hn ⊢
  have b1 : 0 ≤ q1 ∧ q1 ≤ left := by omega
  have g1 : 0 ≤ q1 := b1.1
  obtain ⟨a2, e⟩ := less1_ok (g1) hn
  rw [e] at hn ⊢
  clear e
  obtain ⟨q2, hq2⟩ : ∃ q2, q2 = q1 - v.op.size := ⟨_, rfl⟩
  rw [← hq2] at hn ⊢
  have b2 : 0 ≤ q2 ∧ q2 ≤ q1 := by omega
  have g2 : 0 ≤ q2 := b2.1
  obtain ⟨c3, e⟩ := next_ok hn
  rw [e] at hn ⊢
  clear e
  obtain ⟨a3, b3, d3⟩ := Val.sz_ok _ _ (g2) (by omega) c3
  generalize Val.sz v.val q2 = q3 at hn c3 b3 d3 ⊢
  have b3 : 0 ≤ q3 ∧ q3 ≤ q2 := ⟨b3, d3⟩
  unfold endQ at hn ⊢
  exact ⟨⟨by omega, by omega, a3, trivial⟩, by omega, by omega⟩
def zeroTermS : List Y := [yS ⟨⟨[]⟩⟩, yS ⟨⟨[]⟩⟩, yN 0, yN 0, yS ⟨⟨[]⟩⟩]
structure Qry where
  items : List Itm
  table : ByteArray
  join : ByteArray
  lft : ByteArray
  rgt : ByteArray
  where_ : List Trm
  group : ByteArray
  order : ByteArray
  down : Bool
  limit : Int
  deriving Inhabited
def Qry.row (v : Qry) : List Y := [(.sl 2 (v.items.map Itm.row)), (yS v.table), (yS v.join), (yS v.lft), (yS v.rgt), (.sl 5 (v.where_.map Trm.row)), (yS v.group), (yS v.order), (yB v.down), (yN v.limit)]
def Qry.sz (v : Qry) (q : Int) : Int := next (szL Itm.sz v.items q) (fun q => next (less1 q v.table.size) (fun q => next (less1 q v.join.size) (fun q => next (less1 q v.lft.size) (fun q => next (less1 q v.rgt.size) (fun q => next (szL Trm.sz v.where_ q) (fun q => next (less1 q v.group.size) (fun q => next (less1 q v.order.size) (fun q => endQ q))))))))
def Qry.Bd (M : Nat) (v : Qry) : Prop := (v.items.length ≤ M ∧ ∀ u ∈ v.items, Itm.Bd M u) ∧ v.table.size ≤ M ∧ v.join.size ≤ M ∧ v.lft.size ≤ M ∧ v.rgt.size ≤ M ∧ (v.where_.length ≤ M ∧ ∀ u ∈ v.where_, Trm.Bd M u) ∧ v.group.size ≤ M ∧ v.order.size ≤ M ∧ True
def Qry.Rg (v : Qry) : Prop := (∀ u ∈ v.items, Itm.Rg u) ∧ (∀ u ∈ v.where_, Trm.Rg u) ∧ I64 v.limit ∧ True
def Qry.RP : List Y → Prop := RParts [rL 2 (Itm.RP), rS, rS, rS, rS, rL 5 (Trm.RP), rS, rS, rB, rI .i64]
theorem Qry.lift {ys : List Y} (h : Qry.RP ys) : ∃ v : Qry, ys = v.row ∧ Qry.Bd maxLen v ∧ Qry.Rg v := by
  obtain ⟨_, _, rfl, r0, ⟨_, _, rfl, ⟨x1, w1, rfl⟩, ⟨_, _, rfl, ⟨x2, w2, rfl⟩, ⟨_, _, rfl, ⟨x3, w3, rfl⟩, ⟨_, _, rfl, ⟨x4, w4, rfl⟩, ⟨_, _, rfl, r5, ⟨_, _, rfl, ⟨x6, w6, rfl⟩, ⟨_, _, rfl, ⟨x7, w7, rfl⟩, ⟨_, _, rfl, ⟨x8, rfl⟩, ⟨_, _, rfl, ⟨x9, w9, rfl⟩, rfl⟩⟩⟩⟩⟩⟩⟩⟩⟩⟩ := h
  obtain ⟨x0, rfl, b0, c0⟩ := liftL (row := Itm.row) (B := fun v => Itm.Bd maxLen v ∧ Itm.Rg v) (fun ys h => Itm.lift h) r0
  obtain ⟨x5, rfl, b5, c5⟩ := liftL (row := Trm.row) (B := fun v => Trm.Bd maxLen v ∧ Trm.Rg v) (fun ys h => Trm.lift h) r5
  exact ⟨⟨x0, x1, x2, x3, x4, x5, x6, x7, x8, x9⟩, rfl, ⟨⟨b0, fun u hu => (c0 u hu).1⟩, w1, w2, w3, w4, ⟨b5, fun u hu => (c5 u hu).1⟩, w6, w7, trivial⟩, ⟨(fun u hu => (c0 u hu).2), (fun u hu => (c5 u hu).2), I64_of w9, trivial⟩⟩
theorem Qry.sz_ok : SzOk Qry.sz (Qry.Bd 1048576) := by
  intro v left h0 h1 hn
  unfold Qry.sz at hn ⊢
  obtain ⟨c1, e⟩ := next_ok hn
  rw [e] at hn ⊢
  clear e
  obtain ⟨a1, b1, d1⟩ := (szL_ok Itm.sz_ok) _ _ h0 h1 c1
  generalize szL Itm.sz v.items left = q1 at hn c1 b1 d1 ⊢
  have b1 : 0 ≤ q1 ∧ q1 ≤ left := ⟨b1, d1⟩
  have g1 : 0 ≤ q1 := b1.1
  obtain ⟨a2, e⟩ := less1_ok (g1) hn
  rw [e] at hn ⊢
  clear e
  obtain ⟨q2, hq2⟩ : ∃ q2, q2 = q1 - v.table.size := ⟨_, rfl⟩
  rw [← hq2] at hn ⊢
  have b2 : 0 ≤ q2 ∧ q2 ≤ q1 := by omega
  have g2 : 0 ≤ q2 := b2.1
  obtain ⟨a3, e⟩ := less1_ok (g2) hn
  rw [e] at hn ⊢
  clear e
  obtain ⟨q3, hq3⟩ : ∃ q3, q3 = q2 - v.join.size := ⟨_, rfl⟩
  rw [← hq3] at hn ⊢
  have b3 : 0 ≤ q3 ∧ q3 ≤ q2 := by omega
  have g3 : 0 ≤ q3 := b3.1
  obtain ⟨a4, e⟩ := less1_ok (g3) hn
  rw [e] at hn ⊢
  clear e
  obtain ⟨q4, hq4⟩ : ∃ q4, q4 = q3 - v.lft.size := ⟨_, rfl⟩
  rw [← hq4] at hn ⊢
  have b4 : 0 ≤ q4 ∧ q4 ≤ q3 := by omega
  have g4 : 0 ≤ q4 := b4.1
  obtain ⟨a5, e⟩ := less1_ok (g4) hn
  rw [e] at hn ⊢
  clear e
  obtain ⟨q5, hq5⟩ : ∃ q5, q5 = q4 - v.rgt.size := ⟨_, rfl⟩
  rw [← hq5] at hn ⊢
  have b5 : 0 ≤ q5 ∧ q5 ≤ q4 := by omega
  have g5 : 0 ≤ q5 := b5.1
  obtain ⟨c6, e⟩ := next_ok hn
  rw [e] at hn ⊢
  clear e
  obtain ⟨a6, b6, d6⟩ := (szL_ok Trm.sz_ok) _ _ (g5) (by omega) c6
  generalize szL Trm.sz v.where_ q5 = q6 at hn c6 b6 d6 ⊢
  have b6 : 0 ≤ q6 ∧ q6 ≤ q5 := ⟨b6, d6⟩
  have g6 : 0 ≤ q6 := b6.1
  obtain ⟨a7, e⟩ := less1_ok (g6) hn
  rw [e] at hn ⊢
  clear e
  obtain ⟨q7, hq7⟩ : ∃ q7, q7 = q6 - v.group.size := ⟨_, rfl⟩
  rw [← hq7] at hn ⊢
  have b7 : 0 ≤ q7 ∧ q7 ≤ q6 := by omega
  have g7 : 0 ≤ q7 := b7.1
  obtain ⟨a8, e⟩ := less1_ok (g7) hn
  rw [e] at hn ⊢
  clear e
  obtain ⟨q8, hq8⟩ : ∃ q8, q8 = q7 - v.order.size := ⟨_, rfl⟩
  rw [← hq8] at hn ⊢
  have b8 : 0 ≤ q8 ∧ q8 ≤ q7 := by omega
  unfold endQ at hn ⊢
  exact ⟨⟨a1, by omega, by omega, by omega, by omega, a6, by omega, by omega, trivial⟩, by omega, by omega⟩
def zeroQueryS : List Y := [.sl 2 [], yS ⟨⟨[]⟩⟩, yS ⟨⟨[]⟩⟩, yS ⟨⟨[]⟩⟩, yS ⟨⟨[]⟩⟩, .sl 5 [], yS ⟨⟨[]⟩⟩, yS ⟨⟨[]⟩⟩, yB false, yN 0]
structure Wr where
  at_ : Int
  text : ByteArray
  deriving Inhabited
def Wr.row (v : Wr) : List Y := [(yN v.at_), (yS v.text)]
def Wr.sz (v : Wr) (q : Int) : Int := next (less1 q v.text.size) (fun q => endQ q)
def Wr.Bd (M : Nat) (v : Wr) : Prop := v.text.size ≤ M ∧ True
def Wr.Rg (v : Wr) : Prop := I64 v.at_ ∧ True
def Wr.RP : List Y → Prop := RParts [rI .i64, rS]
theorem Wr.lift {ys : List Y} (h : Wr.RP ys) : ∃ v : Wr, ys = v.row ∧ Wr.Bd maxLen v ∧ Wr.Rg v := by
  obtain ⟨_, _, rfl, ⟨x0, w0, rfl⟩, ⟨_, _, rfl, ⟨x1, w1, rfl⟩, rfl⟩⟩ := h
  exact ⟨⟨x0, x1⟩, rfl, ⟨w1, trivial⟩, ⟨I64_of w0, trivial⟩⟩
theorem Wr.sz_ok : SzOk Wr.sz (Wr.Bd 1048576) := by
  intro v left h0 h1 hn
  unfold Wr.sz at hn ⊢
  obtain ⟨a1, e⟩ := less1_ok h0 hn
  rw [e] at hn ⊢
  clear e
  obtain ⟨q1, hq1⟩ : ∃ q1, q1 = left - v.text.size := ⟨_, rfl⟩
  rw [← hq1] at hn ⊢
  have b1 : 0 ≤ q1 ∧ q1 ≤ left := by omega
  unfold endQ at hn ⊢
  exact ⟨⟨by omega, trivial⟩, by omega, by omega⟩
def zeroWriteS : List Y := [yN 0, yS ⟨⟨[]⟩⟩]
def zeroStringS : List Y := [yS ⟨⟨[]⟩⟩]
theorem toStringS_ok (l : List ByteArray) (hl : l.length ≤ 1048576) : CallOK Try.prog 50 [.c (.y (.sl 1 (l.map rowS)))] ⟨.c (.own 1 (l.map rowS)), []⟩ := by
  obtain ⟨xs, hx⟩ : ∃ xs, xs = l.map rowS := ⟨_, rfl⟩
  have hxl : xs.length = l.length := by rw [hx, List.length_map]
  rw [← hx]
  obtain ⟨M, hM⟩ := mapEx
  try simp only [hM]
  refine go Try.func50 rfl rfl rfl rfl fun pAdd pSub pMul pQuo pRem pAnd pOr pXor pAndNot pShl pShr pNeg pCompl pConv pLt pLe pEq pSlt pSle pSeq pCat pCatOk pSlen pSsub pSat pIadd pIsub pBnot pBeq pImin pImax pLlen pLsub pLapp pLset pLcopy pLenOk pBytes pRep hF Ca hC r hr => ?_
  cbv
  have g1 : pLe 0 (pLlen xs) = true := zeroLeLen hF xs
  have g2 : pLe (pLlen xs) (pLlen xs) = true := leSelf hF _
  have g3 : pLenOk (pLlen xs) = true := lenOkLen hF (by omega)
  refine brT g1 (brT g2 (brT g3 ?_))
  refine loop_u (α := Nat × List (List Y)) (fun a st => (st.n 4 (Int.ofNat a.1)).ob 3001 (.ar 1 a.2))
    (fun a => a.1 ≤ l.length ∧ a.2 = fill rowS zeroStringS l a.1) (fun a => l.length - a.1) (0, _) rfl ⟨by omega, ((repLen hF xs _).trans (hxl ▸ fill_zero ..))⟩ (fun K' hK I a hi ih => ?_)
  obtain ⟨i, zs⟩ := a
  obtain ⟨hi, hz⟩ := hi
  dsimp only at hi hz
  cbv
  refine brkI (fun h => ?_) (fun h => ?_) <;> try cbv
  · have hs : i < l.length := hxl ▸ iltT hF h
    have hzl : zs.length = l.length := by rw [hz]; exact fill_len _ _ _ hi
    have q1 : pLe 0 (Int.ofNat i) = true := zeroLe hF i
    have q2 : pLt (Int.ofNat i) (pLlen zs) = true := mkIlt hF (by omega)
    refine lgetM (fun u => [yS u]) (fun u => by simp only [rowS]) hx hs fun u hu => ?_
    cbv
    refine brT q1 (brT q2 ?_)
    refine lget (x := zeroStringS) (by rw [hz]; exact fill_get _ _ _ hs) ?_
    have e1 : pAdd .i64 (Int.ofNat i) 1 = Int.ofNat (i + 1) := add1Is hF (by omega)
    have e2 : pLset zs (Int.ofNat i) [yS u] = fill rowS zeroStringS l (i + 1) := by
      have hh : [yS u] = rowS u := by simp only [rowS]
      rw [hh, hu, hz, ← fill_set rowS zeroStringS l hs]; exact lsetIs hF ..
    cbv
    conv => arg 1; cbv
    rw [e1]
    exact ih (i + 1, _) _ ⟨hs, e2⟩ (by dsimp only; omega) rfl
  · have hs : i = l.length := by have := iltF hF h; omega
    subst hs
    refine hK _ _ ?_
    cbv
    rw [hr, hz, hx, fill_end]
theorem szStringS_ok (l : List ByteArray) (left : Int) (h0 : 0 ≤ left) (h1 : left ≤ 1048576) (hl : l.length ≤ maxLen) (hb : ∀ v ∈ l, v.size ≤ maxLen) : CallOK Try.prog 48 [.c (.y (.sl 1 (l.map rowS))), aN left] (N (szL szS l left)) := by
  rw [maxLen_is] at hl
  obtain ⟨xs, hx⟩ : ∃ xs, xs = l.map rowS := ⟨_, rfl⟩
  have hxl : xs.length = l.length := by rw [hx, List.length_map]
  rw [← hx]
  obtain ⟨M, hM⟩ := mapEx
  try simp only [hM]
  refine go Try.func48 rfl rfl rfl rfl fun pAdd pSub pMul pQuo pRem pAnd pOr pXor pAndNot pShl pShr pNeg pCompl pConv pLt pLe pEq pSlt pSle pSeq pCat pCatOk pSlen pSsub pSat pIadd pIsub pBnot pBeq pImin pImax pLlen pLsub pLapp pLset pLcopy pLenOk pBytes pRep hF Ca hC r hr => ?_
  cbv
  obtain ⟨q0, hq0⟩ : ∃ q0, q0 = pSub .i64 left (pLlen xs) := ⟨_, rfl⟩
  rw [← hq0]
  refine brkI (fun h => ?_) (fun h => ?_) <;> try cbv
  all_goals have e : q0 = left - l.length := by rw [hq0, ← hxl]; exact subLenIs hF (by omega) (by omega)
  · have h' : left < l.length := by have := ltT hF h; omega
    rw [hr, szL, less1_neg h']
  · have h' : ¬ left < l.length := by have := ltF hF h; omega
    rw [szL, less1_pos h', ← e] at hr
    obtain ⟨res, hres⟩ : ∃ res, res = szRunL szS l q0 := ⟨_, rfl⟩
    rw [← hres] at hr
    refine loop_u (α := Nat × Int) (fun a st => (st.n 1 a.2).n 5 (Int.ofNat a.1))
      (fun a => a.1 ≤ l.length ∧ 0 ≤ a.2 ∧ a.2 ≤ 1048576 ∧ res = szRunL szS (l.drop a.1) a.2) (fun a => l.length - a.1) (0, q0) rfl ⟨by omega, by dsimp only; omega, by dsimp only; omega, hres⟩ (fun K' hK I a hi ih => ?_)
    obtain ⟨i, q⟩ := a
    obtain ⟨hi, hqa, hqb, hq⟩ := hi
    dsimp only at hi hqa hqb hq
    cbv
    refine brkI (fun h0 => ?_) (fun h0 => ?_) <;> try cbv
    · have hs : i < l.length := hxl ▸ iltT hF h0
      have e1 : pAdd .i64 (Int.ofNat i) 1 = Int.ofNat (i + 1) := add1Is hF (by omega)
      refine lgetM (fun u => [yS u]) (fun u => by simp only [rowS]) hx hs fun u hu => ?_
      cbv
      have hsz : u.size ≤ maxLen := hu ▸ hb _ (List.getElem_mem hs)
      rw [maxLen_is] at hsz
      obtain ⟨q2, hq2⟩ : ∃ q2, q2 = pSub .i64 q (pSlen u) := ⟨_, rfl⟩
      rw [← hq2]
      rw [List.drop_eq_getElem_cons hs, szRunL, ← hu] at hq
      refine brkI (fun h3 => ?_) (fun h3 => ?_) <;> try cbv
      all_goals have e2 : q2 = q - u.size := by rw [hq2]; exact subSlenIs hF (by omega) (by omega)
      · have h4 : q < u.size := by have := ltT hF h3; omega
        refine hK _ _ ?_
        cbv
        rw [hr, hq, szS, less1_neg h4]; rfl
      · have h4 : ¬ q < u.size := by have := ltF hF h3; omega
        rw [szS, less1_pos h4, ← e2, next_pos (by omega)] at hq
        conv => arg 1; cbv
        rw [e1]
        exact ih (i + 1, q2) _ ⟨hs, by dsimp only; omega, by dsimp only; omega, hq⟩ (by dsimp only; omega) rfl
    · have hs : i = l.length := by have := iltF hF h0; omega
      rw [hs, List.drop_length, szRunL] at hq
      refine hK _ _ ?_
      cbv
      rw [hr, hq]
theorem eqStringS_ok (l : List ByteArray) (hl : l.length ≤ maxLen) : CallOK Try.prog 24 [.c (.y (.sl 1 (l.map rowS))), .c (.y (.sl 1 (l.map rowS)))] (B true) := by
  rw [maxLen_is] at hl
  obtain ⟨xs, hx⟩ : ∃ xs, xs = l.map rowS := ⟨_, rfl⟩
  have hxl : xs.length = l.length := by rw [hx, List.length_map]
  rw [← hx]
  obtain ⟨M, hM⟩ := mapEx
  try simp only [hM]
  refine go Try.func24 rfl rfl rfl rfl fun pAdd pSub pMul pQuo pRem pAnd pOr pXor pAndNot pShl pShr pNeg pCompl pConv pLt pLe pEq pSlt pSle pSeq pCat pCatOk pSlen pSsub pSat pIadd pIsub pBnot pBeq pImin pImax pLlen pLsub pLapp pLset pLcopy pLenOk pBytes pRep hF Ca hC r hr => ?_
  cbv
  refine brkI (fun h => ?_) (fun h => ?_) <;> try cbv
  · refine loop_u (α := Nat) (fun a st => st.n 5 (Int.ofNat a)) (fun a => a ≤ l.length) (fun a => l.length - a) 0 rfl (by omega) (fun K' hK I i hi ih => ?_)
    cbv
    refine brkI (fun h0 => ?_) (fun h0 => ?_) <;> try cbv
    · have hs : i < l.length := hxl ▸ iltT hF h0
      have e1 : pAdd .i64 (Int.ofNat i) 1 = Int.ofNat (i + 1) := add1Is hF (by omega)
      refine lgetM (fun u => [yS u]) (fun u => by simp only [rowS]) hx hs fun u hu => ?_
      cbv
      refine lgetM (fun u => [yS u]) (fun u => by simp only [rowS]) hx hs fun u' hu' => ?_
      rw [show u' = u from hu'.trans hu.symm]
      cbv
      refine brkI (fun h1 => ?_) (fun h1 => ?_) <;> try cbv
      all_goals first
        | (exact absurd rfl (eqF hF h1))
        | (exact absurd rfl (seqF hF h1))
        | (exfalso; revert h1; cases u <;> simp; done)
        | (conv => arg 1; cbv
           rw [e1]
           exact ih (i + 1) _ hs (by omega) rfl)
    · refine hK _ _ ?_
      cbv
      exact hr.symm
  · exact absurd rfl (eqF hF h)
structure Dsk where
  secs : List ByteArray
  cache : List Wr
  deriving Inhabited
def Dsk.row (v : Dsk) : List Y := [(.sl 1 (v.secs.map rowS)), (.sl 2 (v.cache.map Wr.row))]
def Dsk.sz (v : Dsk) (q : Int) : Int := next (szL szS v.secs q) (fun q => next (szL Wr.sz v.cache q) (fun q => endQ q))
def Dsk.Bd (M : Nat) (v : Dsk) : Prop := (v.secs.length ≤ M ∧ ∀ u ∈ v.secs, u.size ≤ M) ∧ (v.cache.length ≤ M ∧ ∀ u ∈ v.cache, Wr.Bd M u) ∧ True
def Dsk.Rg (v : Dsk) : Prop := (∀ u ∈ v.cache, Wr.Rg u) ∧ True
def Dsk.RP : List Y → Prop := RParts [rL 1 (rS), rL 2 (Wr.RP)]
theorem Dsk.lift {ys : List Y} (h : Dsk.RP ys) : ∃ v : Dsk, ys = v.row ∧ Dsk.Bd maxLen v ∧ Dsk.Rg v := by
  obtain ⟨_, _, rfl, r0, ⟨_, _, rfl, r1, rfl⟩⟩ := h
  obtain ⟨x0, rfl, b0, c0⟩ := liftL (row := rowS) (B := fun s => s.size ≤ maxLen) (fun ys ⟨a, ha, e⟩ => ⟨a, e, ha⟩) r0
  obtain ⟨x1, rfl, b1, c1⟩ := liftL (row := Wr.row) (B := fun v => Wr.Bd maxLen v ∧ Wr.Rg v) (fun ys h => Wr.lift h) r1
  exact ⟨⟨x0, x1⟩, rfl, ⟨⟨b0, c0⟩, ⟨b1, fun u hu => (c1 u hu).1⟩, trivial⟩, ⟨(fun u hu => (c1 u hu).2), trivial⟩⟩
theorem Dsk.sz_ok : SzOk Dsk.sz (Dsk.Bd 1048576) := by
  intro v left h0 h1 hn
  unfold Dsk.sz at hn ⊢
  obtain ⟨c1, e⟩ := next_ok hn
  rw [e] at hn ⊢
  clear e
  obtain ⟨a1, b1, d1⟩ := (szL_ok szS_sz) _ _ h0 h1 c1
  generalize szL szS v.secs left = q1 at hn c1 b1 d1 ⊢
  have b1 : 0 ≤ q1 ∧ q1 ≤ left := ⟨b1, d1⟩
  have g1 : 0 ≤ q1 := b1.1
  obtain ⟨c2, e⟩ := next_ok hn
  rw [e] at hn ⊢
  clear e
  obtain ⟨a2, b2, d2⟩ := (szL_ok Wr.sz_ok) _ _ (g1) (by omega) c2
  generalize szL Wr.sz v.cache q1 = q2 at hn c2 b2 d2 ⊢
  have b2 : 0 ≤ q2 ∧ q2 ≤ q1 := ⟨b2, d2⟩
  unfold endQ at hn ⊢
  exact ⟨⟨a1, a2, trivial⟩, by omega, by omega⟩
def zeroDiskS : List Y := [.sl 1 [], .sl 2 []]
structure Rcd where
  seq : Int
  text : ByteArray
  deriving Inhabited
def Rcd.row (v : Rcd) : List Y := [(yN v.seq), (yS v.text)]
def Rcd.sz (v : Rcd) (q : Int) : Int := next (less1 q v.text.size) (fun q => endQ q)
def Rcd.Bd (M : Nat) (v : Rcd) : Prop := v.text.size ≤ M ∧ True
def Rcd.Rg (v : Rcd) : Prop := I64 v.seq ∧ True
def Rcd.RP : List Y → Prop := RParts [rI .i64, rS]
theorem Rcd.lift {ys : List Y} (h : Rcd.RP ys) : ∃ v : Rcd, ys = v.row ∧ Rcd.Bd maxLen v ∧ Rcd.Rg v := by
  obtain ⟨_, _, rfl, ⟨x0, w0, rfl⟩, ⟨_, _, rfl, ⟨x1, w1, rfl⟩, rfl⟩⟩ := h
  exact ⟨⟨x0, x1⟩, rfl, ⟨w1, trivial⟩, ⟨I64_of w0, trivial⟩⟩
theorem Rcd.sz_ok : SzOk Rcd.sz (Rcd.Bd 1048576) := by
  intro v left h0 h1 hn
  unfold Rcd.sz at hn ⊢
  obtain ⟨a1, e⟩ := less1_ok h0 hn
  rw [e] at hn ⊢
  clear e
  obtain ⟨q1, hq1⟩ : ∃ q1, q1 = left - v.text.size := ⟨_, rfl⟩
  rw [← hq1] at hn ⊢
  have b1 : 0 ≤ q1 ∧ q1 ≤ left := by omega
  unfold endQ at hn ⊢
  exact ⟨⟨by omega, trivial⟩, by omega, by omega⟩
def zeroRecordS : List Y := [yN 0, yS ⟨⟨[]⟩⟩]
def rowVs (l : List Val) : List Y := [.sl 3 (l.map Val.row)]
def zeroValueSS : List Y := [.sl 3 []]
structure Tbl where
  sch : Sch
  rows : List (List Val)
  deriving Inhabited
def Tbl.row (v : Tbl) : List Y := [(yS v.sch.name), (.sl 3 (v.sch.cols.map Col.row)), (.sl 1 (v.sch.key.map rowI)), (.sl 2 (v.sch.idx.map Idx.row)), (.sl 1 (v.rows.map rowVs))]
def Tbl.sz (v : Tbl) (q : Int) : Int := next (Sch.sz v.sch q) (fun q => next (szL (szL Val.sz) v.rows q) (fun q => endQ q))
def Tbl.Bd (M : Nat) (v : Tbl) : Prop := Sch.Bd M v.sch ∧ (v.rows.length ≤ M ∧ ∀ u ∈ v.rows, (u.length ≤ M ∧ ∀ z ∈ u, Val.Bd M z)) ∧ True
def Tbl.Rg (v : Tbl) : Prop := Sch.Rg v.sch ∧ (∀ u ∈ v.rows, ∀ z ∈ u, Val.Rg z) ∧ True
def Tbl.RP : List Y → Prop := RParts [Sch.RP, rL 1 (rL 3 Val.RP)]
theorem Tbl.lift {ys : List Y} (h : Tbl.RP ys) : ∃ v : Tbl, ys = v.row ∧ Tbl.Bd maxLen v ∧ Tbl.Rg v := by
  obtain ⟨_, _, rfl, r0, ⟨_, _, rfl, r1, rfl⟩⟩ := h
  obtain ⟨x0, rfl, b0, c0⟩ := Sch.lift r0
  obtain ⟨x1, rfl, b1, c1⟩ := liftL (row := rowVs) (B := fun l : List Val => (l.length ≤ maxLen ∧ ∀ z ∈ l, Val.Bd maxLen z) ∧ ∀ z ∈ l, Val.Rg z) (fun ys h => let ⟨a, e, h1, h2⟩ := liftL (row := Val.row) (B := fun v => Val.Bd maxLen v ∧ Val.Rg v) (fun ys h => Val.lift h) h; ⟨a, e, ⟨h1, fun z hz => (h2 z hz).1⟩, fun z hz => (h2 z hz).2⟩) r1
  exact ⟨⟨x0, x1⟩, rfl, ⟨b0, ⟨b1, fun u hu => (c1 u hu).1⟩, trivial⟩, ⟨c0, (fun u hu => (c1 u hu).2), trivial⟩⟩
theorem Tbl.sz_ok : SzOk Tbl.sz (Tbl.Bd 1048576) := by
  intro v left h0 h1 hn
  unfold Tbl.sz at hn ⊢
  obtain ⟨c1, e⟩ := next_ok hn
  rw [e] at hn ⊢
  clear e
  obtain ⟨a1, b1, d1⟩ := Sch.sz_ok _ _ h0 h1 c1
  generalize Sch.sz v.sch left = q1 at hn c1 b1 d1 ⊢
  have b1 : 0 ≤ q1 ∧ q1 ≤ left := ⟨b1, d1⟩
  have g1 : 0 ≤ q1 := b1.1
  obtain ⟨c2, e⟩ := next_ok hn
  rw [e] at hn ⊢
  clear e
  obtain ⟨a2, b2, d2⟩ := (szL_ok (szL_ok Val.sz_ok)) _ _ (g1) (by omega) c2
  generalize szL (szL Val.sz) v.rows q1 = q2 at hn c2 b2 d2 ⊢
  have b2 : 0 ≤ q2 ∧ q2 ≤ q1 := ⟨b2, d2⟩
  unfold endQ at hn ⊢
  exact ⟨⟨a1, a2, trivial⟩, by omega, by omega⟩
def zeroTableS : List Y := [yS ⟨⟨[]⟩⟩, .sl 3 [], .sl 1 [], .sl 2 [], .sl 1 []]
structure Dbs where
  tabs : List Tbl
  deriving Inhabited
def Dbs.row (v : Dbs) : List Y := [(.sl 5 (v.tabs.map Tbl.row))]
def Dbs.sz (v : Dbs) (q : Int) : Int := next (szL Tbl.sz v.tabs q) (fun q => endQ q)
def Dbs.Bd (M : Nat) (v : Dbs) : Prop := (v.tabs.length ≤ M ∧ ∀ u ∈ v.tabs, Tbl.Bd M u) ∧ True
def Dbs.Rg (v : Dbs) : Prop := (∀ u ∈ v.tabs, Tbl.Rg u) ∧ True
def Dbs.RP : List Y → Prop := RParts [rL 5 (Tbl.RP)]
theorem Dbs.lift {ys : List Y} (h : Dbs.RP ys) : ∃ v : Dbs, ys = v.row ∧ Dbs.Bd maxLen v ∧ Dbs.Rg v := by
  obtain ⟨_, _, rfl, r0, rfl⟩ := h
  obtain ⟨x0, rfl, b0, c0⟩ := liftL (row := Tbl.row) (B := fun v => Tbl.Bd maxLen v ∧ Tbl.Rg v) (fun ys h => Tbl.lift h) r0
  exact ⟨⟨x0⟩, rfl, ⟨⟨b0, fun u hu => (c0 u hu).1⟩, trivial⟩, ⟨(fun u hu => (c0 u hu).2), trivial⟩⟩
theorem Dbs.sz_ok : SzOk Dbs.sz (Dbs.Bd 1048576) := by
  intro v left h0 h1 hn
  unfold Dbs.sz at hn ⊢
  obtain ⟨c1, e⟩ := next_ok hn
  rw [e] at hn ⊢
  clear e
  obtain ⟨a1, b1, d1⟩ := (szL_ok Tbl.sz_ok) _ _ h0 h1 c1
  generalize szL Tbl.sz v.tabs left = q1 at hn c1 b1 d1 ⊢
  have b1 : 0 ≤ q1 ∧ q1 ≤ left := ⟨b1, d1⟩
  unfold endQ at hn ⊢
  exact ⟨⟨a1, trivial⟩, by omega, by omega⟩
def zeroDbS : List Y := [.sl 5 []]
structure Sto where
  disk : Dsk
  db : Dbs
  seq : Int
  nxt : Int
  deriving Inhabited
def Sto.row (v : Sto) : List Y := [(.sl 1 (v.disk.secs.map rowS)), (.sl 2 (v.disk.cache.map Wr.row)), (.sl 5 (v.db.tabs.map Tbl.row)), (yN v.seq), (yN v.nxt)]
def Sto.sz (v : Sto) (q : Int) : Int := next (Dsk.sz v.disk q) (fun q => next (Dbs.sz v.db q) (fun q => endQ q))
def Sto.Bd (M : Nat) (v : Sto) : Prop := Dsk.Bd M v.disk ∧ Dbs.Bd M v.db ∧ True
def Sto.Rg (v : Sto) : Prop := Dsk.Rg v.disk ∧ Dbs.Rg v.db ∧ I64 v.seq ∧ I64 v.nxt ∧ True
def Sto.RP : List Y → Prop := RParts [Dsk.RP, Dbs.RP, rI .i64, rI .i64]
theorem Sto.lift {ys : List Y} (h : Sto.RP ys) : ∃ v : Sto, ys = v.row ∧ Sto.Bd maxLen v ∧ Sto.Rg v := by
  obtain ⟨_, _, rfl, r0, ⟨_, _, rfl, r1, ⟨_, _, rfl, ⟨x2, w2, rfl⟩, ⟨_, _, rfl, ⟨x3, w3, rfl⟩, rfl⟩⟩⟩⟩ := h
  obtain ⟨x0, rfl, b0, c0⟩ := Dsk.lift r0
  obtain ⟨x1, rfl, b1, c1⟩ := Dbs.lift r1
  exact ⟨⟨x0, x1, x2, x3⟩, rfl, ⟨b0, b1, trivial⟩, ⟨c0, c1, I64_of w2, I64_of w3, trivial⟩⟩
theorem Sto.sz_ok : SzOk Sto.sz (Sto.Bd 1048576) := by
  intro v left h0 h1 hn
  unfold Sto.sz at hn ⊢
  obtain ⟨c1, e⟩ := next_ok hn
  rw [e] at hn ⊢
  clear e
  obtain ⟨a1, b1, d1⟩ := Dsk.sz_ok _ _ h0 h1 c1
  generalize Dsk.sz v.disk left = q1 at hn c1 b1 d1 ⊢
  have b1 : 0 ≤ q1 ∧ q1 ≤ left := ⟨b1, d1⟩
  have g1 : 0 ≤ q1 := b1.1
  obtain ⟨c2, e⟩ := next_ok hn
  rw [e] at hn ⊢
  clear e
  obtain ⟨a2, b2, d2⟩ := Dbs.sz_ok _ _ (g1) (by omega) c2
  generalize Dbs.sz v.db q1 = q2 at hn c2 b2 d2 ⊢
  have b2 : 0 ≤ q2 ∧ q2 ≤ q1 := ⟨b2, d2⟩
  unfold endQ at hn ⊢
  exact ⟨⟨a1, a2, trivial⟩, by omega, by omega⟩
def zeroStoreS : List Y := [.sl 1 [], .sl 2 [], .sl 5 [], yN 0, yN 0]
def zeroBoolS : List Y := [yB false]
end Go.Proofs.Ythaelohccopgjaa
