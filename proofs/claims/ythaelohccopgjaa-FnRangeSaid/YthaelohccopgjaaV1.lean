/- An evaluator of loaded code by value, and the proof that what it shows holds of calls; part 1. Conditions: the program draws orders in the mixed way, and the table of types is as the program has it. -/
import Derived.WalkKit
import Derived.Below
import Derived.KernelRfl
set_option linter.unusedVariables false
set_option linter.unusedSimpArgs false
set_option linter.unnecessarySimpa false
/- A by-value evaluator of loaded code, part 1: values by value, states, tables. -/
namespace Go.Proofs.YthaelohccopgjaaW

/-- One cell's content by value: a scalar, or a slice (es cells an element) that nobody writes any more. -/
inductive Y where
  | sc (v : Value)
  | sl (es : Nat) (xs : List (List Y))
  deriving Inhabited

/-- What one cell holds, seen from a frame: nothing known; a value; a slice of length and capacity 0; the frame's own row k, all of it; a part of it; a pointer to a cell of its own box, or row; a pointer to shared cells; a closure over own boxes, or over shared ones. -/
inductive C where
  | no
  | y (c : Y)
  | mt (es : Nat)
  | aw (k : Nat)
  | as (k : Nat) (lo n : Int)
  | pb (k j : Nat)
  | pr (k : Nat) (i : Int) (j : Nat)
  | rp (cs : List Y)
  | fn (f : FuncId) (caps : List Nat)
  | fv (f : FuncId) (caps : List (List Y))
  deriving Inhabited
inductive X where
  | c (c : C)
  | agg (cs : List C)
  | tup (vs : List (Bool × List C))
  deriving Inhabited
/-- What is owned as a whole, and turned by calls alone: a strings.Builder (its type, its bytes' type, its text). -/
inductive Opq where
  | bd (t e : TypeId) (s : ByteArray)
  deriving Inhabited
/-- What the frame owns: a box (a variable in memory), a row, a whole. -/
inductive Ob where
  | bx (cs : List C)
  | ar (es : Nat) (xs : List (List Y))
  | op (q : Opq)
  deriving Inhabited

/-- Numbers compared, in the way that cbv takes in a few steps. -/
def eqN (a b : Nat) : Bool := decide (a = b)
def leN (a b : Nat) : Bool := decide (a ≤ b)
def ltN (a b : Nat) : Bool := decide (a < b)
theorem eqN_t {a b : Nat} (h : eqN a b = true) : a = b := of_decide_eq_true h
theorem eqN_f {a b : Nat} (h : eqN a b = false) : ¬ a = b := of_decide_eq_false h
theorem eqN_refl (a : Nat) : eqN a a = true := decide_eq_true rfl
@[simp] theorem eqN_is (a b : Nat) : (eqN a b = true) = (a = b) := by simp [eqN]
@[simp] theorem leN_is (a b : Nat) : (leN a b = true) = (a ≤ b) := by simp [leN]
@[simp] theorem ltN_is (a b : Nat) : (ltN a b = true) = (a < b) := by simp [ltN]
theorem leN_t {a b : Nat} (h : leN a b = true) : a ≤ b := of_decide_eq_true h
structure State where
  s : List (Nat × X)
  o : List (Nat × Ob)

def look1 {α : Type} : List (Nat × α) → Nat → Option α
  | [], _ => none
  | (k, x) :: r, i => match eqN k i with
    | true => some x
    | false => look1 r i
def put1 {α : Type} : List (Nat × α) → Nat → α → List (Nat × α)
  | [], i, x => [(i, x)]
  | (k, y) :: r, i, x => match eqN k i with
    | true => (i, x) :: r
    | false => match ltN i k with
      | true => (i, x) :: (k, y) :: r
      | false => (k, y) :: put1 r i x
def del1 {α : Type} : List (Nat × α) → Nat → List (Nat × α)
  | [], _ => []
  | (k, y) :: r, i => match eqN k i with
    | true => del1 r i
    | false => (k, y) :: del1 r i

theorem beq_dec (a b : Nat) : eqN a b = decide (a = b) := rfl
theorem look1_put1 {α : Type} (s : List (Nat × α)) (i j : Nat) (x : α) : look1 (put1 s i x) j = if i = j then some x else look1 s j := by
  induction s with
  | nil => simp only [put1, look1]; by_cases h : i = j <;> simp [beq_dec, h]
  | cons q r ih =>
    obtain ⟨k, y⟩ := q
    simp only [put1]
    by_cases e : k = i
    · subst e
      simp only [beq_dec, decide_true, look1]
      by_cases h : k = j <;> simp [beq_dec, h]
    · simp only [beq_dec, e, decide_false]
      cases ltN i k
      · simp only [look1, beq_dec, ih]
        by_cases h : k = j
        · subst h; simp [Ne.symm e]
        · simp [h]
      · simp only [look1, beq_dec]
        by_cases h : i = j <;> simp [h]
theorem look1_del1 {α : Type} (s : List (Nat × α)) (i j : Nat) : look1 (del1 s i) j = if i = j then none else look1 s j := by
  induction s with
  | nil => simp [del1, look1]
  | cons q r ih =>
    obtain ⟨k, y⟩ := q
    simp only [del1]
    by_cases e : k = i
    · subst e
      simp only [beq_dec, decide_true, ih, look1]
      by_cases h : k = j <;> simp [h]
    · simp only [beq_dec, e, decide_false, look1, ih]
      by_cases h : k = j
      · subst h; simp [Ne.symm e]
      · simp [h]

def slot (s : List (Nat × X)) (i : Nat) : X := match look1 s i with
  | some x => x
  | none => .c .no

/-- What is computed of numbers, texts and lists: kept under names while code is run. -/
structure Prims where
  add : IntKind → Int → Int → Int
  sub : IntKind → Int → Int → Int
  mul : IntKind → Int → Int → Int
  quo : IntKind → Int → Int → Int
  rem : IntKind → Int → Int → Int
  and : IntKind → Int → Int → Int
  or : IntKind → Int → Int → Int
  xor : IntKind → Int → Int → Int
  andNot : IntKind → Int → Int → Int
  shl : IntKind → Int → Int → Int
  shr : IntKind → Int → Int → Int
  neg : IntKind → Int → Int
  compl : IntKind → Int → Int
  conv : IntKind → Int → Int
  lt : Int → Int → Bool
  le : Int → Int → Bool
  eq : Int → Int → Bool
  slt : ByteArray → ByteArray → Bool
  sle : ByteArray → ByteArray → Bool
  seq : ByteArray → ByteArray → Bool
  cat : ByteArray → ByteArray → ByteArray
  catOk : ByteArray → ByteArray → Bool
  slen : ByteArray → Int
  ssub : ByteArray → Int → Int → ByteArray
  sat : ByteArray → Int → Int
  iadd : Int → Int → Int
  isub : Int → Int → Int
  bnot : Bool → Bool
  beq : Bool → Bool → Bool
  imin : Int → Int → Int
  imax : Int → Int → Int
  llen : List (List Y) → Int
  lsub : List (List Y) → Int → Int → List (List Y)
  lapp : List (List Y) → List (List Y) → List (List Y)
  lset : List (List Y) → Int → List Y → List (List Y)
  lcopy : List (List Y) → Int → Int → List (List Y) → List (List Y)
  lenOk : Int → Bool
  bytes : ByteArray → List (List Y)
  rep : Int → List Y → List (List Y)

def bitsW (op : BinOp) (k : IntKind) (x y : Int) : Int :=
  let a := BitVec.ofInt k.bits x
  let b := BitVec.ofInt k.bits y
  match op with
  | .and => k.wrap (a &&& b).toNat
  | .or => k.wrap (a ||| b).toNat
  | .xor => k.wrap (a ^^^ b).toNat
  | .andNot => k.wrap (a &&& ~~~b).toNat
  | _ => 0
def bytesL (l : List UInt8) : List (List Y) := l.map fun b => [.sc (.int .u8 b.toNat)]
def maxLenW : Int := 4294967296
def prims : Prims where
  add k a b := k.wrap (a + b)
  sub k a b := k.wrap (a - b)
  mul k a b := k.wrap (a * b)
  quo k a b := k.wrap (a.tdiv b)
  rem _ a b := a.tmod b
  and k a b := bitsW .and k a b
  or k a b := bitsW .or k a b
  xor k a b := bitsW .xor k a b
  andNot k a b := bitsW .andNot k a b
  shl k a b := k.wrap (a * 2 ^ min b.toNat k.bits)
  shr k a b := a.fdiv (2 ^ min b.toNat k.bits)
  neg k a := k.wrap (0 - a)
  compl k a := bitsW .xor k (if k.signed then -1 else k.max) a
  conv k a := k.wrap a
  lt a b := decide (a < b)
  le a b := decide (a ≤ b)
  eq a b := a == b
  slt a b := Op.bytesLess a.toList b.toList
  sle a b := Op.bytesLess a.toList b.toList || a.toList == b.toList
  seq a b := a.toList == b.toList
  cat a b := a ++ b
  catOk a b := decide (a.size + b.size ≤ 9223372036854775807)
  slen a := a.size
  ssub a lo hi := a.extract lo.toNat hi.toNat
  sat a i := ((a[i.toNat]?).map fun b => (b.toNat : Int)).getD 0
  iadd a b := a + b
  isub a b := a - b
  bnot b := !b
  beq a b := a == b
  imin a b := if b < a then b else a
  imax a b := if b > a then b else a
  llen l := l.length
  lsub l lo n := (l.drop lo.toNat).take n.toNat
  lapp a b := a ++ b
  lset l i x := l.set i.toNat x
  lcopy l lo n xs := l.take lo.toNat ++ xs.take n.toNat ++ l.drop (lo.toNat + min xs.length n.toNat)
  lenOk n := decide (n ≤ maxLenW)
  bytes s := bytesL s.data.toList
  rep n x := List.replicate n.toNat x

/-! ### Types, told by a table -/
structure TyI where
  cells : Nat
  is : Bool := true
  agg : Bool := false
  bytes : Nat := 0
  el : Option (Nat × Nat × Nat × Bool) := none   -- a slice's element: type, cells, bytes, is it a byte
  flds : List (Nat × Nat × Bool) := []            -- a struct's fields: offset, cells, is it an aggregate
  zero : List C := []
  ik : Option IntKind := none
  str : Bool := false
  bool : Bool := false
  ptr : Bool := false
  cmp : Option (List Nat) := none       -- a struct of plain cells that may be compared: of each, is it a number (1), a text (2), a truth (3)
  bld : Option TypeId := none           -- strings.Builder: the type of a byte
structure Tab where
  ty : Nat → Option TyI
def Tab.at (T : Tab) (t : Nat) : TyI := match T.ty t with
  | some i => i
  | none => { cells := 0, is := false }
/-- How arguments are handed over (1: given away, else looked at), which slots live on behind a region. -/
structure Cfg where
  mode : FuncId → List Nat
  keep : FuncId → Nat → List Nat × List Nat
  head : FuncId → Nat → List Nat × List Nat
  fl : FuncId → Bool := fun _ => false
  ord : FuncId → Nat → Bool := fun _ _ => false
  eat : FuncId → Nat → List (Nat × Nat) := fun _ _ => []
  frz : FuncId → Nat → List Nat := fun _ _ => []
  par : FuncId → Nat → List (Nat × Nat) := fun _ _ => []

/-! ### What a call is handed, and hands back, by value -/
inductive AC where
  | no
  | self
  | y (c : Y)
  | own (es : Nat) (xs : List (List Y))
  | op (q : Opq)
  deriving Inhabited
inductive A where
  | c (a : AC)
  | agg (cs : List AC)
  | io (cs : List AC)
  | ir (b : Bool) (cs : List AC)
  | iop (q : Opq)
  | rp (cs : List Y)
  | fv (f : FuncId) (caps : List (List Y))
  deriving Inhabited
inductive RV where
  | c (a : AC)
  | agg (cs : List AC)
  | tup (l : List (Bool × List AC))
  deriving Inhabited
structure Res where
  val : RV
  outs : List (List AC) := []

def key (d c : Nat) : Nat := d * 1000 + c

/-! ### Keys turned, killed, frozen -/
def mapCaps (f : Nat → Option Nat) : List Nat → Option (List Nat)
  | [] => some []
  | k :: r => match f k with
    | some k' => match mapCaps f r with
      | some r' => some (k' :: r')
      | none => none
    | none => none
def C.mapK (f : Nat → Option Nat) : C → C
  | .aw k => match f k with
    | some k' => .aw k'
    | none => .no
  | .as k lo n => match f k with
    | some k' => .as k' lo n
    | none => .no
  | .pb k j => match f k with
    | some k' => .pb k' j
    | none => .no
  | .pr k i j => match f k with
    | some k' => .pr k' i j
    | none => .no
  | .fn g caps => match mapCaps f caps with
    | some caps' => .fn g caps'
    | none => .no
  | c => c
def mapCs (f : C → C) : List C → List C
  | [] => []
  | c :: r => f c :: mapCs f r
def mapTs (f : C → C) : List (Bool × List C) → List (Bool × List C)
  | [] => []
  | (b, cs) :: r => (b, mapCs f cs) :: mapTs f r
def X.mapC (f : C → C) : X → X
  | .c a => .c (f a)
  | .agg cs => .agg (mapCs f cs)
  | .tup l => .tup (mapTs f l)
def mapS (f : C → C) : List (Nat × X) → List (Nat × X)
  | [] => []
  | (k, x) :: r => (k, x.mapC f) :: mapS f r
def Ob.mapC (f : C → C) : Ob → Ob
  | .bx cs => .bx (mapCs f cs)
  | .ar es xs => .ar es xs
  | .op q => .op q
def mapO (f : C → C) : List (Nat × Ob) → List (Nat × Ob)
  | [] => []
  | (k, b) :: r => (k, b.mapC f) :: mapO f r
def State.mapC (f : C → C) (st : State) : State := ⟨mapS f st.s, mapO f st.o⟩

def killF (k : Nat) : Nat → Option Nat := fun j => match eqN j k with
  | true => none
  | false => some j
def renF (k k' : Nat) : Nat → Option Nat := fun j => match eqN j k with
  | true => some k'
  | false => match eqN j k' with
    | true => none
    | false => some j
/-- Row k is frozen: what led to it sees what it holds. -/
def C.freeze (F : Prims) (k es : Nat) (xs : List (List Y)) : C → C
  | .aw j => match eqN j k with
    | true => .y (.sl es xs)
    | false => .aw j
  | .as j lo n => match eqN j k with
    | true => .y (.sl es (F.lsub xs lo n))
    | false => .as j lo n
  | .pr j i c => match eqN j k with
    | true => .no
    | false => .pr j i c
  | c => c
/-- Nothing leads to k any more; it is gone. -/
def State.kill (st : State) (k : Nat) : State := ⟨mapS (C.mapK (killF k)) st.s, mapO (C.mapK (killF k)) (del1 st.o k)⟩
/-- It is gone; what led to it leads nowhere. -/
def State.drop (st : State) (k : Nat) : State := ⟨st.s, del1 st.o k⟩
/-- k is called k' now. -/
def State.ren (st : State) (k k' : Nat) : State := match eqN k k' with
  | true => st
  | false => match look1 st.o k with
    | some b => ⟨mapS (C.mapK (renF k k')) st.s, put1 (mapO (C.mapK (renF k k')) (del1 (del1 st.o k) k')) k' (b.mapC (C.mapK (renF k k')))⟩
    | none => st.kill k
def State.freeze (F : Prims) (st : State) (k : Nat) : State := match look1 st.o k with
  | some (.ar es xs) => ⟨mapS (C.freeze F k es xs) st.s, mapO (C.freeze F k es xs) (del1 st.o k)⟩
  | _ => st.kill k
def State.new (st : State) (k : Nat) (b : Ob) : State := ⟨(st.kill k).s, put1 (st.kill k).o k b⟩
def memN : Nat → List Nat → Bool
  | _, [] => false
  | a, b :: r => match eqN a b with
    | true => true
    | false => memN a r
def killL (ks : List Nat) : Nat → Option Nat := fun j => match memN j ks with
  | true => none
  | false => some j
def delL {α : Type} (ks : List Nat) : List (Nat × α) → List (Nat × α)
  | [] => []
  | (k, b) :: r => match memN k ks with
    | true => delL ks r
    | false => (k, b) :: delL ks r
def putsO (d : Nat) : List (Nat × Ob) → List (Nat × Ob) → List (Nat × Ob)
  | [], o => o
  | (c, b) :: r, o => putsO d r (put1 o (key d c) b)
def newKs (d : Nat) : List (Nat × Ob) → List Nat
  | [] => []
  | (c, _) :: r => key d c :: newKs d r
/-- What is new, laid down at d. -/
def State.news (st : State) (d : Nat) (n : List (Nat × Ob)) : State := match n with
  | [] => st
  | n => ⟨mapS (C.mapK (killL (newKs d n))) st.s, putsO d n (mapO (C.mapK (killL (newKs d n))) (delL (newKs d n) st.o))⟩
def State.set (st : State) (d : Nat) (x : X) : State := ⟨put1 st.s d x, st.o⟩
def State.setD (st : State) (d : Option Nat) (x : X) : State := match d with
  | some d => st.set d x
  | none => st

/-! #### What is kept behind a region -/
def inK (ks : List Nat) (k : Nat) : Bool := match ks with
  | [] => false
  | a :: r => match eqN a k with
    | true => true
    | false => inK r k
def cleanS (ks : List Nat) : List (Nat × X) → List (Nat × X)
  | [] => []
  | (k, x) :: r => match inK ks k with
    | true => (k, x) :: cleanS ks r
    | false => cleanS ks r
def cleanO (ks : List Nat) : List (Nat × Ob) → List (Nat × Ob)
  | [] => []
  | (k, b) :: r => match inK ks (k / 1000) with
    | true => (k, b) :: cleanO ks r
    | false => cleanO ks r

/-- A list's element. -/
structure LGet (xs : List (List Y)) (i : Int) (x : List Y) : Prop where
  pos : 0 ≤ i
  get : xs[i.toNat]? = some x
structure BytesOf (xs : List (List Y)) (s : ByteArray) : Prop where
  eq : xs = bytesL s.data.toList
end Go.Proofs.YthaelohccopgjaaW
/- A by-value evaluator of loaded code, part 2: operations. -/
namespace Go.Proofs.YthaelohccopgjaaW

def brk (b : Bool) (K L : Prop) : Prop := match b with
  | true => K
  | false => L
theorem brkI {b : Bool} {K L : Prop} (h : b = true → K) (h' : b = false → L) : brk b K L := by cases b <;> simp_all [brk]
/-- Two ways: only that which is gone is looked at. -/
def br (b : Bool) (K L : Unit → Prop) : Prop := match b with
  | true => K ()
  | false => L ()
def eqb (a b : Bool) : Bool := match a with
  | true => b
  | false => match b with
    | true => false
    | false => true
theorem brI {b : Bool} {K L : Unit → Prop} (h : b = true → K ()) (h' : b = false → L ()) : br b K L := by cases b <;> simp_all [br]
/-- Wanted, or nothing is said. -/
def chk (b : Bool) (K : Prop) : Prop := brk b K False
def kEq : IntKind → IntKind → Bool
  | .i8, .i8 => true | .i16, .i16 => true | .i32, .i32 => true | .i64, .i64 => true
  | .u8, .u8 => true | .u16, .u16 => true | .u32, .u32 => true | .u64, .u64 => true
  | _, _ => false

/-! ### Operands -/
/-- A constant of a type's cell. -/
def ofConst (el : Option (Nat × Nat × Nat × Bool)) (v : Value) : C := match v with
  | .slice a n m => match a with
    | none => match n with
      | 0 => match m with
        | 0 => match el with
          | some e => .mt e.2.1
          | none => .mt 0
        | _ => .no
      | _ => .no
    | some _ => .no
  | .agg _ => .no
  | .tuple _ => .no
  | v => .y (.sc v)
def zipConst : List C → List Value → List C
  | .mt es :: zs, v :: vs => ofConst (some (0, es, 0, false)) v :: zipConst zs vs
  | _ :: zs, v :: vs => ofConst none v :: zipConst zs vs
  | _, _ => []
def constOk : List C → List Value → Bool
  | [], [] => true
  | _ :: zs, v :: vs => match v.oneCell' with
    | true => constOk zs vs
    | false => false
  | _, _ => false
def opd (T : Tab) (s : Nat → X) (t : TypeId) (x : Operand) : X := match x with
  | .tmp i => s i
  | .const v => match v with
    | .agg cs => match constOk (T.at t).zero cs.toList with
      | true => .agg (zipConst (T.at t).zero cs.toList)
      | false => .c .no
    | v => .c (ofConst (T.at t).el v)
  | .global _ => .c .no
  | .func f => .c (.y (.sc (.func (.func f) #[] #[])))

/-! ### Plain values -/
def vInt (F : Prims) (op : BinOp) (k : IntKind) (a b : Int) (K : Value → Prop) : Prop := match op with
  | .add => K (.int k (F.add k a b))
  | .sub => K (.int k (F.sub k a b))
  | .mul => K (.int k (F.mul k a b))
  | .quo => brk (F.eq b 0) False (K (.int k (F.quo k a b)))
  | .rem => brk (F.eq b 0) False (K (.int k (F.rem k a b)))
  | .and => K (.int k (F.and k a b))
  | .or => K (.int k (F.or k a b))
  | .xor => K (.int k (F.xor k a b))
  | .andNot => K (.int k (F.andNot k a b))
  | .eql => br (F.eq a b) (fun _ => K (.bool true)) (fun _ => K (.bool false))
  | .neq => br (F.eq a b) (fun _ => K (.bool false)) (fun _ => K (.bool true))
  | .lss => br (F.lt a b) (fun _ => K (.bool true)) (fun _ => K (.bool false))
  | .leq => br (F.le a b) (fun _ => K (.bool true)) (fun _ => K (.bool false))
  | .gtr => br (F.lt b a) (fun _ => K (.bool true)) (fun _ => K (.bool false))
  | .geq => br (F.le b a) (fun _ => K (.bool true)) (fun _ => K (.bool false))
  | _ => False
def vStr (F : Prims) (op : BinOp) (a b : ByteArray) (K : Value → Prop) : Prop := match op with
  | .add => chk (F.catOk a b) (K (.string (F.cat a b)))
  | .eql => br (F.seq a b) (fun _ => K (.bool true)) (fun _ => K (.bool false))
  | .neq => br (F.seq a b) (fun _ => K (.bool false)) (fun _ => K (.bool true))
  | .lss => br (F.slt a b) (fun _ => K (.bool true)) (fun _ => K (.bool false))
  | .leq => br (F.sle a b) (fun _ => K (.bool true)) (fun _ => K (.bool false))
  | .gtr => br (F.sle a b) (fun _ => K (.bool false)) (fun _ => K (.bool true))
  | .geq => br (F.slt a b) (fun _ => K (.bool false)) (fun _ => K (.bool true))
  | _ => False
def isEql (op : BinOp) (K L : Unit → Prop) : Prop := match op with
  | .eql => K ()
  | .neq => L ()
  | _ => False
def vBool (F : Prims) (op : BinOp) (a b : Bool) (K : Value → Prop) : Prop := match op with
  | .eql => br (eqb a b) (fun _ => K (.bool true)) (fun _ => K (.bool false))
  | .neq => br (eqb a b) (fun _ => K (.bool false)) (fun _ => K (.bool true))
  | _ => False
def vBin (F : Prims) (tb tp : Bool) (op : BinOp) (a b : Value) (K : Value → Prop) : Prop := match a with
  | .int j a => match b with
    | .int k b => match op with
      | .shl => brk (F.lt b 0) False (K (.int j (F.shl j a b)))
      | .shr => brk (F.lt b 0) False (K (.int j (F.shr j a b)))
      | op => chk (kEq j k) (vInt F op k a b K)
    | _ => False
  | .string a => match b with
    | .string b => vStr F op a b K
    | _ => False
  | .bool a => match b with
    | .bool b => chk tb (vBool F op a b K)
    | _ => False
  | .pointer a => match a with
    | some _ => False
    | none => match b with
      | .pointer b => match b with
        | none => chk tp (isEql op (fun _ => K (.bool true)) (fun _ => K (.bool false)))
        | some _ => False
      | _ => False
  | _ => False
def eqSc (F : Prims) (k : Nat) (a b : Value) (K : Bool → Prop) : Prop := match a with
  | .int i a => match b with
    | .int j b => chk (eqN k 1) (chk (kEq i j) (K (F.eq a b)))
    | _ => False
  | .string a => match b with
    | .string b => chk (eqN k 2) (K (F.seq a b))
    | _ => False
  | .bool a => match b with
    | .bool b => chk (eqN k 3) (K (eqb a b))
    | _ => False
  | _ => False
def unSc (c : C) (K : Value → Prop) : Prop := match c with
  | .y c => match c with
    | .sc v => K v
    | _ => False
  | _ => False
/-- Cells of a struct that may be compared: are all alike? -/
def eqCells (F : Prims) : List Nat → List C → List C → (Bool → Prop) → Prop
  | [], [], [], K => K true
  | k :: ks, a :: r, b :: q, K => unSc a fun a => unSc b fun b => eqSc F k a b fun t => br t (fun _ => eqCells F ks r q K) (fun _ => K false)
  | _, _, _, _ => False
def C.isPtr (o : Nat → Option Ob) : C → Bool
  | .pb k _ => match o k with
    | some b => match b with
      | .bx _ => true
      | .ar _ _ => false
      | .op _ => false
    | none => false
  | .pr k _ _ => match o k with
    | some b => match b with
      | .bx _ => false
      | .ar _ _ => true
      | .op _ => false
    | none => false
  | .rp _ => true
  | _ => false
def C.isFn : C → Bool
  | .fn .. => true
  | .fv .. => true
  | _ => false
def C.isNil : C → Bool
  | .y c => match c with
    | .sc v => match v with
      | .pointer a => match a with
        | none => true
        | some _ => false
      | _ => false
    | _ => false
  | _ => false
def asSc (x : X) (K : Value → Prop) : Prop := match x with
  | .c a => match a with
    | .y c => match c with
      | .sc v => K v
      | _ => False
    | _ => False
  | _ => False
def asI (x : X) (K : Int → Prop) : Prop := asSc x fun v => match v with
  | .int _ n => K n
  | _ => False
def asB (x : X) (K : Bool → Prop) : Prop := asSc x fun v => match v with
  | .bool b => K b
  | _ => False
def asC (x : X) (K : C → Prop) : Prop := match x with
  | .c a => K a
  | _ => False
def sc (v : Value) : X := .c (.y (.sc v))
def qBin (F : Prims) (T : Tab) (o : Nat → Option Ob) (op : BinOp) (xt : TypeId) (a b : X) (K : X → Prop) : Prop := match a with
  | .c a => match b with
    | .c b => match a.isPtr o with
      | true => chk (T.at xt).ptr <| chk b.isNil (isEql op (fun _ => K (sc (.bool false))) (fun _ => K (sc (.bool true))))
      | false => match b.isPtr o with
        | true => chk (T.at xt).ptr <| chk a.isNil (isEql op (fun _ => K (sc (.bool false))) (fun _ => K (sc (.bool true))))
        | false => asSc (.c a) fun u => asSc (.c b) fun v => vBin F (T.at xt).bool (T.at xt).ptr op u v fun r => K (sc r)
    | _ => False
  | .agg a => match b with
    | .agg b => match (T.at xt).cmp with
      | some ks => isEql op (fun _ => eqCells F ks a b fun t => K (sc (.bool t))) (fun _ => eqCells F ks a b fun t => br t (fun _ => K (sc (.bool false))) (fun _ => K (sc (.bool true))))
      | none => False
    | _ => False
  | _ => False
def qUn (F : Prims) (op : UnOp) (x : X) (K : X → Prop) : Prop := asSc x fun v => match op with
  | .not => match v with
    | .bool b => br b (fun _ => K (sc (.bool false))) (fun _ => K (sc (.bool true)))
    | _ => False
  | .neg => match v with
    | .int k n => K (sc (.int k (F.neg k n)))
    | _ => False
  | .xor => match v with
    | .int k n => K (sc (.int k (F.compl k n)))
    | _ => False
  | _ => False

/-! ### What leads where -/
abbrev Look := Nat → Option Ob
def boxAt (o : Look) (k : Nat) (K : List C → Prop) : Prop := match o k with
  | some b => match b with
    | .bx cs => K cs
    | .ar _ _ => False
    | .op _ => False
  | none => False
def rowAt (o : Look) (k : Nat) (K : Nat → List (List Y) → Prop) : Prop := match o k with
  | some b => match b with
    | .bx _ => False
    | .ar es xs => K es xs
    | .op _ => False
  | none => False
/-- A slice's elements. -/
def elems (F : Prims) (o : Look) (c : C) (K : Nat → List (List Y) → Prop) : Prop := match c with
  | .mt es => K es []
  | .y c => match c with
    | .sl es xs => K es xs
    | _ => False
  | .aw k => rowAt o k K
  | .as k lo n => rowAt o k fun es xs => K es (F.lsub xs lo n)
  | _ => False
/-- Looked at: told by a value alone. -/
def viewC (F : Prims) (o : Look) (c : C) (K : Y → Prop) : Prop := match c with
  | .y c => K c
  | .mt es => K (.sl es [])
  | .aw k => rowAt o k fun es xs => K (.sl es xs)
  | .as k lo n => rowAt o k fun es xs => K (.sl es (F.lsub xs lo n))
  | _ => False
def viewCs (F : Prims) (o : Look) : List C → (List Y → Prop) → Prop
  | [], K => K []
  | c :: r, K => viewC F o c fun y => viewCs F o r fun ys => K (y :: ys)
/-- Told by a value, and leading to no row. -/
def plainC (c : C) (K : Y → Prop) : Prop := match c with
  | .y c => K c
  | .mt es => K (.sl es [])
  | _ => False
def plainCs : List C → (List Y → Prop) → Prop
  | [], K => K []
  | c :: r, K => plainC c fun y => plainCs r fun ys => K (y :: ys)
def takeN {α : Type} : Nat → List α → (List α → Prop) → Prop
  | 0, _, K => K []
  | _ + 1, [], _ => False
  | n + 1, x :: r, K => takeN n r fun l => K (x :: l)
def dropN {α : Type} : Nat → List α → List α
  | 0, l => l
  | _ + 1, [] => []
  | n + 1, _ :: r => dropN n r
def nth {α : Type} : List α → Nat → (α → Prop) → Prop
  | [], _, _ => False
  | x :: _, 0, K => K x
  | _ :: r, n + 1, K => nth r n K
def setN {α : Type} : List α → Nat → List α → List α
  | l, _, [] => l
  | [], _, _ => []
  | _ :: l, 0, v :: vs => v :: setN l 0 vs
  | x :: l, n + 1, vs => x :: setN l n vs
def lenN {α : Type} : List α → Nat
  | [] => 0
  | _ :: r => lenN r + 1
def mapY : List Y → List C
  | [] => []
  | y :: r => .y y :: mapY r
def X.cells : X → List C
  | .c a => [a]
  | .agg cs => cs
  | .tup _ => []
/-- Cells laid into box k: empty rows get places of their own. -/
def layCs (d : Nat) : Nat → List C → List C × List (Nat × Ob)
  | _, [] => ([], [])
  | j, .mt es :: r => (.aw (key d j) :: (layCs d (j + 1) r).1, (j, .ar es []) :: (layCs d (j + 1) r).2)
  | j, c :: r => (c :: (layCs d (j + 1) r).1, (layCs d (j + 1) r).2)
def appO {α : Type} : List α → α → List α
  | [], b => [b]
  | a :: r, b => a :: appO r b
def C.keyless : C → Bool
  | .aw _ => false
  | .as .. => false
  | .pb .. => false
  | .pr .. => false
  | .fn .. => false
  | _ => true
def C.isNo : C → Bool
  | .no => true
  | _ => false
def X.isNo : X → Bool
  | .c a => a.isNo
  | _ => false
def X.isTup : X → Bool
  | .tup _ => true
  | _ => false
def allKeyless : List C → Bool
  | [] => true
  | c :: r => match c.keyless with
    | true => allKeyless r
    | false => false

/-! ### Operations that turn nothing that was there: what the destination holds, and what is new -/
abbrev QK := X → List (Nat × Ob) → Prop
/-- strings.Builder's zero. -/
def isBd : List C → Bool
  | [] => false
  | a :: r => match a with
    | .y y => match y with
      | .sc v => match v with
        | .pointer p => match p with
          | none => match r with
            | [] => false
            | b :: r' => match b with
              | .mt _ => isNilL0 r'
              | _ => false
          | some _ => false
        | _ => false
      | _ => false
    | _ => false
  where isNilL0 : List C → Bool
    | [] => true
    | _ => false
def qAlloc (T : Tab) (d : Nat) (t : TypeId) (K : QK) : Prop := match (T.at t).bld with
  | some e => chk (T.at t).is <| chk (isBd (T.at t).zero) <| K (.c (.pb (key d 0) 0)) [(0, .op (.bd t e ⟨#[]⟩))]
  | none => chk (T.at t).is <| chk (ltN (lenN (T.at t).zero) 900) (K (.c (.pb (key d 0) 0)) (appO (layCs d 1 (T.at t).zero).2 (0, .bx (layCs d 1 (T.at t).zero).1)))
def qBox (d : Nat) (x : X) (K : QK) : Prop := match x with
  | .tup _ => False
  | x => brk x.isNo False <| chk (allKeyless x.cells) (chk (ltN (lenN x.cells) 900) (K (.c (.pb (key d 0) 0)) (appO (layCs d 1 x.cells).2 (0, .bx (layCs d 1 x.cells).1))))
def buildCells (fs : List (Nat × Nat × Bool)) : List C → List (Nat × X) → (List C → Prop) → Prop
  | cs, [], K => K cs
  | cs, (f, x) :: r, K => brk x.isNo False <| brk x.isTup False <| nth fs f fun fl => chk (eqN (lenN x.cells) fl.2.1) (chk (leN (fl.1 + lenN x.cells) (lenN cs)) (buildCells fs (setN cs fl.1 x.cells) r K))
def isNilL {α : Type} : List α → Bool
  | [] => true
  | _ => false
def qBuild (T : Tab) (t : TypeId) (parts : List (Nat × X)) (K : QK) : Prop := brk (isNilL (T.at t).flds) False <| chk (T.at t).is <| chk (T.at t).agg (buildCells (T.at t).flds (T.at t).zero parts fun cs => K (.agg cs) [])
def notb (b : Bool) : Bool := match b with
  | true => false
  | false => true
/-- The elements of a slice literal: all are given, in order. -/
def buildElems (es : Nat) : Nat → List (Nat × X) → (List (List Y) → Prop) → Prop
  | _, [], K => K []
  | i, (j, x) :: r, K => chk (eqN i j) <| chk (notb x.isNo) <| chk (notb x.isTup) (plainCs x.cells fun ys => chk (eqN (lenN ys) es) (buildElems es (i + 1) r fun l => K (ys :: l)))
def qBuildSlice (T : Tab) (d : Nat) (t n : Nat) (parts : List (Nat × X)) (K : QK) : Prop := match (T.at t).el with
  | some e => match n with
    | 0 => match parts with
      | [] => K (.c (.mt e.2.1)) []
      | _ => False
    | n + 1 => chk (eqN (lenN parts) (n + 1)) (chk (ltN 0 e.2.1) (chk (leN ((n + 1) * e.2.1) 1048576) (buildElems e.2.1 0 parts fun l => K (.c (.aw (key d 1))) [(1, .ar e.2.1 l)])))
  | none => False
def qLoad (T : Tab) (o : Look) (t : TypeId) (x : X) (K : QK) : Prop := chk (T.at t).is <| asC x fun a =>
  (fun (R : List C → Prop) => match a with
    | .pb k j => boxAt o k fun cs => takeN (T.at t).cells (dropN j cs) R
    | .pr k i j => rowAt o k fun _ xs => ∃ x, LGet xs i x ∧ takeN (T.at t).cells (dropN j x) fun ys => R (mapY ys)
    | .rp cs => takeN (T.at t).cells cs fun ys => R (mapY ys)
    | _ => False) fun cs => match (T.at t).agg with
      | true => K (.agg cs) []
      | false => match cs with
        | [] => False
        | c :: r => match r with
          | [] => K (.c c) []
          | _ => False
def orb (a b : Bool) : Bool := match a with
  | true => true
  | false => b
def qNilCheck (o : Look) (x : X) (K : QK) : Prop := asC x fun a => match orb (a.isPtr o) a.isFn with
  | true => K x []
  | false => asSc x fun v => match v with
    | .func f a b => match f with
      | .func _ => K x []
      | _ => False
    | _ => False
def qFieldAddr (T : Tab) (o : Look) (s f : Nat) (x : X) (K : QK) : Prop := nth (T.at s).flds f fun fl => brk (eqN fl.2.1 0) False (asC x fun a => match a with
  | .pb k j => boxAt o k fun _ => K (.c (.pb k (j + fl.1))) []
  | .pr k i j => rowAt o k fun _ _ => K (.c (.pr k i (j + fl.1))) []
  | .rp cs => K (.c (.rp (dropN fl.1 cs))) []
  | _ => False)
def qField (T : Tab) (t f : Nat) (x : X) (K : QK) : Prop := match x with
  | .agg cs => nth (T.at t).flds f fun fl => match fl.2.2 with
    | true => takeN fl.2.1 (dropN fl.1 cs) fun l => K (.agg l) []
    | false => nth cs fl.1 fun c => K (.c c) []
  | _ => False
def qIndexAddr (F : Prims) (T : Tab) (o : Look) (t : TypeId) (x i : X) (K : QK) : Prop := match (T.at t).el with
  | some e => asI i fun i => asC x fun a => match a with
    | .aw k => rowAt o k fun es xs => chk (eqN es e.2.1) (chk (F.le 0 i) (chk (F.lt i (F.llen xs)) (K (.c (.pr k i 0)) [])))
    | .as k lo n => rowAt o k fun es _ => chk (eqN es e.2.1) (chk (F.le 0 i) (chk (F.lt i n) (K (.c (.pr k (F.iadd lo i) 0)) [])))
    | .y c => match c with
      | .sl es xs => chk (eqN es e.2.1) (∃ x, LGet xs i x ∧ K (.c (.rp x)) [])
      | _ => False
    | _ => False
  | none => False
/-- The bounds of s[lo:hi]. -/
def cut (F : Prims) (len : Int) (lo hi : Option X) (K : Int → Int → Prop) : Prop := match lo with
  | none => match hi with
    | none => K 0 len
    | some h => asI h fun h => chk (F.le 0 h) (chk (F.le h len) (K 0 h))
  | some l => asI l fun l => match hi with
    | none => chk (F.le 0 l) (chk (F.le l len) (K l len))
    | some h => asI h fun h => chk (F.le 0 l) (chk (F.le l h) (chk (F.le h len) (K l h)))
def qSlice (F : Prims) (T : Tab) (o : Look) (xt : TypeId) (x : X) (lo hi : Option X) (K : QK) : Prop := asC x fun a => match a with
  | .aw k => match (T.at xt).el with
    | some e => rowAt o k fun es xs => chk (eqN es e.2.1) (cut F (F.llen xs) lo hi fun b c => K (.c (.as k b (F.isub c b))) [])
    | none => False
  | .as k l n => match (T.at xt).el with
    | some e => rowAt o k fun es _ => chk (eqN es e.2.1) (cut F n lo hi fun b c => K (.c (.as k (F.iadd l b) (F.isub c b))) [])
    | none => False
  | .mt es => match (T.at xt).el with
    | some _ => cut F 0 lo hi fun _ _ => K (.c (.mt es)) []
    | none => False
  | .y c => match c with
    | .sl es xs => match (T.at xt).el with
      | some e => chk (eqN es e.2.1) (cut F (F.llen xs) lo hi fun b c => K (.c (.y (.sl es (F.lsub xs b (F.isub c b))))) [])
      | none => False
    | .sc v => match v with
      | .string s => chk (T.at xt).str (cut F (F.slen s) lo hi fun b c => K (sc (.string (F.ssub s b c))) [])
      | _ => False
  | _ => False
def isZ (x : Option X) : Bool := match x with
  | some (.c (.y (.sc (.int _ n)))) => match n with
    | .ofNat m => match m with
      | 0 => true
      | _ => false
    | _ => false
  | _ => false
def isZ0 (x : Option X) : Bool := match x with
  | none => true
  | some x => isZ (some x)
/-- s[:0:0]: nothing, with room for nothing. -/
def qSliceZ (T : Tab) (o : Look) (xt : TypeId) (x : X) (lo hi mx : Option X) (K : QK) : Prop := match (T.at xt).el with
  | some e => chk (isZ0 lo) <| chk (isZ hi) <| chk (isZ mx) <| asC x fun a => match a with
    | .y c => match c with
      | .sl es _ => K (.c (.mt es)) []
      | .sc _ => False
    | .mt es => K (.c (.mt es)) []
    | .aw k => rowAt o k fun es _ => K (.c (.mt es)) []
    | .as k _ _ => rowAt o k fun es _ => K (.c (.mt es)) []
    | _ => False
  | none => False
def qExtract (i : Nat) (x : X) (K : QK) : Prop := match x with
  | .tup vs => nth vs i fun v => match v.1 with
    | true => K (.agg v.2) []
    | false => match v.2 with
      | [] => False
      | c :: r => match r with
        | [] => K (.c c) []
        | _ => False
  | _ => False
def boxKeys : List X → (List Nat → Prop) → Prop
  | [], K => K []
  | x :: r, K => asC x fun a => match a with
    | .pb k j => match j with
      | 0 => boxKeys r fun l => K (k :: l)
      | _ => False
    | _ => False
def qMakeFunc (f : FuncId) (xs : List X) (K : QK) : Prop := match xs with
  | [] => K (sc (.func (.func f) #[] #[])) []
  | xs => boxKeys xs fun ks => K (.c (.fn f ks)) []
def qMakeSlice (F : Prims) (T : Tab) (d t : Nat) (n c : X) (K : QK) : Prop := match (T.at t).el with
  | some e => asI n fun n => asI c fun c => chk (F.le 0 n) (chk (F.le n c) (chk (F.lenOk c) (chk (ltN 0 e.2.1) (chk (leN e.2.2.1 16384) <| chk (T.at e.1).is
      (plainCs (T.at e.1).zero fun ys => chk (eqN (lenN ys) e.2.1) (K (.c (.aw (key d 1))) [(1, .ar e.2.1 (F.rep n ys))]))))))
  | none => False
def qConvert (F : Prims) (T : Tab) (o : Look) (d s u : Nat) (x : X) (K : QK) : Prop := chk (T.at s).is <| asC x fun a => match a with
  | .y c => match c with
    | .sc v => match v with
      | .string b => match (T.at s).str with
        | true => match (T.at u).el with
          | some e => chk e.2.2.2 (chk (F.lenOk (F.slen b)) (K (.c (.aw (key d 1))) [(1, .ar 1 (F.bytes b))]))
          | none => chk (T.at u).str (K x [])
        | false => False
      | .int _ n => match (T.at u).ik with
        | some k => K (sc (.int k (F.conv k n))) []
        | none => False
      | _ => False
    | .sl es xs => match (T.at s).el with
      | some e => chk e.2.2.2 (chk (T.at u).str (chk (eqN es 1) (∃ b, BytesOf xs b ∧ K (sc (.string b)) [])))
      | none => False
  | a => match (T.at s).el with
    | some e => chk e.2.2.2 (chk (T.at u).str (elems F o a fun es xs => chk (eqN es 1) (∃ b, BytesOf xs b ∧ K (sc (.string b)) [])))
    | none => False
def qIndex (F : Prims) (T : Tab) (xt : TypeId) (x i : X) (K : QK) : Prop := asI i fun i => asSc x fun v => match v with
  | .string s => chk (T.at xt).str (chk (F.le 0 i) (chk (F.lt i (F.slen s)) (K (sc (.int .u8 (F.sat s i))) [])))
  | _ => False
def qLen (F : Prims) (T : Tab) (o : Look) (t : TypeId) (x : X) (K : QK) : Prop := asC x fun a => match a with
  | .y c => match c with
    | .sc v => match v with
      | .string s => chk (T.at t).str (K (sc (.int .i64 (F.slen s))) [])
      | _ => False
    | .sl _ xs => match (T.at t).el with
      | some _ => K (sc (.int .i64 (F.llen xs))) []
      | none => False
  | .mt _ => match (T.at t).el with
    | some _ => K (sc (.int .i64 0)) []
    | none => False
  | .aw k => match (T.at t).el with
    | some _ => rowAt o k fun _ xs => K (sc (.int .i64 (F.llen xs))) []
    | none => False
  | .as k lo n => match (T.at t).el with
    | some _ => rowAt o k fun _ _ => K (sc (.int .i64 n)) []
    | none => False
  | _ => False
def qMinMax (F : Prims) (mx : Bool) (x z : X) (K : QK) : Prop := asSc x fun u => asSc z fun v => match u with
  | .int j a => match v with
    | .int k b => chk (kEq j k) (match mx with
      | true => K (sc (.int k (F.imax a b))) []
      | false => K (sc (.int k (F.imin a b))) [])
    | _ => False
  | _ => False
/-- What is appended, or copied: looked at. -/
def source (F : Prims) (T : Tab) (o : Look) (t : TypeId) (c : C) (K : Nat → List (List Y) → Prop) : Prop := match c with
  | .y y => match y with
    | .sc v => match v with
      | .string s => chk (T.at t).str (K 1 (F.bytes s))
      | _ => False
    | .sl es xs => match (T.at t).el with
      | some _ => K es xs
      | none => False
  | c => match (T.at t).el with
    | some _ => elems F o c K
    | none => False
def qAppend (F : Prims) (T : Tab) (o : Look) (d : Nat) (t u : TypeId) (x z : X) (K : QK) : Prop := match (T.at t).el with
  | some e => asC x fun a => asC z fun b => match a with
    | .mt _ => source F T o u b fun es xs => chk (eqN es e.2.1) (chk (ltN 0 es) (chk (leN e.2.2.1 16384) (chk (F.lenOk (F.llen xs)) (K (.c (.aw (key d 1))) [(1, .ar es xs)]))))
    | _ => False
  | none => False

/-! #### calls that look at what they are handed, and whose result leads to nothing -/
def capsV (F : Prims) (o : Look) : List Nat → (List (List Y) → Prop) → Prop
  | [], K => K []
  | k :: r, K => boxAt o k fun cs => viewCs F o cs fun ys => capsV F o r fun l => K (ys :: l)
def viewA (F : Prims) (o : Look) (x : X) (K : A → Prop) : Prop := match x with
  | .c a => match a with
    | .rp cs => K (.rp cs)
    | .fn f caps => capsV F o caps fun l => K (.fv f l)
    | .fv f caps => K (.fv f caps)
    | a => viewC F o a fun y => K (.c (.y y))
  | .agg cs => viewCs F o cs fun ys => K (.agg (mapAC ys))
  | .tup _ => False
  where mapAC : List Y → List AC
  | [] => []
  | y :: r => .y y :: mapAC r
def viewAs (F : Prims) (o : Look) : List X → (List A → Prop) → Prop
  | [], K => K []
  | x :: r, K => viewA F o x fun a => viewAs F o r fun l => K (a :: l)
def AC.flat : AC → Bool
  | .y c => match c with
    | .sc _ => true
    | _ => false
  | _ => false
def flatCs : List AC → Bool
  | [] => true
  | c :: r => match c.flat with
    | true => flatCs r
    | false => false
def flatTs : List (Bool × List AC) → Bool
  | [] => true
  | c :: r => match flatCs c.2 with
    | true => flatTs r
    | false => false
def RV.flat : RV → Bool
  | .c a => a.flat
  | .agg cs => flatCs cs
  | .tup l => flatTs l
/-- It leads to no row but its own: what it holds is plain. -/
def AC.FlatP : AC → Prop
  | .y c => match c with
    | .sc _ => True
    | .sl _ _ => False
  | .own _ xs => ∀ x ∈ xs, ∀ y ∈ x, ∃ v, y = Y.sc v
  | _ => True
def FlatL (l : List AC) : Prop := ∀ a ∈ l, a.FlatP
/-- A row, or (es = 0) a box of its own. -/
def layOwn (k es : Nat) (xs : List (List Y)) : C × Ob := match es with
  | 0 => match xs with
    | [] => (.aw k, .ar 0 [])
    | ys :: _ => (.pb k 0, .bx (mapY ys))
  | es + 1 => (.aw k, .ar (es + 1) xs)
/-- Cells of a result, laid down at d: rows get places of their own. -/
def layA (d : Nat) : Nat → List AC → List C × List (Nat × Ob)
  | _, [] => ([], [])
  | j, .own es xs :: r => ((layOwn (key d j) es xs).1 :: (layA d (j + 1) r).1, (j, (layOwn (key d j) es xs).2) :: (layA d (j + 1) r).2)
  | j, .y c :: r => (.y c :: (layA d (j + 1) r).1, (layA d (j + 1) r).2)
  | j, .self :: r => (.pb (key d 0) 0 :: (layA d (j + 1) r).1, (layA d (j + 1) r).2)
  | j, .no :: r => (.no :: (layA d (j + 1) r).1, (layA d (j + 1) r).2)
  | j, .op _ :: r => (.no :: (layA d (j + 1) r).1, (layA d (j + 1) r).2)
def layTs (d : Nat) : Nat → List (Bool × List AC) → List (Bool × List C) × List (Nat × Ob)
  | _, [] => ([], [])
  | j, (b, cs) :: r => ((b, (layA d j cs).1) :: (layTs d (j + lenN cs) r).1, (layA d j cs).2 ++ (layTs d (j + lenN cs) r).2)
def layR (d : Nat) : RV → X × List (Nat × Ob)
  | .c a => match (layA d 1 [a]).1 with
    | [] => (.c .no, [])
    | c :: _ => (.c c, (layA d 1 [a]).2)
  | .agg cs => (.agg (layA d 1 cs).1, (layA d 1 cs).2)
  | .tup l => (.tup (layTs d 1 l).1, (layTs d 1 l).2)
def RV.cells : RV → List AC
  | .c a => [a]
  | .agg cs => cs
  | .tup l => tupCells l
  where tupCells : List (Bool × List AC) → List AC
  | [] => []
  | q :: r => q.2 ++ tupCells r
/-- The keys of what is looked at by a call. -/
def app {α : Type} : List α → List α → List α
  | [], l => l
  | a :: r, l => a :: app r l
def rowKeys : List C → List Nat
  | [] => []
  | .aw k :: r => k :: rowKeys r
  | .as k _ _ :: r => k :: rowKeys r
  | _ :: r => rowKeys r
def capKeys (o : Look) : List Nat → List Nat
  | [] => []
  | k :: r => match o k with
    | some b => match b with
      | .bx cs => k :: app (rowKeys cs) (capKeys o r)
      | .ar _ _ => k :: capKeys o r
      | .op _ => k :: capKeys o r
    | none => k :: capKeys o r
def ownKey (o : Look) (x : X) : List Nat := match x with
  | .c c => match c with
    | .aw k => [k]
    | .as k _ _ => [k]
    | .fn _ ks => capKeys o ks
    | _ => []
  | .agg cs => rowKeys cs
  | .tup _ => []
def ownKeys (o : Look) : List X → List Nat
  | [] => []
  | x :: r => app (ownKey o x) (ownKeys o r)
/-- A call of which all that it is handed is looked at, and whose result is plain, or which is handed nothing of the frame's own. -/
def smallAs : List A → Bool
  | [] => true
  | a :: r => match a with
    | .agg cs => match ltN (lenN cs) 900 with
      | true => smallAs r
      | false => false
    | .io cs => match ltN (lenN cs) 900 with
      | true => smallAs r
      | false => false
    | .ir _ cs => match ltN (lenN cs) 900 with
      | true => smallAs r
      | false => false
    | _ => smallAs r
/-- What is known of a call's result: it; or what holds of it. -/
inductive RQ where
  | one (r : Res)
  | many (Q : Res → Prop)
def RQ.only (q : RQ) (K : Res → Prop) : Prop := match q with
  | .one r => K r
  | .many _ => False
def RQ.all (q : RQ) (K : Res → Prop) : Prop := match q with
  | .one r => K r
  | .many Q => ∀ r, Q r → K r
abbrev Contract := FuncId → List A → RQ → Prop
/-- Known, or shown here: what is handed back holds plain values alone. -/
def plainOr (b : Bool) (r : Res) (Q : Prop) : Prop := match b with
  | true => Q
  | false => FlatL r.val.cells ∧ Q
def qCall (F : Prims) (Ca : Contract) (o : Look) (d : Nat) (f : FuncId) (xs : List X) (K : QK) : Prop :=
  viewAs F o xs fun as => chk (smallAs as) <| ∃ q, Ca f as q ∧ q.only fun r => chk (isNilL r.outs) (plainOr (orb r.val.flat (isNilL (ownKeys o xs))) r (chk (ltN (lenN r.val.cells) 900) (K (layR d r.val).1 (layR d r.val).2)))

/-! #### All of them -/
def opds (T : Tab) (s : Nat → X) : List TypeId → List Operand → List X
  | _, [] => []
  | [], x :: r => opd T s 0 x :: opds T s [] r
  | t :: ts, x :: r => opd T s t x :: opds T s ts r
def partsX (T : Tab) (s : Nat → X) : List (Nat × Operand) → List (Nat × X)
  | [] => []
  | (i, x) :: r => (i, opd T s 0 x) :: partsX T s r
def opdO (T : Tab) (s : Nat → X) : Option Operand → Option X
  | none => none
  | some x => some (opd T s 0 x)
def hd0 : List Nat → Nat
  | [] => 0
  | t :: _ => t
def qcall (F : Prims) (T : Tab) (Ca : Contract) (s : Nat → X) (o : Look) (d : Nat) (c : Call) (K : QK) : Prop := match c.callee with
  | .builtin b => match c.argTypes.toList with
    | [] => False
    | t :: ts => match opds T s c.argTypes.toList c.args.toList with
      | [] => False
      | x :: r => match b with
        | .len => qLen F T o t x K
        | .append => match ts with
          | [] => False
          | u :: ts' => match r with
            | [] => False
            | z :: r' => chk (isNilL ts') <| chk (isNilL r') <| qAppend F T o d t u x z K
        | .min => match r with
          | [] => False
          | z :: r' => chk (isNilL r') (qMinMax F false x z K)
        | .max => match r with
          | [] => False
          | z :: r' => chk (isNilL r') (qMinMax F true x z K)
        | _ => False
  | .value h => asC (opd T s 0 h) fun a => match a with
    | .y c' => match c' with
      | .sc v => match v with
        | .func f u v => match f with
          | .func f => chk (isNilL u.toList) <| chk (isNilL v.toList) <| qCall F Ca o d f (opds T s c.argTypes.toList c.args.toList) K
          | _ => False
        | _ => False
      | _ => False
    | _ => False
  | .invoke _ _ => False
def qcore (F : Prims) (T : Tab) (Ca : Contract) (s : Nat → X) (o : Look) (d : Nat) (op : Op) (ty : TypeId) (K : QK) : Prop := match op with
  | .move x => K (opd T s ty x) []
  | .assign x => chk (allKeyless (opd T s ty x).cells) (match opd T s ty x with
    | .c c => match c with
      | .mt es => K (.c (.aw (key d 1))) [(1, .ar es [])]
      | c => K (.c c) []
    | _ => False)
  | .pick c a b => asB (opd T s 0 c) fun t => br t (fun _ => K (opd T s ty a) []) (fun _ => K (opd T s ty b) [])
  | .alloc t => qAlloc T d t K
  | .box t x => qBox d (opd T s t x) K
  | .build t parts => qBuild T t (partsX T s parts.toList) K
  | .buildSlice t n parts => qBuildSlice T d t n (partsX T s parts.toList) K
  | .load t a => qLoad T o t (opd T s 0 a) K
  | .nilCheck x => qNilCheck o (opd T s 0 x) K
  | .binOp op xt x y yt => qBin F T o op xt (opd T s xt x) (opd T s yt y) fun x => K x []
  | .unOp op _ x => qUn F op (opd T s 0 x) fun x => K x []
  | .convert a b x => qConvert F T o d a b (opd T s a x) K
  | .makeFunc fn first caps => match fn with
    | .func f => chk (isNilL first.toList) (qMakeFunc f (opds T s [] caps.toList) K)
    | _ => False
  | .makeSlice t n c => qMakeSlice F T d t (opd T s 0 n) (opd T s 0 c) K
  | .slice xt x lo hi mx => match mx with
    | none => qSlice F T o xt (opd T s xt x) (opdO T s lo) (opdO T s hi) K
    | some m => qSliceZ T o xt (opd T s xt x) (opdO T s lo) (opdO T s hi) (opdO T s (some m)) K
  | .fieldAddr t x f => qFieldAddr T o t f (opd T s 0 x) K
  | .field t x f => qField T t f (opd T s t x) K
  | .indexAddr t x i => qIndexAddr F T o t (opd T s t x) (opd T s 0 i) K
  | .index t x i => qIndex F T t (opd T s t x) (opd T s 0 i) K
  | .extract x i => qExtract i (opd T s 0 x) K
  | .call c => qcall F T Ca s o d c K
  | _ => False
end Go.Proofs.YthaelohccopgjaaW
/- A by-value evaluator of loaded code, part 3: what turns the frame's own, regions, code. -/
namespace Go.Proofs.YthaelohccopgjaaW

abbrev SK := X → State → Prop
/-- What was computed by an operation that turns nothing, laid down. -/
def lay (d : Nat) (st : State) (K : SK) : QK := fun x n => K x (st.news d n)

/-- Cells j, j+1, .. of box k: rows are called by the box's own names; an empty one gets a row. -/
def canonB : Nat → Nat → Nat → State → State
  | 0, _, _, st => st
  | n + 1, k, j, st => match look1 st.o k with
    | some b => match b with
      | .bx cs => match dropN j cs with
        | [] => st
        | c :: _ => match c with
          | .aw k' => canonB n k (j + 1) (st.ren k' (k + 1 + j))
          | .as k' _ _ => canonB n k (j + 1) (st.ren k' (k + 1 + j))
          | .mt es => canonB n k (j + 1) (setCells ((st.new (k + 1 + j) (.ar es []))) k j [.aw (k + 1 + j)])
          | _ => canonB n k (j + 1) st
      | .ar _ _ => st
      | .op _ => st
    | none => st
  where setCells (st : State) (k j : Nat) (l : List C) : State := match look1 st.o k with
    | some b => match b with
      | .bx cs => ⟨st.s, put1 st.o k (.bx (setN cs j l))⟩
      | .ar _ _ => st
      | .op _ => st
    | none => st
/-- What slot d holds: a row is called by the slot's own name. -/
def canonS (d : Nat) (st : State) : State := match slot st.s d with
  | .c a => match a with
    | .aw k => st.ren k (key d 1)
    | .as k _ _ => st.ren k (key d 1)
    | .mt es => ((st.new (key d 1) (.ar es [])).set d (.c (.aw (key d 1))))
    | _ => st
  | _ => st
def freezes (F : Prims) : List Nat → State → State
  | [], st => st
  | k :: r, st => freezes F r (st.freeze F k)
def drops : List Nat → State → State
  | [], st => st
  | k :: r, st => drops r (st.drop k)
def partKeys : List (Nat × X) → List Nat
  | [] => []
  | p :: r => app (rowKeys p.2.cells) (partKeys r)

def nRow (F : Prims) (T : Tab) (st : State) (t : TypeId) (v : Operand) (k : Nat) (i : Int) (j : Nat) (K : State → Prop) : Prop :=
  brk (opd T (slot st.s) t v).isNo False <| brk (opd T (slot st.s) t v).isTup False <| rowAt (look1 st.o) k fun es xs => plainCs (opd T (slot st.s) t v).cells fun ys => ∃ x, LGet xs i x ∧ chk (eqN (lenN ys) (T.at t).cells) (chk (leN (j + lenN ys) (lenN x))
    (K ⟨st.s, put1 st.o k (.ar es (F.lset xs i (setN x j ys)))⟩))
def nStore (F : Prims) (T : Tab) (st : State) (t : TypeId) (a v : Operand) (K : State → Prop) : Prop := chk (T.at t).is <|
  brk (opd T (slot st.s) t v).isNo False <| brk (opd T (slot st.s) t v).isTup False <| asC (opd T (slot st.s) 0 a) fun p => match p with
    | .pb k j => boxAt (look1 st.o) k fun cs => chk (eqN (lenN (opd T (slot st.s) t v).cells) (T.at t).cells) (chk (leN (j + lenN (opd T (slot st.s) t v).cells) (lenN cs))
        (K (canonB (T.at t).cells k j ⟨st.s, put1 st.o k (.bx (setN cs j (opd T (slot st.s) t v).cells))⟩)))
    | .pr k i j => nRow F T (freezes F (rowKeys (opd T (slot st.s) t v).cells) st) t v k i j K
    | _ => False
def nBox (d : Nat) (x : X) (st : State) (K : SK) : Prop := match x with
  | .tup _ => False
  | x => brk x.isNo False <| chk (ltN (lenN x.cells) 900) (K (.c (.pb (key d 0) 0)) (canonB (lenN x.cells) (key d 0) 0 (st.new (key d 0) (.bx (mapCs (C.mapK (killF (key d 0))) x.cells)))))
def nAppend (F : Prims) (T : Tab) (d : Nat) (t u : TypeId) (x z : X) (st : State) (K : SK) : Prop := match (T.at t).el with
  | some e => asC x fun a => asC z fun b => match a with
    | .mt es => qAppend F T (look1 st.o) d t u x z (lay d st K)
    | .aw k => rowAt (look1 st.o) k fun es xs => source F T (look1 st.o) u b fun zs ys => chk (eqN es e.2.1) (chk (eqN zs es) (chk (ltN 0 es) (chk (leN e.2.2.1 16384)
        (chk (F.lenOk (F.iadd (F.llen xs) (F.llen ys))) (K (.c (.aw (key d 1))) ((st.kill k).new (key d 1) (.ar es (F.lapp xs ys))))))))
    | _ => False
  | none => False
/-- Cells copied into a row of one's own. -/
def nCopy (F : Prims) (T : Tab) (t u : Nat) (x z : X) (st : State) (K : SK) : Prop := match (T.at t).el with
  | some e => asC x fun a => asC z fun b => match a with
    | .aw k => rowAt (look1 st.o) k fun es xs => source F T (look1 st.o) u b fun zs ys => chk (eqN es e.2.1) (chk (eqN zs es) (chk (ltN 0 es)
        (K (sc (.int .i64 (F.imin (F.llen ys) (F.llen xs)))) ⟨st.s, put1 st.o k (.ar es (F.lcopy xs 0 (F.llen xs) ys))⟩)))
    | .as k lo n => rowAt (look1 st.o) k fun es xs => source F T (look1 st.o) u b fun zs ys => chk (eqN es e.2.1) (chk (eqN zs es) (chk (ltN 0 es)
        (K (sc (.int .i64 (F.imin (F.llen ys) n))) ⟨st.s, put1 st.o k (.ar es (F.lcopy xs lo n ys))⟩)))
    | _ => False
  | none => False
/-! #### Calls -/
/-- A cell, given away. -/
def giveC (o : Look) (b : Option Nat) (c : C) (K : AC → Prop) : Prop := match c with
  | .y c => K (.y c)
  | .mt es => K (.own es [])
  | .aw k => rowAt o k fun es xs => K (.own es xs)
  | .pb k j => match b with
    | some k' => match eqN k k' with
      | true => match j with
        | 0 => K .self
        | _ => K .no
      | false => K .no
    | none => K .no
  | _ => K .no
def giveCs (o : Look) (b : Option Nat) : List C → (List AC → Prop) → Prop
  | [], K => K []
  | c :: r, K => giveC o b c fun a => giveCs o b r fun l => K (a :: l)
/-- An argument, by value: a box is handed over; else it is looked at, given away, or handed over to be given back. -/
def argC (F : Prims) (o : Look) (m : Nat) (a : C) (K : A → Prop) : Prop := match m with
  | 0 => viewA F o (.c a) K
  | 1 => giveC o none a fun a => K (.c a)
  | _ => match a with
    | .aw k => rowAt o k fun es xs => K (.ir false [.own es xs])
    | _ => False
def isOp (o : Look) (k : Nat) : Option Opq := match o k with
  | some b => match b with
    | .bx _ => none
    | .ar _ _ => none
    | .op q => some q
  | none => none
def argA (F : Prims) (o : Look) (m : Nat) (x : X) (K : A → Prop) : Prop := match x with
  | .c a => match a with
    | .pb k j => match j with
      | 0 => match isOp o k with
        | some q => K (.iop q)
        | none => boxAt o k fun cs => giveCs o (some k) cs fun l => K (.io l)
      | _ => False
    | a => argC F o m a K
  | .agg cs => match m with
    | 0 => viewA F o (.agg cs) K
    | 1 => giveCs o none cs fun l => K (.agg l)
    | _ => giveCs o none cs fun l => K (.ir true l)
  | .tup _ => False
def argAs (F : Prims) (o : Look) : List Nat → List X → (List A → Prop) → Prop
  | _, [], K => K []
  | ms, x :: r, K => argA F o (hd0 ms) x fun a => argAs F o ms.tail r fun l => K (a :: l)
def awKeys : List C → List Nat
  | [] => []
  | .aw k :: r => k :: awKeys r
  | _ :: r => awKeys r
/-- All that is handed over by an argument: a box, and what lies in it; rows. -/
def handKey (o : Look) (m : Nat) (x : X) : List Nat := match x with
  | .c a => match a with
    | .pb k _ => match o k with
      | some b => match b with
        | .bx cs => k :: awKeys cs
        | .ar _ _ => []
        | .op _ => [k]
      | none => []
    | a => match m with
      | 0 => []
      | _ => awKeys [a]
  | .agg cs => match m with
    | 0 => []
    | _ => awKeys cs
  | .tup _ => []
def handKeys (o : Look) : List Nat → List X → List Nat
  | _, [] => []
  | ms, x :: r => app (handKey o (hd0 ms) x) (handKeys o ms.tail r)
/-- What is given back. -/
inductive Bk where
  | bx (k : Nat)
  | rows (cs : List C)
def backKey (m : Nat) (x : X) : List Bk := match x with
  | .c a => match a with
    | .pb k _ => [.bx k]
    | a => match m with
      | 0 => []
      | 1 => []
      | _ => [.rows [a]]
  | .agg cs => match m with
    | 0 => []
    | 1 => []
    | _ => [.rows cs]
  | .tup _ => []
def backKeys : List Nat → List X → List Bk
  | _, [] => []
  | ms, x :: r => app (backKey (hd0 ms) x) (backKeys ms.tail r)
def viewKey (o : Look) (m : Nat) (x : X) : List Nat := match x with
  | .c a => match a with
    | .pb _ _ => []
    | a => match m with
      | 0 => ownKey o (.c a)
      | _ => []
  | .agg cs => match m with
    | 0 => rowKeys cs
    | _ => []
  | .tup _ => []
def viewKeys (o : Look) : List Nat → List X → List Nat
  | _, [] => []
  | ms, x :: r => app (viewKey o (hd0 ms) x) (viewKeys o ms.tail r)
def nodupN : List Nat → Bool
  | [] => true
  | k :: r => match memN k r with
    | true => false
    | false => nodupN r
def disjN : List Nat → List Nat → Bool
  | [], _ => true
  | k :: r, l => match memN k l with
    | true => false
    | false => disjN r l
def absK (d : Nat) : List (Nat × Ob) → List (Nat × Ob)
  | [] => []
  | (c, b) :: r => (key d c, b) :: absK d r
def keysL : List (Nat × Ob) → List Nat
  | [] => []
  | (k, _) :: r => k :: keysL r
def rowBack : List C → List AC → List (Nat × Ob)
  | [], _ => []
  | _ :: _, [] => []
  | c :: r, a :: q => match c with
    | .aw k => match a with
      | .own es xs => (k, .ar es xs) :: rowBack r q
      | _ => rowBack r q
    | _ => rowBack r q
def noSelf : List AC → Bool
  | [] => true
  | a :: r => match a with
    | .self => false
    | _ => noSelf r
/-- A whole that is given back. -/
def outOp (cs : List AC) : Option Opq := match cs with
  | [] => none
  | a :: r => match a with
    | .op q => match r with
      | [] => some q
      | _ => none
    | _ => none
/-- What is new behind a call in boxes, and what is given back. -/
def backs : List Bk → List (List AC) → (List (Nat × Ob) → List (Nat × Ob) → Prop) → Prop
  | [], [], K => K [] []
  | b :: bs, cs :: r, K => match b with
    | .bx k => match outOp cs with
      | some q => backs bs r fun N Q => K ((k, .op q) :: N) Q
      | none => chk (orb (eqN (k % 1000) 0) (noSelf cs)) <| backs bs r fun N Q => K (app (absK (k / 1000) (layA (k / 1000) (k % 1000 + 1) cs).2) N) ((k, .bx (layA (k / 1000) (k % 1000 + 1) cs).1) :: Q)
    | .rows cs0 => backs bs r fun N Q => K N (app (rowBack cs0 cs) Q)
  | _, _, _ => False
def putsA : List (Nat × Ob) → List (Nat × Ob) → List (Nat × Ob)
  | [], o => o
  | (k, b) :: r, o => putsA r (put1 o k b)
/-- Of what is new: all but the wholes that were given back. -/
def keysN0 : List (Nat × Ob) → List Nat
  | [] => []
  | (k, b) :: r => match b with
    | .bx _ => k :: keysN0 r
    | .ar _ _ => k :: keysN0 r
    | .op _ => keysN0 r
/-- Behind a call: D is handed over, N is new, Q is given back. -/
def afterCall (D : List Nat) (N Q : List (Nat × Ob)) (st : State) : State :=
  ⟨mapS (C.mapK (killL (keysN0 N))) st.s, putsA Q (putsA N (mapO (C.mapK (killL (keysN0 N))) (delL (app D (keysL N)) st.o)))⟩
def allFlat : List (List AC) → Bool
  | [] => true
  | c :: r => match flatCs c with
    | true => allFlat r
    | false => false
def andb (a b : Bool) : Bool := match a with
  | true => b
  | false => false
def mapRp : List (List Y) → List A
  | [] => []
  | a :: r => .rp a :: mapRp r
def frozen (F : Prims) (b : Bool) (ks : List Nat) (st : State) : State := match b with
  | true => st
  | false => freezes F ks st
/-- What is handed back is plain: known of old, or shown here. -/
def FlatR (r : Res) : Prop := FlatL r.val.cells ∧ ∀ cs ∈ r.outs, FlatL cs
def frz (hint : Bool) (r : Res) (K : Bool → Prop) : Prop := match hint with
  | true => FlatR r ∧ K true
  | false => K (andb r.val.flat (allFlat r.outs))
def nCall (F : Prims) (g : Cfg) (Ca : Contract) (d : Nat) (f : FuncId) (xs : List X) (caps : List Nat) (capsF : List (List Y)) (st : State) (K : SK) : Prop :=
  capsV F (look1 st.o) caps fun l => argAs F (look1 st.o) (g.mode f) xs fun as =>
    chk (smallAs as) <| chk (nodupN (handKeys (look1 st.o) (g.mode f) xs)) <| chk (disjN (app (capKeys (look1 st.o) caps) (viewKeys (look1 st.o) (g.mode f) xs)) (handKeys (look1 st.o) (g.mode f) xs)) <|
    ∃ q, Ca f (app as (mapRp (app l capsF))) q ∧ q.all fun r => chk (ltN (lenN r.val.cells) 900) (frz (g.fl f) r fun fb => backs (backKeys (g.mode f) xs) r.outs fun N Q =>
      chk (nodupN (keysL (app (absK d (layR d r.val).2) N))) <| chk (disjN (keysL Q) (keysL (app (absK d (layR d r.val).2) N))) <|
      K (layR d r.val).1 (afterCall (handKeys (look1 st.o) (g.mode f) xs) (app (absK d (layR d r.val).2) N) Q
        (frozen F (orb fb (isNilL (app (capKeys (look1 st.o) caps) (viewKeys (look1 st.o) (g.mode f) xs)))) (app (capKeys (look1 st.o) caps) (viewKeys (look1 st.o) (g.mode f) xs)) st)))
def ncall (F : Prims) (T : Tab) (g : Cfg) (Ca : Contract) (d : Nat) (c : Call) (st : State) (K : SK) : Prop := match c.callee with
  | .builtin b => match b with
    | .append => match c.argTypes.toList with
      | [] => False
      | t :: ts => match ts with
        | [] => False
        | v :: ts' => match opds T (slot st.s) c.argTypes.toList c.args.toList with
          | [] => False
          | x :: r => match r with
            | [] => False
            | z :: r' => chk (isNilL ts') <| chk (isNilL r') <| nAppend F T d t v x z st K
    | .copy => match c.argTypes.toList with
      | [] => False
      | t :: ts => match ts with
        | [] => False
        | v :: ts' => match opds T (slot st.s) c.argTypes.toList c.args.toList with
          | [] => False
          | x :: r => match r with
            | [] => False
            | z :: r' => chk (isNilL ts') <| chk (isNilL r') <| nCopy F T t v x z st K
    | _ => qcall F T Ca (slot st.s) (look1 st.o) d c (lay d st K)
  | .value h => asC (opd T (slot st.s) 0 h) fun a => match a with
    | .y c' => match c' with
      | .sc v => match v with
        | .func f u v => match f with
          | .func f => chk (isNilL u.toList) <| chk (isNilL v.toList) <| nCall F g Ca d f (opds T (slot st.s) c.argTypes.toList c.args.toList) [] [] st K
          | _ => False
        | _ => False
      | _ => False
    | .fn f ks => nCall F g Ca d f (opds T (slot st.s) c.argTypes.toList c.args.toList) ks [] st K
    | .fv f l => nCall F g Ca d f (opds T (slot st.s) c.argTypes.toList c.args.toList) [] l st K
    | _ => False
  | .invoke _ _ => False
/-- The constant nil of a slice's type. -/
def isNilC (y : Operand) : Bool := match y with
  | .const v => match v with
    | .slice a n c => match a with
      | none => match eqN n 0 with
        | true => eqN c 0
        | false => false
      | some _ => false
    | _ => false
  | _ => false
/-- A slice against nil: where it has no element both answers must do. -/
def nNil (F : Prims) (T : Tab) (o : Look) (op : BinOp) (t : TypeId) (x : X) (K : X → Prop) : Prop := match (T.at t).el with
  | none => False
  | some _ => asC x fun a => match a with
    | .y c => match c with
      | .sl _ xs => brk (F.eq (F.llen xs) 0) (isEql op (fun _ => K (sc (.bool true)) ∧ K (sc (.bool false))) (fun _ => K (sc (.bool false)) ∧ K (sc (.bool true)))) (isEql op (fun _ => K (sc (.bool false))) (fun _ => K (sc (.bool true))))
      | .sc _ => False
    | .mt _ => isEql op (fun _ => K (sc (.bool true)) ∧ K (sc (.bool false))) (fun _ => K (sc (.bool false)) ∧ K (sc (.bool true)))
    | .aw k => rowAt o k fun _ xs => brk (F.eq (F.llen xs) 0) (isEql op (fun _ => K (sc (.bool true)) ∧ K (sc (.bool false))) (fun _ => K (sc (.bool false)) ∧ K (sc (.bool true)))) (isEql op (fun _ => K (sc (.bool false))) (fun _ => K (sc (.bool true))))
    | .as k _ _ => rowAt o k fun _ _ => isEql op (fun _ => K (sc (.bool true)) ∧ K (sc (.bool false))) (fun _ => K (sc (.bool false)) ∧ K (sc (.bool true)))
    | _ => False
/-- One operation: what its destination holds then, and the state. -/
def core (F : Prims) (T : Tab) (g : Cfg) (Ca : Contract) (d : Nat) (op : Op) (ty : TypeId) (st : State) (K : SK) : Prop := match op with
  | .store t a x => nStore F T st t a x fun st => K (.c .no) st
  | .box t x => nBox d (opd T (slot st.s) t x) st K
  | .buildSlice t n parts => (fun st => qBuildSlice T d t n (partsX T (slot st.s) parts.toList) (lay d st K)) (freezes F (partKeys (partsX T (slot st.s) parts.toList)) st)
  | .call c => ncall F T g Ca d c st K
  | .assign x => K (opd T (slot st.s) ty x) st
  | .binOp op t x y u => match isNilC y with
    | true => nNil F T (look1 st.o) op t (opd T (slot st.s) t x) fun r => K r st
    | false => qcore F T Ca (slot st.s) (look1 st.o) d (.binOp op t x y u) ty (lay d st K)
  | op => qcore F T Ca (slot st.s) (look1 st.o) d op ty (lay d st K)
def isAssign : Op → Bool
  | .assign _ => true
  | _ => false
def dstOf (o : Oper) : Nat := match o.dst with
  | some d => d
  | none => 0
/-- One operation. -/
def step (F : Prims) (T : Tab) (g : Cfg) (Ca : Contract) (o : Oper) (st : State) (K : State → Prop) : Prop :=
  core F T g Ca (dstOf o) o.op o.type st fun x st => match o.dst with
    | some d => match isAssign o.op with
      | true => K (canonS d (st.set d x))
      | false => K (st.set d x)
    | none => K st

/-- Is it wanted? -/
def guardW (ops : List Oper) (s : Nat → X) (o : Oper) (K : Bool → Prop) : Prop := match o.guard with
  | none => K true
  | some (j, want) => nth ops j fun q => match q.dst with
    | some t => match s t with
      | .tup vs => match vs with
        | [] => K false
        | _ => False
      | .c c => asB (.c c) fun b => br b (fun _ => K want) (fun _ => K (notb want))
      | .agg _ => False
    | none => False
def steps (F : Prims) (T : Tab) (g : Cfg) (Ca : Contract) (ops : List Oper) : List Oper → State → (State → Prop) → Prop
  | [], st, K => K st
  | o :: r, st, K => guardW ops (slot st.s) o fun b => match b with
    | true => step F T g Ca o st fun st => steps F T g Ca ops r st K
    | false => steps F T g Ca ops r (st.setD o.dst (.tup [])) K

/-! #### Regions whose order is drawn -/
def addN : List Nat → List Nat → List Nat
  | [], l => l
  | a :: r, l => match memN a l with
    | true => addN r l
    | false => a :: addN r l
/-- Which operations (their places) must have run ahead of each. -/
def depsOf : List Oper → List (List Nat) → List (List Nat)
  | [], acc => acc
  | o :: r, acc => depsOf r (acc ++ [depsOne acc o.after.toList])
  where
  depsOne (acc : List (List Nat)) : List Edge → List Nat
    | [] => []
    | e :: r => match Region.binds .any e with
      | true => addN (e.on :: (acc.getD e.on [])) (depsOne acc r)
      | false => depsOne acc r
def opTmps (o : Op) : List Nat := o.operands.toList.filterMap fun | .tmp t => some t | _ => none
def guardTmps (ops : List Oper) (o : Oper) : List Nat := match o.guard with
  | none => []
  | some (j, _) => match ops[j]? with
    | some q => match q.dst with
      | some t => [t]
      | none => []
    | none => []
end Go.Proofs.YthaelohccopgjaaW
/- A by-value evaluator of loaded code, part 4: regions, code, calls. -/
namespace Go.Proofs.YthaelohccopgjaaW

/-! #### Regions whose order is drawn -/
def C.keys : C → List Nat
  | .aw k => [k]
  | .as k _ _ => [k]
  | .pb k _ => [k]
  | .pr k _ _ => [k]
  | .fn _ ks => ks
  | _ => []
def keysCs : List C → List Nat
  | [] => []
  | c :: r => app c.keys (keysCs r)
def keysTs : List (Bool × List C) → List Nat
  | [] => []
  | c :: r => app (keysCs c.2) (keysTs r)
def X.keys : X → List Nat
  | .c a => a.keys
  | .agg cs => keysCs cs
  | .tup l => keysTs l
def Ob.keys : Ob → List Nat
  | .bx cs => keysCs cs
  | .ar _ _ => []
  | .op _ => []
def keysN : List (Nat × Ob) → List Nat
  | [] => []
  | q :: r => app q.2.keys (keysN r)
/-- A run of operations none of which waits for all others: their places, and what they write. -/
def belowAll (deps : List Nat) (j0 : Nat) : Nat → Bool
  | 0 => true
  | n + 1 => match ltN n j0 with
    | true => true
    | false => match memN n deps with
      | true => belowAll deps j0 n
      | false => false
def laterAll (j : Nat) : List (List Nat) → Bool
  | [] => true
  | l :: r => match memN j l with
    | true => laterAll j r
    | false => false
/-- All others (from j0 on) run ahead of it, or behind it. -/
def barrier (deps : List (List Nat)) (j0 j : Nat) : Bool := match belowAll (deps.getD j []) j0 j with
  | true => laterAll j (dropN (j + 1) deps)
  | false => false
/-! Pairs: an alloc, and the store that fills it; between them nothing else of the run has to do with it. The run calls what comes of both by the alloc's destination, and the alloc by a number of its own. -/
def pairS (ps : List (Nat × Nat)) (j : Nat) : Option Nat := match ps with
  | [] => none
  | p :: r => match eqN p.2 j with
    | true => some p.1
    | false => pairS r j
def pairA (ps : List (Nat × Nat)) (j : Nat) : Option Nat := match ps with
  | [] => none
  | p :: r => match eqN p.1 j with
    | true => some p.2
    | false => pairA r j
def privD (o : Oper) : Option Nat := match o.op with
  | .store _ a _ => match a with
    | .tmp d => some d
    | _ => none
  | _ => none
def reg (ps : List (Nat × Nat)) (j : Nat) (o : Oper) : Option Nat := match pairA ps j with
  | some _ => some (9000000 + j)
  | none => match pairS ps j with
    | some _ => privD o
    | none => o.dst
def segPairs (ps : List (Nat × Nat)) (deps : List (List Nat)) (j0 : Nat) : Nat → List Oper → List (Nat × Nat)
  | _, [] => []
  | i, o :: r => match barrier deps j0 i with
    | true => []
    | false => match reg ps i o with
      | some d => (i, d) :: segPairs ps deps j0 (i + 1) r
      | none => []
def segFrom (seg : List (Nat × Nat)) (j : Nat) : Nat := match seg with
  | [] => j
  | p :: _ => p.1
def sndL : List (Nat × Nat) → List Nat
  | [] => []
  | p :: r => p.2 :: sndL r
/-- What has run ahead of one of them. -/
def aheadOf (deps : List Nat) : List (Nat × Nat) → List Nat
  | [] => []
  | p :: r => match memN p.1 deps with
    | true => p.2 :: aheadOf deps r
    | false => aheadOf deps r
def vis (all ahead : List Nat) (d : Nat) : Bool := match memN d all with
  | true => memN d ahead
  | false => true
def visAll (all ahead : List Nat) (d : Nat) : List Nat → Bool
  | [] => true
  | k :: r => match orb (eqN (k / 1000) d) (vis all ahead (k / 1000)) with
    | true => visAll all ahead d r
    | false => false
def visTmps (all ahead : List Nat) : List Nat → Bool
  | [] => true
  | t :: r => match vis all ahead t with
    | true => visTmps all ahead r
    | false => false
def smallKs : List (Nat × Ob) → Bool
  | [] => true
  | p :: r => match ltN p.1 1000 with
    | true => smallKs r
    | false => false
def restrictS (ts : List Nat) (s : Nat → X) : Nat → X := fun t => match memN t ts with
  | true => s t
  | false => .c .no
def restrictO (all ahead : List Nat) (o : Look) : Look := fun k => match vis all ahead (k / 1000) with
  | true => o k
  | false => none
/-- Forgotten: what the run's operations will name. -/
def preF (all : List Nat) : Nat → Option Nat := fun k => match memN (k / 1000) all with
  | true => none
  | false => some k
def preO (all : List Nat) : List (Nat × Ob) → List (Nat × Ob)
  | [] => []
  | (k, b) :: r => match memN (k / 1000) all with
    | true => preO all r
    | false => (k, b) :: preO all r
def preSt (all : List Nat) (st : State) : State := ⟨mapS (C.mapK (preF all)) st.s, mapO (C.mapK (preF all)) (preO all st.o)⟩
def open1 (ps : List (Nat × Nat)) (deps : List (List Nat)) (j : Nat) (ops : List Oper) (seg : List (Nat × Nat)) (st : State) : List (Nat × Nat) × State := match seg with
  | [] => (segPairs ps deps j j ops, preSt (sndL (segPairs ps deps j j ops)) st)
  | _ :: _ => (seg, st)
/-- All edges that bind lead back. -/
def edgesBack (j : Nat) : List Edge → Bool
  | [] => true
  | e :: r => match Region.binds .any e with
    | true => match ltN e.on j with
      | true => edgesBack j r
      | false => false
    | false => edgesBack j r
def opsBack : Nat → List Oper → Bool
  | _, [] => true
  | j, o :: r => match edgesBack j o.after.toList with
    | true => opsBack (j + 1) r
    | false => false
/-- No number twice: rising, as a rule. -/
def rising : Nat → List Nat → Bool
  | _, [] => true
  | a, b :: r => match ltN a b with
    | true => rising b r
    | false => false
def nodupQ (l : List Nat) : Bool := match l with
  | [] => true
  | a :: r => match rising a r with
    | true => true
    | false => nodupN l
/-! What an operation of a run takes for its own: a row, called by its key, of which nothing else of the run has need that may run behind it. Given are the operation's place and the key. -/
def conAt (cs : List (Nat × Nat)) (j : Nat) : Option Nat := match cs with
  | [] => none
  | p :: r => match eqN p.1 j with
    | true => some p.2
    | false => conAt r j
/-- What operation j must not see: what others take, that may have run ahead of it. -/
def hid (deps : List (List Nat)) (j : Nat) : List (Nat × Nat) → List Nat
  | [] => []
  | p :: r => match eqN p.1 j with
    | true => hid deps j r
    | false => match memN j (deps.getD p.1 []) with
      | true => hid deps j r
      | false => p.2 :: hid deps j r
def killX (ks : List Nat) (x : X) : X := match ks with
  | [] => x
  | k :: r => x.mapC (C.mapK (killL (k :: r)))
def killO (ks : List Nat) (o : Look) : Look := match ks with
  | [] => o
  | k0 :: r => fun k => match memN k (k0 :: r) with
    | true => none
    | false => match o k with
      | some b => some (b.mapC (C.mapK (killL (k0 :: r))))
      | none => none
/-- Behind it. -/
def behind (con : Option Nat) (d : Nat) (x : X) (n : List (Nat × Ob)) (st : State) : State := match con with
  | none => ⟨put1 st.s d x, putsO d n st.o⟩
  | some k => ⟨put1 (st.kill k).s d x, putsO d n (st.kill k).o⟩
def qcons2 (F : Prims) (T : Tab) (k0 : Nat) (o : Look) (d : Nat) (t0 u : TypeId) (x z : X) (K : QK) : Prop := match (T.at t0).el with
  | none => False
  | some e => asC x fun a => asC z fun b => match a with
    | .aw k => chk (eqN k k0) <| rowAt o k fun es xs => source F T o u b fun zs ys => chk (eqN es e.2.1) (chk (eqN zs es) (chk (ltN 0 es) (chk (leN e.2.2.1 16384)
        (chk (F.lenOk (F.iadd (F.llen xs) (F.llen ys))) (K (.c (.aw (key d 1))) [(1, .ar es (F.lapp xs ys))])))))
    | _ => False
def qcons (F : Prims) (T : Tab) (k0 : Nat) (s : Nat → X) (o : Look) (d : Nat) (op : Op) (K : QK) : Prop := match op with
  | .call c => match c.callee with
    | .builtin b => match b with
      | .append => match c.argTypes.toList with
        | [] => False
        | t0 :: ts => match ts with
          | [] => False
          | u :: ts' => match opds T s c.argTypes.toList c.args.toList with
            | [] => False
            | x :: r => match r with
              | [] => False
              | z :: r' => chk (isNilL ts') <| chk (isNilL r') <| qcons2 F T k0 o d t0 u x z K
      | _ => False
    | _ => False
  | _ => False
def qrun (F : Prims) (T : Tab) (Ca : Contract) (con : Option Nat) (s : Nat → X) (o : Look) (d : Nat) (op : Op) (ty : TypeId) (K : QK) : Prop := match con with
  | none => qcore F T Ca s o d op ty K
  | some k => qcons F T k s o d op K
def conL (con : Option Nat) (hs : List Nat) : List Nat := match con with
  | none => hs
  | some k => k :: hs
def offAll (l : List Nat) : List Nat → Bool
  | [] => true
  | k :: r => match memN k l with
    | true => false
    | false => offAll l r
def offs (con : Option Nat) (hs : List Nat) (d : Nat) (x : X) (n : List (Nat × Ob)) : Bool := match conL con hs with
  | [] => true
  | a :: l => offAll (a :: l) (app (newKs d n) (app x.keys (keysN n)))
/-- One of a run. -/
def quiet1 (F : Prims) (T : Tab) (Ca : Contract) (ops : List Oper) (dp : List Nat) (hs : List Nat) (con : Option Nat) (seg : List (Nat × Nat)) (o : Oper) (d : Nat) (st : State) (K : QK) : Prop :=
  chk (nodupQ (sndL seg)) <| chk (visTmps (sndL seg) (aheadOf dp seg) (app (guardTmps ops o) (opTmps o.op))) <| guardW ops (slot st.s) o fun b => match b with
    | true => qrun F T Ca con (restrictS (opTmps o.op) fun t => killX hs (slot st.s t)) (restrictO (sndL seg) (aheadOf dp seg) (killO hs (look1 st.o))) d o.op o.type fun x n =>
        chk (smallKs n) <| chk (visAll (sndL seg) (aheadOf dp seg) d (app x.keys (keysN n))) <| chk (offs con hs d x n) <| K x n
    | false => K (.tup []) []
def noGuard (o : Oper) : Bool := match o.guard with
  | none => true
  | some _ => false
def isD (d : Nat) (o : Option Nat) : Bool := match o with
  | none => false
  | some e => eqN e d
def isNone {α : Type} (o : Option α) : Bool := match o with
  | none => true
  | some _ => false
def memP (i d : Nat) : List (Nat × Nat) → Bool
  | [] => false
  | p :: r => match eqN p.1 i with
    | true => eqN p.2 d
    | false => memP i d r
def onlyD (d : Nat) : List Nat → Bool
  | [] => true
  | k :: r => match eqN (k / 1000) d with
    | true => onlyD d r
    | false => false
def srcT (v : Operand) : List Nat := match v with
  | .tmp u => [u]
  | _ => []
def yCs : List C → (List Y → Prop) → Prop
  | [], K => K []
  | c :: r, K => match c with
    | .y y => yCs r fun ys => K (y :: ys)
    | _ => False
/-- What an alloc makes. -/
def naD (T : Tab) (d t : Nat) : List (Nat × Ob) := appO (layCs d 1 (T.at t).zero).2 (0, .bx (layCs d 1 (T.at t).zero).1)
def alloc1 (ps : List (Nat × Nat)) (j is : Nat) (con : Option Nat) (seg : List (Nat × Nat)) (o : Oper) (K : QK) : Prop :=
  chk (nodupQ (sndL seg)) <| chk (isNone (pairS ps j)) <| chk (isNone con) <| chk (noGuard o) <| match o.op with
    | .alloc _ => match o.dst with
      | some d => chk (memP is d seg) <| chk (isD j (pairS ps is)) <| K (.c .no) []
      | none => False
    | _ => False
def store1 (T : Tab) (ops : List Oper) (dp hs : List Nat) (ia : Nat) (con : Option Nat) (seg : List (Nat × Nat)) (o : Oper) (d : Nat) (st : State) (K : QK) : Prop :=
  chk (nodupQ (sndL seg)) <| chk (isNone con) <| chk (noGuard o) <| chk (isNone o.dst) <| chk (memN ia dp) <| chk (leN (segFrom seg 0) ia) <| match o.op with
    | .store t a v => match a with
      | .tmp d' => chk (eqN d' d) <| match dropN ia ops with
        | [] => False
        | oa :: _ => match oa.op with
          | .alloc t' => chk (eqN t' t) <| chk (isD d oa.dst) <| chk (noGuard oa) <| chk (visTmps (sndL seg) (aheadOf dp seg) (srcT v)) <| chk (T.at t).is <| chk (isNone (T.at t).bld) <| chk (ltN (lenN (T.at t).zero) 900) <|
              chk (smallKs (naD T d t)) <| chk (onlyD d (keysN (naD T d t))) <| chk (eqN (lenN (T.at t).zero) (T.at t).cells) <|
              brk (opd T (restrictS (srcT v) fun t => killX hs (slot st.s t)) t v).isNo False <| brk (opd T (restrictS (srcT v) fun t => killX hs (slot st.s t)) t v).isTup False <|
              yCs (opd T (restrictS (srcT v) fun t => killX hs (slot st.s t)) t v).cells fun ys => chk (eqN (lenN ys) (T.at t).cells) <|
                chk (offs none hs d (.c (.pb (key d 0) 0)) [(0, .bx (mapY ys))]) <| K (.c (.pb (key d 0) 0)) [(0, .bx (mapY ys))]
          | _ => False
      | _ => False
    | _ => False
def unit1 (F : Prims) (T : Tab) (Ca : Contract) (ops : List Oper) (ps : List (Nat × Nat)) (j : Nat) (dp hs : List Nat) (con : Option Nat) (seg : List (Nat × Nat)) (o : Oper) (d : Nat) (st : State) (K : QK) : Prop := match pairA ps j with
  | some is => alloc1 ps j is con seg o K
  | none => match pairS ps j with
    | some ia => store1 T ops dp hs ia con seg o d st K
    | none => quiet1 F T Ca ops dp hs con seg o d st K
def draws (F : Prims) (T : Tab) (g : Cfg) (Ca : Contract) (ops : List Oper) (deps : List (List Nat)) (cs ps : List (Nat × Nat)) : Nat → List (Nat × Nat) → List Oper → State → (State → Prop) → Prop
  | _, _, [], st, K => K st
  | j, seg, o :: r, st, K => match barrier deps (segFrom seg j) j with
    | true => guardW ops (slot st.s) o fun b => match b with
      | true => step F T g Ca o st fun st => draws F T g Ca ops deps cs ps (j + 1) [] r st K
      | false => draws F T g Ca ops deps cs ps (j + 1) [] r (st.setD o.dst (.tup [])) K
    | false => match reg ps j o with
      | none => False
      | some d => unit1 F T Ca ops ps j (deps.getD j []) (hid deps j cs) (conAt cs j) (open1 ps deps j (o :: r) seg st).1 o d (open1 ps deps j (o :: r) seg st).2 fun x n =>
          draws F T g Ca ops deps cs ps (j + 1) (open1 ps deps j (o :: r) seg st).1 r (behind (conAt cs j) d x n (open1 ps deps j (o :: r) seg st).2) K

/-- Is the first of them a move that may be taken ahead of all? (Asked only where something is copied.) -/
def isCopy (o : Oper) : Bool := match o.op with
  | .call c => match c.callee with
    | .builtin b => match b with
      | .copy => true
      | _ => false
    | _ => false
  | _ => false
def anyCopy : List Oper → Bool
  | [] => false
  | o :: r => match isCopy o with
    | true => true
    | false => anyCopy r
def waits0 : List Edge → Bool
  | [] => false
  | e :: r => match Region.binds .any e with
    | true => match eqN e.on 0 with
      | true => true
      | false => waits0 r
    | false => waits0 r
def isSel (o : Op) : Bool := match o with
  | .select _ _ => true
  | _ => false
def dstIs (d : Nat) (o : Option Nat) : Bool := match o with
  | none => false
  | some e => eqN d e
/-- Each of the others waits for it, or has nothing to do with it. -/
def apart0 (ops : List Oper) (t d : Nat) : List Oper → Bool
  | [] => true
  | o :: r => match isSel o.op with
    | true => false
    | false => match waits0 o.after.toList with
      | true => apart0 ops t d r
      | false => match memN d (app (guardTmps ops o) (opTmps o.op)) with
        | true => false
        | false => match dstIs d o.dst with
          | true => false
          | false => match dstIs t o.dst with
            | true => false
            | false => apart0 ops t d r
def takes (ops : List Oper) : Option (Nat × Nat) := match anyCopy ops with
  | false => none
  | true => match ops with
    | [] => none
    | o :: r => match o.guard with
      | some _ => none
      | none => match o.dst with
        | none => none
        | some d => match o.op with
          | .move x => match x with
            | .tmp t => match isNilL (o.after.toList) with
              | false => none
              | true => match eqN t d with
                | true => none
                | false => match apart0 ops t d r with
                  | true => some (t, d)
                  | false => none
            | _ => none
          | _ => none
def drawn (F : Prims) (T : Tab) (g : Cfg) (Ca : Contract) (ops : List Oper) (cs ps : List (Nat × Nat)) (st : State) (K : State → Prop) : Prop := match takes ops with
  | none => draws F T g Ca ops (depsOf ops []) cs ps 0 [] ops st K
  | some p => draws F T g Ca ops (depsOf ops []) cs ps 1 [] ops.tail (st.set p.2 (slot st.s p.1)) K

/-! #### All orders, one by one -/
def waitsOn : List Edge → List Nat
  | [] => []
  | e :: r => match Region.binds .any e with
    | true => e.on :: waitsOn r
    | false => waitsOn r
def allIn (done : List Nat) : List Nat → Bool
  | [] => true
  | k :: r => match memN k done with
    | true => allIn done r
    | false => false
def rdy (done : List Nat) (o : Oper) : Bool := allIn done (waitsOn o.after.toList)
def rdys (done : List Nat) : List (Nat × Oper) → List (Nat × Oper)
  | [] => []
  | p :: r => match rdy done p.2 with
    | true => p :: rdys done r
    | false => rdys done r
def without (i : Nat) : List (Nat × Oper) → List (Nat × Oper)
  | [] => []
  | p :: r => match eqN p.1 i with
    | true => without i r
    | false => p :: without i r
def dstIn (l : List Nat) (o : Option Nat) : Bool := match o with
  | none => false
  | some d => memN d l
/-- Of all others: what does not wait for it has nothing to do with it. -/
def apartOf (ops : List Oper) (i d : Nat) (looks : List Nat) : List (Nat × Oper) → Bool
  | [] => true
  | p :: r => match eqN p.1 i with
    | true => apartOf ops i d looks r
    | false => match memN i (waitsOn p.2.after.toList) with
      | true => apartOf ops i d looks r
      | false => match memN d (app (guardTmps ops p.2) (opTmps p.2.op)) with
        | true => false
        | false => match dstIs d p.2.dst with
          | true => false
          | false => match dstIn looks p.2.dst with
            | true => false
            | false => apartOf ops i d looks r
def isFree (ops : List Oper) (rem : List (Nat × Oper)) (p : Nat × Oper) : Bool := match p.2.guard with
  | some _ => false
  | none => match p.2.dst with
    | none => false
    | some d => match p.2.op with
      | .move _ => apartOf ops p.1 d (opTmps p.2.op) rem
      | _ => false
def firstFree (ops : List Oper) (rem : List (Nat × Oper)) : List (Nat × Oper) → Option (Nat × Oper)
  | [] => none
  | p :: r => match isFree ops rem p with
    | true => some p
    | false => firstFree ops rem r
def noSelect : List Oper → Bool
  | [] => true
  | o :: r => match isSel o.op with
    | true => false
    | false => noSelect r
def numd : Nat → List Oper → List (Nat × Oper)
  | _, [] => []
  | i, o :: r => (i, o) :: numd (i + 1) r
def each (f : Nat × Oper → Prop) : List (Nat × Oper) → Prop
  | [] => False
  | p :: r => match r with
    | [] => f p
    | _ :: _ => f p ∧ each f r
def moved (T : Tab) (st : State) (o : Oper) : X := match o.op with
  | .move x => opd T (slot st.s) o.type x
  | _ => .c .no
/-- Its guard bids leave it out, and nothing else has to do with it. -/
def guardOff (ops : List Oper) (s : Nat → X) (o : Oper) : Bool := match o.guard with
  | none => false
  | some (j, want) => match dropN j ops with
    | [] => false
    | q :: _ => match q.dst with
      | none => false
      | some t => match s t with
        | .tup vs => match vs with
          | [] => true
          | _ => false
        | .c c => match c with
          | .y y => match y with
            | .sc v => match v with
              | .bool b => match eqb b want with
                | true => false
                | false => true
              | _ => false
            | _ => false
          | _ => false
        | _ => false
def firstOff (ops : List Oper) (rem : List (Nat × Oper)) (s : Nat → X) : List (Nat × Oper) → Option (Nat × Oper)
  | [] => none
  | p :: r => match p.2.dst with
    | none => firstOff ops rem s r
    | some d => match guardOff ops s p.2 with
      | false => firstOff ops rem s r
      | true => match apartOf ops p.1 d (app (guardTmps ops p.2) (opTmps p.2.op)) rem with
        | true => some p
        | false => firstOff ops rem s r
/-- Whatever may run now is run, one after another; a move that nothing else has to do with is run first. -/
def orders (F : Prims) (T : Tab) (g : Cfg) (Ca : Contract) (ops : List Oper) : Nat → List (Nat × Oper) → List Nat → State → (State → Prop) → Prop
  | 0, _, _, st, K => K st
  | n + 1, rem, done, st, K => match firstFree ops rem (rdys done rem) with
    | some p => orders F T g Ca ops n (without p.1 rem) (p.1 :: done) (st.setD p.2.dst (moved T st p.2)) K
    | none => match firstOff ops rem (slot st.s) (rdys done rem) with
      | some p => orders F T g Ca ops n (without p.1 rem) (p.1 :: done) (st.setD p.2.dst (.tup [])) K
      | none => each (fun p => guardW ops (slot st.s) p.2 fun b => match b with
        | true => step F T g Ca p.2 st fun st => orders F T g Ca ops n (without p.1 rem) (p.1 :: done) st K
        | false => orders F T g Ca ops n (without p.1 rem) (p.1 :: done) (st.setD p.2.dst (.tup [])) K) (rdys done rem)

/-! ### Code -/
def cleanup (ks : List Nat × List Nat) (st : State) : State := ⟨cleanS ks.1 st.s, cleanO ks.2 st.o⟩
inductive Ex where
  | normal
  | exit (id : Nat)
  | ret
abbrev Post := Ex → State → Prop
/-- Round after round: what holds of all states from which a round leads out, or to such a state, holds of st. -/
structure Loop (body : State → Post → Prop) (K : Post) (st : State) : Prop where
  out : ∀ I : State → Prop, (∀ s, body s (fun e s' => match e with | .normal => I s' | .exit i => K (.exit i) s' | .ret => K .ret s') → I s) → I st
/-- The number of the first region. -/
def firstId : Code → Nat
  | .region id _ _ => id
  | .seq a _ => firstId a
  | .cond _ a _ => firstId a
  | .block _ c => firstId c
  | .loop c => firstId c
  | _ => 0
def run (F : Prims) (T : Tab) (g : Cfg) (Ca : Contract) (fn : Nat) : Code → State → Post → Prop
  | .skip, st, K => K .normal st
  | .region id ops draw, st, K => match draw with
    | false => steps F T g Ca ops.toList ops.toList st fun st => K .normal (cleanup (g.keep fn id) st)
    | true => match g.ord fn id with
      | false => chk (opsBack 0 ops.toList) (drawn F T g Ca ops.toList (g.eat fn id) (g.par fn id) (freezes F (g.frz fn id) st) fun st => K .normal (cleanup (g.keep fn id) st))
      | true => chk (noSelect ops.toList) (orders F T g Ca ops.toList (lenN ops.toList) (numd 0 ops.toList) [] st fun st => K .normal (cleanup (g.keep fn id) st))
  | .seq a b, st, K => run F T g Ca fn a st fun e st => match e with
    | .normal => run F T g Ca fn b st K
    | .exit i => K (.exit i) st
    | .ret => K .ret st
  | .cond c a b, st, K => asB (opd T (slot st.s) 0 c) fun t => br t (fun _ => run F T g Ca fn a st K) (fun _ => run F T g Ca fn b st K)
  | .block id c, st, K => run F T g Ca fn c st fun e st => match e with
    | .exit i => match eqN i id with
      | true => K .normal st
      | false => K (.exit i) st
    | .normal => K .normal st
    | .ret => K .ret st
  | .loop c, st, K => Loop (fun st => run F T g Ca fn c (cleanup (g.head fn (firstId c)) st)) K (cleanup (g.head fn (firstId c)) st)
  | .exit id, st, K => K (.exit id) st
  | .ret, st, K => K .ret st
  | _, _, _ => False

/-! ### Calls -/
def A.lay (r : Nat) : A → X × List (Nat × Ob)
  | .c a => layR r (.c a)
  | .agg cs => layR r (.agg cs)
  | .io cs => (.c (.pb (key r 0) 0), appO (layA r 1 cs).2 (0, .bx (layA r 1 cs).1))
  | .ir b cs => match b with
    | true => layR r (.agg cs)
    | false => match cs with
      | [] => (.c .no, [])
      | a :: _ => layR r (.c a)
  | .iop _ => (.c .no, [])
  | .rp cs => (.c (.rp cs), [])
  | .fv f caps => (.c (.fv f caps), [])
def initArgs : Nat → List A → State → State
  | _, [], st => st
  | r, a :: as, st => initArgs (r + 1) as ⟨put1 st.s r (a.lay r).1, putsO r (a.lay r).2 st.o⟩
/-- A result: taken out of what is left. -/
def outC (F : Prims) (st : State) (c : C) (K : AC → State → Prop) : Prop := match c with
  | .y c => K (.y c) st
  | .mt es => K (.own es []) st
  | .aw k => rowAt (look1 st.o) k fun es xs => K (.own es xs) (st.drop k)
  | .as k lo n => rowAt (look1 st.o) k fun es xs => K (.y (.sl es (F.lsub xs lo n))) (st.freeze F k)
  | .pb k j => match j with
    | 0 => boxAt (look1 st.o) k fun cs => plainCs cs fun ys => K (.own 0 [ys]) (st.drop k)
    | _ => False
  | _ => False
def outCs (F : Prims) : List C → State → (List AC → State → Prop) → Prop
  | [], st, K => K [] st
  | c :: r, st, K => outC F st c fun a st => outCs F r st fun l st => K (a :: l) st
def outX (F : Prims) (st : State) (x : X) (K : Bool × List AC → State → Prop) : Prop := match x with
  | .c c => outC F st c fun a st => K (false, [a]) st
  | .agg cs => outCs F cs st fun l st => K (true, l) st
  | .tup _ => False
def ofCells (b : Bool) (l : List C) (K : X → Prop) : Prop := match b with
  | true => K (.agg l)
  | false => match l with
    | [] => False
    | c :: r => match r with
      | [] => K (.c c)
      | _ => False
def resVals (F : Prims) (T : Tab) : List ResultVar → State → (List (Bool × List AC) → State → Prop) → Prop
  | [], st, K => K [] st
  | .tmp t :: r, st, K => outX F st (slot st.s t) fun q st => resVals F T r st fun l st => K (q :: l) st
  | .cell a t :: r, st, K => chk (T.at t).is <| asC (slot st.s a) fun c => match c with
    | .pb k j => boxAt (look1 st.o) k fun cs => takeN (T.at t).cells (dropN j cs) fun l => ofCells (T.at t).agg l fun x => outX F st x fun q st => resVals F T r st fun l st => K (q :: l) st
    | _ => False
/-- Rows that are given back: where they were. -/
def rowOuts (o : Look) : List C → List AC → (List AC → Prop) → Prop
  | [], [], K => K []
  | c :: r, a :: q, K => match a with
    | .own es _ => match c with
      | .aw k => rowAt o k fun es' xs => chk (eqN es es') (rowOuts o r q fun l => K (.own es xs :: l))
      | _ => False
    | _ => rowOuts o r q fun l => K (.no :: l)
  | _, _, _ => False
def irKeys : List C → List AC → List Nat
  | [], _ => []
  | _ :: _, [] => []
  | c :: r, a :: q => match a with
    | .own _ _ => match c with
      | .aw k => k :: irKeys r q
      | _ => irKeys r q
    | _ => irKeys r q
def ioOuts : Nat → List A → State → (List (List AC) → Prop) → Prop
  | _, [], _, K => K []
  | r, a :: as, st, K => match a with
    | .io _ => asC (slot st.s r) fun c => match c with
      | .pb k j => match j with
        | 0 => boxAt (look1 st.o) k fun cs => giveCs (look1 st.o) (some k) cs fun l => chk (nodupN (k :: awKeys cs)) (ioOuts (r + 1) as (drops (k :: awKeys cs) st) fun t => K (l :: t))
        | _ => False
      | _ => False
    | .ir b cs0 => match slot st.s r with
      | .agg cells => match b with
        | true => rowOuts (look1 st.o) cells cs0 fun l => chk (nodupN (irKeys cells cs0)) (ioOuts (r + 1) as (drops (irKeys cells cs0) st) fun t => K (l :: t))
        | false => False
      | .c c => match b with
        | false => rowOuts (look1 st.o) [c] cs0 fun l => chk (nodupN (irKeys [c] cs0)) (ioOuts (r + 1) as (drops (irKeys [c] cs0) st) fun t => K (l :: t))
        | true => False
      | .tup _ => False
    | .iop _ => False
    | _ => ioOuts (r + 1) as st K
def resOf (l : List (Bool × List AC)) : RV := match l with
  | [] => .tup []
  | q :: r => match r with
    | [] => match q.1 with
      | true => .agg q.2
      | false => match q.2 with
        | [] => .tup []
        | a :: r => match r with
          | [] => .c a
          | _ => .tup []
    | _ => .tup l
def finish (F : Prims) (T : Tab) (rs : List ResultVar) (args : List A) (st : State) (K : Res → Prop) : Prop :=
  resVals F T rs st fun l st => ioOuts 0 args st fun outs => K ⟨resOf l, outs⟩
def body (F : Prims) (T : Tab) (g : Cfg) (Ca : Contract) (f : FuncId) (c : Code) (rs : List ResultVar) (args : List A) (K : Res → Prop) : Prop :=
  run F T g Ca f c (initArgs 0 args ⟨[], []⟩) fun e st => match e with
    | .exit _ => False
    | .normal => finish F T rs args st K
    | .ret => finish F T rs args st K
/-- The arguments that are given back. -/
def ioSlots : Nat → List A → List Nat
  | _, [] => []
  | r, a :: as => match a with
    | .io _ => r :: ioSlots (r + 1) as
    | .ir _ _ => r :: ioSlots (r + 1) as
    | .iop _ => r :: ioSlots (r + 1) as
    | _ => ioSlots (r + 1) as
def opsDs (n : Nat) (ps : List Nat) : List Oper → Bool
  | [] => true
  | o :: r => match o.dst with
    | none => opsDs n ps r
    | some d => match ltN d n with
      | true => match memN d ps with
        | true => false
        | false => opsDs n ps r
      | false => false
/-- All that the code writes has a place, and is no argument that is given back. -/
def codeDs (n : Nat) (ps : List Nat) : Code → Bool
  | .region _ ops _ => opsDs n ps ops.toList
  | .seq a b => andb (codeDs n ps a) (codeDs n ps b)
  | .cond _ a b => andb (codeDs n ps a) (codeDs n ps b)
  | .block _ c => codeDs n ps c
  | .loop c => codeDs n ps c
  | _ => true
end Go.Proofs.YthaelohccopgjaaW
/- Soundness, part 1: what values by value say of a world. -/
namespace Go.Proofs.YthaelohccopgjaaW

inductive Gh where
  | no
  | nil
  | bx (g : Nat)
  | row (g es cap n : Nat)
  | tr (v : Value) (l : List Nat) (nd : l.Nodup)
/-- The blocks that are owned. -/
def Gh.bs : Gh → List Nat
  | .bx g => [g]
  | .row g _ _ _ => [g]
  | .tr _ l _ => l
  | _ => []
theorem Gh.bs_nodup : ∀ G : Gh, G.bs.Nodup
  | .no => List.nodup_nil
  | .nil => List.nodup_nil
  | .bx g => by simp [Gh.bs]
  | .row g _ _ _ => by simp [Gh.bs]
  | .tr _ _ nd => nd
theorem Gh.in_bx {g : Nat} : g ∈ (Gh.bx g).bs := by simp [Gh.bs]
theorem Gh.in_row {g es cap n : Nat} : g ∈ (Gh.row g es cap n).bs := by simp [Gh.bs]
abbrev Ghs := Nat → Gh

inductive Rep (w : World) (S : Nat → Prop) : Value → Y → Prop
  | sc (v : Value) : v.oneCell' = true → Rep w S v (.sc v)
  | sl0 (a : Option Addr) (cap es : Nat) : Rep w S (.slice a 0 cap) (.sl es [])
  | sl (b off cap es : Nat) (xs : List (List Y)) (vs : Nat → Nat → Value) : S b → xs.length ≤ cap → 0 < es →
      (∀ (i : Nat) (x : List Y), xs[i]? = some x → x.length = es) →
      (∀ (i : Nat) (x : List Y) (j : Nat) (y : Y), xs[i]? = some x → x[j]? = some y → w.cell? ⟨b, off + (i * es + j), none⟩ = some (vs i j)) →
      (∀ (i : Nat) (x : List Y) (j : Nat) (y : Y), xs[i]? = some x → x[j]? = some y → Rep w S (vs i j) y) →
      Rep w S (.slice (some ⟨b, off, none⟩) xs.length cap) (.sl es xs)

theorem Rep.one {w : World} {S : Nat → Prop} {v : Value} {y : Y} (h : Rep w S v y) : v.oneCell' = true := by
  cases h <;> first | assumption | rfl

theorem Rep.mono {w w' : World} {S S' : Nat → Prop} (hS : ∀ b, S b → S' b) (hw : ∀ b, S b → w'.heap[b]? = w.heap[b]?) {v : Value} {y : Y} (h : Rep w S v y) : Rep w' S' v y := by
  induction h with
  | sc v h => exact .sc v h
  | sl0 a cap es => exact .sl0 a cap es
  | sl b off cap es xs vs hb hc he hl hcell _ ih =>
    exact .sl b off cap es xs vs (hS b hb) hc he hl (fun i x j y h1 h2 => by
      have := hcell i x j y h1 h2
      simp only [World.cell?] at this ⊢
      rw [hw b hb]; exact this) ih

def RP (w : World) (S : Nat → Prop) (v : Value) (cs : List Y) : Prop :=
  ∃ b off, v = .pointer (some ⟨b, off, none⟩) ∧ S b ∧ ∀ (j : Nat) (y : Y), cs[j]? = some y → ∃ u, w.cell? ⟨b, off + j, none⟩ = some u ∧ Rep w S u y

theorem RP.mono {w w' : World} {S S' : Nat → Prop} (hS : ∀ b, S b → S' b) (hw : ∀ b, S b → w'.heap[b]? = w.heap[b]?) {v : Value} {cs : List Y} (h : RP w S v cs) : RP w' S' v cs := by
  obtain ⟨b, off, rfl, hb, hc⟩ := h
  refine ⟨b, off, rfl, hS b hb, fun j y hy => ?_⟩
  obtain ⟨u, h1, h2⟩ := hc j y hy
  refine ⟨u, ?_, h2.mono hS hw⟩
  simp only [World.cell?] at h1 ⊢
  rw [hw b hb]; exact h1

def RC (w : World) (S : Nat → Prop) (γ : Ghs) (v : Value) : C → Prop
  | .no => True
  | .y c => Rep w S v c
  | .mt _ => ∃ a, v = .slice a 0 0
  | .aw k => match γ k with
    | .nil => ∃ a, v = .slice a 0 0
    | .row g _ cap n => v = .slice (some ⟨g, 0, none⟩) n cap
    | _ => True
  | .as k lo m => match γ k with
    | .nil => m = 0 ∧ ∃ a c, v = .slice a 0 c
    | .row g es _ n => 0 ≤ lo ∧ 0 ≤ m ∧ lo + m ≤ (n : Int) ∧ ∃ c, m.toNat ≤ c ∧ (v = .slice (some ⟨g, lo.toNat * es, none⟩) m.toNat c ∨ (m = 0 ∧ ∃ a, v = .slice a 0 c))
    | _ => True
  | .pb k j => match γ k with
    | .bx g => v = .pointer (some ⟨g, j, none⟩)
    | .tr v' _ _ => j = 0 → v = v'
    | _ => True
  | .pr k i j => match γ k with
    | .row g es _ n => 0 ≤ i ∧ v = .pointer (some ⟨g, i.toNat * es + j, none⟩)
    | .nil => False
    | _ => True
  | .rp cs => RP w S v cs
  | .fn f ks => ∃ vs : Array Value, v = .func (.func f) #[] vs ∧ vs.size = ks.length ∧ ∀ (i : Nat) (k : Nat), ks[i]? = some k → match γ k with
    | .bx g => vs[i]? = some (Value.pointer (some ⟨g, 0, none⟩))
    | _ => True
  | .fv f l => ∃ vs : Array Value, v = .func (.func f) #[] vs ∧ vs.size = l.length ∧ ∀ (i : Nat) (cs : List Y), l[i]? = some cs → ∃ u, vs[i]? = some u ∧ RP w S u cs

/-- One cell. -/
def RC1 (w : World) (S : Nat → Prop) (γ : Ghs) (v : Value) (c : C) : Prop := RC w S γ v c ∧ v.oneCell' = true
def RCs (w : World) (S : Nat → Prop) (γ : Ghs) : List Value → List C → Prop
  | [], [] => True
  | v :: vs, c :: cs => RC1 w S γ v c ∧ RCs w S γ vs cs
  | _, _ => False
def RV1 (w : World) (S : Nat → Prop) (γ : Ghs) (v : Value) (q : Bool × List C) : Prop := match q.1 with
  | true => ∃ vs : Array Value, v = .agg vs ∧ RCs w S γ vs.toList q.2
  | false => ∃ c, q.2 = [c] ∧ RC w S γ v c ∧ (c.isNo = true ∨ v.oneCell' = true)
def RTs (w : World) (S : Nat → Prop) (γ : Ghs) : List Value → List (Bool × List C) → Prop
  | [], [] => True
  | v :: vs, c :: cs => RV1 w S γ v c ∧ RTs w S γ vs cs
  | _, _ => False
def RX (w : World) (S : Nat → Prop) (γ : Ghs) (v : Value) : X → Prop
  | .c a => RC w S γ v a ∧ (a.isNo = true ∨ v.oneCell' = true)
  | .agg cs => ∃ vs : Array Value, v = .agg vs ∧ RCs w S γ vs.toList cs
  | .tup l => ∃ vs : Array Value, v = .tuple vs ∧ RTs w S γ vs.toList l

/-- What is marked in a block lies behind its cells. -/
def ZOk (fz : Nat × Nat) (n : Nat) : Prop := fz.2 ≤ fz.1 ∨ n ≤ fz.1
theorem ZOk.zero (n : Nat) : ZOk (0, 0) n := .inl (Nat.le_refl _)
structure RowOk (w : World) (S : Nat → Prop) (g es cap n : Nat) (xs : List (List Y)) : Prop where
  len : xs.length = n
  le : n ≤ cap
  max : cap ≤ maxLen
  pos : 0 < es
  cpos : 0 < cap
  row : ∃ (cur : Array Value) (E : TypeId) (fz : Nat × Nat), w.heap[g]? = some (.cells cur E fz) ∧ ZOk fz cur.size ∧ cur.size = cap * es ∧
    (∀ u ∈ cur, u.oneCell' = true) ∧
    ∀ (i : Nat) (x : List Y), xs[i]? = some x → x.length = es ∧ ∀ (j : Nat) (y : Y), x[j]? = some y → ∃ u, cur[i * es + j]? = some u ∧ Rep w S u y

/-- A text's bytes, as cells. -/
def bytesV (s : ByteArray) : List Value := s.data.toList.map fun x => .int .u8 x.toNat
/-- A whole that lies in the blocks l. -/
def ROp (w : World) (v : Value) (l : List Nat) : Opq → Prop
  | .bd t e s => ∃ b p r, v = .pointer (some ⟨b, 0, none⟩) ∧ (p = .pointer none ∨ p = .pointer (some ⟨b, 0, none⟩)) ∧ w.heap[b]? = some (.cells #[p, r] t (0, 0)) ∧
      ((r = .slice none 0 0 ∧ s.size = 0 ∧ l = [b]) ∨ ∃ g cap cur fz, r = .slice (some ⟨g, 0, none⟩) s.size cap ∧ l = [b, g] ∧ w.heap[g]? = some (.cells cur e fz) ∧
        fz.2 ≤ s.size ∧ s.size ≤ cap ∧ cap ≤ maxLen ∧ cur.size = cap ∧ cur.toList.take s.size = bytesV s)
theorem ROp.keep {w w' : World} {v : Value} {l : List Nat} {q : Opq} (h : ROp w v l q) (hk : ∀ g ∈ l, w'.heap[g]? = w.heap[g]?) : ROp w' v l q := by
  cases q with
  | bd t e s =>
    obtain ⟨b, p, r, h1, h2, h3, h4⟩ := h
    rcases h4 with ⟨h5, h6, rfl⟩ | ⟨g, cap, cur, fz, h5, rfl, h6, h7⟩
    · exact ⟨b, p, r, h1, h2, by rw [hk b (.head _)]; exact h3, .inl ⟨h5, h6, rfl⟩⟩
    · exact ⟨b, p, r, h1, h2, by rw [hk b (.head _)]; exact h3, .inr ⟨g, cap, cur, fz, h5, rfl, by rw [hk g (.tail _ (.head _))]; exact h6, h7⟩⟩
def RO (w : World) (S : Nat → Prop) (γ : Ghs) (k : Nat) : Ob → Prop
  | .bx cs => ∃ g, γ k = .bx g ∧ ∃ (cur : Array Value) (E : TypeId), w.heap[g]? = some (.cells cur E (0, 0)) ∧ RCs w S γ cur.toList cs
  | .ar es xs => (γ k = .nil ∧ xs = []) ∨ ∃ g cap n, γ k = .row g es cap n ∧ RowOk w S g es cap n xs
  | .op q => ∃ v l nd, γ k = .tr v l nd ∧ ROp w v l q

theorem RCs.length {w : World} {S : Nat → Prop} {γ : Ghs} : ∀ {vs : List Value} {cs : List C}, RCs w S γ vs cs → vs.length = cs.length
  | [], [], _ => rfl
  | _ :: _, _ :: _, h => by simp [RCs.length h.2]
theorem RCs.get {w : World} {S : Nat → Prop} {γ : Ghs} : ∀ {vs : List Value} {cs : List C}, RCs w S γ vs cs → ∀ {j : Nat} {c : C}, cs[j]? = some c → ∃ v, vs[j]? = some v ∧ RC1 w S γ v c
  | [], [], _, j, c, h => by simp at h
  | v :: vs, c :: cs, h, 0, c', hc => by simp at hc; subst hc; exact ⟨v, rfl, h.1⟩
  | v :: vs, c :: cs, h, j + 1, c', hc => by
    have := RCs.get h.2 (j := j) (c := c') (by simpa using hc)
    simpa using this
theorem RCs.of {w : World} {S : Nat → Prop} {γ : Ghs} : ∀ {vs : List Value} {cs : List C}, vs.length = cs.length → (∀ (j : Nat) (v : Value) (c : C), vs[j]? = some v → cs[j]? = some c → RC1 w S γ v c) → RCs w S γ vs cs
  | [], [], _, _ => trivial
  | v :: vs, c :: cs, hl, h => ⟨h 0 v c rfl rfl, RCs.of (by simpa using hl) fun j v' c' h1 h2 => h (j + 1) v' c' (by simpa using h1) (by simpa using h2)⟩
  | [], _ :: _, hl, _ => by simp at hl
  | _ :: _, [], hl, _ => by simp at hl

/-! ### One relation to another -/
/-- How what is said of a cell turns: c in one world is f c in the other. -/
def Turns (w : World) (S : Nat → Prop) (γ : Ghs) (w' : World) (S' : Nat → Prop) (γ' : Ghs) (f : C → C) : Prop := ∀ v c, RC w S γ v c → RC w' S' γ' v (f c)
section
variable {w w' : World} {S S' : Nat → Prop} {γ γ' : Ghs} {f : C → C}
theorem Turns.cs (h : Turns w S γ w' S' γ' f) : ∀ {vs : List Value} {cs : List C}, RCs w S γ vs cs → RCs w' S' γ' vs (mapCs f cs)
  | [], [], _ => trivial
  | _ :: _, _ :: _, hh => ⟨⟨h _ _ hh.1.1, hh.1.2⟩, h.cs hh.2⟩
theorem Turns.one (h : Turns w S γ w' S' γ' f) (h0 : f .no = .no) {v : Value} {a : C} (ha : RC w S γ v a ∧ (a.isNo = true ∨ v.oneCell' = true)) :
    RC w' S' γ' v (f a) ∧ ((f a).isNo = true ∨ v.oneCell' = true) := by
  refine ⟨h _ _ ha.1, ?_⟩
  rcases ha.2 with e | e
  · cases a <;> simp [C.isNo] at e
    rw [h0]; exact .inl rfl
  · exact .inr e
theorem Turns.ts (h : Turns w S γ w' S' γ' f) (h0 : f .no = .no) : ∀ {vs : List Value} {l : List (Bool × List C)}, RTs w S γ vs l → RTs w' S' γ' vs (mapTs f l)
  | [], [], _ => trivial
  | v :: vs, (b, cs) :: l, hh => by
    refine ⟨?_, h.ts h0 hh.2⟩
    have := hh.1
    cases b
    · obtain ⟨c, h1, h2⟩ := this
      simp only at h1
      subst h1
      exact ⟨f c, rfl, h.one h0 h2⟩
    · obtain ⟨us, h1, h2⟩ := this
      exact ⟨us, h1, h.cs h2⟩
theorem Turns.x (h : Turns w S γ w' S' γ' f) (h0 : f .no = .no) {v : Value} {x : X} (hx : RX w S γ v x) : RX w' S' γ' v (x.mapC f) := by
  cases x with
  | c a => exact h.one h0 hx
  | agg cs => obtain ⟨vs, h1, h2⟩ := hx; exact ⟨vs, h1, h.cs h2⟩
  | tup l => obtain ⟨vs, h1, h2⟩ := hx; exact ⟨vs, h1, h.ts h0 h2⟩
end

theorem look1_mapS (f : C → C) : ∀ (s : List (Nat × X)) (i : Nat), look1 (mapS f s) i = (look1 s i).map (X.mapC f)
  | [], _ => rfl
  | (k, x) :: r, i => by
    simp only [mapS, look1]
    cases eqN k i
    · exact look1_mapS f r i
    · rfl
theorem look1_mapO (f : C → C) : ∀ (s : List (Nat × Ob)) (i : Nat), look1 (mapO f s) i = (look1 s i).map (Ob.mapC f)
  | [], _ => rfl
  | (k, x) :: r, i => by
    simp only [mapO, look1]
    cases eqN k i
    · exact look1_mapO f r i
    · rfl
theorem mapCs_id : ∀ (l : List C), mapCs (fun c => c) l = l
  | [] => rfl
  | c :: r => by simp [mapCs, mapCs_id r]
theorem mapTs_id : ∀ (l : List (Bool × List C)), mapTs (fun c => c) l = l
  | [] => rfl
  | (b, c) :: r => by simp [mapTs, mapTs_id r, mapCs_id]
theorem X.mapC_id (x : X) : x.mapC (fun c => c) = x := by cases x <;> simp [X.mapC, mapCs_id, mapTs_id]
theorem Ob.mapC_id (b : Ob) : b.mapC (fun c => c) = b := by cases b <;> simp [Ob.mapC, mapCs_id]

/-! ### Frames and states -/
structure Env where
  w0 : World
  S0 : Nat → Prop
  L0 : Nat → Prop
  arg : Nat → Option Value
def Lv (γ : Ghs) (b : Nat) : Prop := ∃ k, b ∈ (γ k).bs
/-- What is shared. -/
def Env.Sh (E : Env) (γ : Ghs) (w : World) (b : Nat) : Prop := (E.S0 b ∨ E.L0 b ∨ E.w0.heap.size ≤ b) ∧ b < w.heap.size ∧ ¬ Lv γ b
structure Fr (L : Nat → Prop) (w w' : World) : Prop where
  os : w'.os = w.os
  tape : w'.tape = w.tape
  output : w'.output = w.output
  size : w.heap.size ≤ w'.heap.size
  block : ∀ b, b < w.heap.size → ¬ L b → w'.heap[b]? = w.heap[b]?
theorem Fr.refl (L : Nat → Prop) (w : World) : Fr L w w := ⟨rfl, rfl, rfl, Nat.le_refl _, fun _ _ _ => rfl⟩
theorem Fr.trans {L L' : Nat → Prop} {a b c : World} (h : Fr L a b) (h' : Fr L' b c) (hL : ∀ x, L' x → L x ∨ a.heap.size ≤ x) : Fr L a c :=
  ⟨h'.os.trans h.os, h'.tape.trans h.tape, h'.output.trans h.output, Nat.le_trans h.size h'.size, fun x hx hn =>
    (h'.block x (Nat.lt_of_lt_of_le hx h.size) fun hl => (hL x hl).elim hn (fun h => absurd hx (by omega))).trans (h.block x hx hn)⟩
theorem Fr.mono {L L' : Nat → Prop} {a b : World} (h : Fr L a b) (hL : ∀ x, L x → L' x) : Fr L' a b :=
  ⟨h.os, h.tape, h.output, h.size, fun x hx hn => h.block x hx fun hl => hn (hL x hl)⟩

structure Rel (E : Env) (γ : Ghs) (s : Nat → X) (o : Look) (tm : Array Value) (w : World) : Prop where
  slots : ∀ i, RX w (E.Sh γ w) γ (tm.getD i undef) (s i)
  objs : ∀ k ob, o k = some ob → RO w (E.Sh γ w) γ k ob
  inj : ∀ k k' b, b ∈ (γ k).bs → b ∈ (γ k').bs → k = k'
  lt : ∀ k b, b ∈ (γ k).bs → b < w.heap.size
  own : ∀ k b, b ∈ (γ k).bs → E.L0 b ∨ E.w0.heap.size ≤ b
  fr : Fr E.L0 E.w0 w
  args : ∀ r v, E.arg r = some v → tm.getD r undef = v

/-- From one world and its ghosts to the next. -/
structure Nx (γ : Ghs) (w : World) (γ' : Ghs) (w' : World) : Prop where
  fr : Fr (Lv γ) w w'
  new : ∀ b, Lv γ' b → Lv γ b ∨ w.heap.size ≤ b
theorem Nx.sh {E : Env} {γ γ' : Ghs} {w w' : World} (h : Nx γ w γ' w') {b : Nat} (hb : E.Sh γ w b) : E.Sh γ' w' b :=
  ⟨hb.1, Nat.lt_of_lt_of_le hb.2.1 h.fr.size, fun hl => (h.new b hl).elim hb.2.2 (fun h' => absurd hb.2.1 (by omega))⟩
theorem Nx.same {E : Env} {γ γ' : Ghs} {w w' : World} (h : Nx γ w γ' w') {b : Nat} (hb : E.Sh γ w b) : w'.heap[b]? = w.heap[b]? := h.fr.block b hb.2.1 hb.2.2
theorem Nx.rep {E : Env} {γ γ' : Ghs} {w w' : World} (h : Nx γ w γ' w') {v : Value} {y : Y} (hr : Rep w (E.Sh γ w) v y) : Rep w' (E.Sh γ' w') v y :=
  hr.mono (fun _ hb => h.sh hb) (fun _ hb => h.same hb)
theorem Nx.rp {E : Env} {γ γ' : Ghs} {w w' : World} (h : Nx γ w γ' w') {v : Value} {cs : List Y} (hr : RP w (E.Sh γ w) v cs) : RP w' (E.Sh γ' w') v cs :=
  hr.mono (fun _ hb => h.sh hb) (fun _ hb => h.same hb)
theorem Nx.refl (γ : Ghs) (w : World) : Nx γ w γ w := ⟨Fr.refl _ _, fun b h => .inl h⟩
theorem Nx.trans {γ γ' γ'' : Ghs} {w w' w'' : World} (h : Nx γ w γ' w') (h' : Nx γ' w' γ'' w'') : Nx γ w γ'' w'' :=
  ⟨h.fr.trans h'.fr h.new, fun b hb => (h'.new b hb).elim (fun hl => h.new b hl) (fun hs => .inr (Nat.le_trans h.fr.size hs))⟩

theorem mapCaps_spec {f : Nat → Option Nat} : ∀ {l l' : List Nat}, mapCaps f l = some l' → l'.length = l.length ∧ ∀ (i : Nat) (k' : Nat), l'[i]? = some k' → ∃ k : Nat, l[i]? = some k ∧ f k = some k'
  | [], l', h => by simp [mapCaps] at h; subst h; simp
  | k :: r, l', h => by
    simp only [mapCaps] at h
    split at h
    · rename_i k1 hk
      split at h
      · rename_i r1 hr
        simp at h; subst h
        obtain ⟨h1, h2⟩ := mapCaps_spec hr
        refine ⟨by simp [h1], fun i k' hi => ?_⟩
        cases i with
        | zero => simp at hi; subst hi; exact ⟨k, rfl, hk⟩
        | succ i => simpa using h2 i k' (by simpa using hi)
      · simp at h
    · simp at h

/-- The same whole, in other blocks. -/
def SameTr (G G' : Gh) : Prop := ∃ v l nd l' nd', G = .tr v l nd ∧ G' = .tr v l' nd'
/-- Keys turned by f, where γ' says of the new names what γ said of the old, or nothing. -/
theorem turns_mapK2 {E : Env} {γ γ' : Ghs} {w w' : World} (h : Nx γ w γ' w') (f : Nat → Option Nat) (hf : ∀ k k', f k = some k' → γ' k' = γ k ∨ γ' k' = .no ∨ SameTr (γ k) (γ' k')) :
    Turns w (E.Sh γ w) γ w' (E.Sh γ' w') γ' (C.mapK f) := by
  intro v c hc
  cases c with
  | no => trivial
  | y c => exact h.rep hc
  | mt es => exact hc
  | rp cs => exact h.rp hc
  | fv g l =>
    obtain ⟨vs, h1, h2, h3⟩ := hc
    exact ⟨vs, h1, h2, fun i cs hi => let ⟨u, h4, h5⟩ := h3 i cs hi; ⟨u, h4, h.rp h5⟩⟩
  | aw k =>
    simp only [C.mapK]
    cases hk : f k with
    | none => trivial
    | some k' =>
      simp only [RC] at hc ⊢
      rcases hf k k' hk with e | e | ⟨v', l1, n1, l2, n2, e1, e2⟩
      · rw [e]; exact hc
      · rw [e]; trivial
      · rw [e1] at hc; rw [e2]; first | exact hc | trivial
  | as k lo n =>
    simp only [C.mapK]
    cases hk : f k with
    | none => trivial
    | some k' =>
      simp only [RC] at hc ⊢
      rcases hf k k' hk with e | e | ⟨v', l1, n1, l2, n2, e1, e2⟩
      · rw [e]; exact hc
      · rw [e]; trivial
      · rw [e1] at hc; rw [e2]; first | exact hc | trivial
  | pb k j =>
    simp only [C.mapK]
    cases hk : f k with
    | none => trivial
    | some k' =>
      simp only [RC] at hc ⊢
      rcases hf k k' hk with e | e | ⟨v', l1, n1, l2, n2, e1, e2⟩
      · rw [e]; exact hc
      · rw [e]; trivial
      · rw [e1] at hc; rw [e2]; first | exact hc | trivial
  | pr k i j =>
    simp only [C.mapK]
    cases hk : f k with
    | none => trivial
    | some k' =>
      simp only [RC] at hc ⊢
      rcases hf k k' hk with e | e | ⟨v', l1, n1, l2, n2, e1, e2⟩
      · rw [e]; exact hc
      · rw [e]; trivial
      · rw [e1] at hc; rw [e2]; first | exact hc | trivial
  | fn g ks =>
    simp only [C.mapK]
    cases hk : mapCaps f ks with
    | none => trivial
    | some ks' =>
      obtain ⟨vs, h1, h2, h3⟩ := hc
      obtain ⟨h4, h5⟩ := mapCaps_spec hk
      refine ⟨vs, h1, by rw [h2, h4], fun i k' hi => ?_⟩
      obtain ⟨k, h6, h7⟩ := h5 i k' hi
      have := h3 i k h6
      rcases hf k k' h7 with e | e | ⟨v', l1, n1, l2, n2, e1, e2⟩
      · rw [e]; exact this
      · rw [e]; trivial
      · rw [e2]; trivial
theorem turns_mapK {E : Env} {γ γ' : Ghs} {w w' : World} (h : Nx γ w γ' w') (f : Nat → Option Nat) (hf : ∀ k k', f k = some k' → γ' k' = γ k ∨ γ' k' = .no) :
    Turns w (E.Sh γ w) γ w' (E.Sh γ' w') γ' (C.mapK f) := turns_mapK2 h f fun k k' e => (hf k k' e).imp id .inl
/-- Nothing renamed. -/
theorem turns_id {E : Env} {γ γ' : Ghs} {w w' : World} (h : Nx γ w γ' w') (hf : ∀ k, γ' k = γ k ∨ γ' k = .no) : Turns w (E.Sh γ w) γ w' (E.Sh γ' w') γ' (fun c => c) := by
  intro v c hc
  have := turns_mapK h some (fun k k' e => by cases e; exact hf k) v c hc
  have hm : ∀ l : List Nat, mapCaps some l = some l := fun l => by induction l with
    | nil => rfl
    | cons a r ih => simp [mapCaps, ih]
  cases c <;> simpa [C.mapK, hm] using this
end Go.Proofs.YthaelohccopgjaaW
/- Soundness, part 2: states turned. -/
namespace Go.Proofs.YthaelohccopgjaaW
variable {E : Env} {γ γ' : Ghs} {s s' : Nat → X} {o o' : Look} {tm : Array Value} {w w' : World}

/-- The one law of all turns: f says how what slots and boxes hold is renamed. -/
theorem Rel.go (h : Rel E γ s o tm w) (hn : Nx γ w γ' w') (f : C → C) (h0 : f .no = .no) (hf : Turns w (E.Sh γ w) γ w' (E.Sh γ' w') γ' f) (hs : ∀ i, s' i = (s i).mapC f)
    (ho : ∀ k b, o' k = some b → (∃ k0 b0, o k0 = some b0 ∧ b = b0.mapC f ∧ γ' k = γ k0 ∧ ∀ g, g ∈ (γ k0).bs → w'.heap[g]? = w.heap[g]?) ∨ RO w' (E.Sh γ' w') γ' k b)
    (hi : ∀ k k' b, b ∈ (γ' k).bs → b ∈ (γ' k').bs → k = k') (hl : ∀ k b, b ∈ (γ' k).bs → b < w'.heap.size) : Rel E γ' s' o' tm w' where
  slots i := by rw [hs]; exact hf.x h0 (h.slots i)
  objs k b hb := by
    rcases ho k b hb with ⟨k0, b0, h1, rfl, h2, h3⟩ | h1
    · have := h.objs k0 b0 h1
      cases b0 with
      | bx cs =>
        obtain ⟨g, hg, cur, e, hh, hc⟩ := this
        refine ⟨g, by rw [h2, hg], cur, e, ?_, hf.cs hc⟩
        rw [h3 g (by rw [hg]; first | rfl | exact Gh.in_bx | exact Gh.in_row)]; exact hh
      | ar es xs =>
        rcases this with ⟨hg, rfl⟩ | ⟨g, cap, n, hg, hr⟩
        · exact .inl ⟨by rw [h2, hg], rfl⟩
        · refine .inr ⟨g, cap, n, by rw [h2, hg], ⟨hr.len, hr.le, hr.max, hr.pos, hr.cpos, ?_⟩⟩
          obtain ⟨cur, e, fz, hh, hz, hs, hone, hc⟩ := hr.row
          refine ⟨cur, e, fz, by rw [h3 g (by rw [hg]; first | rfl | exact Gh.in_bx | exact Gh.in_row)]; exact hh, hz, hs, hone, fun i x hx => ⟨(hc i x hx).1, fun j y hy => ?_⟩⟩
          obtain ⟨u, h4, h5⟩ := (hc i x hx).2 j y hy
          exact ⟨u, h4, hn.rep h5⟩
      | op q =>
        obtain ⟨v, l, nd, hg, hr⟩ := this
        exact ⟨v, l, nd, by rw [h2, hg], hr.keep fun g hg' => h3 g (by rw [hg]; exact hg')⟩
    · exact h1
  inj := hi
  lt := hl
  own k b hb := (hn.new b ⟨k, hb⟩).elim (fun ⟨k', hk⟩ => h.own k' b hk) fun hb => .inr (Nat.le_trans h.fr.size hb)
  fr := h.fr.trans hn.fr fun x ⟨k, hk⟩ => h.own k x hk
  args := h.args

/-- No block that was there has turned. -/
theorem Nx.quiet (hq : Fr (fun _ => False) w w') : Nx γ w γ w' := ⟨hq.mono fun _ h => h.elim, fun b h => .inl h⟩

theorem Rel.quiet (h : Rel E γ s o tm w) (hq : Fr (fun _ => False) w w') : Rel E γ s o tm w' :=
  h.go (Nx.quiet hq) (fun c => c) rfl (turns_id (Nx.quiet hq) fun k => .inl rfl) (fun i => (X.mapC_id _).symm)
    (fun k b hb => .inl ⟨k, b, hb, (Ob.mapC_id _).symm, rfl, fun g hg => hq.block g (h.lt k g hg) (fun h => h)⟩) h.inj fun k b hb => Nat.lt_of_lt_of_le (h.lt k b hb) hq.size

/-- Less is said. -/
theorem Rel.weaken (h : Rel E γ s o tm w) (hs : ∀ i, s' i = s i ∨ s' i = .c .no) (ho : ∀ k b, o' k = some b → o k = some b) : Rel E γ s' o' tm w where
  slots i := by
    rcases hs i with e | e <;> rw [e]
    · exact h.slots i
    · exact ⟨trivial, .inl rfl⟩
  objs k b hb := h.objs k b (ho k b hb)
  inj := h.inj
  lt := h.lt
  own := h.own
  fr := h.fr
  args := h.args

/-- Some ghosts are let go; what is still spoken of keeps its own. -/
theorem Rel.forget (h : Rel E γ s o tm w) (hg : ∀ k, γ' k = γ k ∨ γ' k = .no) (ho : ∀ k b, o' k = some b → o k = some b ∧ γ' k = γ k) : Rel E γ' s o' tm w := by
  have hn : Nx γ w γ' w := ⟨Fr.refl _ _, fun b ⟨k, hk⟩ => .inl ⟨k, by rcases hg k with e | e <;> rw [e] at hk <;> first | exact hk | cases hk⟩⟩
  refine h.go hn (fun c => c) rfl (turns_id hn hg) (fun i => (X.mapC_id _).symm) (fun k b hb => .inl ⟨k, b, (ho k b hb).1, (Ob.mapC_id _).symm, (ho k b hb).2, fun _ _ => rfl⟩) ?_ ?_
  · intro k k' b h1 h2
    have r1 : b ∈ (γ k).bs := by rcases hg k with e | e <;> rw [e] at h1 <;> first | exact h1 | cases h1
    have r2 : b ∈ (γ k').bs := by rcases hg k' with e | e <;> rw [e] at h2 <;> first | exact h2 | cases h2
    exact h.inj k k' b r1 r2
  · intro k b h1
    have r1 : b ∈ (γ k).bs := by rcases hg k with e | e <;> rw [e] at h1 <;> first | exact h1 | cases h1
    exact h.lt k b r1

/-- A slot is written. -/
theorem Rel.put (h : Rel E γ s o tm w) {d : Nat} {v : Value} {x : X} (hx : RX w (E.Sh γ w) γ v x) (hd : d < tm.size) (ha : E.arg d = none) (hs : ∀ i, s' i = if d = i then x else s i) :
    Rel E γ s' o (tm.setIfInBounds d v) w where
  slots i := by
    rw [hs]
    by_cases e : d = i
    · subst e; simp [hd]; exact hx
    · have := h.slots i
      simp [e]
      simpa [Array.getElem?_setIfInBounds_ne e] using this
  objs := h.objs
  inj := h.inj
  lt := h.lt
  own := h.own
  fr := h.fr
  args r u hr := by
    have : d ≠ r := fun e => by subst e; rw [ha] at hr; cases hr
    have h2 := h.args r u hr
    simpa [Array.getElem?_setIfInBounds_ne this] using h2

theorem slot_put1 (s : List (Nat × X)) (d i : Nat) (x : X) : slot (put1 s d x) i = if d = i then x else slot s i := by
  simp only [slot, look1_put1]
  by_cases e : d = i <;> simp [e]
theorem slot_mapS (f : C → C) (hf : f .no = .no) (s : List (Nat × X)) (i : Nat) : slot (mapS f s) i = (slot s i).mapC f := by
  simp only [slot, look1_mapS]
  cases look1 s i <;> simp [X.mapC, hf]

theorem memN_iff (a : Nat) : ∀ l : List Nat, memN a l = true ↔ a ∈ l
  | [] => by simp [memN]
  | b :: r => by
    simp only [memN, beq_dec]
    by_cases e : a = b <;> simp [e, memN_iff a r]
theorem memN_false (a : Nat) (l : List Nat) : memN a l = false ↔ a ∉ l := by
  rw [← memN_iff]; simp
theorem look1_delL {α : Type} (ks : List Nat) : ∀ (s : List (Nat × α)) (j : Nat), look1 (delL ks s) j = if j ∈ ks then none else look1 s j
  | [], j => by simp [delL, look1]
  | (k, y) :: r, j => by
    simp only [delL]
    by_cases e : k ∈ ks
    · simp only [(memN_iff k ks).2 e, look1_delL ks r j, look1, beq_dec]
      by_cases h : k = j
      · subst h; simp [e]
      · simp [h]
    · simp only [(memN_false k ks).2 e, look1, beq_dec, look1_delL ks r j]
      by_cases h : k = j
      · subst h; simp [e]
      · simp [h]

theorem killF_some {k j j' : Nat} (h : killF k j = some j') : j' = j ∧ j ≠ k := by
  simp only [killF, beq_dec] at h
  by_cases e : j = k <;> simp [e] at h
  exact ⟨h.symm, e⟩
theorem killL_some {ks : List Nat} {j j' : Nat} (h : killL ks j = some j') : j' = j ∧ j ∉ ks := by
  simp only [killL] at h
  cases e : memN j ks <;> simp [e] at h
  exact ⟨h.symm, (memN_false j ks).1 e⟩

/-- k is killed, whatever its ghost was. -/
theorem Rel.kill {st : State} (k : Nat) (h : Rel E γ (slot st.s) (look1 st.o) tm w) :
    Rel E (fun j => if j = k then .no else γ j) (slot (st.kill k).s) (look1 (st.kill k).o) tm w := by
  have hn : Nx γ w (fun j => if j = k then .no else γ j) w := ⟨Fr.refl _ _, fun b ⟨j, hj⟩ => .inl ⟨j, by
    dsimp only at hj; by_cases e : j = k <;> simp [e, Gh.bs] at hj; exact hj⟩⟩
  refine h.go hn (C.mapK (killF k)) rfl (turns_mapK hn _ fun j j' e => ?_) (fun i => slot_mapS _ rfl _ _) (fun j b hb => .inl ?_) ?_ ?_
  · obtain ⟨rfl, h2⟩ := killF_some e
    exact .inl (by simp [h2])
  · simp only [State.kill, look1_mapO, look1_del1] at hb
    by_cases e : k = j
    · simp [e] at hb
    · simp [e] at hb
      obtain ⟨b0, h1, rfl⟩ := hb
      exact ⟨j, b0, h1, rfl, by simp [Ne.symm e], fun _ _ => rfl⟩
  · intro a b c h1 h2
    by_cases e : a = k <;> simp [e, Gh.bs] at h1
    by_cases e' : b = k <;> simp [e', Gh.bs] at h2
    exact h.inj a b c h1 h2
  · intro a b h1
    by_cases e : a = k <;> simp [e, Gh.bs] at h1
    exact h.lt a b h1

theorem renF_some {k k' j j' : Nat} (h : renF k k' j = some j') : (j = k ∧ j' = k') ∨ (j ≠ k ∧ j ≠ k' ∧ j' = j) := by
  simp only [renF, beq_dec] at h
  by_cases e : j = k
  · simp [e] at h; exact .inl ⟨e, h.symm⟩
  · by_cases e' : j = k'
    · subst e'; simp [e] at h
    · simp [e, e'] at h; exact .inr ⟨e, e', h.symm⟩

theorem Rel.ren {st : State} (k k' : Nat) (h : Rel E γ (slot st.s) (look1 st.o) tm w) : ∃ γ', Nx γ w γ' w ∧ (∀ j, j ≠ k' → γ' j = γ j ∨ γ' j = .no) ∧ Rel E γ' (slot (st.ren k k').s) (look1 (st.ren k k').o) tm w := by
  simp only [State.ren]
  cases hk : eqN k k' with
  | true => exact ⟨γ, Nx.refl _ _, fun j _ => .inl rfl, h⟩
  | false =>
    have hne : k ≠ k' := eqN_f hk
    cases ho : look1 st.o k with
    | none => exact ⟨_, ⟨Fr.refl _ _, fun b ⟨j, hj⟩ => .inl ⟨j, by dsimp only at hj; by_cases e : j = k <;> simp [e, Gh.bs] at hj; exact hj⟩⟩, fun j _ => by by_cases e : j = k <;> simp [e], h.kill k⟩
    | some b =>
      let γ' : Ghs := fun j => if j = k' then γ k else if j = k then .no else γ j
      have hn : Nx γ w γ' w := ⟨Fr.refl _ _, fun b ⟨j, hj⟩ => .inl (by
        dsimp only [γ'] at hj
        by_cases e : j = k'
        · simp [e] at hj; exact ⟨k, hj⟩
        · by_cases e' : j = k
          · simp [e, e', hne, Gh.bs] at hj
          · simp [e, e'] at hj; exact ⟨j, hj⟩)⟩
      refine ⟨γ', hn, fun j hj => by
        by_cases e : j = k
        · subst e; right; simp [γ', hj]
        · left; simp [γ', hj, e], h.go hn (C.mapK (renF k k')) rfl (turns_mapK hn _ fun j j' e => ?_) (fun i => slot_mapS _ rfl _ _) (fun j b' hb => .inl ?_) ?_ ?_⟩
      · rcases renF_some e with ⟨rfl, rfl⟩ | ⟨h1, h2, rfl⟩
        · exact .inl (by simp [γ'])
        · exact .inl (by simp [γ', h1, h2])
      · simp only [look1_put1, look1_mapO, look1_del1] at hb
        by_cases e : k' = j
        · simp [e] at hb; subst e
          exact ⟨k, b, ho, hb.symm, by simp [γ'], fun _ _ => rfl⟩
        · by_cases e' : k = j
          · simp [e, e'] at hb
          · simp [e, e'] at hb
            obtain ⟨b0, h1, rfl⟩ := hb
            exact ⟨j, b0, h1, rfl, by simp [γ', Ne.symm e, Ne.symm e'], fun _ _ => rfl⟩
      · intro a c d h1 h2
        dsimp only [γ'] at h1 h2
        by_cases ea : a = k'
        · by_cases ec : c = k'
          · rw [ea, ec]
          · simp [ea] at h1
            by_cases ec' : c = k
            · simp [ec', hne, Gh.bs] at h2
            · simp [ec, ec'] at h2
              exact absurd (h.inj k c d h1 h2) (Ne.symm ec')
        · by_cases ea' : a = k
          · simp [ea', hne, Gh.bs] at h1
          · simp [ea, ea'] at h1
            by_cases ec : c = k'
            · simp [ec] at h2
              exact absurd (h.inj a k d h1 h2) ea'
            · by_cases ec' : c = k
              · simp [ec', hne, Gh.bs] at h2
              · simp [ec, ec'] at h2
                exact h.inj a c d h1 h2
      · intro a b h1
        dsimp only [γ'] at h1
        by_cases ea : a = k'
        · simp [ea] at h1; exact h.lt k b h1
        · by_cases ea' : a = k
          · simp [ea', hne, Gh.bs] at h1
          · simp [ea, ea'] at h1; exact h.lt a b h1

theorem getElem?_lsub (xs : List (List Y)) (lo n : Int) (i : Nat) (x : List Y) (h : (prims.lsub xs lo n)[i]? = some x) : xs[lo.toNat + i]? = some x ∧ i < n.toNat := by
  simp only [prims, List.getElem?_take, List.getElem?_drop] at h
  by_cases e : i < n.toNat <;> simp [e] at h
  exact ⟨h, e⟩

/-- A row of the frame's own, read as a shared one: part of it. -/
theorem RowOk.rep {S S' : Nat → Prop} {g es cap n : Nat} {xs : List (List Y)} (h : RowOk w S g es cap n xs) (hS : ∀ b, S b → S' b) (hg : S' g) (lo m c : Nat) (hm : lo + m ≤ n) (hc : m ≤ c) :
    Rep w S' (.slice (some ⟨g, lo * es, none⟩) m c) (.sl es ((xs.drop lo).take m)) := by
  obtain ⟨cur, e, fz, hh, hz, hs, hone, hc'⟩ := h.row
  have hl : ((xs.drop lo).take m).length = m := by rw [List.length_take, List.length_drop, h.len]; omega
  have key : ∀ (i : Nat) (x : List Y), ((xs.drop lo).take m)[i]? = some x → xs[lo + i]? = some x := by
    intro i x hx
    simp only [List.getElem?_take, List.getElem?_drop] at hx
    split at hx
    · exact hx
    · cases hx
  have hex : ∀ (i : Nat) (x : List Y) (j : Nat) (y : Y), ((xs.drop lo).take m)[i]? = some x → x[j]? = some y → ∃ u, cur[(lo + i) * es + j]? = some u ∧ Rep w S u y :=
    fun i x j y hx hy => (hc' _ x (key i x hx)).2 j y hy
  have := @Rep.sl w S' g (lo * es) c es ((xs.drop lo).take m) (fun i j => (cur[(lo + i) * es + j]?).getD undef) hg (by rw [hl]; exact hc) h.pos
    (fun i x hx => (hc' _ x (key i x hx)).1) (fun i x j y hx hy => ?_) (fun i x j y hx hy => ?_)
  · rw [hl] at this; exact this
  · obtain ⟨u, h1, h2⟩ := hex i x j y hx hy
    have : lo * es + (i * es + j) = (lo + i) * es + j := by rw [Nat.add_mul]; omega
    simp only [World.cell?, hh, this, h1]
    rfl
  · obtain ⟨u, h1, h2⟩ := hex i x j y hx hy
    simp only [h1, Option.getD_some]
    exact h2.mono hS fun _ _ => rfl
end Go.Proofs.YthaelohccopgjaaW
/- Soundness, part 3: rows frozen, what is new, the table of types, operands. -/
namespace Go.Proofs.YthaelohccopgjaaW
variable {E : Env} {γ γ' : Ghs} {s s' : Nat → X} {o o' : Look} {tm : Array Value} {w w' : World}

theorem Nx.drop (γ : Ghs) (w : World) (k : Nat) : Nx γ w (fun j => if j = k then .no else γ j) w :=
  ⟨Fr.refl _ _, fun b ⟨j, hj⟩ => .inl ⟨j, by by_cases e : j = k <;> simp [e, Gh.bs] at hj; exact hj⟩⟩

theorem Rel.freeze {st : State} (k : Nat) (h : Rel E γ (slot st.s) (look1 st.o) tm w) :
    Rel E (fun j => if j = k then .no else γ j) (slot (st.freeze prims k).s) (look1 (st.freeze prims k).o) tm w := by
  simp only [State.freeze]
  cases ho : look1 st.o k with
  | none => exact h.kill k
  | some b =>
    cases b with
    | bx cs => exact h.kill k
    | op q => exact h.kill k
    | ar es xs =>
      have hr := h.objs k _ ho
      have hn := Nx.drop γ w k
      have hid := turns_id (E := E) hn (fun j => by by_cases e : j = k <;> simp [e])
      have hsh : ∀ g, g ∈ (γ k).bs → E.Sh (fun j => if j = k then .no else γ j) w g := fun g hg =>
        ⟨.inr (h.own k g hg), h.lt k g hg, fun ⟨j, hj⟩ => by
          by_cases e : j = k <;> simp [e, Gh.bs] at hj
          exact e (h.inj j k g hj hg)⟩
      have hS : ∀ b, E.Sh γ w b → E.Sh (fun j => if j = k then .no else γ j) w b := fun b hb => hn.sh hb
      refine h.go hn (C.freeze prims k es xs) rfl ?_ (fun i => slot_mapS _ rfl _ _) (fun j b hb => .inl ?_) ?_ ?_
      · intro v c hc
        cases c with
        | aw j =>
          simp only [C.freeze, beq_dec]
          by_cases e : j = k
          · subst e
            simp only [decide_true]
            simp only [RC] at hc
            rcases hr with ⟨hg, rfl⟩ | ⟨g, cap, n, hg, hr⟩
            · rw [hg] at hc
              obtain ⟨a, rfl⟩ := hc
              exact .sl0 a 0 es
            · rw [hg] at hc
              subst hc
              have := hr.rep (S' := E.Sh (fun i => if i = j then .no else γ i) w) hS (hsh g (by rw [hg]; first | rfl | exact Gh.in_bx | exact Gh.in_row)) 0 n cap (by omega) hr.le
              have h2 : Rep w (E.Sh (fun i => if i = j then .no else γ i) w) (.slice (some ⟨g, 0, none⟩) n cap) (.sl es xs) := by simpa [← hr.len] using this
              exact h2
          · simp only [e, decide_false]
            exact hid v (.aw j) hc
        | as j lo m =>
          simp only [C.freeze, beq_dec]
          by_cases e : j = k
          · subst e
            simp only [decide_true]
            simp only [RC] at hc
            rcases hr with ⟨hg, rfl⟩ | ⟨g, cap, n, hg, hr⟩
            · rw [hg] at hc
              obtain ⟨rfl, a, c, rfl⟩ := hc
              simp only [prims, List.drop_nil, List.take_nil]
              exact Rep.sl0 a c es
            · rw [hg] at hc
              obtain ⟨h1, h2, h3, c, h4, h5⟩ := hc
              rcases h5 with rfl | ⟨rfl, a, rfl⟩
              · exact hr.rep (S' := E.Sh (fun i => if i = j then .no else γ i) w) hS (hsh g (by rw [hg]; first | rfl | exact Gh.in_bx | exact Gh.in_row)) lo.toNat m.toNat c (by omega) h4
              · simp only [prims, Int.toNat_zero, List.take_zero]
                exact Rep.sl0 a c es
          · simp only [e, decide_false]
            exact hid v (.as j lo m) hc
        | pr j i c =>
          simp only [C.freeze, beq_dec]
          by_cases e : j = k
          · simp only [e, decide_true]; trivial
          · simp only [e, decide_false]
            exact hid v (.pr j i c) hc
        | _ => exact hid v _ hc
      · simp only [look1_mapO, look1_del1] at hb
        by_cases e : k = j
        · simp [e] at hb
        · simp [e] at hb
          obtain ⟨b0, h1, rfl⟩ := hb
          exact ⟨j, b0, h1, rfl, by simp [Ne.symm e], fun _ _ => rfl⟩
      · intro a b c h1 h2
        by_cases e : a = k <;> simp [e, Gh.bs] at h1
        by_cases e' : b = k <;> simp [e', Gh.bs] at h2
        exact h.inj a b c h1 h2
      · intro a b h1
        by_cases e : a = k <;> simp [e, Gh.bs] at h1
        exact h.lt a b h1

theorem Rel.freezes : ∀ (ks : List Nat) {st : State} {γ : Ghs}, Rel E γ (slot st.s) (look1 st.o) tm w →
    Rel E (fun j => if j ∈ ks then .no else γ j) (slot (Go.Proofs.YthaelohccopgjaaW.freezes prims ks st).s) (look1 (Go.Proofs.YthaelohccopgjaaW.freezes prims ks st).o) tm w
  | [], st, γ, h => by simpa [Go.Proofs.YthaelohccopgjaaW.freezes] using h
  | k :: r, st, γ, h => by
    have := Rel.freezes r (h.freeze k)
    simp only [Go.Proofs.YthaelohccopgjaaW.freezes]
    refine cast ?_ this
    congr 1
    funext j
    by_cases e : j = k
    · simp [e]
    · by_cases e' : j ∈ r <;> simp [e, e']

theorem Nx.drops (γ : Ghs) (w : World) (ks : List Nat) : Nx γ w (fun j => if j ∈ ks then .no else γ j) w :=
  ⟨Fr.refl _ _, fun b ⟨j, hj⟩ => .inl ⟨j, by dsimp only at hj; by_cases e : j ∈ ks <;> simp [e, Gh.bs] at hj; exact hj⟩⟩

theorem mem_newKs {d k : Nat} : ∀ {n : List (Nat × Ob)}, k ∈ newKs d n ↔ ∃ c b, (c, b) ∈ n ∧ k = key d c
  | [] => by simp [newKs]
  | (c, b) :: r => by
    simp only [newKs, List.mem_cons, mem_newKs (n := r)]
    constructor
    · rintro (rfl | ⟨c', b', h, rfl⟩)
      · exact ⟨c, b, .inl rfl, rfl⟩
      · exact ⟨c', b', .inr h, rfl⟩
    · rintro ⟨c', b', h | h, rfl⟩
      · cases h; exact .inl rfl
      · exact .inr ⟨c', b', h, rfl⟩
theorem look1_putsO (d : Nat) : ∀ (n : List (Nat × Ob)) (o : List (Nat × Ob)) (k : Nat) (b : Ob), look1 (putsO d n o) k = some b →
    (∃ c, (c, b) ∈ n ∧ k = key d c) ∨ (k ∉ newKs d n ∧ look1 o k = some b)
  | [], o, k, b, h => .inr ⟨by simp [newKs], h⟩
  | (c, b0) :: r, o, k, b, h => by
    simp only [putsO] at h
    rcases look1_putsO d r _ k b h with ⟨c', h1, rfl⟩ | ⟨h1, h2⟩
    · exact .inl ⟨c', .tail _ h1, rfl⟩
    · rw [look1_put1] at h2
      by_cases e : key d c = k
      · simp [e] at h2; subst h2; exact .inl ⟨c, .head _, e.symm⟩
      · simp [e] at h2
        exact .inr ⟨by simp [newKs, h1, Ne.symm e], h2⟩

/-- What is new, laid down at d: a call may have turned what was handed to it. -/
theorem Rel.news {st : State} (h : Rel E γ (slot st.s) (look1 st.o) tm w) (hn : Nx γ w γ' w') (d : Nat) (n : List (Nat × Ob))
    (hk : ∀ k, k ∉ newKs d n → γ' k = γ k ∨ γ' k = .no)
    (hold : ∀ k b, look1 st.o k = some b → k ∉ newKs d n → γ' k = γ k ∧ ∀ g, g ∈ (γ k).bs → w'.heap[g]? = w.heap[g]?)
    (hnew : ∀ c b, (c, b) ∈ n → RO w' (E.Sh γ' w') γ' (key d c) b)
    (hi : ∀ k k' b, b ∈ (γ' k).bs → b ∈ (γ' k').bs → k = k') (hl : ∀ k b, b ∈ (γ' k).bs → b < w'.heap.size) :
    Rel E γ' (slot (st.news d n).s) (look1 (st.news d n).o) tm w' := by
  cases n with
  | nil =>
    have hk' : ∀ k, γ' k = γ k ∨ γ' k = .no := fun k => hk k (by simp [newKs])
    exact h.go hn (fun c => c) rfl (turns_id hn hk') (fun i => (X.mapC_id _).symm) (fun k b hb => .inl ⟨k, b, hb, (Ob.mapC_id _).symm, (hold k b hb (by simp [newKs])).1, (hold k b hb (by simp [newKs])).2⟩) hi hl
  | cons q r =>
    refine h.go hn (C.mapK (killL (newKs d (q :: r)))) rfl (turns_mapK hn _ fun j j' e => ?_) (fun i => slot_mapS _ rfl _ _) (fun k b hb => ?_) hi hl
    · obtain ⟨rfl, h2⟩ := killL_some e
      exact hk _ h2
    · rcases look1_putsO d _ _ k b hb with ⟨c, h1, rfl⟩ | ⟨h1, h2⟩
      · exact .inr (hnew c b h1)
      · rw [look1_mapO, look1_delL] at h2
        simp [h1] at h2
        obtain ⟨b0, h3, rfl⟩ := h2
        exact .inl ⟨k, b0, h3, rfl, (hold k b0 h3 h1).1, (hold k b0 h3 h1).2⟩

/-! ### What the table says -/
/-- A zero's cells, as the table tells them. -/
def zeroC : List Value → List C → Prop
  | [], [] => True
  | v :: vs, c :: cs => (match c with
    | .mt _ => v = .slice none 0 0
    | .y (.sc u) => v = u ∧ u.oneCell' = true
    | _ => False) ∧ zeroC vs cs
  | _, _ => False
def isAggD : TypeDesc → Bool
  | .struct _ => true
  | .array .. => true
  | _ => false
def fldCmp (P : Program) : Nat → List Field → List Nat → Prop
  | _, [], [] => True
  | j, f :: fs, k :: ks => f.name ≠ "_" ∧ f.offset = j ∧ (k = 1 → ∃ i, P.underlying f.type = some (.int i)) ∧ (k = 2 → P.underlying f.type = some .string) ∧ (k = 3 → P.underlying f.type = some .bool) ∧ fldCmp P (j + 1) fs ks
  | _, _, _ => False
structure TyOk (P : Program) (t : TypeId) (i : TyI) : Prop where
  info : ∃ ti, P.info? t = some ti ∧ ti.size = i.cells ∧ ti.bytes = i.bytes ∧ ∃ z, ti.zero = some z ∧ zeroC z.cells.toList i.zero
  under : ∃ d, P.underlying t = some d ∧ i.agg = isAggD d
  el : ∀ e, i.el = some e → P.underlying t = some (.slice e.1) ∧ (∃ ti, P.info? e.1 = some ti ∧ ti.size = e.2.1 ∧ ti.bytes = e.2.2.1 ∧ ∃ z, ti.zero = some z ∧ z.cells.size = e.2.1 ∧ ∀ v ∈ z.cells.toList, v.oneCell' = true) ∧ (e.2.2.2 = true → P.underlying e.1 = some (.int .u8))
  str : i.str = true → P.underlying t = some .string
  bool : i.bool = true → P.underlying t = some .bool
  cmp : ∀ ks, i.cmp = some ks → ∃ fs, P.underlying t = some (.struct fs) ∧ P.stoodInHeld t = false ∧ P.eqGuardType P.depth t = false ∧ fldCmp P 0 fs.toList ks
  ptr : i.ptr = true → ∃ e, P.underlying t = some (.pointer e)
  ik : ∀ k, i.ik = some k → P.underlying t = some (.int k)
  flds : i.flds ≠ [] → ∃ fs : Array Field, P.underlying t = some (.struct fs) ∧ (fs.toList.mapM fun f => (P.info? f.type).map fun i => (f.offset, i.size)) = some (i.flds.map fun x => (x.1, x.2.1)) ∧ ∀ (j : Nat) (fl : Nat × Nat × Bool), i.flds[j]? = some fl → ∃ f : Field, fs[j]? = some f ∧ f.offset = fl.1 ∧ P.cellsOf f.type = fl.2.1 ∧
    (∃ ti, P.info? f.type = some ti) ∧ ∃ d, P.underlying f.type = some d ∧ fl.2.2 = isAggD d
def TabOk (P : Program) (T : Tab) : Prop := ∀ t i, T.ty t = some i → TyOk P t i
theorem TabOk.at {P : Program} {T : Tab} (h : TabOk P T) {t : TypeId} (hi : (T.at t).is = true) : TyOk P t (T.at t) := by
  simp only [Tab.at] at hi ⊢
  cases e : T.ty t with
  | none => rw [e] at hi; cases hi
  | some i => exact h t i e
theorem TabOk.el {P : Program} {T : Tab} (h : TabOk P T) {t : TypeId} {e : Nat × Nat × Nat × Bool} (he : (T.at t).el = some e) : TyOk P t (T.at t) := by
  simp only [Tab.at] at he ⊢
  cases e' : T.ty t with
  | none => rw [e'] at he; cases he
  | some i => exact h t i e'
theorem TabOk.of {P : Program} {T : Tab} (h : TabOk P T) {t : TypeId} (he : T.at t ≠ { cells := 0, is := false }) : TyOk P t (T.at t) := by
  simp only [Tab.at] at he ⊢
  cases e' : T.ty t with
  | none => rw [e'] at he; exact absurd rfl he
  | some i => exact h t i e'

/-! ### Operands -/
theorem ofConst_ok {S : Nat → Prop} (el : Option (Nat × Nat × Nat × Bool)) (v : Value) : RC w S γ v (ofConst el v) ∧ ((ofConst el v).isNo = true ∨ v.oneCell' = true) := by
  cases v <;> simp only [ofConst] <;> first | exact ⟨Rep.sc _ rfl, .inr rfl⟩ | exact ⟨trivial, .inl rfl⟩ | skip
  rename_i a n m
  cases a with
  | some a => exact ⟨trivial, .inl rfl⟩
  | none =>
    cases n with
    | succ n => exact ⟨trivial, .inl rfl⟩
    | zero =>
      cases m with
      | succ m => exact ⟨trivial, .inl rfl⟩
      | zero => cases el <;> exact ⟨⟨none, rfl⟩, .inr rfl⟩
theorem zipConst_ok (w : World) (γ : Ghs) (S : Nat → Prop) : ∀ (zs : List C) (vs : List Value), constOk zs vs = true → RCs w S γ vs (zipConst zs vs)
  | [], [], _ => trivial
  | z :: zs, v :: vs, h => by
    simp only [constOk] at h
    cases hv : v.oneCell' with
    | false => simp [hv] at h
    | true =>
      simp only [hv] at h
      have ih := zipConst_ok w γ S zs vs h
      cases z <;> exact ⟨⟨(ofConst_ok _ v).1, hv⟩, ih⟩
  | [], _ :: _, h => by simp [constOk] at h
  | _ :: _, [], h => by simp [constOk] at h
theorem Rel.opd {T : Tab} {a : Act} (h : Rel E γ s o a.tmps w) (t : TypeId) (x : Operand) : RX w (E.Sh γ w) γ (a.eval x) (opd T s t x) := by
  cases x with
  | tmp i => exact h.slots i
  | global g => exact ⟨trivial, .inl rfl⟩
  | func f => exact ⟨Rep.sc _ rfl, .inr rfl⟩
  | const v =>
    have key : ∀ u : Value, RX w (E.Sh γ w) γ u (.c (ofConst (T.at t).el u)) := fun u => ofConst_ok _ u
    cases v
    case agg cs =>
      simp only [Go.Proofs.YthaelohccopgjaaW.opd]
      cases e : constOk (T.at t).zero cs.toList with
      | true => exact ⟨cs, rfl, zipConst_ok _ _ _ _ _ e⟩
      | false => exact ⟨trivial, .inl rfl⟩
    all_goals exact key _
end Go.Proofs.YthaelohccopgjaaW
/- Soundness, part 4: contracts of calls; operations that turn nothing. -/
namespace Go.Proofs.YthaelohccopgjaaW

/-! ### Contracts -/
def RYs (w : World) (S : Nat → Prop) : List Value → List Y → Prop
  | [], [] => True
  | v :: vs, y :: ys => Rep w S v y ∧ RYs w S vs ys
  | _, _ => False
theorem RYs.rcs {w : World} {S : Nat → Prop} {γ : Ghs} : ∀ {vs : List Value} {ys : List Y}, RYs w S vs ys → RCs w S γ vs (mapY ys)
  | [], [], _ => trivial
  | _ :: _, _ :: _, h => ⟨⟨h.1, h.1.one⟩, h.2.rcs⟩
theorem RYs.mono {w : World} {S S' : Nat → Prop} (hm : ∀ v y, Rep w S v y → Rep w S' v y) : ∀ {vs : List Value} {ys : List Y}, RYs w S vs ys → RYs w S' vs ys
  | [], [], _ => trivial
  | _ :: _, _ :: _, h => ⟨hm _ _ h.1, RYs.mono hm h.2⟩
theorem RYs.mono1 {w : World} {S S' : Nat → Prop} : ∀ {vs : List Value} {ys : List Y}, RYs w S vs ys → (∀ y ∈ ys, ∀ v, Rep w S v y → Rep w S' v y) → RYs w S' vs ys
  | [], [], _, _ => trivial
  | _ :: _, y :: _, h, hm => ⟨hm y (.head _) _ h.1, h.2.mono1 (fun y hy => hm y (.tail _ hy))⟩
def RAC (w : World) (S : Nat → Prop) (g : Option Nat) (v : Value) (a : AC) (G : Gh) : Prop := match a with
  | .no => G = .no
  | .op _ => False
  | .self => G = .no ∧ ∃ b, g = some b ∧ v = .pointer (some ⟨b, 0, none⟩)
  | .y c => G = .no ∧ Rep w S v c
  | .own es xs => (G = .nil ∧ xs = [] ∧ ∃ a, v = .slice a 0 0) ∨ (∃ b cap n, G = .row b es cap n ∧ v = .slice (some ⟨b, 0, none⟩) n cap ∧ RowOk w S b es cap n xs) ∨
    (∃ b ys, es = 0 ∧ xs = [ys] ∧ G = .bx b ∧ v = .pointer (some ⟨b, 0, none⟩) ∧ ∃ (cur : Array Value) (e : TypeId), w.heap[b]? = some (.cells cur e (0, 0)) ∧ RYs w S cur.toList ys)
def RACs (w : World) (S : Nat → Prop) (g : Option Nat) : List Value → List AC → List Gh → Prop
  | [], [], [] => True
  | v :: vs, a :: as, G :: Gs => (RAC w S g v a G ∧ v.oneCell' = true) ∧ RACs w S g vs as Gs
  | _, _, _ => False
def RFv (w : World) (S : Nat → Prop) (v : Value) (f : FuncId) (l : List (List Y)) : Prop :=
  ∃ vs : Array Value, v = .func (.func f) #[] vs ∧ vs.size = l.length ∧ ∀ (i : Nat) (cs : List Y), l[i]? = some cs → ∃ u, vs[i]? = some u ∧ RP w S u cs
/-- What a box holds. -/
def RBox (w : World) (S : Nat → Prop) (b : Nat) (cs : List AC) (Gs : List Gh) : Prop :=
  ∃ (cur : Array Value) (e : TypeId), w.heap[b]? = some (.cells cur e (0, 0)) ∧ RACs w S (some b) cur.toList cs Gs
def RA (w : World) (S : Nat → Prop) (v : Value) (a : A) (Gs : List Gh) : Prop := match a with
  | .c a => ∃ G, Gs = [.no, G] ∧ RAC w S none v a G
  | .agg cs => ∃ (vs : Array Value) (Gs' : List Gh), v = .agg vs ∧ Gs = .no :: Gs' ∧ RACs w S none vs.toList cs Gs'
  | .io cs => ∃ (b : Nat) (Gs' : List Gh), v = .pointer (some ⟨b, 0, none⟩) ∧ Gs = .bx b :: Gs' ∧ RBox w S b cs Gs'
  | .iop q => ∃ l nd, Gs = [.tr v l nd] ∧ ROp w v l q
  | .ir b cs => ∃ Gs' : List Gh, Gs = .no :: Gs' ∧ match b with
    | true => ∃ vs : Array Value, v = .agg vs ∧ RACs w S none vs.toList cs Gs'
    | false => RACs w S none [v] cs Gs'
  | .rp cs => Gs = [] ∧ RP w S v cs
  | .fv f l => Gs = [] ∧ RFv w S v f l
def RAs (w : World) (S : Nat → Prop) : List Value → List A → List (List Gh) → Prop
  | [], [], [] => True
  | v :: vs, a :: as, G :: Gs => RA w S v a G ∧ RAs w S vs as Gs
  | _, _, _ => False
def blocks (Gs : List Gh) : List Nat := Gs.flatMap Gh.bs
def RTup (w : World) (S : Nat → Prop) : List Value → List (Bool × List AC) → List Gh → Prop
  | [], [], [] => True
  | v :: vs, q :: qs, Gs => ∃ G1 G2, Gs = G1 ++ G2 ∧ (match q.1 with
      | true => ∃ us : Array Value, v = .agg us ∧ RACs w S none us.toList q.2 G1
      | false => ∃ a G, q.2 = [a] ∧ G1 = [G] ∧ RAC w S none v a G) ∧ RTup w S vs qs G2
  | _, _, _ => False
def RR (w : World) (S : Nat → Prop) (v : Value) (r : RV) (Gs : List Gh) : Prop := match r with
  | .c a => ∃ G, Gs = [G] ∧ RAC w S none v a G
  | .agg cs => ∃ vs : Array Value, v = .agg vs ∧ RACs w S none vs.toList cs Gs
  | .tup l => ∃ vs : Array Value, v = .tuple vs ∧ RTup w S vs.toList l Gs
/-- What is given back: a box, or rows that stay where they are. -/
inductive Ho where
  | bx (b : Nat)
  | op (v : Value)
  | rows (Gs : List Gh)
def Ho.gs : Ho → List Gh
  | .bx b => [.bx b]
  | .op _ => []
  | .rows Gs => Gs
/-- Rows that stay where they are. -/
def ROw1 (w : World) (S : Nat → Prop) (G : Gh) (a : AC) : Prop := match G with
  | .row b es cap n => ∃ xs, a = .own es xs ∧ RowOk w S b es cap n xs
  | .nil => ∃ es, a = .own es []
  | _ => True
def ROwn (w : World) (S : Nat → Prop) : List Gh → List AC → Prop
  | [], [] => True
  | G :: Gs, a :: as => ROw1 w S G a ∧ ROwn w S Gs as
  | _, _ => False
def ROuts (w : World) (S : Nat → Prop) : List Ho → List (List AC) → List (List Gh) → Prop
  | [], [], [] => True
  | b :: bs, cs :: r, G :: Gs => (match b with
    | .bx b => RBox w S b cs G
    | .op v => ∃ q l nd, cs = [.op q] ∧ G = [.tr v l nd] ∧ ROp w v l q
    | .rows Gs => G = [] ∧ ROwn w S Gs cs) ∧ ROuts w S bs r Gs
  | _, _, _ => False
/-- What is given back among the arguments. -/
def ioG : List A → List (List Gh) → List Ho
  | .io _ :: as, (.bx b :: _) :: Gs => .bx b :: ioG as Gs
  | .iop _ :: as, (.tr v _ _ :: _) :: Gs => .op v :: ioG as Gs
  | .ir _ _ :: as, (_ :: G) :: Gs => .rows G :: ioG as Gs
  | _ :: as, _ :: Gs => ioG as Gs
  | _, _ => []
def ioB (as : List A) (Gs : List (List Gh)) : List Nat := blocks ((ioG as Gs).flatMap Ho.gs)
/-- What a call comes to: of a function of the program, or of one for which the model stands in. -/
def Runs (P : Program) (f : FuncId) (args : Array Value) (w : World) (R : Ending → World → Prop) : Prop :=
  ((∃ fn c, P.funcs[f]? = some fn ∧ fn.body = some c ∧ (fn.name == "runtime.NumGoroutine") = false) ∧ Calls P f args w R) ∨
  ((∃ fn, P.funcs[f]? = some fn ∧ fn.body = none) ∧ ∃ v, (callFunc f args).run P w = .ok (.value v) w ∧ R (.returned v) w)
theorem Runs.mono {P : Program} {f : FuncId} {args : Array Value} {w : World} {R R' : Ending → World → Prop} (h : Runs P f args w R) (hr : ∀ e w', R e w' → R' e w') : Runs P f args w R' :=
  h.elim (fun h => .inl ⟨h.1, h.2.mono hr⟩) fun ⟨h1, v, h2, h3⟩ => .inr ⟨h1, v, h2, hr _ _ h3⟩
structure CallOK (P : Program) (f : FuncId) (as : List A) (r : Res) : Prop where
  out : ∀ (w : World) (vs : List Value) (Gs : List (List Gh)) (S : Nat → Prop), RAs w S vs as Gs → (∀ b, S b → b < w.heap.size ∧ b ∉ blocks Gs.flatten) → (blocks Gs.flatten).Nodup →
    (∀ b ∈ blocks Gs.flatten, b < w.heap.size) → (∀ G ∈ Gs, G.length ≤ 950) →
    Runs P f vs.toArray w fun e w' => ∃ (v : Value) (Gr : List Gh) (Go : List (List Gh)), e = .returned v ∧ Fr (fun b => b ∈ blocks Gs.flatten) w w' ∧
      (blocks (Gr ++ Go.flatten) ++ ioB as Gs).Nodup ∧ (∀ b ∈ blocks (Gr ++ Go.flatten), (b ∈ blocks Gs.flatten ∨ w.heap.size ≤ b) ∧ b < w'.heap.size) ∧
      RR w' (fun b => (S b ∨ b ∈ blocks Gs.flatten ∨ w.heap.size ≤ b) ∧ b < w'.heap.size ∧ b ∉ blocks (Gr ++ Go.flatten) ++ ioB as Gs) v r.val Gr ∧
      ROuts w' (fun b => (S b ∨ b ∈ blocks Gs.flatten ∨ w.heap.size ≤ b) ∧ b < w'.heap.size ∧ b ∉ blocks (Gr ++ Go.flatten) ++ ioB as Gs) (ioG as Gs) r.outs Go
/-- What holds of a call's result, and of what it gives back. -/
structure CallQ (P : Program) (f : FuncId) (as : List A) (Q : Res → Prop) : Prop where
  out : ∀ (w : World) (vs : List Value) (Gs : List (List Gh)) (S : Nat → Prop), RAs w S vs as Gs → (∀ b, S b → b < w.heap.size ∧ b ∉ blocks Gs.flatten) → (blocks Gs.flatten).Nodup →
    (∀ b ∈ blocks Gs.flatten, b < w.heap.size) → (∀ G ∈ Gs, G.length ≤ 950) →
    Runs P f vs.toArray w fun e w' => ∃ r, Q r ∧ ∃ (v : Value) (Gr : List Gh) (Go : List (List Gh)), e = .returned v ∧ Fr (fun b => b ∈ blocks Gs.flatten) w w' ∧
      (blocks (Gr ++ Go.flatten) ++ ioB as Gs).Nodup ∧ (∀ b ∈ blocks (Gr ++ Go.flatten), (b ∈ blocks Gs.flatten ∨ w.heap.size ≤ b) ∧ b < w'.heap.size) ∧
      RR w' (fun b => (S b ∨ b ∈ blocks Gs.flatten ∨ w.heap.size ≤ b) ∧ b < w'.heap.size ∧ b ∉ blocks (Gr ++ Go.flatten) ++ ioB as Gs) v r.val Gr ∧
      ROuts w' (fun b => (S b ∨ b ∈ blocks Gs.flatten ∨ w.heap.size ≤ b) ∧ b < w'.heap.size ∧ b ∉ blocks (Gr ++ Go.flatten) ++ ioB as Gs) (ioG as Gs) r.outs Go
theorem CallOK.q {P : Program} {f : FuncId} {as : List A} {r : Res} (h : CallOK P f as r) {Q : Res → Prop} (hq : Q r) : CallQ P f as Q :=
  ⟨fun w vs Gs S h1 h2 h3 h4 h5 => (h.out w vs Gs S h1 h2 h3 h4 h5).mono fun _ _ h => ⟨r, hq, h⟩⟩
theorem CallQ.one {P : Program} {f : FuncId} {as : List A} {r : Res} (h : CallQ P f as fun r' => r' = r) : CallOK P f as r :=
  ⟨fun w vs Gs S h1 h2 h3 h4 h5 => (h.out w vs Gs S h1 h2 h3 h4 h5).mono fun _ _ ⟨r', e, h⟩ => e ▸ h⟩
theorem CallQ.mono {P : Program} {f : FuncId} {as : List A} {Q Q' : Res → Prop} (h : CallQ P f as Q) (hq : ∀ r, Q r → Q' r) : CallQ P f as Q' :=
  ⟨fun w vs Gs S h1 h2 h3 h4 h5 => (h.out w vs Gs S h1 h2 h3 h4 h5).mono fun _ _ ⟨r', e, h⟩ => ⟨r', hq _ e, h⟩⟩
def CallC (P : Program) (f : FuncId) (as : List A) (q : RQ) : Prop := match q with
  | .one r => CallOK P f as r
  | .many Q => CallQ P f as Q
theorem CallC.q {P : Program} {f : FuncId} {as : List A} {q : RQ} (h : CallC P f as q) {K : Res → Prop} (k : q.all K) : CallQ P f as K := by
  cases q with
  | one r => exact CallOK.q h k
  | many Q => exact CallQ.mono h k

/-! ### What an operation that turns nothing ends in -/
variable {P : Program} {T : Tab} {E : Env} {γ γ' : Ghs} {s s' : Nat → X} {o o' : Look} {tm : Array Value} {w w' : World}
structure QRes (E : Env) (γ : Ghs) (w : World) (d : Nat) (x : X) (n : List (Nat × Ob)) (v : Value) (γ' : Ghs) (w' : World) : Prop where
  fr : Fr (fun _ => False) w w'
  off : ∀ k, k ∉ newKs d n → γ' k = γ k
  fresh : ∀ k b, k ∈ newKs d n → b ∈ (γ' k).bs → w.heap.size ≤ b ∧ b < w'.heap.size
  inj : ∀ k k' b, k ∈ newKs d n → k' ∈ newKs d n → b ∈ (γ' k).bs → b ∈ (γ' k').bs → k = k'
  x : RX w' (E.Sh γ' w') γ' v x
  obs : ∀ c b, (c, b) ∈ n → RO w' (E.Sh γ' w') γ' (key d c) b

theorem QRes.plain {d : Nat} {x : X} {v : Value} (hx : RX w (E.Sh γ w) γ v x) : QRes E γ w d x [] v γ w where
  fr := Fr.refl _ _
  off _ _ := rfl
  fresh k b h := by simp [newKs] at h
  inj k k' b h := by simp [newKs] at h
  x := hx
  obs c b h := by simp at h

theorem QRes.cell {d : Nat} (a : C) {v : Value} (hx : RC w (E.Sh γ w) γ v a) (h1 : v.oneCell' = true) : QRes E γ w d (.c a) [] v γ w := QRes.plain ⟨hx, .inr h1⟩

/-- One new row, or box. -/
theorem QRes.one {d c : Nat} {x : X} {b : Ob} {v : Value} {G : Gh} (hf : Fr (fun _ => False) w w') (hG : ∀ g, g ∈ G.bs → w.heap.size ≤ g ∧ g < w'.heap.size)
    (hx : RX w' (E.Sh (fun k => if k = key d c then G else γ k) w') (fun k => if k = key d c then G else γ k) v x)
    (hb : RO w' (E.Sh (fun k => if k = key d c then G else γ k) w') (fun k => if k = key d c then G else γ k) (key d c) b) :
    QRes E γ w d x [(c, b)] v (fun k => if k = key d c then G else γ k) w' where
  fr := hf
  off k h := by simp [newKs] at h; simp [h]
  fresh k g h hg := by
    simp [newKs] at h
    simp [h] at hg
    exact hG g hg
  inj k k' g h h' _ _ := by
    simp [newKs] at h h'
    rw [h, h']
  x := hx
  obs c' b' h := by
    simp at h
    obtain ⟨rfl, rfl⟩ := h
    exact hb

/-- What the run of an operation comes to. -/
def QOp (P : Program) (E : Env) (γ : Ghs) (w : World) (d : Nat) (r : Result Value) (K : QK) : Prop :=
  ∃ x n v γ' w', r = .ok v w' ∧ QRes E γ w d x n v γ' w' ∧ K x n

theorem chk_iff {b : Bool} {K : Prop} : chk b K ↔ b = true ∧ K := by cases b <;> simp [chk, brk]
theorem brk_iff {b : Bool} {K L : Prop} : brk b K L ↔ (b = true ∧ K) ∨ (b = false ∧ L) := by cases b <;> simp [brk]
theorem br_iff {b : Bool} {K L : Unit → Prop} : br b K L ↔ (b = true ∧ K ()) ∨ (b = false ∧ L ()) := by cases b <;> simp [br]
theorem br_b (b : Bool) (K : Value → Prop) : br b (fun _ => K (.bool true)) (fun _ => K (.bool false)) = K (.bool b) := by cases b <;> rfl
theorem br_nb (b : Bool) (K : Value → Prop) : br b (fun _ => K (.bool false)) (fun _ => K (.bool true)) = K (.bool (!b)) := by cases b <;> rfl
theorem br_q (b : Bool) (K : X → Prop) : br b (fun _ => K (sc (.bool true))) (fun _ => K (sc (.bool false))) = K (sc (.bool b)) := by cases b <;> rfl
theorem br_nq (b : Bool) (K : X → Prop) : br b (fun _ => K (sc (.bool false))) (fun _ => K (sc (.bool true))) = K (sc (.bool (!b))) := by cases b <;> rfl
theorem br_nx (b : Bool) (K : X → List (Nat × Ob) → Prop) : br b (fun _ => K (sc (.bool false)) []) (fun _ => K (sc (.bool true)) []) = K (sc (.bool (!b))) [] := by cases b <;> rfl
theorem eqb_eq (a b : Bool) : eqb a b = (a == b) := by cases a <;> cases b <;> rfl
theorem asSc_iff {x : X} {K : Value → Prop} : asSc x K ↔ ∃ v, x = .c (.y (.sc v)) ∧ K v := by
  cases x with
  | c a => cases a with
    | y c => cases c <;> simp [asSc]
    | _ => simp [asSc]
  | _ => simp [asSc]
theorem asI_iff {x : X} {K : Int → Prop} : asI x K ↔ ∃ k n, x = .c (.y (.sc (.int k n))) ∧ K n := by
  simp only [asI, asSc_iff]
  constructor
  · rintro ⟨v, rfl, h⟩
    cases v <;> simp at h
    exact ⟨_, _, rfl, h⟩
  · rintro ⟨k, n, rfl, h⟩
    exact ⟨_, rfl, h⟩
theorem asB_iff {x : X} {K : Bool → Prop} : asB x K ↔ ∃ b, x = .c (.y (.sc (.bool b))) ∧ K b := by
  simp only [asB, asSc_iff]
  constructor
  · rintro ⟨v, rfl, h⟩
    cases v <;> simp at h
    exact ⟨_, rfl, h⟩
  · rintro ⟨b, rfl, h⟩
    exact ⟨_, rfl, h⟩
theorem asC_iff {x : X} {K : C → Prop} : asC x K ↔ ∃ a, x = .c a ∧ K a := by
  cases x <;> simp [asC]
theorem boxAt_iff {k : Nat} {K : List C → Prop} : boxAt o k K ↔ ∃ cs, o k = some (.bx cs) ∧ K cs := by
  simp only [boxAt]
  cases o k with
  | none => simp
  | some b => cases b <;> simp
theorem rowAt_iff {k : Nat} {K : Nat → List (List Y) → Prop} : rowAt o k K ↔ ∃ es xs, o k = some (.ar es xs) ∧ K es xs := by
  simp only [rowAt]
  cases o k with
  | none => simp
  | some b =>
    cases b with
    | bx cs => simp
    | op q => simp
    | ar es xs => exact ⟨fun h => ⟨es, xs, rfl, h⟩, fun ⟨_, _, h, h'⟩ => by cases h; exact h'⟩
theorem nth_iff {α : Type} {K : α → Prop} : ∀ {l : List α} {n : Nat}, nth l n K ↔ ∃ x, l[n]? = some x ∧ K x
  | [], n => by simp [nth]
  | x :: r, 0 => by simp [nth]
  | x :: r, n + 1 => by simp [nth, nth_iff (l := r) (n := n)]
theorem takeN_iff {α : Type} {K : List α → Prop} : ∀ {n : Nat} {l : List α}, takeN n l K ↔ n ≤ l.length ∧ K (l.take n)
  | 0, l => by simp [takeN]
  | n + 1, [] => by simp [takeN]
  | n + 1, x :: r => by simp [takeN, takeN_iff (n := n) (l := r)]
theorem dropN_eq {α : Type} : ∀ (n : Nat) (l : List α), dropN n l = l.drop n
  | 0, l => by simp [dropN]
  | n + 1, [] => by simp [dropN]
  | n + 1, x :: r => by simp [dropN, dropN_eq n r]
theorem lenN_eq {α : Type} : ∀ (l : List α), lenN l = l.length
  | [] => rfl
  | _ :: r => by simp [lenN, lenN_eq r]
theorem mapY_eq : ∀ (l : List Y), mapY l = l.map C.y
  | [] => rfl
  | _ :: r => by simp [mapY, mapY_eq r]

theorem rx_sc {S : Nat → Prop} {v : Value} {u : Value} (h : RX w S γ v (.c (.y (.sc u)))) : v = u := by
  cases h.1; rfl
theorem qres_sc {d : Nat} (u : Value) (h : u.oneCell' = true) : QRes E γ w d (sc u) [] u γ w := QRes.plain ⟨Rep.sc _ h, .inr h⟩
end Go.Proofs.YthaelohccopgjaaW
/- Soundness, part 5: operations of plain values. -/
namespace Go.Proofs.YthaelohccopgjaaW
variable {P : Program} {T : Tab} {E : Env} {γ γ' : Ghs} {s s' : Nat → X} {o o' : Look} {tm : Array Value} {w w' : World}

theorem kEq_iff {a b : IntKind} : kEq a b = true ↔ a = b := by cases a <;> cases b <;> simp [kEq]

theorem binOp_int {op : BinOp} {k : IntKind} {a b : Int} {K : Value → Prop} (t : TypeId) (h1 : op ≠ .shl) (h2 : op ≠ .shr) (h : vInt prims op k a b K) :
    ∃ v, (binOp op t (.int k a) (.int k b)).run P w = .ok v w ∧ v.oneCell' = true ∧ K v := by
  cases op <;> simp only [vInt, br_b, br_nb, brk_iff, and_false, false_or, ne_eq, not_true, reduceCtorEq] at h h1 h2
  case quo => exact ⟨.int k (prims.quo k a b), by simp [binOp, Op.intDiv, show b ≠ 0 by simpa [prims] using h.1]; rfl, rfl, h.2⟩
  case rem => exact ⟨.int k (prims.rem k a b), by simp [binOp, Op.intDiv, show b ≠ 0 by simpa [prims] using h.1]; rfl, rfl, h.2⟩
  case gtr => exact ⟨.bool (prims.lt b a), by simp [binOp, Op.intCmp]; rfl, rfl, h⟩
  case geq => exact ⟨.bool (prims.le b a), by simp [binOp, Op.intCmp]; rfl, rfl, h⟩
  case neq => exact ⟨.bool (!(prims.eq a b)), by simp [binOp, Op.intCmp]; rfl, rfl, h⟩
  case andNot => exact ⟨.int k (prims.andNot k a b), by simp only [binOp, Op.intBits, ne_eq, not_true, if_false]; rfl, rfl, h⟩
  case and => exact ⟨.int k (prims.and k a b), by simp only [binOp, Op.intBits, ne_eq, not_true, if_false]; rfl, rfl, h⟩
  case or => exact ⟨.int k (prims.or k a b), by simp only [binOp, Op.intBits, ne_eq, not_true, if_false]; rfl, rfl, h⟩
  case xor => exact ⟨.int k (prims.xor k a b), by simp only [binOp, Op.intBits, ne_eq, not_true, if_false]; rfl, rfl, h⟩
  all_goals first
    | exact h.elim
    | exact ⟨_, by simp [binOp, Op.intArith, Op.intCmp]; rfl, rfl, h⟩

theorem binOp_str {op : BinOp} {a b : ByteArray} {K : Value → Prop} (t : TypeId) (h : vStr prims op a b K) :
    ∃ v, (binOp op t (.string a) (.string b)).run P w = .ok v w ∧ v.oneCell' = true ∧ K v := by
  cases op <;> simp only [vStr, br_b, br_nb, chk_iff] at h
  case add =>
    have hc : a.size + b.size ≤ 9223372036854775807 := by simpa [prims] using h.1
    refine ⟨.string (prims.cat a b), ?_, rfl, h.2⟩
    have hm : ((9223372036854775807 : Nat) : Int) = IntKind.i64.max := by decide
    have : ¬ (((a.size + b.size : Nat) : Int) > IntKind.i64.max) := by omega
    simp only [binOp, Op.stringOp, this, if_false]; rfl
  all_goals first
    | exact h.elim
    | exact ⟨_, by simp only [binOp, Op.stringOp]; rfl, rfl, h⟩

theorem run_equalIn_bool (d : Nat) {t : TypeId} (ht : P.underlying t = some .bool) (a b : Bool) : (Op.equalIn (d + 1) t (.bool a) (.bool b)).run P w = .ok (a == b) w := by
  simp [Op.equalIn, run_underlying ht]
theorem run_equal_bool {t : TypeId} (ht : P.underlying t = some .bool) (a b : Bool) : (Op.equal t (.bool a) (.bool b)).run P w = .ok (a == b) w := run_equalIn_bool 9999 ht a b
theorem run_equalIn_nils (d : Nat) {t e : TypeId} (ht : P.underlying t = some (.pointer e)) (b : Option Addr) : (Op.equalIn (d + 1) t (.pointer none) (.pointer b)).run P w = .ok b.isNone w := by
  simp [Op.equalIn, run_underlying ht]
theorem run_equal_nils {t e : TypeId} (ht : P.underlying t = some (.pointer e)) (b : Option Addr) : (Op.equal t (.pointer none) (.pointer b)).run P w = .ok b.isNone w := run_equalIn_nils 9999 ht b
theorem run_equalIn_nil (d : Nat) {t e : TypeId} (ht : P.underlying t = some (.pointer e)) (a : Addr) : (Op.equalIn (d + 1) t (.pointer (some a)) (.pointer none)).run P w = .ok false w := by
  simp [Op.equalIn, run_underlying ht]
theorem run_equal_nil {t e : TypeId} (ht : P.underlying t = some (.pointer e)) (a : Addr) : (Op.equal t (.pointer (some a)) (.pointer none)).run P w = .ok false w := run_equalIn_nil 9999 ht a

theorem binOp_vals {op : BinOp} {a b : Value} {K : Value → Prop} (t : TypeId) {tb tp : Bool} (hb : tb = true → P.underlying t = some .bool)
    (hp : tp = true → ∃ e, P.underlying t = some (.pointer e)) (h : vBin prims tb tp op a b K) :
    ∃ v, (binOp op t a b).run P w = .ok v w ∧ v.oneCell' = true ∧ K v := by
  cases a <;> simp only [vBin] at h
  case int j a =>
    cases b <;> simp only at h
    case int k b =>
      by_cases h1 : op = .shl
      · subst h1
        simp only [brk_iff, and_false, false_or] at h
        exact ⟨.int j (prims.shl j a b), by simp [binOp, Op.shift, show ¬ b < 0 by simpa [prims] using h.1]; rfl, rfl, h.2⟩
      · by_cases h2 : op = .shr
        · subst h2
          simp only [brk_iff, and_false, false_or] at h
          exact ⟨.int j (prims.shr j a b), by simp [binOp, Op.shift, show ¬ b < 0 by simpa [prims] using h.1]; rfl, rfl, h.2⟩
        · have h3 : kEq j k = true ∧ vInt prims op k a b K := by
            cases op <;> simp only [chk_iff, ne_eq, not_true, reduceCtorEq] at h h1 h2 <;> exact h
          obtain ⟨h4, h5⟩ := h3
          rw [kEq_iff] at h4
          subst h4
          exact binOp_int t h1 h2 h5
    all_goals exact h.elim
  case string a =>
    cases b <;> simp only at h
    case string b => exact binOp_str t h
    all_goals exact h.elim
  case bool a =>
    cases b <;> simp only at h
    case bool b =>
      rw [chk_iff] at h
      obtain ⟨h0, h⟩ := h
      have ht := hb h0
      cases op <;> simp only [vBool, br_b, br_nb, eqb_eq] at h
      case eql => exact ⟨.bool (prims.beq a b), by simp only [binOp, Sem.run_bind, run_equal_bool ht, Result.andThen_ok, Sem.run_pure]; rfl, rfl, h⟩
      case neq => exact ⟨.bool (prims.bnot (prims.beq a b)), by simp only [binOp, Sem.run_bind, run_equal_bool ht, Result.andThen_ok, Sem.run_pure]; rfl, rfl, h⟩
      all_goals exact h.elim
    all_goals exact h.elim
  case pointer a =>
    cases a with
    | some a => exact h.elim
    | none =>
    cases b <;> simp only at h
    case pointer b =>
      cases b with
      | some b => exact h.elim
      | none =>
      rw [chk_iff] at h
      obtain ⟨h0, h⟩ := h
      obtain ⟨e, ht⟩ := hp h0
      cases op <;> simp only [isEql] at h
      case eql => exact ⟨.bool true, by simp only [binOp, Sem.run_bind, run_equal_nils ht, Result.andThen_ok, Sem.run_pure]; rfl, rfl, h⟩
      case neq => exact ⟨.bool false, by simp only [binOp, Sem.run_bind, run_equal_nils ht, Result.andThen_ok, Sem.run_pure]; rfl, rfl, h⟩
      all_goals exact h.elim
    all_goals exact h.elim
  all_goals exact h.elim
end Go.Proofs.YthaelohccopgjaaW
/- Soundness, part 6: new boxes, structs, loads, places. -/
namespace Go.Proofs.YthaelohccopgjaaW
variable {P : Program} {T : Tab} {E : Env} {γ γ' : Ghs} {s s' : Nat → X} {o o' : Look} {tm : Array Value} {w w' : World}

theorem key_inj {d c c' : Nat} : key d c = key d c' ↔ c = c' := by simp [key]
theorem Fr.alloc (w : World) (ob : Obj) : Fr (fun _ => False) w (w.alloc ob) := ⟨rfl, rfl, rfl, by simp, fun k hk _ => heap_alloc_old w ob hk⟩
theorem Value.cells_one {v : Value} (h : v.oneCell' = true) : v.cells = #[v] := by cases v <;> simp [Value.cells, Value.oneCell'] at *
theorem RX.cells {S : Nat → Prop} {v : Value} {x : X} (h : RX w S γ v x) (h1 : x.isNo = false) (h2 : ∀ l, x ≠ .tup l) : RCs w S γ v.cells.toList x.cells := by
  cases x with
  | c a =>
    obtain ⟨h3, h4⟩ := h
    simp only [X.isNo] at h1
    rw [h1] at h4
    have h5 : v.oneCell' = true := by simpa using h4
    rw [Value.cells_one h5]
    exact ⟨⟨h3, h5⟩, trivial⟩
  | agg cs => obtain ⟨vs, rfl, h3⟩ := h; exact h3
  | tup l => exact absurd rfl (h2 l)

theorem mem_layCs {d : Nat} : ∀ {cs : List C} {j : Nat} {c : Nat} {b : Ob}, (c, b) ∈ (layCs d j cs).2 → j ≤ c ∧ ∃ es, b = .ar es []
  | [], j, c, b, h => by simp [layCs] at h
  | a :: r, j, c, b, h => by
    cases a
    case mt es =>
      simp only [layCs, List.mem_cons] at h
      rcases h with h | h
      · cases h; exact ⟨Nat.le_refl _, es, rfl⟩
      · have := mem_layCs h; exact ⟨by omega, this.2⟩
    all_goals
      simp only [layCs] at h
      have := mem_layCs h
      exact ⟨by omega, this.2⟩
theorem mem_appO {α : Type} {a b : α} : ∀ {l : List α}, a ∈ appO l b ↔ a ∈ l ∨ a = b
  | [] => by simp [appO]
  | x :: r => by simp [appO, mem_appO (l := r), or_assoc]

theorem keyless_mono {c : C} {v : Value} (hn : Nx γ w γ' w') (hk : c.keyless = true) (h : RC1 w (E.Sh γ w) γ v c) : RC1 w' (E.Sh γ' w') γ' v c := by
  refine ⟨?_, h.2⟩
  have h1 := h.1
  cases c <;> simp [C.keyless] at hk
  · trivial
  · exact hn.rep h1
  · exact h1
  · exact hn.rp h1
  · obtain ⟨vs, h2, h3, h4⟩ := h1
    exact ⟨vs, h2, h3, fun i cs hi => let ⟨u, h5, h6⟩ := h4 i cs hi; ⟨u, h5, hn.rp h6⟩⟩

theorem layCs_ok (hn : Nx γ w γ' w') (d : Nat) : ∀ {cs : List C} {vs : List Value} {j : Nat}, (∀ c b, (c, b) ∈ (layCs d j cs).2 → γ' (key d c) = .nil) → allKeyless cs = true →
    RCs w (E.Sh γ w) γ vs cs → RCs w' (E.Sh γ' w') γ' vs (layCs d j cs).1
  | [], [], j, _, _, _ => trivial
  | c :: cs, v :: vs, j, hg, hk, h => by
    simp only [allKeyless] at hk
    cases hc : c.keyless with
    | false => simp [hc] at hk
    | true =>
      simp only [hc] at hk
      cases c
      case mt es =>
        simp only [layCs] at hg ⊢
        refine ⟨⟨?_, h.1.2⟩, layCs_ok hn d (fun c b hb => hg c b (.tail _ hb)) hk h.2⟩
        have := hg j _ (.head _)
        simp only [RC, this]
        exact h.1.1
      all_goals
        simp only [layCs] at hg ⊢
        exact ⟨keyless_mono hn hc h.1, layCs_ok hn d hg hk h.2⟩
  | [], _ :: _, j, _, _, h => h.elim
  | _ :: _, [], j, _, _, h => h.elim

/-- A new box. -/
theorem QRes.box (h : Rel E γ s o tm w) (d : Nat) (cur : Array Value) (e : TypeId) (cs : List C) (hc : RCs w (E.Sh γ w) γ cur.toList cs) (hk : allKeyless cs = true) :
    ∃ γ', QRes E γ w d (.c (.pb (key d 0) 0)) (appO (layCs d 1 cs).2 (0, .bx (layCs d 1 cs).1)) (.pointer (some ⟨w.heap.size, 0, none⟩)) γ' (w.alloc (.cells cur e)) := by
  let γ' : Ghs := fun k => if k = key d 0 then .bx w.heap.size else if k ∈ newKs d (layCs d 1 cs).2 then .nil else γ k
  have h0 : γ' (key d 0) = .bx w.heap.size := by simp [γ']
  have hr : ∀ c b, (c, b) ∈ (layCs d 1 cs).2 → γ' (key d c) = .nil := fun c b hb => by
    have h1 := (mem_layCs hb).1
    have h2 : key d c ≠ key d 0 := fun e => by rw [key_inj] at e; omega
    have h3 : key d c ∈ newKs d (layCs d 1 cs).2 := mem_newKs.2 ⟨c, b, hb, rfl⟩
    simp only [γ', h2, if_false, h3, if_true]
  have hbl : ∀ k b, b ∈ (γ' k).bs → (k = key d 0 ∧ b = w.heap.size) ∨ (k ≠ key d 0 ∧ b ∈ (γ k).bs ∧ γ' k = γ k) := fun k b hb => by
    by_cases h1 : k = key d 0
    · subst h1; rw [h0] at hb; simp [Gh.bs] at hb; exact .inl ⟨rfl, hb⟩
    · by_cases h2 : k ∈ newKs d (layCs d 1 cs).2
      · simp [γ', h1, h2, Gh.bs] at hb
      · have : γ' k = γ k := by simp [γ', h1, h2]
        rw [this] at hb; exact .inr ⟨h1, hb, this⟩
  have hn : Nx γ w γ' (w.alloc (.cells cur e)) := ⟨(Fr.alloc w _).mono fun _ h => h.elim, fun b ⟨k, hk⟩ => (hbl k b hk).elim (fun h => .inr (by omega)) fun h => .inl ⟨k, h.2.1⟩⟩
  refine ⟨γ', ⟨Fr.alloc w _, fun k hk => ?_, fun k b hk hb => ?_, fun k k' b hk hk' hb hb' => ?_, ⟨by simp only [RC, h0], .inr rfl⟩, fun c b hb => ?_⟩⟩
  · rw [mem_newKs] at hk
    have h1 : k ≠ key d 0 := fun e => hk ⟨0, _, mem_appO.2 (.inr rfl), e⟩
    have h2 : k ∉ newKs d (layCs d 1 cs).2 := fun h2 => by
      rw [mem_newKs] at h2
      obtain ⟨c, b, h3, h4⟩ := h2
      exact hk ⟨c, b, mem_appO.2 (.inl h3), h4⟩
    simp [γ', h1, h2]
  · rcases hbl k b hb with ⟨_, rfl⟩ | ⟨h1, h2, h3⟩
    · exact ⟨Nat.le_refl _, by simp⟩
    · rw [mem_newKs] at hk
      obtain ⟨c, b', h4, rfl⟩ := hk
      rcases mem_appO.1 h4 with h5 | h5
      · rw [hr c b' h5] at hb; simp [Gh.bs] at hb
      · cases h5; exact absurd rfl h1
  · have one : ∀ k, k ∈ newKs d (appO (layCs d 1 cs).2 (0, .bx (layCs d 1 cs).1)) → b ∈ (γ' k).bs → k = key d 0 := fun k hk hb => by
      rw [mem_newKs] at hk
      obtain ⟨c, b', h4, rfl⟩ := hk
      rcases mem_appO.1 h4 with h5 | h5
      · rw [hr c b' h5] at hb; simp [Gh.bs] at hb
      · cases h5; rfl
    rw [one k hk hb, one k' hk' hb']
  · rcases mem_appO.1 hb with h1 | h1
    · obtain ⟨_, es, rfl⟩ := mem_layCs h1
      exact .inl ⟨hr c _ h1, rfl⟩
    · cases h1
      exact ⟨w.heap.size, h0, cur, e, heap_alloc_new w _, layCs_ok hn d hr hk hc⟩

theorem run_zeroValue {t : TypeId} {ti : TypeInfo} {z : Value} (h : P.info? t = some ti) (hz : ti.zero = some z) : (zeroValue t).run P w = .ok z w := by
  simp [zeroValue, typeInfo, h, hz]
theorem run_sizeOf' {t : TypeId} {ti : TypeInfo} (h : P.info? t = some ti) : (sizeOf t).run P w = .ok ti.size w := by
  simp [sizeOf, typeInfo, h]
theorem run_newVar (t : TypeId) (v : Value) : (newVar t v).run P w = .ok ⟨w.heap.size, 0, none⟩ (w.alloc (.cells v.cells t)) := rfl

theorem zeroC_ok (w : World) (γ : Ghs) (S : Nat → Prop) : ∀ {vs : List Value} {cs : List C}, zeroC vs cs → RCs w S γ vs cs ∧ allKeyless cs = true
  | [], [], _ => ⟨trivial, rfl⟩
  | v :: vs, c :: cs, h => by
    have ih := zeroC_ok w γ S h.2
    have h1 := h.1
    cases c with
    | y c =>
      cases c with
      | sc u =>
        obtain ⟨rfl, h2⟩ := h1
        exact ⟨⟨⟨Rep.sc _ h2, h2⟩, ih.1⟩, by simpa [allKeyless, C.keyless] using ih.2⟩
      | sl es xs => exact h1.elim
    | mt es =>
      have h1 : v = .slice none 0 0 := h1
      subst h1
      exact ⟨⟨⟨⟨none, rfl⟩, rfl⟩, ih.1⟩, by simpa [allKeyless, C.keyless] using ih.2⟩
    | _ => exact h1.elim
  | [], _ :: _, h => h.elim
  | _ :: _, [], h => h.elim

theorem isBd_ok {vs : List Value} {cs : List C} (h : isBd cs = true) (hz : zeroC vs cs) : vs = [.pointer none, .slice none 0 0] := by
  cases cs with
  | nil => simp [isBd] at h
  | cons c r =>
    cases c <;> try (simp [isBd] at h; done)
    rename_i y
    cases y with
    | sl es xs => simp [isBd] at h
    | sc v =>
      cases v <;> try (simp [isBd] at h; done)
      rename_i p
      cases p with
      | some p => simp [isBd] at h
      | none =>
        cases r with
        | nil => simp [isBd] at h
        | cons b r' =>
          cases b <;> try (simp [isBd] at h; done)
          cases r' with
          | cons a r => simp [isBd, isBd.isNilL0] at h
          | nil =>
            match vs, hz with
            | [v, u], hz =>
              obtain ⟨⟨rfl, _⟩, h2, _⟩ := hz
              have h2 : u = .slice none 0 0 := h2
              rw [h2]
            | v :: u :: x :: r, hz => exact hz.2.2.elim
            | [v], hz => exact hz.2.elim
            | [], hz => exact hz.elim
theorem qAlloc_ok (hT : TabOk P T) (h : Rel E γ s o tm w) {d t : Nat} {K : QK} (hq : qAlloc T d t K) :
    QOp P E γ w d ((Instr.alloc t true (.tuple #[])).run P w) K := by
  unfold qAlloc at hq
  split at hq
  · rename_i e _
    simp only [chk_iff] at hq
    obtain ⟨ti, h1, _, _, z, h2, h3⟩ := (hT.at hq.1).info
    have hz := isBd_ok hq.2.1 h3
    have hz : z.cells = #[.pointer none, .slice none 0 0] := by
      rw [← Array.toArray_toList (xs := z.cells), hz]
    have nd : [w.heap.size].Nodup := List.nodup_cons.2 ⟨List.not_mem_nil, List.nodup_nil⟩
    refine ⟨_, _, .pointer (some ⟨w.heap.size, 0, none⟩), _, w.alloc (.cells z.cells t), by simp [Instr.alloc, run_zeroValue h1 h2, run_newVar], QRes.one (G := .tr (.pointer (some ⟨w.heap.size, 0, none⟩)) [w.heap.size] nd) (Fr.alloc w _) (fun g hg => ?_) ?_ ?_, hq.2.2⟩
    · simp [Gh.bs] at hg; subst hg; exact ⟨Nat.le_refl _, by simp⟩
    · exact ⟨by simp [RC], .inr rfl⟩
    · refine ⟨_, _, nd, by simp only [if_true], w.heap.size, .pointer none, .slice none 0 0, rfl, .inl rfl, ?_, .inl ⟨rfl, rfl, rfl⟩⟩
      rw [hz]; exact heap_alloc_new w _
  · simp only [chk_iff] at hq
    obtain ⟨ti, h1, _, _, z, h2, h3⟩ := (hT.at hq.1).info
    obtain ⟨h4, h5⟩ := zeroC_ok w γ (E.Sh γ w) h3
    obtain ⟨γ', h6⟩ := QRes.box h d z.cells t _ h4 h5
    exact ⟨_, _, _, γ', _, by simp [Instr.alloc, run_zeroValue h1 h2, run_newVar], h6, hq.2.2⟩
theorem qBox_ok (h : Rel E γ s o tm w) {d t : Nat} {v : Value} {x : X} (hx : RX w (E.Sh γ w) γ v x) {K : QK} (hq : qBox d x K) : QOp P E γ w d ((Instr.box t v).run P w) K := by
  cases x with
  | tup l => exact hq.elim
  | c a =>
    simp only [qBox, brk_iff, and_false, false_or, chk_iff] at hq
    obtain ⟨γ', h6⟩ := QRes.box h d v.cells t _ (hx.cells hq.1 (by simp)) hq.2.1
    exact ⟨_, _, _, γ', _, by simp [Instr.box, run_newVar], h6, hq.2.2.2⟩
  | agg cs =>
    simp only [qBox, brk_iff, and_false, false_or, chk_iff] at hq
    obtain ⟨γ', h6⟩ := QRes.box h d v.cells t _ (hx.cells hq.1 (by simp)) hq.2.1
    exact ⟨_, _, _, γ', _, by simp [Instr.box, run_newVar], h6, hq.2.2.2⟩

/-! ### Structs -/
theorem setN_eq {α : Type} : ∀ (l : List α) (n : Nat) (vs : List α), n + vs.length ≤ l.length → setN l n vs = l.take n ++ vs ++ l.drop (n + vs.length)
  | l, n, [], h => by cases l <;> cases n <;> simp [setN]
  | [], n, v :: vs, h => by simp at h
  | x :: l, 0, v :: vs, h => by
    have := setN_eq l 0 vs (by simpa using h)
    simp [setN, this]
  | x :: l, n + 1, v :: vs, h => by
    have := setN_eq l n (v :: vs) (by simp at h ⊢; omega)
    simp only [setN, this, List.length_cons]
    rw [show n + 1 + (vs.length + 1) = (n + (vs.length + 1)) + 1 by omega, List.drop_succ_cons]
    simp
theorem RCs.append {S : Nat → Prop} : ∀ {vs us : List Value} {cs ds : List C}, RCs w S γ vs cs → RCs w S γ us ds → RCs w S γ (vs ++ us) (cs ++ ds)
  | [], _, [], _, _, h => h
  | _ :: _, _, _ :: _, _, h, h' => ⟨h.1, RCs.append h.2 h'⟩
theorem RCs.take {S : Nat → Prop} : ∀ {vs : List Value} {cs : List C} (n : Nat), RCs w S γ vs cs → RCs w S γ (vs.take n) (cs.take n)
  | [], [], n, _ => by simp [RCs]
  | _ :: _, _ :: _, 0, _ => trivial
  | _ :: _, _ :: _, n + 1, h => ⟨h.1, RCs.take n h.2⟩
theorem RCs.drop {S : Nat → Prop} : ∀ {vs : List Value} {cs : List C} (n : Nat), RCs w S γ vs cs → RCs w S γ (vs.drop n) (cs.drop n)
  | [], [], n, _ => by simp [RCs]
  | _ :: _, _ :: _, 0, h => h
  | _ :: _, _ :: _, n + 1, h => by simpa using RCs.drop n h.2
theorem RCs.setN {S : Nat → Prop} {vs us : List Value} {cs ds : List C} (n : Nat) (h : RCs w S γ vs cs) (h' : RCs w S γ us ds) (hl : n + ds.length ≤ cs.length) :
    RCs w S γ (vs.take n ++ us ++ vs.drop (n + us.length)) (Go.Proofs.YthaelohccopgjaaW.setN cs n ds) := by
  rw [setN_eq _ _ _ hl, ← h'.length]
  exact ((h.take n).append h').append (h.drop _)

/-- Cells written one by one. -/
theorem fold_set (us : List Value) : ∀ (off i : Nat) (cs : Array Value), off + i + us.length ≤ cs.size →
    (us.zipIdx i).foldl (fun cs (p : Value × Nat) => cs.setIfInBounds (off + p.2) p.1) cs = (cs.toList.take (off + i) ++ us ++ cs.toList.drop (off + i + us.length)).toArray := by
  induction us with
  | nil => intro off i cs h; simp
  | cons u us ih =>
    intro off i cs h
    simp only [List.zipIdx_cons, List.foldl_cons]
    simp only [List.length_cons] at h
    rw [show i + 1 = i + 1 from rfl, ih off (i + 1) (cs.setIfInBounds (off + i) u) (by simp; omega)]
    congr 1
    apply List.ext_getElem?
    intro j
    simp only [Array.toList_setIfInBounds]
    by_cases h1 : j < off + i
    · rw [List.getElem?_append_left (by simp; omega), List.getElem?_append_left (by simp; omega), List.getElem?_append_left (by simp; omega), List.getElem?_append_left (by simp; omega)]
      rw [List.getElem?_take, List.getElem?_take, if_pos (by omega), if_pos h1, List.getElem?_set_ne (by omega)]
    · by_cases h2 : j = off + i
      · subst h2
        rw [List.getElem?_append_left (by simp; omega), List.getElem?_append_left (by simp; omega), List.getElem?_append_left (by simp; omega)]
        rw [List.getElem?_take, if_pos (by omega), List.getElem?_set_self (by simp; omega)]
        rw [List.getElem?_append_right (by simp; omega)]
        simp
        rw [Nat.min_eq_left (by omega)]; simp
      · by_cases h3 : j < off + i + 1 + us.length
        · rw [List.getElem?_append_left (by simp; omega), List.getElem?_append_right (by simp; omega), List.getElem?_append_left (by simp; omega), List.getElem?_append_right (by simp; omega)]
          simp only [List.length_take, List.length_set, Array.length_toList]
          rw [Nat.min_eq_left (by omega), Nat.min_eq_left (by omega)]
          rw [show j - (off + i) = (j - (off + (i + 1))) + 1 by omega, List.getElem?_cons_succ]
        · rw [List.getElem?_append_right (by simp; omega), List.getElem?_append_right (by simp; omega)]
          simp only [List.length_append, List.length_take, List.length_set, Array.length_toList, List.length_cons]
          rw [Nat.min_eq_left (by omega), Nat.min_eq_left (by omega)]
          rw [List.getElem?_drop, List.getElem?_drop, List.getElem?_set_ne (by omega)]
          congr 1
          omega
theorem fill_ok {S : Nat → Prop} (fs : List (Nat × Nat × Bool)) (place : Nat → Option (Nat × Nat)) (hp : ∀ (j : Nat) (fl : Nat × Nat × Bool), fs[j]? = some fl → place j = some (fl.1, fl.2.1)) :
    ∀ (parts : List (Nat × X)) (vals : List (Nat × Value)) (cs : List C) (cur : Array Value) (K : List C → Prop), RCs w S γ cur.toList cs →
      vals.length = parts.length → (∀ (i : Nat) (p : Nat × X) (q : Nat × Value), parts[i]? = some p → vals[i]? = some q → q.1 = p.1 ∧ RX w S γ q.2 p.2) →
      buildCells fs cs parts K → ∃ cur' cs', Instr.fill place cur vals = some cur' ∧ RCs w S γ cur'.toList cs' ∧ K cs'
  | [], [], cs, cur, K, h, _, _, hk => ⟨cur, cs, rfl, h, hk⟩
  | p :: parts, q :: vals, cs, cur, K, h, hl, hv, hk => by
    obtain ⟨i, x⟩ := p
    obtain ⟨i', v⟩ := q
    obtain ⟨h1, h2⟩ := hv 0 _ _ rfl rfl
    simp only at h1 h2
    subst h1
    simp only [buildCells, nth_iff, chk_iff, brk_iff, and_false, false_or] at hk
    obtain ⟨hn1, hn2, fl, h3, h4, h5, h6⟩ := hk
    have hc := h2.cells hn1 (fun l e => by rw [e] at hn2; simp [X.isTup] at hn2)
    have hlen := hc.length
    rw [lenN_eq] at h4 h5
    rw [lenN_eq] at h5
    have e4 := eqN_t h4
    have e5 := leN_t h5
    have hcs := h.length
    simp only [Array.length_toList] at hlen hcs
    have hnew := RCs.setN fl.1 h hc e5
    obtain ⟨cur', cs', h7, h8, h9⟩ := fill_ok fs place hp parts vals _ (cur.toList.take fl.1 ++ v.cells.toList ++ cur.toList.drop (fl.1 + v.cells.toList.length)).toArray K (by simpa using hnew) (by simpa using hl)
      (fun j p q hp hq => hv (j + 1) p q (by simpa using hp) (by simpa using hq)) h6
    refine ⟨cur', cs', ?_, h8, h9⟩
    simp only [Instr.fill, hp i' fl h3]
    rw [if_neg (by simp; omega)]
    have hf := fold_set v.cells.toList fl.1 0 cur (by simp; omega)
    simp only [Nat.add_zero] at hf
    have : v.cells.zipIdx.foldl (fun cs (x : Value × Nat) => cs.setIfInBounds (fl.1 + x.2) x.1) cur = (cur.toList.take fl.1 ++ v.cells.toList ++ cur.toList.drop (fl.1 + v.cells.toList.length)).toArray := by
      rw [← hf, ← Array.foldl_toList]; simp
    rw [← this] at h7
    exact h7
  | [], _ :: _, cs, cur, K, h, hl, _, hk => by simp at hl
  | _ :: _, [], cs, cur, K, h, hl, _, hk => by simp at hl
end Go.Proofs.YthaelohccopgjaaW
/- Soundness, part 7: structs built, loads, places, parts of structs. -/
namespace Go.Proofs.YthaelohccopgjaaW
variable {P : Program} {T : Tab} {E : Env} {γ γ' : Ghs} {s s' : Nat → X} {o o' : Look} {tm : Array Value} {w w' : World}

theorem qBuild_ok (hT : TabOk P T) {d t : Nat} {parts : List (Nat × X)} {vals : Array (Nat × Value)} (hl : vals.size = parts.length)
    (hv : ∀ (i : Nat) (p : Nat × X) (q : Nat × Value), parts[i]? = some p → vals.toList[i]? = some q → q.1 = p.1 ∧ RX w (E.Sh γ w) γ q.2 p.2) {K : QK} (hq : qBuild T t parts K) :
    QOp P E γ w d ((Instr.build t vals).run P w) K := by
  simp only [qBuild, brk_iff, and_false, false_or, chk_iff] at hq
  obtain ⟨h0, h1, h2, h3⟩ := hq
  have hne : (T.at t).flds ≠ [] := by intro e; rw [e] at h0; simp [isNilL] at h0
  have hok := hT.at h1
  obtain ⟨ti, hti, _, _, z, hz, hzc⟩ := hok.info
  obtain ⟨fs, hu, hp, _⟩ := hok.flds hne
  obtain ⟨h4, _⟩ := zeroC_ok w γ (E.Sh γ w) hzc
  obtain ⟨cur', cs', h5, h6, h7⟩ := fill_ok (T.at t).flds (((T.at t).flds.map fun x => (x.1, x.2.1)).toArray[·]?) (fun j fl hj => by simp [hj]) parts vals.toList _ z.cells _ h4 (by simpa using hl) hv h3
  refine ⟨_, _, _, γ, w, run_build w t vals cur' ?_, QRes.plain (x := .agg cs') ⟨cur', rfl, h6⟩, h7⟩
  simp only [Program.built, hti, hu, hz, hp]
  exact h5

theorem run_isAgg {t : TypeId} {d : TypeDesc} (h : P.underlying t = some d) : (isAgg t).run P w = .ok (isAggD d) w := by
  simp only [isAgg, Sem.run_bind, run_underlying h, Result.andThen_ok]
  cases d <;> rfl

/-- Cells loaded. -/
theorem loadVar_ok {i : TyI} {t : TypeId} (hok : TyOk P t i) {S : Nat → Prop} {b off : Nat} {vs : List Value} {cs : List C} (hc : RCs w S γ vs cs) (hl : cs.length = i.cells)
    (hcell : ∀ j v, vs[j]? = some v → w.cell? ⟨b, off + j, none⟩ = some v) {K : X → Prop}
    (hk : match i.agg with | true => K (.agg cs) | false => match cs with | [] => False | c :: r => match r with | [] => K (.c c) | _ => False) :
    ∃ v x, (loadVar t ⟨b, off, none⟩).run P w = .ok v w ∧ RX w S γ v x ∧ K x := by
  obtain ⟨d, hu, hagg⟩ := hok.under
  obtain ⟨ti, hti, hsz, _⟩ := hok.info
  have hadd : ∀ j, (⟨b, off, none⟩ : Addr).add j = ⟨b, off + j, none⟩ := fun j => by unfold Addr.add; split <;> simp_all
  have hvl := hc.length
  cases ha : i.agg with
  | true =>
    rw [ha] at hk hagg
    have hcells := run_loadCells_list (P := P) w ⟨b, off, none⟩ vs (fun j v hj => by rw [hadd]; exact hcell j v hj)
    refine ⟨.agg vs.toArray, .agg cs, ?_, ⟨vs.toArray, rfl, by simpa using hc⟩, hk⟩
    have hsv : vs.length = ti.size := by rw [hvl, hl, hsz]
    rw [hsv] at hcells
    simp [loadVar, run_isAgg hu, ← hagg, run_sizeOf' hti, hcells]
  | false =>
    rw [ha] at hk hagg
    cases cs with
    | nil => exact hk.elim
    | cons c r =>
      cases r with
      | cons c' r => exact hk.elim
      | nil =>
        cases vs with
        | nil => exact hc.elim
        | cons v vs =>
          have h1 := hcell 0 v rfl
          simp only [Nat.add_zero] at h1
          refine ⟨v, .c c, ?_, ⟨hc.1.1, .inr hc.1.2⟩, hk⟩
          simp [loadVar, run_isAgg hu, ← hagg, h1]

theorem cell_of_heap {b : Nat} {cur : Array Value} {e : TypeId} {fr : Nat × Nat} (h : w.heap[b]? = some (.cells cur e fr)) (off : Nat) : w.cell? ⟨b, off, none⟩ = cur[off]? := by
  simp [World.cell?, h]

theorem RP.vals {S : Nat → Prop} {b off : Nat} : ∀ {cs : List Y}, (∀ (j : Nat) (y : Y), cs[j]? = some y → ∃ u, w.cell? ⟨b, off + j, none⟩ = some u ∧ Rep w S u y) →
    ∃ vs : List Value, RCs w S γ vs (cs.map C.y) ∧ ∀ j v, vs[j]? = some v → w.cell? ⟨b, off + j, none⟩ = some v
  | [], h => ⟨[], trivial, fun j v hj => by simp at hj⟩
  | y :: cs, h => by
    obtain ⟨u, h1, h2⟩ := h 0 y rfl
    obtain ⟨vs, h3, h4⟩ := RP.vals (b := b) (off := off + 1) (cs := cs) (fun j y' hj => by
      obtain ⟨u', h5, h6⟩ := h (j + 1) y' (by simpa using hj)
      exact ⟨u', by rw [show off + 1 + j = off + (j + 1) by omega]; exact h5, h6⟩)
    refine ⟨u :: vs, ⟨⟨h2, h2.one⟩, h3⟩, fun j v hj => ?_⟩
    cases j with
    | zero => simp at hj; subst hj; exact h1
    | succ j => rw [show off + (j + 1) = off + 1 + j by omega]; exact h4 j v (by simpa using hj)

theorem qLoad_ok (hT : TabOk P T) (h : Rel E γ s o tm w) {d t : Nat} {v : Value} {x : X} (hx : RX w (E.Sh γ w) γ v x) {K : QK} (hq : qLoad T o t x K) :
    QOp P E γ w d ((Instr.loadAt t v).run P w) K := by
  simp only [qLoad, chk_iff, asC_iff] at hq
  obtain ⟨hi, a, rfl, hq⟩ := hq
  have hok := hT.at hi
  have fin : ∀ {b off : Nat} {vs : List Value} {cs : List C}, v = .pointer (some ⟨b, off, none⟩) → RCs w (E.Sh γ w) γ vs cs → cs.length = (T.at t).cells →
      (∀ j v, vs[j]? = some v → w.cell? ⟨b, off + j, none⟩ = some v) →
      (match (T.at t).agg with | true => K (.agg cs) [] | false => match cs with | [] => False | c :: r => match r with | [] => K (.c c) [] | _ => False) →
      QOp P E γ w d ((Instr.loadAt t v).run P w) K := by
    intro b off vs cs hv hc hl hcell hk
    subst hv
    obtain ⟨u, x, h1, h2, h3⟩ := loadVar_ok hok hc hl hcell (K := fun x => K x []) hk
    exact ⟨x, [], u, γ, w, by simp [Instr.loadAt, Instr.sureAddr, h1], QRes.plain h2, h3⟩
  cases a with
  | pb k j =>
    simp only [boxAt_iff, takeN_iff, dropN_eq] at hq
    obtain ⟨cs, ho, hlen, hq⟩ := hq
    obtain ⟨g, hg, cur, e, hh, hc⟩ := h.objs k _ ho
    have hv := hx.1
    simp only [RC, hg] at hv
    refine fin hv ((hc.drop j).take (T.at t).cells) (by rw [List.length_take]; omega) (fun i u hu => ?_) hq
    rw [cell_of_heap hh]
    rw [List.getElem?_take] at hu
    split at hu
    · rw [List.getElem?_drop] at hu; simpa using hu
    · cases hu
  | pr k i j =>
    simp only [rowAt_iff, takeN_iff, dropN_eq, mapY_eq] at hq
    obtain ⟨es, xs, ho, e, he, hlen, hq⟩ := hq
    have hv := hx.1
    rcases h.objs k _ ho with ⟨hg, rfl⟩ | ⟨g, cap, n, hg, hr⟩
    · have := he.get; simp at this
    · simp only [RC, hg] at hv
      obtain ⟨h0, hv⟩ := hv
      obtain ⟨cur, ee, fz, hh, hz, hs, hone, hcells⟩ := hr.row
      obtain ⟨hel, hec⟩ := hcells _ _ he.get
      obtain ⟨vs, h3, h4⟩ := RP.vals (w := w) (γ := γ) (S := E.Sh γ w) (b := g) (off := i.toNat * es + j) (cs := (e.drop j).take (T.at t).cells) (fun m y hy => by
        rw [List.getElem?_take] at hy
        split at hy
        · rw [List.getElem?_drop] at hy
          obtain ⟨u, h5, h6⟩ := hec _ y hy
          refine ⟨u, ?_, h6⟩
          rw [cell_of_heap hh, show i.toNat * es + j + m = i.toNat * es + (j + m) by omega]; exact h5
        · cases hy)
      exact fin hv h3 (by rw [List.length_map, List.length_take]; omega) h4 hq
  | rp cs =>
    simp only [takeN_iff, mapY_eq] at hq
    obtain ⟨hlen, hq⟩ := hq
    obtain ⟨b, off, rfl, hb, hcs⟩ := hx.1
    obtain ⟨vs, h3, h4⟩ := RP.vals (w := w) (γ := γ) (S := E.Sh γ w) (b := b) (off := off) (cs := cs.take (T.at t).cells) (fun m y hy => by
      rw [List.getElem?_take] at hy
      split at hy
      · exact hcs m y hy
      · cases hy)
    exact fin rfl h3 (by rw [List.length_map, List.length_take]; omega) h4 hq
  | _ => exact hq.elim

theorem isPtr_ok (h : Rel E γ s o tm w) {v : Value} {a : C} (hx : RX w (E.Sh γ w) γ v (.c a)) (ha : a.isPtr o = true) : ∃ p, v = .pointer (some p) := by
  have hv := hx.1
  cases a with
  | pb k j =>
    simp only [C.isPtr] at ha
    cases ho : o k with
    | none => simp [ho] at ha
    | some b =>
      cases b with
      | ar es xs => simp [ho] at ha
      | op q => simp [ho] at ha
      | bx cs =>
        obtain ⟨g, hg, _⟩ := h.objs k _ ho
        simp only [RC, hg] at hv
        exact ⟨_, hv⟩
  | pr k i j =>
    simp only [C.isPtr] at ha
    cases ho : o k with
    | none => simp [ho] at ha
    | some b =>
      cases b with
      | bx cs => simp [ho] at ha
      | op q => simp [ho] at ha
      | ar es xs =>
        rcases h.objs k _ ho with ⟨hg, _⟩ | ⟨g, cap, n, hg, _⟩
        · simp only [RC, hg] at hv
        · simp only [RC, hg] at hv
          exact ⟨_, hv.2⟩
  | rp cs => obtain ⟨b, off, hv, _⟩ := hv; exact ⟨_, hv⟩
  | _ => simp [C.isPtr] at ha

theorem qFieldAddr_ok (hT : TabOk P T) (h : Rel E γ s o tm w) {d t f : Nat} {v : Value} {x : X} (hx : RX w (E.Sh γ w) γ v x) {K : QK} (hq : qFieldAddr T o t f x K) :
    QOp P E γ w d ((Instr.fieldAt t v f).run P w) K := by
  simp only [qFieldAddr, nth_iff, brk_iff, and_false, false_or, asC_iff] at hq
  obtain ⟨fl, hfl, hne, a, rfl, hq⟩ := hq
  have hok : TyOk P t (T.at t) := hT.of (fun e => by rw [e] at hfl; simp at hfl)
  obtain ⟨fs, hu, _, hf⟩ := hok.flds (fun e => by rw [e] at hfl; simp at hfl)
  obtain ⟨ff, h1, h2, h3, ⟨ti, h4⟩, _⟩ := hf f fl hfl
  have h5 : ti.size = fl.2.1 := by rw [← h3]; simp [Program.cellsOf, h4]
  have hne : ti.size ≠ 0 := by rw [h5]; exact eqN_f hne
  have run : ∀ p : Addr, p.spot = none → (Instr.fieldAt t (.pointer (some p)) f).run P w = .ok (.pointer (some ⟨p.block, p.off + fl.1, none⟩)) w := fun p hp => by
    have : p.add ff.offset = ⟨p.block, p.off + fl.1, none⟩ := by rw [h2]; cases p; simp at hp; subst hp; simp [Addr.add]
    simp [Instr.fieldAt, run_underlying hu, h1, Instr.sureAddr, fieldPlace, run_sizeOf' h4, hne, this]
  cases a with
  | pb k j =>
    simp only [boxAt_iff] at hq
    obtain ⟨cs, ho, hq⟩ := hq
    obtain ⟨g, hg, _⟩ := h.objs k _ ho
    have hv := hx.1
    simp only [RC, hg] at hv
    subst hv
    exact ⟨_, _, _, γ, w, run _ rfl, QRes.cell (.pb k (j + fl.1)) (by simp only [RC, hg]) rfl, hq⟩
  | pr k i j =>
    simp only [rowAt_iff] at hq
    obtain ⟨es, xs, ho, hq⟩ := hq
    have hv := hx.1
    rcases h.objs k _ ho with ⟨hg, _⟩ | ⟨g, cap, n, hg, _⟩
    · simp only [RC, hg] at hv
    · simp only [RC, hg] at hv
      obtain ⟨h0, rfl⟩ := hv
      exact ⟨_, _, _, γ, w, run _ rfl, QRes.cell (.pr k i (j + fl.1)) (by simp only [RC, hg]; exact ⟨h0, by simp [Nat.add_assoc]⟩) rfl, hq⟩
  | rp cs =>
    obtain ⟨b, off, rfl, hb, hcs⟩ := hx.1
    refine ⟨_, _, _, γ, w, run _ rfl, QRes.cell (.rp (dropN fl.1 cs)) ?_ rfl, hq⟩
    refine ⟨b, off + fl.1, rfl, hb, fun j y hy => ?_⟩
    rw [dropN_eq, List.getElem?_drop] at hy
    obtain ⟨u, h6, h7⟩ := hcs _ y hy
    exact ⟨u, by rw [Nat.add_assoc]; exact h6, h7⟩
  | _ => exact hq.elim
end Go.Proofs.YthaelohccopgjaaW
/- Soundness, part 8: comparisons, single values. -/
namespace Go.Proofs.YthaelohccopgjaaW
variable {P : Program} {T : Tab} {E : Env} {γ γ' : Ghs} {s s' : Nat → X} {o o' : Look} {tm : Array Value} {w w' : World}

theorem unSc_iff {c : C} {K : Value → Prop} : unSc c K ↔ ∃ v, c = .y (.sc v) ∧ K v := by
  cases c with
  | y c => cases c <;> simp [unSc]
  | _ => simp [unSc]
theorem QOp.sc {d : Nat} {u : Value} {r : Result Value} {K : QK} (hr : r = .ok u w) (h1 : u.oneCell' = true) (hk : K (Go.Proofs.YthaelohccopgjaaW.sc u) []) : QOp P E γ w d r K :=
  ⟨_, _, _, γ, w, hr, QRes.plain (x := Go.Proofs.YthaelohccopgjaaW.sc u) ⟨Rep.sc _ h1, .inr h1⟩, hk⟩

theorem qUn_ok {d : Nat} {op : UnOp} {v : Value} {x : X} (hx : RX w (E.Sh γ w) γ v x) {K : QK} (hq : qUn prims op x fun x => K x []) : QOp P E γ w d ((Op.unary op v).run P w) K := by
  simp only [qUn, asSc_iff] at hq
  obtain ⟨u, rfl, hq⟩ := hq
  have := rx_sc hx
  subst this
  cases op <;> cases v <;> simp only at hq <;> try exact hq.elim
  case not.bool b => exact QOp.sc (u := .bool (prims.bnot b)) (by simp only [Op.unary]; rfl) rfl (by rw [br_nx] at hq; exact hq)
  case neg.int k n => exact QOp.sc (u := .int k (prims.neg k n)) (by simp only [Op.unary, Op.intArith]; rfl) rfl hq
  case xor.int k n => exact QOp.sc (u := .int k (prims.compl k n)) (by simp only [Op.unary, Op.intBits]; rfl) rfl hq

theorem eqSc_ok (n : Nat) {f : Field} {k : Nat} {a b : Value} {K : Bool → Prop} (h1 : k = 1 → ∃ i, P.underlying f.type = some (.int i)) (h2 : k = 2 → P.underlying f.type = some .string) (h3 : k = 3 → P.underlying f.type = some .bool)
    (hq : eqSc prims k a b K) : ∃ t, (Op.equalIn (n + 1) f.type a b).run P w = .ok t w ∧ (isAgg f.type).run P w = .ok false w ∧ K t := by
  cases a <;> simp only [eqSc] at hq <;> try exact hq.elim
  case int i a =>
    cases b <;> simp only [chk_iff] at hq <;> try exact hq.elim
    obtain ⟨e1, e2, hq⟩ := hq
    obtain ⟨ii, hu⟩ := h1 (eqN_t e1)
    rw [kEq_iff] at e2
    subst e2
    exact ⟨_, run_equalIn_int w n _ _ _ _ _ hu, run_isAgg hu, hq⟩
  case string a =>
    cases b <;> simp only [chk_iff] at hq <;> try exact hq.elim
    obtain ⟨e1, hq⟩ := hq
    have hu := h2 (eqN_t e1)
    exact ⟨_, run_equalIn_string w n _ _ _ hu, run_isAgg hu, hq⟩
  case bool a =>
    cases b <;> simp only [chk_iff] at hq <;> try exact hq.elim
    obtain ⟨e1, hq⟩ := hq
    have hu := h3 (eqN_t e1)
    exact ⟨_, run_equalIn_bool n hu a _, run_isAgg hu, by rw [eqb_eq] at hq; exact hq⟩

theorem run_part_cell {e : TypeId} {cs : Array Value} {off : Nat} {v : Value} (h : (isAgg e).run P w = .ok false w) (hc : cs[off]? = some v) : (part e cs off).run P w = .ok v w := by
  simp [part, h, hc]

theorem eqCells_ok (n : Nat) {S : Nat → Prop} (xs ys : Array Value) : ∀ (fs : List Field) (ks : List Nat) (cs ds : List C) (j : Nat) (K : Bool → Prop), fldCmp P j fs ks → RCs w S γ (xs.toList.drop j) cs → RCs w S γ (ys.toList.drop j) ds →
    eqCells prims ks cs ds K → ∃ t, (Op.eqFields (n + 1) xs ys fs).run P w = .ok t w ∧ K t
  | [], [], [], [], j, K, _, _, _, hq => ⟨true, rfl, hq⟩
  | f :: fs, k :: ks, c :: cs, d :: ds, j, K, hf, hx, hy, hq => by
    simp only [eqCells, unSc_iff] at hq
    obtain ⟨u, rfl, v, rfl, hq⟩ := hq
    obtain ⟨h1, h2, h3, h4, h5, h6⟩ := hf
    obtain ⟨t, e1, e2, hq⟩ := eqSc_ok (P := P) (w := w) n h3 h4 h5 hq
    have gx : ∀ {zs : Array Value} {q : List C} {z : Value}, RCs w S γ (zs.toList.drop j) (.y (.sc z) :: q) → zs[j]? = some z ∧ RCs w S γ (zs.toList.drop (j + 1)) q := by
      intro zs q z h
      cases hd : zs.toList.drop j with
      | nil => rw [hd] at h; exact h.elim
      | cons a r =>
        rw [hd] at h
        have ha : a = z := by cases h.1.1; rfl
        subst ha
        have h0 : (zs.toList.drop j)[0]? = some a := by rw [hd]; rfl
        rw [List.getElem?_drop] at h0
        refine ⟨by simpa using h0, ?_⟩
        have h9 : zs.toList.drop (j + 1) = r := by rw [← List.drop_drop, hd]; rfl
        rw [h9]; exact h.2
    obtain ⟨x1, x2⟩ := gx hx
    obtain ⟨y1, y2⟩ := gx hy
    have p1 := run_part_cell (P := P) (w := w) (e := f.type) (cs := xs) (off := f.offset) (v := u) e2 (by rw [h2]; exact x1)
    have p2 := run_part_cell (P := P) (w := w) (e := f.type) (cs := ys) (off := f.offset) (v := v) e2 (by rw [h2]; exact y1)
    simp only [br_iff] at hq
    rcases hq with ⟨rfl, hq⟩ | ⟨rfl, hq⟩
    · obtain ⟨t', e3, hq'⟩ := eqCells_ok n xs ys fs ks cs ds (j + 1) K h6 x2 y2 hq
      exact ⟨t', by simp [Op.eqFields, h1, p1, p2, e1, e3], hq'⟩
    · exact ⟨false, by simp [Op.eqFields, h1, p1, p2, e1], hq⟩
  | [], _ :: _, _, _, _, _, hf, _, _, _ => hf.elim
  | _ :: _, [], _, _, _, _, hf, _, _, _ => hf.elim
  | [], [], _ :: _, _, _, _, _, _, _, hq => by simp [eqCells] at hq
  | [], [], [], _ :: _, _, _, _, _, _, hq => by simp [eqCells] at hq
  | _ :: _, _ :: _, [], _, _, _, _, _, _, hq => by simp [eqCells] at hq
  | _ :: _, _ :: _, _ :: _, [], _, _, _, _, _, hq => by simp [eqCells] at hq

theorem eqGuard_skip {op : BinOp} {t : TypeId} {x y : Operand} {a b : Value} (h : ∀ cs, a ≠ .agg cs) (h' : a ≠ .nilIface) : (eqGuard op t x y a b).run P w = .ok () w := by
  cases op <;> simp [eqGuard] <;> cases a <;> simp at h h' ⊢

theorem qBin_ok (hT : TabOk P T) (h : Rel E γ s o tm w) {d : Nat} {op : BinOp} {t : TypeId} {px py : Operand} {u v : Value} {x y : X} (hx : RX w (E.Sh γ w) γ u x) (hy : RX w (E.Sh γ w) γ v y) {K : QK}
    (hq : qBin prims T o op t x y fun x => K x []) : QOp P E γ w d ((do eqGuard op t px py u v; binOp op t u v : Sem Value).run P w) K := by
  cases x with
  | tup l => exact hq.elim
  | agg cs =>
    cases y with
    | agg ds =>
      obtain ⟨us, rfl, hc⟩ := hx
      obtain ⟨vs, rfl, hd⟩ := hy
      simp only [qBin] at hq
      cases hcmp : (T.at t).cmp with
      | none => simp [hcmp] at hq
      | some ks =>
        simp only [hcmp] at hq
        have hok : TyOk P t (T.at t) := hT.of (fun e => by rw [e] at hcmp; simp at hcmp)
        obtain ⟨fs, hu, h1, h2, h3⟩ := hok.cmp ks hcmp
        have hfo : P.fieldsOf t = fs := by simp [Program.fieldsOf, hu]
        have hu' : P.underlying t = some (.struct (P.fieldsOf t)) := by rw [hfo]; exact hu
        cases op <;> simp only [isEql] at hq <;> try exact hq.elim
        case eql =>
          obtain ⟨r, e1, hk⟩ := eqCells_ok (P := P) 9998 us vs fs.toList ks cs ds 0 _ h3 (by simpa using hc) (by simpa using hd) hq
          have e2 := run_equalIn_struct (P := P) w 9999 t us vs hu' h1
          rw [hfo] at e2
          exact QOp.sc (u := .bool r) (by simp [run_eqGuard_agg w .eql t px py us vs h2, run_eql_struct, e2, e1]) rfl hk
        case neq =>
          obtain ⟨r, e1, hk⟩ := eqCells_ok (P := P) 9998 us vs fs.toList ks cs ds 0 _ h3 (by simpa using hc) (by simpa using hd) hq
          have e2 := run_equalIn_struct (P := P) w 9999 t us vs hu' h1
          rw [hfo] at e2
          exact QOp.sc (u := .bool (!r)) (by simp [run_eqGuard_agg w .neq t px py us vs h2, run_neq_struct, e2, e1]) rfl (by rw [br_nx] at hk; exact hk)
    | _ => exact hq.elim
  | c a =>
    cases y with
    | c b =>
      simp only [qBin] at hq
      cases ha : a.isPtr o with
      | true =>
        simp only [ha, chk_iff] at hq
        obtain ⟨hp, hn, hq⟩ := hq
        obtain ⟨p, rfl⟩ := isPtr_ok h hx ha
        have hb : v = .pointer none := by
          cases b <;> simp [C.isNil] at hn
          rename_i c
          cases c <;> simp at hn
          rename_i z
          have := rx_sc hy
          subst this
          cases v <;> simp at hn
          rename_i q
          cases q <;> simp at hn
          rfl
        subst hb
        have hok : TyOk P t (T.at t) := hT.of (fun e => by rw [e] at hp; simp at hp)
        obtain ⟨e, hu⟩ := hok.ptr hp
        cases op <;> simp only [isEql] at hq <;> try exact hq.elim
        case eql => exact QOp.sc (u := .bool false) (by simp [eqGuard_skip, binOp, run_equal_nil hu]) rfl hq
        case neq => exact QOp.sc (u := .bool true) (by simp [eqGuard_skip, binOp, run_equal_nil hu]) rfl hq
      | false =>
        simp only [ha] at hq
        cases hb : b.isPtr o with
        | true =>
          simp only [hb, chk_iff] at hq
          obtain ⟨hp, hn, hq⟩ := hq
          obtain ⟨p, rfl⟩ := isPtr_ok h hy hb
          have hb : u = .pointer none := by
            cases a <;> simp [C.isNil] at hn
            rename_i c
            cases c <;> simp at hn
            rename_i z
            have := rx_sc hx
            subst this
            cases u <;> simp at hn
            rename_i q
            cases q <;> simp at hn
            rfl
          subst hb
          have hok : TyOk P t (T.at t) := hT.of (fun e => by rw [e] at hp; simp at hp)
          obtain ⟨e, hu⟩ := hok.ptr hp
          cases op <;> simp only [isEql] at hq <;> try exact hq.elim
          case eql => exact QOp.sc (u := .bool false) (by simp [eqGuard_skip, binOp, run_equal_nils hu]) rfl hq
          case neq => exact QOp.sc (u := .bool true) (by simp [eqGuard_skip, binOp, run_equal_nils hu]) rfl hq
        | false =>
          simp only [hb, asSc_iff] at hq
          obtain ⟨u', e1, v', e2, hq⟩ := hq
          rw [e1] at hx
          rw [e2] at hy
          have e3 := rx_sc hx
          have e4 := rx_sc hy
          subst e3 e4
          have g1 : ∀ cs, u ≠ .agg cs := by rintro cs rfl; simp [vBin] at hq
          have g2 : u ≠ .nilIface := by rintro rfl; simp [vBin] at hq
          obtain ⟨r, h1, h2, h3⟩ := binOp_vals (P := P) (w := w) t (fun e => (hT.of (fun e' => by rw [e'] at e; simp at e)).bool e) (fun e => (hT.of (fun e' => by rw [e'] at e; simp at e)).ptr e) hq
          exact QOp.sc (by simp [eqGuard_skip g1 g2, h1]) h2 h3
    | _ => exact hq.elim
end Go.Proofs.YthaelohccopgjaaW
/- Soundness, part 9: fields, places in slices, parts of slices and texts. -/
namespace Go.Proofs.YthaelohccopgjaaW
variable {P : Program} {T : Tab} {E : Env} {γ γ' : Ghs} {s s' : Nat → X} {o o' : Look} {tm : Array Value} {w w' : World}

theorem QOp.cell {d : Nat} (a : C) {u : Value} {r : Result Value} {K : QK} (hr : r = .ok u w) (hx : RC w (E.Sh γ w) γ u a) (h1 : u.oneCell' = true) (hk : K (.c a) []) : QOp P E γ w d r K :=
  ⟨_, _, _, γ, w, hr, QRes.cell a hx h1, hk⟩

theorem qField_ok (hT : TabOk P T) {d t f : Nat} {v : Value} {x : X} (hx : RX w (E.Sh γ w) γ v x) {K : QK} (hq : qField T t f x K) : QOp P E γ w d ((Instr.field t v f).run P w) K := by
  cases x with
  | c a => exact hq.elim
  | tup l => exact hq.elim
  | agg cs =>
    obtain ⟨vs, rfl, hc⟩ := hx
    simp only [qField, nth_iff] at hq
    obtain ⟨fl, hfl, hq⟩ := hq
    have hne : (T.at t).flds ≠ [] := fun e => by rw [e] at hfl; simp at hfl
    have hok : TyOk P t (T.at t) := hT.of (fun e => by rw [e] at hfl; simp at hfl)
    obtain ⟨fs, hu, _, hf⟩ := hok.flds hne
    obtain ⟨ff, h1, h2, h3, ⟨ti, h4⟩, dd, h5, h6⟩ := hf f fl hfl
    have h7 : ti.size = fl.2.1 := by rw [← h3]; simp [Program.cellsOf, h4]
    cases ha : fl.2.2 with
    | true =>
      rw [ha] at hq h6
      simp only [takeN_iff, dropN_eq] at hq
      refine ⟨.agg ((cs.drop fl.1).take fl.2.1), [], .agg (vs.extract fl.1 (fl.1 + fl.2.1)), γ, w, ?_, QRes.plain ⟨_, rfl, ?_⟩, hq.2⟩
      · simp [Instr.field, run_underlying hu, h1, asAgg, part, run_isAgg h5, ← h6, run_sizeOf' h4, h2, h7]
      · have := (hc.drop fl.1).take fl.2.1
        rw [Array.toList_extract]
        simpa [List.extract_eq_take_drop] using this
    | false =>
      rw [ha] at hq h6
      simp only [nth_iff] at hq
      obtain ⟨c, hcc, hq⟩ := hq
      obtain ⟨u, hu', h8⟩ := hc.get hcc
      have h9 : vs[fl.1]? = some u := by simpa using hu'
      refine QOp.cell c ?_ h8.1 h8.2 hq
      simp [Instr.field, run_underlying hu, h1, asAgg, part, run_isAgg h5, ← h6, h2, h9]

theorem qExtract_ok {d i : Nat} {v : Value} {x : X} (hx : RX w (E.Sh γ w) γ v x) {K : QK} (hq : qExtract i x K) : QOp P E γ w d ((Instr.extract v i).run P w) K := by
  cases x with
  | c a => exact hq.elim
  | agg cs => exact hq.elim
  | tup l =>
    obtain ⟨vs, rfl, hc⟩ := hx
    simp only [qExtract, nth_iff] at hq
    obtain ⟨q, hq1, hq⟩ := hq
    have get : ∀ {us : List Value} {l : List (Bool × List C)} {i : Nat}, RTs w (E.Sh γ w) γ us l → l[i]? = some q → ∃ u, us[i]? = some u ∧ RV1 w (E.Sh γ w) γ u q := by
      intro us l
      induction l generalizing us with
      | nil => intro i _ h; simp at h
      | cons a r ih =>
        intro i h1 h2
        cases us with
        | nil => exact h1.elim
        | cons u us =>
          cases i with
          | zero => simp at h2; subst h2; exact ⟨u, rfl, h1.1⟩
          | succ i => simpa using ih (i := i) h1.2 (by simpa using h2)
    obtain ⟨u, h1, h2⟩ := get hc hq1
    have h3 : vs[i]? = some u := by simpa using h1
    have hr : (Instr.extract (.tuple vs) i).run P w = .ok u w := by simp [Instr.extract, h3]
    cases hb : q.1 with
    | true =>
      rw [hb] at hq
      simp only [RV1, hb] at h2
      exact ⟨.agg q.2, [], u, γ, w, hr, QRes.plain h2, hq⟩
    | false =>
      rw [hb] at hq
      simp only [RV1, hb] at h2
      obtain ⟨c, h4, h5, h6⟩ := h2
      rw [h4] at hq
      exact ⟨.c c, [], u, γ, w, hr, QRes.plain ⟨h5, h6⟩, hq⟩

theorem qNilCheck_ok (h : Rel E γ s o tm w) {d : Nat} {v : Value} {x : X} (hx : RX w (E.Sh γ w) γ v x) {K : QK} (hq : qNilCheck o x K) :
    (∃ p, v = .pointer (some p)) ∧ K x [] ∨ (∃ f a b, v = .func (.func f) a b) ∧ K x [] := by
  simp only [qNilCheck, asC_iff] at hq
  obtain ⟨a, rfl, hq⟩ := hq
  cases ha : a.isPtr o with
  | true =>
    simp only [ha, orb] at hq
    exact .inl ⟨isPtr_ok h hx ha, hq⟩
  | false =>
    simp only [ha, orb] at hq
    cases hf : a.isFn with
    | true =>
      simp only [hf] at hq
      refine .inr ⟨?_, hq⟩
      have := hx.1
      cases a <;> simp [C.isFn] at hf
      · obtain ⟨vs, h1, _⟩ := this; exact ⟨_, _, _, h1⟩
      · obtain ⟨vs, h1, _⟩ := this; exact ⟨_, _, _, h1⟩
    | false =>
      simp only [hf, asSc_iff] at hq
      obtain ⟨u, e, hq⟩ := hq
      rw [e] at hx
      have := rx_sc hx
      subst this
      cases v <;> simp only at hq <;> try exact hq.elim
      rename_i f a b
      cases f <;> simp only at hq <;> try exact hq.elim
      exact .inr ⟨⟨_, _, _, rfl⟩, hq⟩

theorem qMakeFunc_ok (h : Rel E γ s o tm w) {d : Nat} {f : FuncId} {vs : Array Value} {xs : List X} (hl : vs.size = xs.length) (hv : ∀ (i : Nat) (x : X) (v : Value), xs[i]? = some x → vs[i]? = some v → RX w (E.Sh γ w) γ v x)
    {K : QK} (hq : qMakeFunc f xs K) : QOp P E γ w d ((Instr.makeFunc (.func f) #[] vs).run P w) K := by
  have keys : ∀ {xs : List X} {K : List Nat → Prop}, boxKeys xs K → ∃ ks : List Nat, K ks ∧ ks.length = xs.length ∧ ∀ (i k : Nat), ks[i]? = some k → xs[i]? = some (.c (.pb k 0)) := by
    intro xs
    induction xs with
    | nil => intro K h; exact ⟨[], h, rfl, fun i k h => by simp at h⟩
    | cons x r ih =>
      intro K h
      simp only [boxKeys, asC_iff] at h
      obtain ⟨a, rfl, h⟩ := h
      cases a <;> simp only at h <;> try exact h.elim
      rename_i k j
      cases j with
      | succ j => exact h.elim
      | zero =>
        obtain ⟨ks, h1, h2, h3⟩ := ih h
        refine ⟨k :: ks, h1, by simp [h2], fun i k' hi => ?_⟩
        cases i with
        | zero => simp at hi; subst hi; rfl
        | succ i => simpa using h3 i k' (by simpa using hi)
  cases xs with
  | nil =>
    have : vs = #[] := by simpa using hl
    subst this
    exact QOp.sc (u := .func (.func f) #[] #[]) rfl rfl hq
  | cons x r =>
    obtain ⟨ks, h1, h2, h3⟩ := keys hq
    refine QOp.cell (.fn f ks) (u := .func (.func f) #[] vs) rfl ⟨vs, rfl, by rw [hl, h2], fun i k hk => ?_⟩ rfl h1
    have h4 := h3 i k hk
    have hi : i < vs.size := by
      rw [hl, ← h2]
      exact (List.getElem?_eq_some_iff.1 hk).1
    have h5 := (hv i _ _ h4 (Array.getElem?_eq_getElem hi)).1
    simp only [RC] at h5
    cases hg : γ k <;> rw [hg] at h5 <;> simp only at h5 ⊢
    rw [Array.getElem?_eq_getElem hi, h5]

theorem rx_int {S : Nat → Prop} {v : Value} {k : IntKind} {n : Int} (h : RX w S γ v (.c (.y (.sc (.int k n))))) : v = .int k n := rx_sc h

theorem qIndex_ok (hT : TabOk P T) {d t : Nat} {u v : Value} {x y : X} (hx : RX w (E.Sh γ w) γ u x) (hy : RX w (E.Sh γ w) γ v y) {K : QK} (hq : qIndex prims T t x y K) : QOp P E γ w d ((Instr.index t u v).run P w) K := by
  simp only [qIndex, asI_iff, asSc_iff] at hq
  obtain ⟨k, i, rfl, z, rfl, hq⟩ := hq
  have e1 := rx_int hy
  have e2 := rx_sc hx
  subst e1 e2
  cases u <;> simp only at hq <;> try exact hq.elim
  rename_i b
  simp only [chk_iff] at hq
  obtain ⟨h1, h2, h3, hq⟩ := hq
  have hu := (hT.of (fun e => by rw [e] at h1; simp at h1)).str h1
  have h2' : 0 ≤ i := by simpa [prims] using h2
  have h3' : i < b.size := by simpa [prims] using h3
  have h4 : i.toNat < b.size := by omega
  have h5 : b[i.toNat]? = some b[i.toNat] := by simp [h4]
  refine QOp.sc (u := .int .u8 (prims.sat b i)) ?_ rfl hq
  have h6 : prims.sat b i = (b[i.toNat].toNat : Int) := by simp [prims, h5]
  rw [h6]
  simp only [Instr.index, Sem.run_bind, asIntOf, Sem.run_pure, Result.andThen_ok, run_underlying hu, h2', if_true, h5]

theorem qMinMax_ok {d : Nat} {mx : Bool} {u v : Value} {x y : X} (hx : RX w (E.Sh γ w) γ u x) (hy : RX w (E.Sh γ w) γ v y) {K : QK} (hq : qMinMax prims mx x y K) (ts : Array TypeId) (t : TypeId) :
    QOp P E γ w d ((match mx with | true => Builtin.max_ ts t #[u, v] | false => Builtin.min_ ts t #[u, v]).run P w) K := by
  simp only [qMinMax, asSc_iff] at hq
  obtain ⟨a, rfl, b, rfl, hq⟩ := hq
  have e1 := rx_sc hx
  have e2 := rx_sc hy
  subst e1 e2
  cases u <;> simp only at hq <;> try exact hq.elim
  cases v <;> simp only at hq <;> try exact hq.elim
  rename_i j a k b
  simp only [chk_iff, kEq_iff] at hq
  obtain ⟨rfl, hq⟩ := hq
  cases mx with
  | true => exact QOp.sc (u := .int j (prims.imax a b)) (by simp [Builtin.max_, Builtin.max2]; rfl) rfl hq
  | false => exact QOp.sc (u := .int j (prims.imin a b)) (by simp [Builtin.min_, Builtin.min2]; rfl) rfl hq

/-! ### Slices -/
/-- What a slice's value is, whoever owns it. -/
theorem elems_slice (h : Rel E γ s o tm w) {v : Value} {a : C} (hx : RC w (E.Sh γ w) γ v a) {K : Nat → List (List Y) → Prop} (hq : elems prims o a K) :
    ∃ b n c es xs, v = .slice b n c ∧ xs.length = n ∧ K es xs ∧ (xs = [] ∨ ∃ g off, b = some ⟨g, off, none⟩ ∧ 0 < es ∧ ∀ (i : Nat) (x : List Y), xs[i]? = some x → x.length = es ∧
      ∀ (j : Nat) (y : Y), x[j]? = some y → ∃ u, w.cell? ⟨g, off + (i * es + j), none⟩ = some u ∧ Rep w (E.Sh γ w) u y) := by
  have sub : ∀ {g es cap n : Nat} {xs : List (List Y)}, RowOk w (E.Sh γ w) g es cap n xs → ∀ (lo m : Nat), lo + m ≤ n → ∀ (i : Nat) (x : List Y), ((xs.drop lo).take m)[i]? = some x → x.length = es ∧
      ∀ (j : Nat) (y : Y), x[j]? = some y → ∃ u, w.cell? ⟨g, lo * es + (i * es + j), none⟩ = some u ∧ Rep w (E.Sh γ w) u y := by
    intro g es cap n xs hr lo m hm i x hi
    obtain ⟨cur, e, fz, hh, hz, hs, hone, hc⟩ := hr.row
    rw [List.getElem?_take] at hi
    split at hi
    · rw [List.getElem?_drop] at hi
      refine ⟨(hc _ x hi).1, fun j y hj => ?_⟩
      obtain ⟨u, h1, h2⟩ := (hc _ x hi).2 j y hj
      refine ⟨u, ?_, h2⟩
      rw [cell_of_heap hh, show lo * es + (i * es + j) = (lo + i) * es + j by rw [Nat.add_mul]; omega]
      exact h1
    · cases hi
  cases a with
  | mt es => obtain ⟨b, rfl⟩ := hx; exact ⟨b, 0, 0, es, [], rfl, rfl, hq, .inl rfl⟩
  | y c =>
    cases c with
    | sc z => exact hq.elim
    | sl es xs =>
      cases hx with
      | sl0 b cap => exact ⟨b, 0, cap, es, [], rfl, rfl, hq, .inl rfl⟩
      | sl g off cap _ _ vs hb hc hp hl hcell hrep =>
        exact ⟨_, _, _, es, xs, rfl, rfl, hq, .inr ⟨g, off, rfl, hp, fun i x hi => ⟨hl i x hi, fun j y hj => ⟨_, hcell i x j y hi hj, hrep i x j y hi hj⟩⟩⟩⟩
  | aw k =>
    simp only [elems, rowAt_iff] at hq
    obtain ⟨es, xs, ho, hq⟩ := hq
    simp only [RC] at hx
    rcases h.objs k _ ho with ⟨hg, rfl⟩ | ⟨g, cap, n, hg, hr⟩
    · rw [hg] at hx
      obtain ⟨b, rfl⟩ := hx
      exact ⟨b, 0, 0, es, [], rfl, rfl, hq, .inl rfl⟩
    · rw [hg] at hx
      subst hx
      refine ⟨_, n, cap, es, xs, rfl, hr.len, hq, .inr ⟨g, 0, rfl, hr.pos, fun i x hi => ?_⟩⟩
      have := sub hr 0 n (by omega) i x (by simpa [← hr.len] using hi)
      simpa using this
  | as k lo m =>
    simp only [elems, rowAt_iff] at hq
    obtain ⟨es, xs, ho, hq⟩ := hq
    simp only [RC] at hx
    rcases h.objs k _ ho with ⟨hg, rfl⟩ | ⟨g, cap, n, hg, hr⟩
    · rw [hg] at hx
      obtain ⟨rfl, b, c, rfl⟩ := hx
      exact ⟨b, 0, c, es, _, rfl, by simp [prims], hq, .inl (by simp [prims])⟩
    · rw [hg] at hx
      obtain ⟨h1, h2, h3, c, h4, h5⟩ := hx
      rcases h5 with rfl | ⟨rfl, b, rfl⟩
      · refine ⟨_, _, c, es, _, rfl, ?_, hq, .inr ⟨g, lo.toNat * es, rfl, hr.pos, fun i x hi => sub hr lo.toNat m.toNat (by omega) i x hi⟩⟩
        simp only [prims, List.length_take, List.length_drop, hr.len]; omega
      · exact ⟨b, 0, c, es, _, rfl, by simp [prims], hq, .inl (by simp [prims])⟩
  | _ => exact hq.elim
end Go.Proofs.YthaelohccopgjaaW
/- Soundness, part 10: places in slices, parts of slices and texts, lengths. -/
namespace Go.Proofs.YthaelohccopgjaaW
variable {P : Program} {T : Tab} {E : Env} {γ γ' : Ghs} {s s' : Nat → X} {o o' : Look} {tm : Array Value} {w w' : World}

theorem add_lit (g off n : Nat) : (⟨g, off, none⟩ : Addr).add n = ⟨g, off + n, none⟩ := by simp [Addr.add]

theorem qIndexAddr_ok (hT : TabOk P T) (h : Rel E γ s o tm w) {d t : Nat} {u v : Value} {x y : X} (hx : RX w (E.Sh γ w) γ u x) (hy : RX w (E.Sh γ w) γ v y) {K : QK} (hq : qIndexAddr prims T o t x y K) :
    QOp P E γ w d ((Instr.indexAt t u v).run P w) K := by
  simp only [qIndexAddr] at hq
  cases hel : (T.at t).el with
  | none => simp [hel] at hq
  | some e =>
    simp only [hel, asI_iff, asC_iff] at hq
    obtain ⟨k, i, rfl, a, rfl, hq⟩ := hq
    have e1 := rx_int hy
    subst e1
    obtain ⟨hu, ⟨ti, hti, hsz, _, _⟩, _⟩ := (hT.el hel).el e hel
    have run : ∀ (g off n c : Nat), 0 ≤ i → i < n → (Instr.indexAt t (.slice (some ⟨g, off, none⟩) n c) (.int k i)).run P w = .ok (.pointer (some ⟨g, off + i.toNat * e.2.1, none⟩)) w := by
      intro g off n c h0 h1
      have hnt : ¬ (n ≤ 1 ∧ False) := fun h => h.2
      simp only [Instr.indexAt, Sem.run_bind, asIntOf, Sem.run_pure, Result.andThen_ok, run_underlying hu, h0, h1, and_self, if_true, run_sizeOf' hti, hsz, add_lit]
    have hxc := hx.1
    cases a with
    | aw k' =>
      simp only [rowAt_iff, chk_iff] at hq
      obtain ⟨es, xs, ho, h1, h2, h3, hq⟩ := hq
      have h1 := eqN_t h1
      have h2 : 0 ≤ i := by simpa [prims] using h2
      have h3 : i < xs.length := by simpa [prims] using h3
      simp only [RC] at hxc
      rcases h.objs k' _ ho with ⟨hg, rfl⟩ | ⟨g, cap, n, hg, hr⟩
      · simp at h3; omega
      · rw [hg] at hxc
        subst hxc
        refine QOp.cell (.pr k' i 0) (run g 0 n cap h2 (by rw [← hr.len]; exact h3)) ?_ rfl hq
        simp only [RC, hg]
        exact ⟨h2, by simp [h1]⟩
    | as k' lo m =>
      simp only [rowAt_iff, chk_iff] at hq
      obtain ⟨es, xs, ho, h1, h2, h3, hq⟩ := hq
      have h1 := eqN_t h1
      have h2 : 0 ≤ i := by simpa [prims] using h2
      have h3 : i < m := by simpa [prims] using h3
      simp only [RC] at hxc
      rcases h.objs k' _ ho with ⟨hg, rfl⟩ | ⟨g, cap, n, hg, hr⟩
      · rw [hg] at hxc; omega
      · rw [hg] at hxc
        obtain ⟨h4, h5, h6, c, h7, h8⟩ := hxc
        rcases h8 with rfl | ⟨rfl, _⟩
        · refine QOp.cell (.pr k' (lo + i) 0) (run g _ m.toNat c h2 (by omega)) ?_ rfl hq
          simp only [RC, hg]
          refine ⟨by omega, ?_⟩
          rw [h1, show (lo + i).toNat = lo.toNat + i.toNat by omega, Nat.add_mul]; rfl
        · omega
    | y c =>
      cases c with
      | sc z => exact hq.elim
      | sl es xs =>
        simp only [chk_iff] at hq
        obtain ⟨h1, l, hl, hq⟩ := hq
        have h1 := eqN_t h1
        have hlt := (List.getElem?_eq_some_iff.1 hl.get).1
        cases hxc with
        | sl0 b cap => simp at hlt
        | sl g off cap _ _ vs hb hc hp hll hcell hrep =>
          refine QOp.cell (.rp l) (run g off xs.length cap hl.pos (by have := hl.pos; omega)) ?_ rfl hq
          refine ⟨g, _, rfl, hb, fun j y hj => ⟨_, ?_, hrep _ l j y hl.get hj⟩⟩
          rw [Nat.add_assoc, ← h1]
          exact hcell _ l j y hl.get hj
    | _ => exact hq.elim

def RXo (w : World) (S : Nat → Prop) (γ : Ghs) : Option Value → Option X → Prop
  | none, none => True
  | some v, some x => RX w S γ v x
  | _, _ => False
theorem run_sliceBound (k : IntKind) (i : Int) (y : Nat) (code : BoundsCode) (h : 0 ≤ i ∧ i ≤ y) : (Instr.sliceBound (.int k i) y code).run P w = .ok i.toNat w := by
  simp only [Instr.sliceBound, Sem.run_bind, asIntOf, Sem.run_pure, Result.andThen_ok, h, and_self, if_true]
theorem cut_ok {S : Nat → Prop} {len cap : Nat} (hlc : len ≤ cap) (b : Bool) {vl vh : Option Value} {lo hi : Option X} (hl : RXo w S γ vl lo) (hh : RXo w S γ vh hi) {K : Int → Int → Prop} (hq : cut prims len lo hi K) :
    ∃ l h : Nat, l ≤ h ∧ h ≤ len ∧ (Instr.sliceBounds b len cap vl vh none).run P w = .ok (l, h, cap) w ∧ K l h := by
  cases lo with
  | none =>
    cases vl with
    | some v => exact hl.elim
    | none =>
      cases hi with
      | none =>
        cases vh with
        | some v => exact hh.elim
        | none => exact ⟨0, len, by omega, by omega, by simp [Instr.sliceBounds], hq⟩
      | some y =>
        cases vh with
        | none => exact hh.elim
        | some v =>
          simp only [cut, asI_iff, chk_iff] at hq
          obtain ⟨k, i, rfl, h1, h2, hq⟩ := hq
          have e := rx_int hh
          subst e
          have h1 : 0 ≤ i := by simpa [prims] using h1
          have h2 : i ≤ len := by simpa [prims] using h2
          refine ⟨0, i.toNat, by omega, by omega, ?_, by rw [Int.toNat_of_nonneg h1]; exact hq⟩
          simp [Instr.sliceBounds, run_sliceBound k i cap _ ⟨h1, by omega⟩]
  | some x =>
    cases vl with
    | none => exact hl.elim
    | some v =>
      simp only [cut, asI_iff] at hq
      obtain ⟨k, i, rfl, hq⟩ := hq
      have e := rx_int hl
      subst e
      cases hi with
      | none =>
        cases vh with
        | some v => exact hh.elim
        | none =>
          simp only [chk_iff] at hq
          obtain ⟨h1, h2, hq⟩ := hq
          have h1 : 0 ≤ i := by simpa [prims] using h1
          have h2 : i ≤ len := by simpa [prims] using h2
          refine ⟨i.toNat, len, by omega, by omega, ?_, by rw [Int.toNat_of_nonneg h1]; exact hq⟩
          simp [Instr.sliceBounds, run_sliceBound k i len _ ⟨h1, by omega⟩]
      | some y =>
        cases vh with
        | none => exact hh.elim
        | some u =>
          simp only [asI_iff, chk_iff] at hq
          obtain ⟨k', j, rfl, h1, h2, h3, hq⟩ := hq
          have e := rx_int hh
          subst e
          have h1 : 0 ≤ i := by simpa [prims] using h1
          have h2 : i ≤ j := by simpa [prims] using h2
          have h3 : j ≤ len := by simpa [prims] using h3
          refine ⟨i.toNat, j.toNat, by omega, by omega, ?_, by rw [Int.toNat_of_nonneg h1, Int.toNat_of_nonneg (by omega)]; exact hq⟩
          simp [Instr.sliceBounds, run_sliceBound k' j cap _ ⟨by omega, by omega⟩, run_sliceBound k i j.toNat _ ⟨h1, by omega⟩]

theorem run_slice_slice {t e : TypeId} {ti : TypeInfo} (hu : P.underlying t = some (.slice e)) (hti : P.info? e = some ti) {a : Option Addr} {len cap l h : Nat} {vl vh : Option Value}
    (hb : (Instr.sliceBounds true len cap vl vh none).run P w = .ok (l, h, cap) w) :
    (Instr.sliceAt t (.slice a len cap) vl vh none).run P w = .ok (.slice (if cap = l then a else a.map (·.add (l * ti.size))) (h - l) (cap - l)) w := by
  simp only [Instr.sliceAt, Sem.run_bind, run_underlying hu, Result.andThen_ok, Instr.slice, hb, run_sizeOf' hti, Sem.run_pure]

theorem isZ_ok {S : Nat → Prop} {v : Option Value} {x : Option X} (h : RXo w S γ v x) (hz : isZ x = true) : ∃ k, v = some (.int k 0) := by
  cases x with
  | none => simp [isZ] at hz
  | some x =>
    cases v with
    | none => exact h.elim
    | some v =>
      simp only [isZ] at hz
      split at hz
      · rename_i k n heq
        cases heq
        have e := rx_int h
        subst e
        cases n with
        | ofNat m => cases m with
          | zero => exact ⟨k, rfl⟩
          | succ m => simp at hz
        | negSucc m => simp at hz
      · cases hz
theorem qSliceZ_ok (hT : TabOk P T) (h : Rel E γ s o tm w) {d t : Nat} {u : Value} {x : X} {vl vh vm : Option Value} {lo hi mx : Option X} (hx : RX w (E.Sh γ w) γ u x) (hl : RXo w (E.Sh γ w) γ vl lo) (hh : RXo w (E.Sh γ w) γ vh hi) (hm : RXo w (E.Sh γ w) γ vm mx)
    {K : QK} (hq : qSliceZ T o t x lo hi mx K) : QOp P E γ w d ((Instr.sliceAt t u vl vh vm).run P w) K := by
  simp only [qSliceZ] at hq
  cases hel : (T.at t).el with
  | none => simp [hel] at hq
  | some e =>
    simp only [hel, chk_iff, asC_iff] at hq
    obtain ⟨z1, z2, z3, a, rfl, hq⟩ := hq
    obtain ⟨hu, ⟨ti, hti, hsz, _⟩, _⟩ := (hT.el hel).el e hel
    obtain ⟨k2, rfl⟩ := isZ_ok hh z2
    obtain ⟨k3, rfl⟩ := isZ_ok hm z3
    have hlow : vl = none ∨ ∃ k, vl = some (.int k 0) := by
      cases lo with
      | none => cases vl with
        | none => exact .inl rfl
        | some v => exact hl.elim
      | some y => exact .inr (isZ_ok hl z1)
    have run : ∀ (p : Option Addr) (len cap : Nat), (Instr.sliceAt t (.slice p len cap) vl (some (.int k2 0)) (some (.int k3 0))).run P w = .ok (.slice p 0 0) w := fun p len cap => by
      rcases hlow with rfl | ⟨k1, rfl⟩
      · simp [Instr.sliceAt, Sem.run_bind, run_underlying hu, Instr.slice, Instr.sliceBounds, run_sliceBound k3 0 cap _ ⟨by omega, by omega⟩, run_sliceBound k2 0 0 _ ⟨by omega, by omega⟩, run_sizeOf' hti]
      · simp [Instr.sliceAt, Sem.run_bind, run_underlying hu, Instr.slice, Instr.sliceBounds, run_sliceBound k3 0 cap _ ⟨by omega, by omega⟩, run_sliceBound k2 0 0 _ ⟨by omega, by omega⟩, run_sliceBound k1 0 0 _ ⟨by omega, by omega⟩, run_sizeOf' hti]
    have fin : ∀ (p : Option Addr) (len cap es : Nat), u = .slice p len cap → K (.c (.mt es)) [] → QOp P E γ w d ((Instr.sliceAt t u vl (some (.int k2 0)) (some (.int k3 0))).run P w) K := fun p len cap es hu hk => by
      subst hu
      exact QOp.cell (.mt es) (run p len cap) ⟨p, rfl⟩ rfl hk
    have hxc := hx.1
    cases a with
    | y c =>
      cases c with
      | sc z => exact hq.elim
      | sl es xs =>
        cases hxc with
        | sl0 b cap => exact fin _ _ _ _ rfl hq
        | sl g off cap _ _ vs => exact fin _ _ _ _ rfl hq
    | mt es =>
      obtain ⟨p, rfl⟩ := hxc
      exact fin _ _ _ _ rfl hq
    | aw k =>
      simp only [rowAt_iff] at hq
      obtain ⟨es, xs, ho, hq⟩ := hq
      simp only [RC] at hxc
      rcases h.objs k _ ho with ⟨hg, rfl⟩ | ⟨g, cap, n, hg, hr⟩
      · rw [hg] at hxc
        obtain ⟨b, rfl⟩ := hxc
        exact fin _ _ _ _ rfl hq
      · rw [hg] at hxc
        exact fin _ _ _ _ hxc hq
    | as k lo' m =>
      simp only [rowAt_iff] at hq
      obtain ⟨es, xs, ho, hq⟩ := hq
      simp only [RC] at hxc
      rcases h.objs k _ ho with ⟨hg, rfl⟩ | ⟨g, cap, n, hg, hr⟩
      · rw [hg] at hxc
        obtain ⟨_, b, c, rfl⟩ := hxc
        exact fin _ _ _ _ rfl hq
      · rw [hg] at hxc
        obtain ⟨_, _, _, c, _, rfl | ⟨_, p, rfl⟩⟩ := hxc
        · exact fin _ _ _ _ rfl hq
        · exact fin _ _ _ _ rfl hq
    | _ => exact hq.elim

theorem qSlice_ok (hT : TabOk P T) (h : Rel E γ s o tm w) {d t : Nat} {u : Value} {x : X} {vl vh : Option Value} {lo hi : Option X} (hx : RX w (E.Sh γ w) γ u x) (hl : RXo w (E.Sh γ w) γ vl lo) (hh : RXo w (E.Sh γ w) γ vh hi)
    {K : QK} (hq : qSlice prims T o t x lo hi K) : QOp P E γ w d ((Instr.sliceAt t u vl vh none).run P w) K := by
  simp only [qSlice, asC_iff] at hq
  obtain ⟨a, rfl, hq⟩ := hq
  have hxc := hx.1
  have el : ∀ e, (T.at t).el = some e → P.underlying t = some (.slice e.1) ∧ ∃ ti, P.info? e.1 = some ti ∧ ti.size = e.2.1 := fun e he => by
    obtain ⟨h1, ⟨ti, h2, h3, _⟩, _⟩ := (hT.el he).el e he
    exact ⟨h1, ti, h2, h3⟩
  cases a with
  | aw k =>
    cases hel : (T.at t).el with
    | none => simp [hel] at hq
    | some e =>
      simp only [hel, rowAt_iff, chk_iff] at hq
      obtain ⟨es, xs, ho, h1, hq⟩ := hq
      have h1 := eqN_t h1
      obtain ⟨hu, ti, hti, hsz⟩ := el e hel
      simp only [RC] at hxc
      rcases h.objs k _ ho with ⟨hg, rfl⟩ | ⟨g, cap, n, hg, hr⟩
      · rw [hg] at hxc
        obtain ⟨b, rfl⟩ := hxc
        obtain ⟨l, hh', h2, h3, h4, h5⟩ := cut_ok (P := P) (len := 0) (cap := 0) (Nat.le_refl _) true hl hh (by simpa [prims] using hq)
        have e1 : l = 0 := by omega
        have e2 : hh' = 0 := by omega
        subst e1 e2
        refine QOp.cell (.as k 0 0) (run_slice_slice hu hti h4) ?_ rfl (by simpa [prims] using h5)
        simp only [RC, hg]
        exact ⟨trivial, _, _, rfl⟩
      · rw [hg] at hxc
        subst hxc
        obtain ⟨l, hh', h2, h3, h4, h5⟩ := cut_ok (P := P) (len := n) (cap := cap) hr.le true hl hh (by simpa [prims, hr.len] using hq)
        refine QOp.cell (.as k l ((hh' : Int) - l)) (run_slice_slice hu hti h4) ?_ rfl h5
        have hle := hr.le
        simp only [RC, hg]
        refine ⟨by omega, by omega, by omega, cap - l, by omega, ?_⟩
        have hm : ((hh' : Int) - l).toNat = hh' - l := by omega
        by_cases hc : cap = l
        · refine .inr ⟨by omega, some ⟨g, 0, none⟩, ?_⟩
          rw [if_pos hc, show hh' - l = 0 by omega]
        · refine .inl ?_
          rw [if_neg hc, hm]
          simp [add_lit, hsz, h1]
  | as k lo' m =>
    cases hel : (T.at t).el with
    | none => simp [hel] at hq
    | some e =>
      simp only [hel, rowAt_iff, chk_iff] at hq
      obtain ⟨es, xs, ho, h1, hq⟩ := hq
      have h1 := eqN_t h1
      obtain ⟨hu, ti, hti, hsz⟩ := el e hel
      simp only [RC] at hxc
      rcases h.objs k _ ho with ⟨hg, rfl⟩ | ⟨g, cap, n, hg, hr⟩
      · rw [hg] at hxc
        obtain ⟨rfl, b, c, rfl⟩ := hxc
        obtain ⟨l, hh', h2, h3, h4, h5⟩ := cut_ok (P := P) (len := 0) (cap := c) (Nat.zero_le _) true hl hh (by simpa using hq)
        have e1 : l = 0 := by omega
        have e2 : hh' = 0 := by omega
        subst e1 e2
        refine QOp.cell (.as k (lo' + 0) 0) (run_slice_slice hu hti h4) ?_ rfl (by simpa [prims] using h5)
        simp only [RC, hg]
        exact ⟨trivial, _, _, rfl⟩
      · rw [hg] at hxc
        obtain ⟨h4, h5, h6, c, h7, h8⟩ := hxc
        rcases h8 with rfl | ⟨rfl, b, rfl⟩
        · obtain ⟨l, hh', e1, e2, e3, e4⟩ := cut_ok (P := P) (len := m.toNat) (cap := c) h7 true hl hh (by rw [Int.toNat_of_nonneg h5]; exact hq)
          refine QOp.cell (.as k (lo' + l) ((hh' : Int) - l)) (run_slice_slice hu hti e3) ?_ rfl e4
          simp only [RC, hg]
          refine ⟨by omega, by omega, by omega, c - l, by omega, ?_⟩
          have hm : ((hh' : Int) - l).toNat = hh' - l := by omega
          by_cases hc : c = l
          · refine .inr ⟨by omega, some ⟨g, lo'.toNat * es, none⟩, ?_⟩
            rw [if_pos hc, show hh' - l = 0 by omega]
          · refine .inl ?_
            rw [if_neg hc, hm]
            simp only [Option.map_some, add_lit, hsz, h1]
            rw [show (lo' + (l : Int)).toNat = lo'.toNat + l by omega, Nat.add_mul]
        · obtain ⟨l, hh', e1, e2, e3, e4⟩ := cut_ok (P := P) (len := 0) (cap := c) (Nat.zero_le _) true hl hh (by simpa using hq)
          have z1 : l = 0 := by omega
          have z2 : hh' = 0 := by omega
          subst z1 z2
          refine QOp.cell (.as k (lo' + 0) 0) (run_slice_slice hu hti e3) ?_ rfl (by simpa [prims] using e4)
          simp only [RC, hg]
          exact ⟨by omega, by omega, by omega, c - 0, by simp, .inr ⟨trivial, _, rfl⟩⟩
  | mt es =>
    cases hel : (T.at t).el with
    | none => simp [hel] at hq
    | some e =>
      simp only [hel] at hq
      obtain ⟨hu, ti, hti, hsz⟩ := el e hel
      obtain ⟨b, rfl⟩ := hxc
      obtain ⟨l, hh', e1, e2, e3, e4⟩ := cut_ok (P := P) (len := 0) (cap := 0) (Nat.le_refl _) true hl hh (by simpa using hq)
      have z1 : l = 0 := by omega
      have z2 : hh' = 0 := by omega
      subst z1 z2
      exact QOp.cell (.mt es) (run_slice_slice hu hti e3) ⟨_, rfl⟩ rfl e4
  | y c =>
    cases c with
    | sc z =>
      cases z <;> simp only at hq <;> try exact hq.elim
      rename_i b
      have e := rx_sc hx
      subst e
      rw [chk_iff] at hq
      have hu := (hT.of (fun e => by have := hq.1; rw [e] at this; simp at this)).str hq.1
      obtain ⟨l, hh', e1, e2, e3, e4⟩ := cut_ok (P := P) (len := b.size) (cap := b.size) (Nat.le_refl _) false hl hh (by simpa [prims] using hq.2)
      refine QOp.sc (u := .string (prims.ssub b l hh')) ?_ rfl e4
      simp only [Instr.sliceAt, Sem.run_bind, run_underlying hu, Result.andThen_ok, Instr.slice, Option.isSome_none, Bool.false_eq_true, if_false, Sem.run_pure, e3]
      simp [prims]
    | sl es xs =>
      cases hel : (T.at t).el with
      | none => simp [hel] at hq
      | some e =>
        simp only [hel, chk_iff] at hq
        obtain ⟨h1, hq⟩ := hq
        have h1 := eqN_t h1
        obtain ⟨hu, ti, hti, hsz⟩ := el e hel
        cases hxc with
        | sl0 b cap =>
          obtain ⟨l, hh', e1, e2, e3, e4⟩ := cut_ok (P := P) (len := 0) (cap := cap) (Nat.zero_le _) true hl hh (by simpa [prims] using hq)
          have z1 : l = 0 := by omega
          have z2 : hh' = 0 := by omega
          subst z1 z2
          have e4 : K (.c (.y (.sl es []))) [] := by simpa [prims] using e4
          exact QOp.cell (.y (.sl es [])) (run_slice_slice hu hti e3) (Rep.sl0 _ _ es) rfl e4
        | sl g off cap _ _ vs hb hc hp hll hcell hrep =>
          obtain ⟨l, hh', e1, e2, e3, e4⟩ := cut_ok (P := P) (len := xs.length) (cap := cap) hc true hl hh (by simpa [prims] using hq)
          have e4 : K (.c (.y (.sl es (prims.lsub xs l (prims.isub (hh' : Int) l))))) [] := e4
          refine QOp.cell _ (run_slice_slice hu hti e3) ?_ rfl e4
          have hm : (prims.isub (hh' : Int) l).toNat = hh' - l := by simp only [prims]; omega
          by_cases hcc : cap = l
          · have : prims.lsub xs l (prims.isub (hh' : Int) l) = [] := by
              simp only [prims] at hm ⊢
              rw [hm, show hh' - l = 0 by omega, List.take_zero]
            rw [this, if_pos hcc, show hh' - l = 0 by omega]
            exact Rep.sl0 _ _ es
          · rw [if_neg hcc]
            have hlen : (prims.lsub xs l (prims.isub (hh' : Int) l)).length = hh' - l := by
              simp only [prims] at hm ⊢
              rw [hm, List.length_take, List.length_drop]; simp; omega
            have key : ∀ (i : Nat) (x : List Y), (prims.lsub xs l (prims.isub (hh' : Int) l))[i]? = some x → xs[l + i]? = some x := fun i x hi => by
              have := getElem?_lsub xs l _ i x hi
              simpa using this.1
            have := @Rep.sl w (E.Sh γ w) g (off + l * es) (cap - l) es (prims.lsub xs l (prims.isub (hh' : Int) l)) (fun i j => vs (l + i) j) hb (by rw [hlen]; omega) hp
              (fun i x hi => hll _ x (key i x hi)) (fun i x j y hi hj => by
                have := hcell _ x j y (key i x hi) hj
                rw [show off + l * es + (i * es + j) = off + ((l + i) * es + j) by rw [Nat.add_mul]; omega]; exact this)
              (fun i x j y hi hj => hrep _ x j y (key i x hi) hj)
            rw [hlen] at this
            have h9 : Rep w (E.Sh γ w) (.slice ((some (⟨g, off, none⟩ : Addr)).map (·.add (l * ti.size))) (hh' - l) (cap - l)) (.sl es (prims.lsub xs l (prims.isub (hh' : Int) l))) := by
              simpa [add_lit, hsz, h1] using this
            exact h9
  | _ => exact hq.elim

theorem qLen_ok (hT : TabOk P T) (h : Rel E γ s o tm w) {d t : Nat} {u : Value} {x : X} (hx : RX w (E.Sh γ w) γ u x) {K : QK} (hq : qLen prims T o t x K) (ty : TypeId) (ts : Array TypeId) (ht : ts[0]? = some t) (vs : Array Value) (hv : vs[0]? = some u) :
    QOp P E γ w d ((Builtin.len_ ts ty vs).run P w) K := by
  simp only [qLen, asC_iff] at hq
  obtain ⟨a, rfl, hq⟩ := hq
  have hxc := hx.1
  have el : ∀ e, (T.at t).el = some e → P.underlying t = some (.slice e.1) := fun e he => ((hT.el he).el e he).1
  have run : ∀ e b n c, (T.at t).el = some e → u = .slice b n c → (Builtin.len_ ts ty vs).run P w = .ok (goInt n) w := fun e b n c he hu => by
    subst hu
    simp [Builtin.len_, ht, hv, run_underlying (el e he)]
  cases a with
  | aw k =>
    cases hel : (T.at t).el with
    | none => simp [hel] at hq
    | some e =>
      simp only [hel, rowAt_iff] at hq
      obtain ⟨es, xs, ho, hq⟩ := hq
      simp only [RC] at hxc
      rcases h.objs k _ ho with ⟨hg, rfl⟩ | ⟨g, cap, n, hg, hr⟩
      · rw [hg] at hxc
        obtain ⟨b, rfl⟩ := hxc
        exact QOp.sc (u := goInt 0) (run e b 0 0 hel rfl) rfl (by simpa [prims, goInt] using hq)
      · rw [hg] at hxc
        exact QOp.sc (u := goInt n) (run e _ n cap hel hxc) rfl (by simpa [prims, hr.len, goInt] using hq)
  | as k lo m =>
    cases hel : (T.at t).el with
    | none => simp [hel] at hq
    | some e =>
      simp only [hel, rowAt_iff] at hq
      obtain ⟨es, xs, ho, hq⟩ := hq
      simp only [RC] at hxc
      rcases h.objs k _ ho with ⟨hg, rfl⟩ | ⟨g, cap, n, hg, hr⟩
      · rw [hg] at hxc
        obtain ⟨rfl, b, c, rfl⟩ := hxc
        exact QOp.sc (u := goInt 0) (run e b 0 c hel rfl) rfl hq
      · rw [hg] at hxc
        obtain ⟨h4, h5, h6, c, h7, h8⟩ := hxc
        rcases h8 with rfl | ⟨rfl, b, rfl⟩
        · exact QOp.sc (u := goInt m.toNat) (run e _ _ c hel rfl) rfl (by rw [goInt, Int.toNat_of_nonneg h5]; exact hq)
        · exact QOp.sc (u := goInt 0) (run e b 0 c hel rfl) rfl hq
  | mt es =>
    cases hel : (T.at t).el with
    | none => simp [hel] at hq
    | some e =>
      simp only [hel] at hq
      obtain ⟨b, rfl⟩ := hxc
      exact QOp.sc (u := goInt 0) (run e b 0 0 hel rfl) rfl hq
  | y c =>
    cases c with
    | sc z =>
      cases z <;> simp only at hq <;> try exact hq.elim
      rename_i b
      have e := rx_sc hx
      subst e
      rw [chk_iff] at hq
      have hu := (hT.of (fun e => by have := hq.1; rw [e] at this; simp at this)).str hq.1
      exact QOp.sc (u := goInt b.size) (by simp [Builtin.len_, ht, hv, run_underlying hu]) rfl (by simpa [prims, goInt] using hq.2)
    | sl es xs =>
      cases hel : (T.at t).el with
      | none => simp [hel] at hq
      | some e =>
        simp only [hel] at hq
        cases hxc with
        | sl0 b cap => exact QOp.sc (u := goInt 0) (run e b 0 cap hel rfl) rfl (by simpa [prims, goInt] using hq)
        | sl g off cap _ _ vs' hb hc hp hll hcell hrep => exact QOp.sc (u := goInt xs.length) (run e _ _ cap hel rfl) rfl (by simpa [prims, goInt] using hq)
  | _ => exact hq.elim
end Go.Proofs.YthaelohccopgjaaW
/- Soundness, part 11: what is appended and copied; rows made. -/
namespace Go.Proofs.YthaelohccopgjaaW
variable {P : Program} {T : Tab} {E : Env} {γ γ' : Ghs} {s s' : Nat → X} {o o' : Look} {tm : Array Value} {w w' : World}

theorem ZOk.of_size {fz : Nat × Nat} {n m : Nat} (h : ZOk fz n) (e : m = n) : ZOk fz m := e ▸ h
/-- Cells stored one behind the other into a block of which no cell is marked. -/
theorem run_storeCells_z (P : Program) (g o : Nat) (t : TypeId) (fz : Nat × Nat) : ∀ (vs : List Value) (i : Nat) (cur : Array Value) (w : World), w.heap[g]? = some (.cells cur t fz) → ZOk fz cur.size → o + i + vs.length ≤ cur.size → (∀ v ∈ vs, v.oneCell' = true) →
    (storeCells ⟨g, o, none⟩ vs i).run P w = .ok () (w.setRow g (cur.toList.take (o + i) ++ vs ++ cur.toList.drop (o + i + vs.length)).toArray)
  | [], i, cur, w, hg, _, _, _ => by
    simp only [storeCells, List.append_nil, List.length_nil, Nat.add_zero, List.take_append_drop, Array.toArray_toList]
    rw [setRow_self w g cur t fz hg]
    rfl
  | v :: rest, i, cur, w, hg, hz, hl, h1 => by
    have hi : o + i < cur.size := by simp at hl; omega
    have hadd : (⟨g, o, none⟩ : Addr).add i = ⟨g, o + i, none⟩ := add_lit g o i
    have hcell : w.cell? ⟨g, o + i, none⟩ = some cur[o + i] := by simp [World.cell?, hg, hi]
    have hfro : w.frozen? ⟨g, o + i, none⟩ = false := by
      obtain ⟨lo, hi'⟩ := fz
      simp only [World.frozen?, hg, Bool.and_eq_false_iff, decide_eq_false_iff_not]
      rcases hz with hz | hz <;> dsimp only at hz <;> omega
    have hst : (store ((⟨g, o, none⟩ : Addr).add i) v).run P w = .ok () (w.setRow g (cur.setIfInBounds (o + i) v)) := by
      rw [hadd, run_store P w _ v _ (h1 v (by simp)), hcell]
      simp [hfro, setCell_eq_setRow w g (o + i) cur t fz v hg]
    have ih := run_storeCells_z P g o t fz rest (i + 1) (cur.setIfInBounds (o + i) v) (w.setRow g (cur.setIfInBounds (o + i) v)) (setRow_heap w g cur _ t _ hg) (by simpa using hz) (by simp at hl ⊢; omega) (fun x hx => h1 x (by simp [hx]))
    simp only [storeCells, Sem.run_bind, hst, Result.andThen_ok, ih, setRow_setRow]
    congr 3
    have e := list_seg_step cur.toList (o + i) v rest (by simp at hl ⊢; omega)
    simpa [Array.toList_setIfInBounds, Nat.add_assoc] using e
/-- The cells of elements, one behind the other. -/
structure Flat (w : World) (S : Nat → Prop) (es : Nat) (xs : List (List Y)) (news : List Value) : Prop where
  len : news.length = xs.length * es
  one : ∀ u ∈ news, u.oneCell' = true
  cells : ∀ (i : Nat) (x : List Y), xs[i]? = some x → x.length = es ∧ ∀ (j : Nat) (y : Y), x[j]? = some y → ∃ u, news[i * es + j]? = some u ∧ Rep w S u y

theorem Flat.nil (w : World) (S : Nat → Prop) (es : Nat) : Flat w S es [] [] := ⟨by simp, by simp, fun i x h => by simp at h⟩
theorem Flat.mono {S S' : Nat → Prop} {es : Nat} {xs : List (List Y)} {news : List Value} (h : Flat w S es xs news) (hr : ∀ v y, Rep w S v y → Rep w' S' v y) : Flat w' S' es xs news :=
  ⟨h.len, h.one, fun i x hi => ⟨(h.cells i x hi).1, fun j y hj => let ⟨u, h1, h2⟩ := (h.cells i x hi).2 j y hj; ⟨u, h1, hr _ _ h2⟩⟩⟩
theorem Flat.app {S : Nat → Prop} {es : Nat} {xs ys : List (List Y)} {olds news : List Value} (h : Flat w S es xs olds) (h' : Flat w S es ys news) : Flat w S es (xs ++ ys) (olds ++ news) := by
  refine ⟨by rw [List.length_append, List.length_append, h.len, h'.len, Nat.add_mul], fun u hu => (List.mem_append.1 hu).elim (h.one u) (h'.one u), fun i x hi => ?_⟩
  by_cases hlt : i < xs.length
  · rw [List.getElem?_append_left hlt] at hi
    obtain ⟨h1, h2⟩ := h.cells i x hi
    refine ⟨h1, fun j y hj => ?_⟩
    obtain ⟨u, h3, h4⟩ := h2 j y hj
    exact ⟨u, by rw [List.getElem?_append_left (List.getElem?_eq_some_iff.1 h3).1]; exact h3, h4⟩
  · rw [List.getElem?_append_right (by omega)] at hi
    obtain ⟨h1, h2⟩ := h'.cells _ x hi
    refine ⟨h1, fun j y hj => ?_⟩
    obtain ⟨u, h3, h4⟩ := h2 j y hj
    refine ⟨u, ?_, h4⟩
    have e : i * es = xs.length * es + (i - xs.length) * es := by rw [← Nat.add_mul]; congr 1; omega
    rw [List.getElem?_append_right (by rw [h.len]; omega), h.len, show i * es + j - xs.length * es = (i - xs.length) * es + j by omega]
    exact h3
theorem RowOk.flat {S : Nat → Prop} {g es cap n : Nat} {xs : List (List Y)} (h : RowOk w S g es cap n xs) {cur : Array Value} {E : TypeId} {fz : Nat × Nat} (hh : w.heap[g]? = some (.cells cur E fz)) : Flat w S es xs (cur.toList.take (n * es)) := by
  obtain ⟨cur', E', fz', hh', hz, hs, hone, hc⟩ := h.row
  rw [hh] at hh'
  obtain ⟨rfl, rfl, rfl⟩ : cur = cur' ∧ E = E' ∧ fz = fz' := by simpa using hh'
  have hle : n * es ≤ cur.size := by rw [hs]; exact Nat.mul_le_mul_right _ h.le
  refine ⟨by rw [List.length_take, Array.length_toList, h.len]; omega, fun u hu => hone u (by simpa using List.mem_of_mem_take hu), fun i x hi => ⟨(hc i x hi).1, fun j y hj => ?_⟩⟩
  obtain ⟨u, h1, h2⟩ := (hc i x hi).2 j y hj
  refine ⟨u, ?_, h2⟩
  have hi' := (List.getElem?_eq_some_iff.1 hi).1
  have hj' := (List.getElem?_eq_some_iff.1 hj).1
  rw [h.len] at hi'
  rw [(hc i x hi).1] at hj'
  have : i * es + j < n * es := by
    have : (i + 1) * es ≤ n * es := Nat.mul_le_mul_right _ hi'
    rw [Nat.add_mul] at this; omega
  rw [List.getElem?_take, if_pos this]
  simpa using h1
theorem RowOk.of {S : Nat → Prop} {g es cap : Nat} {xs : List (List Y)} {news : List Value} {cur : Array Value} {E : TypeId} {fz : Nat × Nat} (hf : Flat w S es xs news) (hp : 0 < es) (hle : xs.length ≤ cap) (hm : cap ≤ maxLen) (hcp : 0 < cap)
    (hh : w.heap[g]? = some (.cells cur E fz)) (hzz : ZOk fz cur.size) (hs : cur.size = cap * es) (hone : ∀ u ∈ cur, u.oneCell' = true) (hcur : ∀ (i : Nat) (u : Value), news[i]? = some u → cur[i]? = some u) : RowOk w S g es cap xs.length xs :=
  ⟨rfl, hle, hm, hp, hcp, cur, E, fz, hh, hzz, hs, hone, fun i x hi => ⟨(hf.cells i x hi).1, fun j y hj => let ⟨u, h1, h2⟩ := (hf.cells i x hi).2 j y hj; ⟨u, hcur _ _ h1, h2⟩⟩⟩

/-- The cells of a slice, whoever owns it. -/
theorem flat_of_cells {S : Nat → Prop} {g off es : Nat} {xs : List (List Y)} (hp : 0 < es) (h : ∀ (i : Nat) (x : List Y), xs[i]? = some x → x.length = es ∧
      ∀ (j : Nat) (y : Y), x[j]? = some y → ∃ u, w.cell? ⟨g, off + (i * es + j), none⟩ = some u ∧ Rep w S u y) :
    ∃ news, Flat w S es xs news ∧ ∀ (j : Nat) (u : Value), news[j]? = some u → w.cell? ⟨g, off + j, none⟩ = some u := by
  have get : ∀ p, p < xs.length * es → ∃ u, w.cell? ⟨g, off + p, none⟩ = some u ∧ u.oneCell' = true := fun p hpl => by
    have hi : p / es < xs.length := Nat.div_lt_of_lt_mul (by rw [Nat.mul_comm]; exact hpl)
    obtain ⟨h1, h2⟩ := h (p / es) _ (List.getElem?_eq_getElem hi)
    have hj : p % es < (xs[p / es]).length := by rw [h1]; exact Nat.mod_lt _ hp
    obtain ⟨u, h3, h4⟩ := h2 (p % es) _ (List.getElem?_eq_getElem hj)
    refine ⟨u, ?_, h4.one⟩
    rw [show p = p / es * es + p % es by rw [Nat.mul_comm]; exact (Nat.div_add_mod p es).symm]; exact h3
  refine ⟨(List.range (xs.length * es)).map fun p => (w.cell? ⟨g, off + p, none⟩).getD undef, ⟨by simp, fun u hu => ?_, fun i x hi => ⟨(h i x hi).1, fun j y hj => ?_⟩⟩, fun j u hj => ?_⟩
  · simp only [List.mem_map, List.mem_range] at hu
    obtain ⟨p, h1, rfl⟩ := hu
    obtain ⟨u, h2, h3⟩ := get p h1
    rw [h2]; exact h3
  · obtain ⟨u, h1, h2⟩ := (h i x hi).2 j y hj
    refine ⟨u, ?_, h2⟩
    have hi' := (List.getElem?_eq_some_iff.1 hi).1
    have hj' := (List.getElem?_eq_some_iff.1 hj).1
    rw [(h i x hi).1] at hj'
    have : i * es + j < xs.length * es := by
      have : (i + 1) * es ≤ xs.length * es := Nat.mul_le_mul_right _ hi'
      rw [Nat.add_mul] at this; omega
    rw [List.getElem?_map, List.getElem?_range this]
    simp [h1]
  · rw [List.getElem?_map] at hj
    by_cases hlt : j < xs.length * es
    · rw [List.getElem?_range hlt] at hj
      obtain ⟨u', h2, h3⟩ := get j hlt
      simp [h2] at hj
      rw [h2, hj]
    · rw [List.getElem?_eq_none (by simpa using hlt)] at hj
      simp at hj

/-- What is appended, or copied, as the machine reads it. -/
structure Src (P : Program) (w : World) (u : TypeId) (x : Value) (es m : Nat) (news : List Value) : Prop where
  len : (Builtin.lenOf x).run P w = .ok m w
  ty : P.underlying u = some .string ∨ ∃ e, P.underlying u = some (.slice e)
  first : ∀ (n : Nat) (w' : World), n ≤ m → w'.heap = w.heap → (Builtin.firstCells es n x).run P w' = .ok (news.take (n * es)).toArray w'

theorem source_ok (hT : TabOk P T) (h : Rel E γ s o tm w) {u : TypeId} {v : Value} {a : C} (hx : RX w (E.Sh γ w) γ v (.c a)) {K : Nat → List (List Y) → Prop} (hq : source prims T o u a K) (hpos : ∀ es xs, K es xs → 0 < es) :
    ∃ es xs news, K es xs ∧ Flat w (E.Sh γ w) es xs news ∧ Src P w u v es xs.length news := by
  have slice : ∀ {K : Nat → List (List Y) → Prop}, (∀ es xs, K es xs → 0 < es) → elems prims o a K → (∃ e, (T.at u).el = some e) → ∃ es xs news, K es xs ∧ Flat w (E.Sh γ w) es xs news ∧ Src P w u v es xs.length news := by
    rintro K hpos hq ⟨e, he⟩
    obtain ⟨b, n, c, es, xs, rfl, hl, hk, hc⟩ := elems_slice h hx.1 hq
    have hu := ((hT.el he).el e he).1
    rcases hc with rfl | ⟨g, off, rfl, hp, hc⟩
    · simp at hl; subst hl
      refine ⟨es, [], [], hk, Flat.nil _ _ _, ⟨by simp [Builtin.lenOf], .inr ⟨_, hu⟩, fun n w' hn hw => ?_⟩⟩
      have : n = 0 := by simpa using hn
      subst this
      cases b <;> simp [Builtin.firstCells, loadCells, loadCellsFrom]
    · obtain ⟨news, hf, hcell⟩ := flat_of_cells hp hc
      refine ⟨es, xs, news, hk, hf, ⟨by simp [Builtin.lenOf, hl], .inr ⟨_, hu⟩, fun n' w' hn hw => ?_⟩⟩
      refine run_firstCells_some w' es n' _ n c (news.take (n' * es)) ?_ fun j v hj => ?_
      · rw [List.length_take, hf.len]
        exact Nat.min_eq_left (Nat.mul_le_mul_right _ hn)
      · rw [List.getElem?_take] at hj
        split at hj
        · rw [add_lit]
          have := hcell j v hj
          simp only [World.cell?] at this ⊢
          rw [hw]; exact this
        · cases hj
  have toEl : (match (T.at u).el with | some _ => elems prims o a K | none => False) → elems prims o a K ∧ ∃ e, (T.at u).el = some e := fun hq => by
    cases he : (T.at u).el with
    | none => rw [he] at hq; exact hq.elim
    | some e => rw [he] at hq; exact ⟨hq, e, rfl⟩
  cases a with
  | y c =>
    cases c with
    | sc z =>
      cases z <;> simp only [source] at hq <;> try exact hq.elim
      rename_i b
      have e := rx_sc hx
      subst e
      rw [chk_iff] at hq
      have hu := (hT.of (fun e => by have := hq.1; rw [e] at this; simp at this)).str hq.1
      have hlen : (prims.bytes b).length = b.size := by show (bytesL b.data.toList).length = b.size; simp only [bytesL, List.length_map, Array.length_toList]; rfl
      refine ⟨1, prims.bytes b, b.data.toList.map fun x => .int .u8 x.toNat, hq.2, ⟨by simp [prims, bytesL], ?_, fun i x hi => ?_⟩, ⟨by simp [Builtin.lenOf, hlen], .inl hu, fun n w' hn hw => ?_⟩⟩
      · intro u hu
        simp only [List.mem_map] at hu
        obtain ⟨x, _, rfl⟩ := hu
        rfl
      · simp only [prims, bytesL, List.getElem?_map] at hi
        cases hb : b.data.toList[i]? with
        | none => simp [hb] at hi
        | some z =>
          simp [hb] at hi
          subst hi
          refine ⟨rfl, fun j y hj => ?_⟩
          cases j with
          | zero =>
            simp at hj; subst hj
            refine ⟨.int .u8 z.toNat, ?_, Rep.sc _ rfl⟩
            simp only [Nat.mul_one, Nat.add_zero, List.getElem?_map, hb]; rfl
          | succ j => simp at hj
      · simp only [Builtin.firstCells, Sem.run_pure, Nat.mul_one]
        congr 1
        apply Array.ext'
        rw [hlen] at hn
        simp [ByteArray.data_extract, List.map_take]
    | sl es xs =>
      simp only [source] at hq
      have : (match (T.at u).el with | some _ => elems prims o (.y (.sl es xs)) K | none => False) := hq
      obtain ⟨h1, h2⟩ := toEl this
      exact slice hpos h1 h2
  | _ =>
    simp only [source] at hq
    obtain ⟨h1, h2⟩ := toEl hq
    exact slice hpos h1 h2
end Go.Proofs.YthaelohccopgjaaW
/- Soundness, part 12: append, rows made, conversions. -/
namespace Go.Proofs.YthaelohccopgjaaW
variable {P : Program} {T : Tab} {E : Env} {γ γ' : Ghs} {s s' : Nat → X} {o o' : Look} {tm : Array Value} {w w' : World}

theorem run_append_grow' {t u e ty : TypeId} {ti : TypeInfo} {z : Value} (ht : P.underlying t = some (.slice e)) (hi : P.info? e = some ti) (hz : ti.zero = some z) (base : Option Addr) (sLen sCap n : Nat) (x : Value) (olds news : List Value)
    (hs : Src P w u x ti.size n news) (hnl : news.length = n * ti.size) (ho : (Builtin.firstCells ti.size sLen (.slice base sLen sCap)).run P w.drew = .ok olds.toArray w.drew) (hg : sCap < sLen + n) (h63 : ((sLen + n : Nat) : Int) ≤ 9223372036854775807)
    (hfit : Builtin.nextslicecap (sLen + n) sCap * ti.bytes ≤ 281474976710656) :
    (Builtin.append_ #[t, u] ty #[.slice base sLen sCap, x]).run P w =
      .ok (.slice (some ⟨w.heap.size, 0, none⟩) (sLen + n) (grownCap w (sLen + n) sCap e))
        (w.drew.alloc (.cells (olds.toArray ++ news.toArray ++ Builtin.zeroCells z.cells (grownCap w (sLen + n) sCap e - (sLen + n))) e)) := by
  have hn : ¬ (sLen + n ≤ sCap) := by omega
  have h63' : ¬ (9223372036854775807 < ((sLen : Int) + (n : Int))) := by omega
  have h48' : ¬ (281474976710656 < Builtin.nextslicecap (sLen + n) sCap * ti.bytes) := by omega
  have hf := hs.first n w.drew (Nat.le_refl _) rfl
  rw [List.take_of_length_le (by rw [hnl]; exact Nat.le_refl _)] at hf
  rcases hs.ty with hu | ⟨e', hu⟩
  · simp [Builtin.append_, run_underlying ht, run_underlying hu, sizeOf, typeInfo, zeroValue, hi, hz, hs.len, hn, h63', h48', Question.forced, hf, ho, newRow, grownCap]
    congr 2
    apply Array.ext'
    simp [List.append_assoc]
  · simp [Builtin.append_, run_underlying ht, run_underlying hu, sizeOf, typeInfo, zeroValue, hi, hz, hs.len, hn, h63', h48', Question.forced, hf, ho, newRow, grownCap]
    congr 2
    apply Array.ext'
    simp [List.append_assoc]

theorem run_append_fit {t u e ty : TypeId} {ti : TypeInfo} (ht : P.underlying t = some (.slice e)) (hi : P.info? e = some ti) (base : Option Addr) (sLen sCap n : Nat) (x : Value) (news : List Value)
    (hs : Src P w u x ti.size n news) (hnl : news.length = n * ti.size) (hle : sLen + n ≤ sCap) (hst : ∀ a, base = some a → (storeCells (a.add (sLen * ti.size)) news).run P w = .ok () w') (hnb : base = none → w' = w) :
    (Builtin.append_ #[t, u] ty #[.slice base sLen sCap, x]).run P w = .ok (.slice base (sLen + n) sCap) w' := by
  have hf := hs.first n w (Nat.le_refl _) rfl
  rw [List.take_of_length_le (by rw [hnl]; exact Nat.le_refl _)] at hf
  cases base with
  | none =>
    have e := hnb rfl
    subst e
    rcases hs.ty with hu | ⟨e', hu⟩ <;> simp [Builtin.append_, run_underlying ht, run_underlying hu, sizeOf, typeInfo, hi, hs.len, hle, hf]
  | some a =>
    have := hst a rfl
    rcases hs.ty with hu | ⟨e', hu⟩ <;> simp [Builtin.append_, run_underlying ht, run_underlying hu, sizeOf, typeInfo, hi, hs.len, hle, hf, this]

theorem lenOk_iff {n : Int} : prims.lenOk n = true ↔ n ≤ 4294967296 := decide_eq_true_iff

/-- The row that an append has made. -/
theorem grown_row {S : Nat → Prop} {e : TypeId} {z : Value} {es n cap : Nat} {xs : List (List Y)} {news : List Value} {cells : Array Value} (hf : Flat w S es xs news) (hn : xs.length = n) (hp : 0 < es) (hz : z.cells.size = es) (hzo : ∀ v ∈ z.cells, v.oneCell' = true)
    (hle : n ≤ cap) (hm : cap ≤ maxLen) (hcp : 0 < cap) (hc : cells = news.toArray ++ Builtin.zeroCells z.cells (cap - n)) {g : Nat} (hh : w.heap[g]? = some (.cells cells e (0, 0))) : RowOk w S g es cap n xs := by
  subst hn
  have hsz : cells.size = cap * es := by
    rw [hc, Array.size_append, List.size_toArray, size_zeroCells, hz, hf.len, ← Nat.add_mul]; congr 1; omega
  refine RowOk.of hf hp hle hm hcp hh (ZOk.zero _) hsz (fun u hu => ?_) fun i u hi => ?_
  · rw [hc, Array.mem_append] at hu
    rcases hu with hu | hu
    · exact hf.one u (by simpa using hu)
    · simp only [Builtin.zeroCells, Array.mem_map, Array.mem_range] at hu
      obtain ⟨i, h1, rfl⟩ := hu
      have hpos : i % z.cells.size < z.cells.size := Nat.mod_lt _ (by omega)
      rw [getElem!_pos z.cells _ hpos]
      exact hzo _ (Array.getElem_mem hpos)
  · rw [hc, Array.getElem?_append_left (by simpa using (List.getElem?_eq_some_iff.1 hi).1)]
    simpa using hi

theorem Fr.drew (w : World) (ob : Obj) : Fr (fun _ => False) w (w.drew.alloc ob) := ⟨rfl, rfl, rfl, by simp, fun k hk _ => heap_alloc_old w.drew ob hk⟩

theorem zeroC_one {vs : List Value} {cs : List C} (h : zeroC vs cs) : ∀ v ∈ vs, v.oneCell' = true := by
  have := (zeroC_ok default (fun _ => .no) (fun _ => False) h).1
  intro v hv
  obtain ⟨j, hj, rfl⟩ := List.getElem_of_mem hv
  have hl := this.length
  obtain ⟨v', h1, h2⟩ := this.get (j := j) (c := cs[j]'(by omega)) (List.getElem?_eq_getElem (by omega))
  rw [List.getElem?_eq_getElem hj] at h1
  cases h1
  exact h2.2

structure ElOk (P : Program) (t : TypeId) (e : Nat × Nat × Nat × Bool) (ti : TypeInfo) (z : Value) : Prop where
  under : P.underlying t = some (.slice e.1)
  info : P.info? e.1 = some ti
  size : ti.size = e.2.1
  bytes : ti.bytes = e.2.2.1
  zero : ti.zero = some z
  zs : z.cells.size = e.2.1
  zo : ∀ v ∈ z.cells, v.oneCell' = true
  byte : e.2.2.2 = true → P.underlying e.1 = some (.int .u8)
theorem TabOk.elOk (hT : TabOk P T) {t : TypeId} {e : Nat × Nat × Nat × Bool} (he : (T.at t).el = some e) : ∃ ti z, ElOk P t e ti z := by
  obtain ⟨h1, ⟨ti, h2, h3, h4, z, h5, h6, h7⟩, h8⟩ := (hT.el he).el e he
  exact ⟨ti, z, h1, h2, h3, h4, h5, h6, fun v hv => h7 v (by simpa using hv), h8⟩

/-- An append to nothing. -/
theorem qAppend_ok (hT : TabOk P T) (h : Rel E γ s o tm w) {d t u : Nat} {v z : Value} {x y : X} (hx : RX w (E.Sh γ w) γ v x) (hy : RX w (E.Sh γ w) γ z y) {K : QK} (hq : qAppend prims T o d t u x y K) (ty : TypeId) :
    QOp P E γ w d ((Builtin.append_ #[t, u] ty #[v, z]).run P w) K := by
  simp only [qAppend] at hq
  cases hel : (T.at t).el with
  | none => simp [hel] at hq
  | some e =>
    simp only [hel, asC_iff] at hq
    obtain ⟨a, rfl, b, rfl, hq⟩ := hq
    cases a <;> simp only at hq <;> try exact hq.elim
    rename_i es0
    obtain ⟨p, rfl⟩ := hx.1
    obtain ⟨es, xs, news, hk, hf, hs⟩ := source_ok (P := P) hT h hy hq (fun es xs hk => by simp only [chk_iff] at hk; simpa using hk.2.1)
    simp only [chk_iff, lenOk_iff] at hk
    obtain ⟨h1, h2, h3, h4, hk⟩ := hk
    have h1 := eqN_t h1
    have h3 := leN_t h3
    have h2 : 0 < es := by simpa using h2
    have h4 : xs.length ≤ 4294967296 := by simp only [prims] at h4; omega
    obtain ⟨ti, zz, he⟩ := hT.elOk hel
    have hes : ti.size = es := by rw [he.size, h1]
    by_cases hn : xs.length = 0
    · have hx0 : xs = [] := List.eq_nil_of_length_eq_zero hn
      subst hx0
      have hn0 : news = [] := List.eq_nil_of_length_eq_zero (by simpa using hf.len)
      subst hn0
      refine ⟨_, _, _, (fun k => if k = key d 1 then .nil else γ k), w, run_append_fit (w' := w) he.under he.info p 0 0 0 z [] (by rw [hes]; exact hs) (by simp) (by omega) (fun a _ => by simp [storeCells]) (fun _ => rfl), ?_, hk⟩
      refine QRes.one (c := 1) (G := .nil) (Fr.refl _ _) (fun g hg => by simp [Gh.bs] at hg) ⟨?_, .inr rfl⟩ ?_
      · simp [RC]
      · exact .inl ⟨by simp, rfl⟩
    · have hb : xs.length * ti.bytes ≤ 140737488355328 := by
        rw [he.bytes]
        have : xs.length * e.2.2.1 ≤ 4294967296 * 16384 := Nat.mul_le_mul h4 h3
        omega
      have hr := run_append_grow' (w := w) (ty := ty) he.under he.info he.zero p 0 0 xs.length z [] news (by rw [hes]; exact hs) (by rw [hes]; exact hf.len)
        (by cases p <;> simp [Builtin.firstCells, loadCells, loadCellsFrom]) (by omega) (by omega) (growslice_fits (by omega) (by simpa using hb))
      simp only [Nat.zero_add, show ([] : List Value).toArray = #[] from rfl, Array.empty_append] at hr
      refine ⟨_, _, _, (fun k => if k = key d 1 then .row w.heap.size es (grownCap w xs.length 0 e.1) xs.length else γ k), _, hr, ?_, hk⟩
      have hge := grownCap_ge w xs.length 0 e.1
      have hle := grownCap_le_maxLen w xs.length 0 e.1 (by simp only [maxLen]; omega)
      have hfr := Fr.drew w (.cells (news.toArray ++ Builtin.zeroCells zz.cells (grownCap w xs.length 0 e.1 - xs.length)) e.1)
      refine QRes.one (c := 1) (G := .row w.heap.size es (grownCap w xs.length 0 e.1) xs.length) hfr (fun g hg => by simp [Gh.bs] at hg; subst hg; exact ⟨Nat.le_refl _, by simp⟩) ⟨?_, .inr rfl⟩ ?_
      · simp [RC]
      · refine .inr ⟨w.heap.size, grownCap w xs.length 0 e.1, xs.length, by simp, ?_⟩
        refine grown_row (hf.mono fun v y hr => ?_) rfl h2 (by rw [he.zs, h1]) he.zo hge hle (by omega) rfl (heap_alloc_new w.drew _)
        have hnx : Nx γ w (fun k => if k = key d 1 then Gh.row w.heap.size es (grownCap w xs.length 0 e.1) xs.length else γ k) (w.drew.alloc (.cells (news.toArray ++ Builtin.zeroCells zz.cells (grownCap w xs.length 0 e.1 - xs.length)) e.1)) :=
          ⟨hfr.mono fun _ h => h.elim, fun b ⟨k, hk⟩ => by
            by_cases e : k = key d 1
            · simp [e, Gh.bs] at hk; exact .inr (by omega)
            · simp [e] at hk; exact .inl ⟨k, hk⟩⟩
        exact hnx.rep hr
end Go.Proofs.YthaelohccopgjaaW
