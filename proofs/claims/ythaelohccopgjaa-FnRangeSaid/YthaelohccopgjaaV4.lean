/- An evaluator of loaded code by value, and the proof that what it shows holds of calls; part 4. Conditions: the program draws orders in the mixed way, and the table of types is as the program has it. -/
import Derived.Test.YthaelohccopgjaaV3
import Derived.Laws.Externs
import Derived.Laws.StandIn
set_option linter.unusedVariables false
set_option linter.unusedSimpArgs false
set_option linter.unnecessarySimpa false
/- Aids for functions: branches told, numbers that count, comparisons as propositions. -/
namespace Go.Proofs.YthaelohccopgjaaW
theorem brT {b : Bool} {K L : Prop} (h : b = true) (k : K) : brk b K L := brkI (fun _ => k) (fun h' => by rw [h] at h'; cases h')
theorem brF {b : Bool} {K L : Prop} (h : b = false) (k : L) : brk b K L := brkI (fun h' => by rw [h] at h'; cases h') (fun _ => k)
theorem add1 {j : Nat} (h : j < 9223372036854775807) : prims.add .i64 (Int.ofNat j) 1 = Int.ofNat (j + 1) := by
  have : (Int.ofNat j) = (j : Int) := rfl
  show IntKind.i64.wrap (Int.ofNat j + 1) = _
  rw [wrap_i64 (by omega) (by omega)]; rfl
theorem lt_t {a b : Int} (h : prims.lt a b = true) : a < b := of_decide_eq_true h
theorem lt_f {a b : Int} (h : prims.lt a b = false) : b ≤ a := Int.not_lt.1 (of_decide_eq_false h)
theorem le_t {a b : Int} (h : prims.le a b = true) : a ≤ b := of_decide_eq_true h
theorem le_f {a b : Int} (h : prims.le a b = false) : b < a := Int.not_le.1 (of_decide_eq_false h)
theorem eq_t {a b : Int} (h : prims.eq a b = true) : a = b := eq_of_beq h
theorem eq_f {a b : Int} (h : prims.eq a b = false) : a ≠ b := ne_of_beq_false h
theorem mk_lt {a b : Int} (h : a < b) : prims.lt a b = true := decide_eq_true h
theorem mk_nlt {a b : Int} (h : b ≤ a) : prims.lt a b = false := decide_eq_false (Int.not_lt.2 h)
theorem mk_le {a b : Int} (h : a ≤ b) : prims.le a b = true := decide_eq_true h
theorem mk_nle {a b : Int} (h : b < a) : prims.le a b = false := decide_eq_false (Int.not_le.2 h)
theorem maxLen_is : maxLen = 9223372036854775807 := rfl
theorem ite_f {α : Type} {b : Bool} {x y : α} (h : b = false) : (if b then x else y) = y := by rw [h]; rfl
theorem ite_t {α : Type} {b : Bool} {x y : α} (h : b = true) : (if b then x else y) = x := by rw [h]; rfl
theorem lget {xs : List (List Y)} {i : Nat} {x : List Y} {K : List Y → Prop} (h : xs[i]? = some x) (k : K x) : ∃ x, LGet xs (Int.ofNat i) x ∧ K x := ⟨x, ⟨Int.natCast_nonneg i, h⟩, k⟩
theorem callK {P : Program} {Ca : Contract} (hC : CallC P = Ca) {f : FuncId} {as : List A} {k : IntKind} {n : Int} {K : RQ → Prop} (h : CallOK P f as ⟨.c (.y (.sc (.int k n))), []⟩) (kk : ∀ m, m = n → K (.one ⟨.c (.y (.sc (.int k m))), []⟩)) : ∃ q, Ca f as q ∧ K q := ⟨.one _, hC ▸ (show CallC P f as (.one _) from h), kk _ rfl⟩
theorem xorComm (k : IntKind) (a b : Int) : prims.xor k a b = prims.xor k b a := by
  show bitsW .xor k a b = bitsW .xor k b a
  simp only [bitsW, BitVec.xor_comm]
theorem compl_u32 (a : Int) : prims.compl .u32 a = prims.xor .u32 a 4294967295 := by rw [xorComm]; rfl
/-- A number's last byte. -/
def lastByte (a : Int) : UInt8 := UInt8.ofNat (prims.conv .u8 a).toNat
theorem conv_u8 (a : Int) : prims.conv .u8 a = a % 256 := by
  show IntKind.u8.wrap a = _
  unfold IntKind.wrap
  simp [IntKind.bits, IntKind.signed]
theorem lastByte_is (a : Int) : ((lastByte a).toNat : Int) = prims.conv .u8 a := by
  rw [lastByte, conv_u8]
  have h1 : 0 ≤ a % 256 := Int.emod_nonneg _ (by decide)
  have h2 : a % 256 < 256 := Int.emod_lt_of_pos _ (by decide)
  have : (UInt8.ofNat (a % 256).toNat).toNat = (a % 256).toNat := by simp [UInt8.toNat_ofNat']; omega
  rw [this]; omega
theorem byte_row (a : Int) : [Y.sc (.int .u8 (prims.conv .u8 a))] = [Y.sc (.int .u8 (lastByte a).toNat)] := by rw [lastByte_is]
theorem xor_u32_range (a b : Int) : 0 ≤ prims.xor .u32 a b ∧ prims.xor .u32 a b < 4294967296 := by
  have e : ∀ n : Int, IntKind.u32.wrap n = n % 4294967296 := fun n => by unfold IntKind.wrap; simp [IntKind.bits, IntKind.signed]
  show 0 ≤ IntKind.u32.wrap _ ∧ IntKind.u32.wrap _ < 4294967296
  rw [e]
  exact ⟨Int.emod_nonneg _ (by decide), Int.emod_lt_of_pos _ (by decide)⟩
theorem conv_i64_xor (a b : Int) : prims.conv .i64 (prims.xor .u32 a b) = prims.xor .u32 a b := by
  have := xor_u32_range a b
  exact wrap_i64 (by omega) (by omega)
theorem toList_inj {a b : ByteArray} : a.toList = b.toList ↔ a = b := by
  rw [ByteArray.toList_eq, ByteArray.toList_eq]
  constructor
  · intro h
    cases a; cases b
    rename_i x y
    cases x; cases y
    simp_all
  · rintro rfl; rfl
theorem seq_is (a b : ByteArray) : (a.toList == b.toList) = decide (a = b) := by
  rw [Bool.eq_iff_iff, beq_iff_eq, decide_eq_true_iff, toList_inj]
/-- A row of places, filled up to a place. -/
def fill {α : Type} (row : α → List Y) (z : List Y) (l : List α) (i : Nat) : List (List Y) := (l.take i).map row ++ List.replicate (l.length - i) z
theorem fill_zero {α : Type} (row : α → List Y) (z : List Y) (l : List α) : List.replicate l.length z = fill row z l 0 := by simp [fill]
theorem fill_end {α : Type} (row : α → List Y) (z : List Y) (l : List α) : fill row z l l.length = l.map row := by simp [fill]
theorem fill_len {α : Type} (row : α → List Y) (z : List Y) (l : List α) {i : Nat} (h : i ≤ l.length) : (fill row z l i).length = l.length := by simp [fill]; omega
theorem fill_get {α : Type} (row : α → List Y) (z : List Y) (l : List α) {i : Nat} (h : i < l.length) : (fill row z l i)[i]? = some z := by
  rw [fill, List.getElem?_append_right (by simp; omega)]
  simp only [List.length_map, List.length_take, Nat.min_eq_left (Nat.le_of_lt h), Nat.sub_self]
  rw [List.getElem?_replicate, if_pos (by omega)]
theorem fill_set {α : Type} (row : α → List Y) (z : List Y) (l : List α) {i : Nat} (h : i < l.length) : prims.lset (fill row z l i) (Int.ofNat i) (row l[i]) = fill row z l (i + 1) := by
  show (fill row z l i).set (Int.ofNat i).toNat (row l[i]) = _
  have e : (Int.ofNat i).toNat = i := rfl
  rw [e, fill, fill, List.set_append_right _ _ (by simp; omega), List.take_succ_eq_append_getElem h]
  have e2 : l.length - i = (l.length - (i + 1)) + 1 := by omega
  simp only [List.length_map, List.length_take, Nat.min_eq_left (Nat.le_of_lt h), Nat.sub_self]
  rw [e2, List.replicate_succ, List.set_cons_zero, List.map_append, List.append_assoc]; rfl
/-- An element's row. -/
theorem row_get {α : Type} {row : α → List Y} {l : List α} {xs : List (List Y)} (hx : xs = l.map row) {i : Nat} (h : i < l.length) {u : α} (hu : u = l[i]) : xs[i]? = some (row u) := by
  rw [hx, List.getElem?_map, List.getElem?_eq_getElem h, ← hu]; rfl
/-- A loop from a state, what follows kept closed. -/
theorem loop_k {body : State → Post → Prop} {K : Post} {α : Type} (st : α → State) (pre : α → Prop) (μ : α → Nat) (a0 : α) {s0 : State} (hs : st a0 = s0) (h0 : pre a0)
    (h : ∀ (K' : Post), (∀ e s', K e s' → K' e s') → ∀ (I : State → Prop) (a : α), pre a → (∀ a', pre a' → μ a' < μ a → I (st a')) → body (st a) (fun e s' => match e with | .normal => I s' | .exit i => K' (.exit i) s' | .ret => K' .ret s')) : Loop body K s0 :=
  loop_at st pre μ a0 hs h0 (h K fun _ _ h => h)
/-- Code behind code: the second part kept closed while the first runs. -/
theorem seqK {F : Prims} {T : Tab} {g : Cfg} {Ca : Contract} {fn : Nat} {c d : Code} {st : State} {K : Post}
    (h : ∀ K1 : Post, (∀ s', run F T g Ca fn d s' K → K1 .normal s') → (∀ i s', K (.exit i) s' → K1 (.exit i) s') → (∀ s', K .ret s' → K1 .ret s') → run F T g Ca fn c st K1) : run F T g Ca fn (.seq c d) st K := by
  have := h (fun e st => match e with
    | .normal => run F T g Ca fn d st K
    | .exit i => K (.exit i) st
    | .ret => K .ret st) (fun _ h => h) (fun _ _ h => h) (fun _ h => h)
  rw [run]
  exact cast (congrArg (run F T g Ca fn c st) (funext fun e => funext fun s => by cases e <;> rfl)) this
/-- To look at the state at a loop. -/
theorem peek {body : State → Post → Prop} {K : Post} {s0 : State} (h : ∀ s, s = s0 → Loop body K s) : Loop body K s0 := h _ rfl
end Go.Proofs.YthaelohccopgjaaW
/- Aids for functions, more: loops told by what turns in them, sizes counted down, facts of comparisons. -/
namespace Go.Proofs.YthaelohccopgjaaW
/-- A loop from a state, told by what turns in it. -/
theorem loop_u {body : State → Post → Prop} {K : Post} {α : Type} (up : α → State → State) (pre : α → Prop) (μ : α → Nat) (a0 : α) {s0 : State} (hs : up a0 s0 = s0) (h0 : pre a0)
    (h : ∀ (K' : Post), (∀ e s', K e s' → K' e s') → ∀ (I : State → Prop) (a : α), pre a → (∀ a' s', pre a' → μ a' < μ a → s' = up a' s0 → I s') → body (up a s0) (fun e s' => match e with | .normal => I s' | .exit i => K' (.exit i) s' | .ret => K' .ret s')) : Loop body K s0 :=
  loop_k (fun a => up a s0) pre μ a0 hs h0 fun K' hK I a ha ih => h K' hK I a ha fun a' s' h1 h2 h3 => h3 ▸ ih a' h1 h2
def State.ob (k : Nat) (b : Ob) (st : State) : State := ⟨st.s, put1 st.o k b⟩
def State.sc (i : Nat) (v : Value) (st : State) : State := ⟨put1 st.s i (.c (.y (.sc v))), st.o⟩
abbrev State.n (i : Nat) (n : Int) (st : State) : State := st.sc i (.int .i64 n)
abbrev State.str (i : Nat) (s : ByteArray) (st : State) : State := st.sc i (.string s)
def State.ls (i es : Nat) (xs : List (List Y)) (st : State) : State := ⟨put1 st.s i (.c (.y (.sl es xs))), st.o⟩
def rowI (n : Int) : List Y := [yN n]
def rowS (s : ByteArray) : List Y := [yS s]
def rowB (b : Bool) : List Y := [yB b]
theorem ilt_t {i : Nat} {xs : List (List Y)} (h : prims.lt (Int.ofNat i) (prims.llen xs) = true) : i < xs.length := Int.ofNat_lt.1 (lt_t h)
theorem ilt_f {i : Nat} {xs : List (List Y)} (h : prims.lt (Int.ofNat i) (prims.llen xs) = false) : xs.length ≤ i := Int.ofNat_le.1 (lt_f h)
theorem silt_t {i : Nat} {s : ByteArray} (h : prims.lt (Int.ofNat i) (prims.slen s) = true) : i < s.size := Int.ofNat_lt.1 (lt_t h)
theorem silt_f {i : Nat} {s : ByteArray} (h : prims.lt (Int.ofNat i) (prims.slen s) = false) : s.size ≤ i := Int.ofNat_le.1 (lt_f h)
/-- A list's element, as the list is made of rows. -/
theorem lgetR {α : Type} {row : α → List Y} {l : List α} {xs : List (List Y)} (hx : xs = l.map row) {i : Nat} (h : i < l.length) {K : List Y → Prop} (k : ∀ u, u = l[i] → K (row u)) : ∃ x, LGet xs (Int.ofNat i) x ∧ K x := lget (row_get hx h rfl) (k _ rfl)
/-- The rows of a list, under a name that code run by value does not open. -/
theorem mapEx : ∃ M : ∀ {α : Type}, (α → List Y) → List α → List (List Y), ∀ {α : Type} (f : α → List Y) (l : List α), l.map f = M f l := ⟨fun f l => l.map f, fun _ _ => rfl⟩
theorem lgetM {α : Type} {row : α → List Y} {l : List α} {xs : List (List Y)} (rowm : α → List Y) (e : ∀ u, row u = rowm u) (hx : xs = l.map row) {i : Nat} (h : i < l.length) {K : List Y → Prop} (k : ∀ u, u = l[i] → K (rowm u)) : ∃ x, LGet xs (Int.ofNat i) x ∧ K x := by
  refine lget (row_get hx h rfl) ?_
  rw [e]
  exact k _ rfl
/-! What the numbers' names mean: hF tells. -/
section
variable {F : Prims} (hF : prims = F)
include hF
theorem ltT {a b : Int} (h : F.lt a b = true) : a < b := by subst hF; exact lt_t h
theorem ltF {a b : Int} (h : F.lt a b = false) : b ≤ a := by subst hF; exact lt_f h
theorem leT {a b : Int} (h : F.le a b = true) : a ≤ b := by subst hF; exact le_t h
theorem leF {a b : Int} (h : F.le a b = false) : b < a := by subst hF; exact le_f h
theorem eqT {a b : Int} (h : F.eq a b = true) : a = b := by subst hF; exact eq_t h
theorem eqF {a b : Int} (h : F.eq a b = false) : a ≠ b := by subst hF; exact eq_f h
theorem mkLt {a b : Int} (h : a < b) : F.lt a b = true := by subst hF; exact mk_lt h
theorem mkNlt {a b : Int} (h : b ≤ a) : F.lt a b = false := by subst hF; exact mk_nlt h
theorem mkLe {a b : Int} (h : a ≤ b) : F.le a b = true := by subst hF; exact mk_le h
theorem mkNle {a b : Int} (h : b < a) : F.le a b = false := by subst hF; exact mk_nle h
theorem mkEq {a b : Int} (h : a = b) : F.eq a b = true := by subst hF; exact beq_iff_eq.2 h
theorem mkNe {a b : Int} (h : a ≠ b) : F.eq a b = false := by subst hF; exact beq_eq_false_iff_ne.2 h
theorem ltD (a b : Int) : F.lt a b = decide (a < b) := by subst hF; rfl
theorem leD (a b : Int) : F.le a b = decide (a ≤ b) := by subst hF; rfl
theorem eqD (a b : Int) : F.eq a b = decide (a = b) := by subst hF; rw [Bool.eq_iff_iff, decide_eq_true_iff]; exact beq_iff_eq
theorem seqD (a b : ByteArray) : F.seq a b = decide (a = b) := by subst hF; exact seq_is a b
theorem llenIs (xs : List (List Y)) : F.llen xs = (xs.length : Int) := by subst hF; rfl
theorem slenIs (s : ByteArray) : F.slen s = (s.size : Int) := by subst hF; rfl
theorem iltT {i : Nat} {xs : List (List Y)} (h : F.lt (Int.ofNat i) (F.llen xs) = true) : i < xs.length := by subst hF; exact ilt_t h
theorem iltF {i : Nat} {xs : List (List Y)} (h : F.lt (Int.ofNat i) (F.llen xs) = false) : xs.length ≤ i := by subst hF; exact ilt_f h
theorem siltT {i : Nat} {s : ByteArray} (h : F.lt (Int.ofNat i) (F.slen s) = true) : i < s.size := by subst hF; exact silt_t h
theorem siltF {i : Nat} {s : ByteArray} (h : F.lt (Int.ofNat i) (F.slen s) = false) : s.size ≤ i := by subst hF; exact silt_f h
theorem addIs {a b : Int} (h0 : -9223372036854775808 ≤ a + b) (h1 : a + b ≤ 9223372036854775807) : F.add .i64 a b = a + b := by subst hF; exact wrap_i64 h0 h1
theorem subIs {a b : Int} (h0 : -9223372036854775808 ≤ a - b) (h1 : a - b ≤ 9223372036854775807) : F.sub .i64 a b = a - b := by subst hF; exact wrap_i64 h0 h1
theorem mulIs {a b : Int} (h0 : -9223372036854775808 ≤ a * b) (h1 : a * b ≤ 9223372036854775807) : F.mul .i64 a b = a * b := by subst hF; exact wrap_i64 h0 h1
theorem add1Is {j : Nat} (h : j < 9223372036854775807) : F.add .i64 (Int.ofNat j) 1 = Int.ofNat (j + 1) := by subst hF; exact add1 h
theorem addNIs {j k : Nat} (h : j + k ≤ 9223372036854775807) : F.add .i64 (Int.ofNat j) (Int.ofNat k) = Int.ofNat (j + k) := by
  have e1 : Int.ofNat j = (j : Int) := rfl
  have e2 : Int.ofNat k = (k : Int) := rfl
  have e3 : Int.ofNat (j + k) = ((j + k : Nat) : Int) := rfl
  rw [addIs hF (by omega) (by omega), e1, e2, e3]; omega
theorem subLenIs {xs : List (List Y)} {left : Int} (h0 : -9223372036854775808 ≤ left - xs.length) (h1 : left - xs.length ≤ 9223372036854775807) : F.sub .i64 left (F.llen xs) = left - xs.length := by subst hF; exact wrap_i64 h0 h1
theorem subSlenIs {s : ByteArray} {left : Int} (h0 : -9223372036854775808 ≤ left - s.size) (h1 : left - s.size ≤ 9223372036854775807) : F.sub .i64 left (F.slen s) = left - s.size := by subst hF; exact wrap_i64 h0 h1
theorem lenOkIs {n : Int} (h : n ≤ 4294967296) : F.lenOk n = true := by subst hF; exact decide_eq_true h
theorem lenOkLen {xs : List (List Y)} (h : xs.length ≤ 4294967296) : F.lenOk (F.llen xs) = true := by subst hF; exact decide_eq_true (by show (xs.length : Int) ≤ 4294967296; omega)
theorem catOkIs {a b : ByteArray} (h : a.size + b.size ≤ 9223372036854775807) : F.catOk a b = true := by subst hF; exact decide_eq_true h
theorem catIs (a b : ByteArray) : F.cat a b = a ++ b := by subst hF; rfl
theorem seqT {a b : ByteArray} (h : F.seq a b = true) : a = b := by subst hF; exact toList_inj.1 (eq_of_beq h)
theorem seqF {a b : ByteArray} (h : F.seq a b = false) : a ≠ b := by subst hF; exact fun e => ne_of_beq_false h (congrArg ByteArray.toList e)
theorem mkSeq {a b : ByteArray} (h : a = b) : F.seq a b = true := by subst hF; subst h; exact beq_self_eq_true _
theorem mkNseq {a b : ByteArray} (h : a ≠ b) : F.seq a b = false := by subst hF; exact beq_eq_false_iff_ne.2 fun e => h (toList_inj.1 e)
theorem lsetIs (l : List (List Y)) (i : Int) (x : List Y) : F.lset l i x = prims.lset l i x := by subst hF; rfl
theorem lappIs (a b : List (List Y)) : F.lapp a b = a ++ b := by subst hF; rfl
theorem bnotT {b : Bool} (h : F.bnot b = true) : b = false := by subst hF; cases b <;> first | rfl | cases h
theorem bnotF {b : Bool} (h : F.bnot b = false) : b = true := by subst hF; cases b <;> first | rfl | cases h
theorem repIs (n : Nat) (x : List Y) : F.rep (Int.ofNat n) x = List.replicate n x := by subst hF; rfl
theorem repLen (xs : List (List Y)) (x : List Y) : F.rep (F.llen xs) x = List.replicate xs.length x := by subst hF; rfl
theorem zeroLe (n : Nat) : F.le 0 (Int.ofNat n) = true := by subst hF; exact mk_le (Int.natCast_nonneg _)
theorem zeroLeLen (xs : List (List Y)) : F.le 0 (F.llen xs) = true := by subst hF; exact mk_le (b := (xs.length : Int)) (Int.natCast_nonneg _)
theorem zeroLeSlen (s : ByteArray) : F.le 0 (F.slen s) = true := by subst hF; exact mk_le (b := (s.size : Int)) (Int.natCast_nonneg _)
theorem leSelf (n : Int) : F.le n n = true := by subst hF; exact mk_le (Int.le_refl _)
theorem mkIlt {i : Nat} {xs : List (List Y)} (h : i < xs.length) : F.lt (Int.ofNat i) (F.llen xs) = true := by subst hF; exact decide_eq_true (by show (i : Int) < (xs.length : Int); omega)
theorem mkSilt {i : Nat} {s : ByteArray} (h : i < s.size) : F.lt (Int.ofNat i) (F.slen s) = true := by subst hF; exact decide_eq_true (by show (i : Int) < (s.size : Int); omega)
end
/-! Sizes counted down -/
def less1 (left : Int) (n : Nat) : Int := if left < n then -1 else left - n
def next (q : Int) (f : Int → Int) : Int := if q < 0 then -1 else f q
theorem next_neg {q : Int} {f : Int → Int} (h : q < 0) : next q f = -1 := if_pos h
theorem next_pos {q : Int} {f : Int → Int} (h : ¬ q < 0) : next q f = f q := if_neg h
theorem less1_neg {q : Int} {n : Nat} {f : Int → Int} (h : q < n) : next (less1 q n) f = -1 := by rw [less1, if_pos h]; rfl
theorem less1_pos {q : Int} {n : Nat} {f : Int → Int} (h : ¬ q < n) : next (less1 q n) f = f (q - n) := by rw [less1, if_neg h]; exact if_neg (by omega)
def SzOk {α : Type} (sz : α → Int → Int) (B : α → Prop) : Prop := ∀ v left, 0 ≤ left → left ≤ 1048576 → ¬ sz v left < 0 → B v ∧ 0 ≤ sz v left ∧ sz v left ≤ left
def szRunL {α : Type} (sz : α → Int → Int) : List α → Int → Int
  | [], left => left
  | v :: l, left => next (sz v left) (szRunL sz l)
def szL {α : Type} (sz : α → Int → Int) (l : List α) (left : Int) : Int := next (less1 left l.length) (szRunL sz l)
def szN {α : Type} (l : List α) (left : Int) : Int := next (less1 left l.length) fun q => q
theorem szRunL_ok {α : Type} {sz : α → Int → Int} {B : α → Prop} (h : SzOk sz B) : ∀ (l : List α) (left : Int), 0 ≤ left → left ≤ 1048576 → ¬ szRunL sz l left < 0 → (∀ v ∈ l, B v) ∧ 0 ≤ szRunL sz l left ∧ szRunL sz l left ≤ left
  | [], left, h0, h1, hn => ⟨by simp, h0, Int.le_refl _⟩
  | v :: l, left, h0, h1, hn => by
    rw [szRunL] at hn ⊢
    by_cases e : sz v left < 0
    · rw [next_neg e] at hn; exact absurd (by decide) hn
    · rw [next_pos e] at hn ⊢
      have a := h v left h0 h1 e
      have b := szRunL_ok h l _ a.2.1 (by omega) hn
      exact ⟨fun u hu => (List.mem_cons.1 hu).elim (fun e => e ▸ a.1) (b.1 u), b.2.1, by omega⟩
theorem less1_ok {n : Nat} {left : Int} {f : Int → Int} (h0 : 0 ≤ left) (hn : ¬ next (less1 left n) f < 0) : (n : Int) ≤ left ∧ next (less1 left n) f = f (left - n) := by
  by_cases e : left < n
  · rw [less1_neg e] at hn; exact absurd (by decide) hn
  · exact ⟨by omega, less1_pos e⟩
theorem next_ok {q : Int} {f : Int → Int} (hn : ¬ next q f < 0) : ¬ q < 0 ∧ next q f = f q := by
  by_cases e : q < 0
  · rw [next_neg e] at hn; exact absurd (by decide) hn
  · exact ⟨e, next_pos e⟩
theorem szL_ok {α : Type} {sz : α → Int → Int} {B : α → Prop} (h : SzOk sz B) : SzOk (szL sz) (fun l => l.length ≤ 1048576 ∧ ∀ v ∈ l, B v) := by
  intro l left h0 h1 hn
  unfold szL at hn ⊢
  obtain ⟨a, e⟩ := less1_ok h0 hn
  rw [e] at hn ⊢
  have b := szRunL_ok h l _ (by omega) (by omega) hn
  exact ⟨⟨by omega, b.1⟩, b.2.1, by omega⟩
theorem szN_ok {α : Type} : SzOk (szN (α := α)) (fun l => l.length ≤ 1048576) := by
  intro l left h0 h1 hn
  unfold szN at hn ⊢
  obtain ⟨a, e⟩ := less1_ok h0 hn
  rw [e]
  exact ⟨by omega, by omega, by omega⟩
theorem sub_len {xs : List (List Y)} {left : Int} (h0 : -9223372036854775808 ≤ left - (xs.length : Int)) (h1 : left - (xs.length : Int) ≤ 9223372036854775807) : prims.sub .i64 left (prims.llen xs) = left - (xs.length : Int) := wrap_i64 h0 h1
theorem sub_slen {s : ByteArray} {left : Int} (h0 : -9223372036854775808 ≤ left - (s.size : Int)) (h1 : left - (s.size : Int) ≤ 9223372036854775807) : prims.sub .i64 left (prims.slen s) = left - (s.size : Int) := wrap_i64 h0 h1
/-! Loops that look for something -/
def allTo (p : Nat → Bool) : Nat → Bool
  | 0 => true
  | n + 1 => allTo p n && p n
theorem allTo_iff {p : Nat → Bool} : ∀ {n : Nat}, allTo p n = true ↔ ∀ i, i < n → p i = true
  | 0 => by simp [allTo]
  | n + 1 => by
    rw [allTo, Bool.and_eq_true, allTo_iff]
    constructor
    · rintro ⟨h1, h2⟩ i hi
      rcases Nat.lt_succ_iff_lt_or_eq.1 hi with h | rfl
      · exact h1 i h
      · exact h2
    · exact fun h => ⟨fun i hi => h i (Nat.lt_succ_of_lt hi), h n (Nat.lt_succ_self n)⟩
theorem allTo_false {p : Nat → Bool} {n i : Nat} (h : i < n) (hp : p i = false) : allTo p n = false := by
  cases ha : allTo p n with
  | false => rfl
  | true => rw [allTo_iff.1 ha i h] at hp; cases hp
theorem allTo_succ {p : Nat → Bool} {n : Nat} (h : allTo p n = true) (hp : p n = true) : allTo p (n + 1) = true := by rw [allTo, h, hp]; rfl
theorem allTo_congr {p q : Nat → Bool} {n : Nat} (h : ∀ i, i < n → p i = q i) : allTo p n = allTo q n := by
  rw [Bool.eq_iff_iff, allTo_iff, allTo_iff]
  exact ⟨fun hp i hi => h i hi ▸ hp i hi, fun hp i hi => (h i hi).symm ▸ hp i hi⟩
/-- The first place below n where p holds, or -1. -/
def firstTo (p : Nat → Bool) (n : Nat) : Int := match (List.range n).find? p with
  | some i => (i : Int)
  | none => -1
theorem firstTo_at {p : Nat → Bool} {n i : Nat} (h : i < n) (hp : p i = true) (hq : ∀ j, j < i → p j = false) : firstTo p n = i := by
  have : (List.range n).find? p = some i := by
    rw [List.find?_range_eq_some]
    exact ⟨hp, by simpa using h, fun j hj => by simpa using hq j hj⟩
  rw [firstTo, this]
theorem firstTo_none {p : Nat → Bool} {n : Nat} (hq : ∀ j, j < n → p j = false) : firstTo p n = -1 := by
  have : (List.range n).find? p = none := by
    rw [List.find?_eq_none]
    intro j hj
    rw [hq j (List.mem_range.1 hj)]; decide
  rw [firstTo, this]
theorem firstTo_ge {p : Nat → Bool} {n : Nat} : firstTo p n < 0 ↔ ∀ j, j < n → p j = false := by
  constructor
  · intro h j hj
    cases hp : p j with
    | false => rfl
    | true =>
      cases hf : (List.range n).find? p with
      | none => rw [List.find?_eq_none] at hf; exact absurd hp (hf j (List.mem_range.2 hj))
      | some i => rw [firstTo, hf] at h; exact absurd (show (i : Int) < 0 from h) (by omega)
  · intro h; rw [firstTo_none h]; decide
theorem firstTo_spec {p : Nat → Bool} {n : Nat} (h : ¬ firstTo p n < 0) : ∃ i, firstTo p n = Int.ofNat i ∧ i < n ∧ p i = true ∧ ∀ j, j < i → p j = false := by
  cases hf : (List.range n).find? p with
  | none => rw [firstTo, hf] at h; exact absurd (by decide) h
  | some i =>
    have hf' := hf
    rw [List.find?_range_eq_some] at hf
    obtain ⟨a, b, c⟩ := hf
    exact ⟨i, by rw [firstTo, hf']; rfl, by simpa using b, a, fun j hj => by simpa using c j hj⟩
theorem firstTo_congr {p q : Nat → Bool} {n : Nat} (h : ∀ i, i < n → p i = q i) : firstTo p n = firstTo q n := by
  by_cases e : firstTo p n < 0
  · rw [firstTo_none (firstTo_ge.1 e), firstTo_none fun j hj => (h j hj) ▸ firstTo_ge.1 e j hj]
  · obtain ⟨i, a, b, c, d⟩ := firstTo_spec e
    rw [a, firstTo_at b ((h i b) ▸ c) fun j hj => (h j (Nat.lt_trans hj b)) ▸ d j hj]; rfl
/-- A loop through all places, that goes on where p holds. -/
theorem loop_all {body : State → Post → Prop} {K : Post} (up : Nat → State → State) (p : Nat → Bool) (n : Nat) {s0 : State} (hs : up 0 s0 = s0)
    (h : ∀ (K' : Post), (∀ e s', K e s' → K' e s') → ∀ (I : State → Prop) (i : Nat), i ≤ n → (∀ j, j < i → p j = true) → (∀ s', i < n → p i = true → s' = up (i + 1) s0 → I s') → body (up i s0) (fun e s' => match e with | .normal => I s' | .exit i => K' (.exit i) s' | .ret => K' .ret s')) : Loop body K s0 :=
  loop_u up (fun i => i ≤ n ∧ ∀ j, j < i → p j = true) (fun i => n - i) 0 hs ⟨Nat.zero_le _, fun j hj => absurd hj (Nat.not_lt_zero j)⟩ fun K' hK I i hi ih => h K' hK I i hi.1 hi.2 fun s' h1 h2 h3 =>
    ih (i + 1) s' ⟨h1, fun j hj => (Nat.lt_succ_iff_lt_or_eq.1 hj).elim (hi.2 j) fun e => e ▸ h2⟩ (by omega) h3
theorem getD_at {α : Type} {l : List α} {i : Nat} {d : α} (h : i < l.length) : l.getD i d = l[i] := by simp [h]
theorem getD_of {α : Type} {l : List α} {i : Nat} {d u : α} (h : i < l.length) (hu : u = l[i]) : l.getD i d = u := by rw [getD_at h, hu]
theorem lsubTake {F : Prims} (hF : prims = F) {α : Type} {row : α → List Y} {l : List α} {xs : List (List Y)} (hx : xs = l.map row) (i : Nat) : F.lsub xs 0 (F.isub (Int.ofNat i) 0) = (l.take i).map row := by
  subst hF hx
  show ((l.map row).drop (0 : Int).toNat).take (Int.ofNat i - 0).toNat = _
  have : (Int.ofNat i - 0).toNat = i := by show ((i : Int) - 0).toNat = i; omega
  rw [this, List.map_take]; rfl
theorem hasTo_is (p : Nat → Bool) (n : Nat) : decide (0 ≤ firstTo p n) = !allTo (fun i => !p i) n := by
  cases h : allTo (fun i => !p i) n with
  | true =>
    have := firstTo_none (p := p) (n := n) fun j hj => by simpa using allTo_iff.1 h j hj
    rw [this]; rfl
  | false =>
    have : ¬ firstTo p n < 0 := fun h' => by
      rw [allTo_iff.2 fun i hi => by rw [firstTo_ge.1 h' i hi]; rfl] at h; cases h
    rw [decide_eq_true (by omega)]; rfl
theorem retR {b c : Bool} {r : Res} (hr : r = B c) (h : b = c) : B b = r := by rw [hr, h]
theorem retB {q b : Bool} {r : Res} (hr : r = B q) (h : q = b) : B b = r := by rw [hr, h]
theorem retN {q b : Int} {r : Res} (hr : r = N q) (h : q = b) : N b = r := by rw [hr, h]
theorem retS {q b : ByteArray} {r : Res} (hr : r = St q) (h : q = b) : St b = r := by rw [hr, h]
def I64 (a : Int) : Prop := -9223372036854775808 ≤ a ∧ a ≤ 9223372036854775807
theorem I64_of {a : Int} (h : (Go.Lit.int .i64 a).wf = true) : I64 a := by
  simp only [Go.Lit.wf, Bool.and_eq_true, decide_eq_true_eq] at h
  exact h
theorem liftL {α : Type} {es : Nat} {R : List Y → Prop} {row : α → List Y} {B : α → Prop} (h : ∀ ys, R ys → ∃ v, ys = row v ∧ B v) {ys : List Y} (hy : rL es R ys) : ∃ l : List α, ys = [.sl es (l.map row)] ∧ l.length ≤ maxLen ∧ ∀ v ∈ l, B v := by
  obtain ⟨xs, rfl, hl, hx⟩ := hy
  have key : ∀ xs : List (List Y), (∀ x ∈ xs, R x) → ∃ l : List α, xs = l.map row ∧ ∀ v ∈ l, B v := by
    intro xs
    induction xs with
    | nil => exact fun _ => ⟨[], rfl, by simp⟩
    | cons x xs ih =>
      intro hx
      obtain ⟨l, rfl, hb⟩ := ih fun y hy => hx y (.tail _ hy)
      obtain ⟨v, rfl, hv⟩ := h x (hx x (.head _))
      exact ⟨v :: l, rfl, fun u hu => (List.mem_cons.1 hu).elim (fun e => e ▸ hv) (hb u)⟩
  obtain ⟨l, rfl, hb⟩ := key xs fun x hx' => (hx x hx').2
  exact ⟨l, rfl, by rwa [List.length_map] at hl, hb⟩
end Go.Proofs.YthaelohccopgjaaW
/- Aids for functions: those for which the model stands in. -/
namespace Go.Proofs.YthaelohccopgjaaW
variable {P : Program}
/-- Plain arguments. -/
def scA (v : Value) : A := .c (.y (.sc v))
theorem ras_sc {w : World} {S : Nat → Prop} : ∀ {ls : List Value} {vs : List Value} {Gs : List (List Gh)}, RAs w S vs (ls.map scA) Gs → vs = ls ∧ blocks Gs.flatten = [] ∧ ioG (ls.map scA) Gs = []
  | [], [], [], _ => ⟨rfl, rfl, rfl⟩
  | l :: ls, v :: vs, G :: Gs, h => by
    obtain ⟨⟨g, rfl, h1⟩, h2⟩ := h
    obtain ⟨rfl, hr⟩ := h1
    cases hr
    obtain ⟨rfl, e2, e3⟩ := ras_sc h2
    refine ⟨rfl, ?_, ?_⟩
    · rw [List.flatten_cons, blocks_append, e2]; rfl
    · simp only [List.map_cons, scA, ioG]; exact e3
  | [], _ :: _, _, h => by cases ‹List (List Gh)› <;> exact h.elim
  | [], [], _ :: _, h => h.elim
  | _ :: _, [], _, h => by cases ‹List (List Gh)› <;> exact h.elim
  | _ :: _, _ :: _, [], h => h.elim
/-- A function for which the model stands in, at plain arguments. -/
theorem extern_ok {f : FuncId} {fn : Func} {ls : List Value} {rv : Value} (hf : P.funcs[f]? = some fn) (hb : fn.body = none) (hone : rv.oneCell' = true)
    (h : ∀ w : World, (callFunc f ls.toArray).run P w = .ok (.value rv) w) : CallOK P f (ls.map scA) ⟨.c (.y (.sc rv)), []⟩ where
  out w vs Gs S hra hS hnd hlt hl := by
    obtain ⟨rfl, h2, h3⟩ := ras_sc hra
    refine .inr ⟨⟨fn, hf, hb⟩, rv, h w, rv, [.no], [], rfl, Fr.refl _ _, ?_, ?_, ⟨.no, rfl, rfl, Rep.sc _ hone⟩, ?_⟩
    · rw [ioB, h3]; exact List.nodup_nil
    · exact fun b hb => absurd hb (by show b ∉ []; exact List.not_mem_nil)
    · rw [h3]; trivial
theorem run_callFunc_ext {f : FuncId} {fn : Func} {e : Array Value → Sem Value} (hf : P.funcs[f]? = some fn) (hname : (fn.name == "runtime.NumGoroutine") = false)
    (hb : fn.body.isNone = true) (hn : Extern.findNext fn = none) (he : Extern.find fn = some e) (args : Array Value) (w : World) {v : Value} (hv : (e args).run P w = .ok v w) :
    (callFunc f args).run P w = .ok (.value v) w := by
  rw [Go.run_callFunc_standIn hf hname hb hn he args w, hv]; rfl
/-- The order of two texts. -/
def cmpS (a b : ByteArray) : Int := Go.Extern.BytealgCompare.cmp a b
theorem cmpstring_ok {f : FuncId} {fn : Func} (hf : P.funcs[f]? = some fn) (hname : (fn.name == "runtime.NumGoroutine") = false) (hb : fn.body.isNone = true) (hn : Extern.findNext fn = none) (he : Extern.find fn = some Go.Extern.BytealgCompare.compare) (a b : ByteArray) :
    CallOK P f [aS a, aS b] (N (cmpS a b)) :=
  extern_ok (ls := [.string a, .string b]) hf (by simpa using hb) rfl fun w => run_callFunc_ext hf hname hb hn he _ w (by
    change Sem.run P (do
      let x ← Extern.Bytes.bytesOf (.string a)
      let y ← Extern.Bytes.bytesOf (.string b)
      pure (goInt (Go.Extern.BytealgCompare.cmp x y))) w = _
    simp only [Extern.Bytes.bytesOf, Sem.run_bind, Sem.run_pure, Result.andThen]
    rfl)
theorem indexByte_ok {f : FuncId} {fn : Func} (hf : P.funcs[f]? = some fn) (hname : (fn.name == "runtime.NumGoroutine") = false) (hb : fn.body.isNone = true) (hn : Extern.findNext fn = none) (he : Extern.find fn = some Go.Extern.BytealgIndexByte.indexByte) (s : ByteArray) (c : Int) :
    CallOK P f [aS s, .c (.y (.sc (.int .u8 c)))] (N (firstIdx s c.toNat.toUInt8)) :=
  extern_ok (ls := [.string s, .int .u8 c]) hf (by simpa using hb) rfl fun w => run_callFunc_ext hf hname hb hn he _ w (Go.run_indexByte_string s c w)
end Go.Proofs.YthaelohccopgjaaW
/- Aids for functions: calls that write into nothing that was there, known from elsewhere. -/
namespace Go.Proofs.YthaelohccopgjaaW
variable {P : Program}
theorem fr_of_below {w w' : World} {L : Nat → Prop} (h : RowKit.Below w.heap.size w w') : Fr L w w' := ⟨h.os, h.tape, h.output, h.size, fun b hb _ => h.block b hb⟩
/-- The result is one plain value, and the arguments give nothing away. -/
theorem callOK_sc {f : FuncId} {fn : Func} {c : Code} {as : List A} {rv : Value} (hf : P.funcs[f]? = some fn) (hb : fn.body = some c) (hname : (fn.name == "runtime.NumGoroutine") = false) (hone : rv.oneCell' = true)
    (h : ∀ (w : World) (vs : List Value) (Gs : List (List Gh)) (S : Nat → Prop), RAs w S vs as Gs → (∀ b, S b → b < w.heap.size) → blocks Gs.flatten = [] ∧ ioG as Gs = [] ∧ Calls P f vs.toArray w fun e w' => e = .returned rv ∧ RowKit.Below w.heap.size w w') :
    CallOK P f as ⟨.c (.y (.sc rv)), []⟩ where
  out w vs Gs S hra hS hnd hlt hl := by
    obtain ⟨h1, h2, h3⟩ := h w vs Gs S hra fun b hb => (hS b hb).1
    refine .inl ⟨⟨fn, c, hf, hb, hname⟩, h3.mono fun e w' ⟨he, hw⟩ => ⟨rv, [.no], [], he, fr_of_below hw, ?_, ?_, ⟨.no, rfl, rfl, Rep.sc _ hone⟩, ?_⟩⟩
    · rw [ioB, h2]; exact List.nodup_nil
    · exact fun b hb => absurd hb (by show b ∉ []; exact List.not_mem_nil)
    · rw [h2]; trivial
theorem shelf_sc {f : FuncId} {fn : Func} {c : Code} {ls : List Value} {rv : Value} (hf : P.funcs[f]? = some fn) (hb : fn.body = some c) (hname : (fn.name == "runtime.NumGoroutine") = false) (hone : rv.oneCell' = true)
    (h : ∀ w : World, Calls P f ls.toArray w fun e w' => e = .returned rv ∧ RowKit.Below w.heap.size w w') : CallOK P f (ls.map scA) ⟨.c (.y (.sc rv)), []⟩ :=
  callOK_sc hf hb hname hone fun w vs Gs S hra hS => by
    obtain ⟨rfl, h2, h3⟩ := ras_sc hra
    exact ⟨h2, h3, h w⟩
/-- Two plain results. -/
theorem shelf_tup2 {f : FuncId} {fn : Func} {c : Code} {ls : List Value} {u v : Value} (hf : P.funcs[f]? = some fn) (hb : fn.body = some c) (hname : (fn.name == "runtime.NumGoroutine") = false) (hu : u.oneCell' = true) (hv : v.oneCell' = true)
    (h : ∀ w : World, Calls P f ls.toArray w fun e w' => e = .returned (.tuple #[u, v]) ∧ w' = w) : CallOK P f (ls.map scA) ⟨.tup [(false, [.y (.sc u)]), (false, [.y (.sc v)])], []⟩ where
  out w vs Gs S hra hS hnd hlt hl := by
    obtain ⟨rfl, h2, h3⟩ := ras_sc hra
    refine .inl ⟨⟨fn, c, hf, hb, hname⟩, (h w).mono fun e w' ⟨he, hw⟩ => ⟨.tuple #[u, v], [.no, .no], [], he, hw ▸ Fr.refl _ _, ?_, ?_, ?_, ?_⟩⟩
    · rw [ioB, h3]; exact List.nodup_nil
    · exact fun b hb => absurd hb (by show b ∉ []; exact List.not_mem_nil)
    · exact ⟨_, rfl, [.no], [.no], rfl, ⟨_, _, rfl, rfl, rfl, Rep.sc _ hu⟩, [.no], [], rfl, ⟨_, _, rfl, rfl, rfl, Rep.sc _ hv⟩, trivial⟩
    · rw [h3]; trivial
/-- A list of texts, looked at, and a plain value. -/
theorem shelf_texts {f : FuncId} {fn : Func} {c : Code} {xs : List ByteArray} {s rv : Value} (hf : P.funcs[f]? = some fn) (hb : fn.body = some c) (hname : (fn.name == "runtime.NumGoroutine") = false) (hone : rv.oneCell' = true)
    (h0 : xs = [] → ∀ (a : Option Addr) (cap : Nat) (w : World), Calls P f #[.slice a 0 cap, s] w fun e w' => e = .returned rv ∧ w' = w)
    (h : ∀ (bk o cap : Nat) (w : World), (∀ (j : Nat) x, xs[j]? = some x → w.cell? ⟨bk, o + j, none⟩ = some (.string x)) → bk < w.heap.size → xs.length ≤ cap → Calls P f #[.slice (some ⟨bk, o, none⟩) xs.length cap, s] w fun e w' => e = .returned rv ∧ RowKit.Below w.heap.size w w') :
    CallOK P f [.c (.y (.sl 1 (xs.map rowS))), .c (.y (.sc s))] ⟨.c (.y (.sc rv)), []⟩ :=
  callOK_sc hf hb hname hone fun w vs Gs S hra hS => by
    obtain ⟨xs', hxs⟩ : ∃ xs', xs' = xs.map rowS := ⟨_, rfl⟩
    rw [← hxs] at hra
    have two : ∃ v u G1 G2, vs = [v, u] ∧ Gs = [G1, G2] := by
      match vs, Gs, hra with
      | [v, u], [G1, G2], _ => exact ⟨v, u, G1, G2, rfl, rfl⟩
      | [], [], h => exact h.elim
      | [], _ :: _, h => exact h.elim
      | _ :: _, [], h => exact h.elim
      | [_], [_], h => exact h.2.elim
      | [_], _ :: _ :: _, h => exact h.2.elim
      | _ :: _ :: _, [_], h => exact h.2.elim
      | _ :: _ :: _ :: _, [_, _], h => exact h.2.2.elim
      | [_, _], _ :: _ :: _ :: _, h => exact h.2.2.elim
      | _ :: _ :: _ :: _, _ :: _ :: _ :: _, h => exact h.2.2.elim
    obtain ⟨v, u, G1, G2, rfl, rfl⟩ := two
    · obtain ⟨ha, hb2, _⟩ := hra
      obtain ⟨g1, rfl, e1, hr1⟩ := ha
      obtain ⟨g2, rfl, e2, hr2⟩ := hb2
      subst e1 e2
      cases hr2
      refine ⟨rfl, rfl, ?_⟩
      cases hr1 with
      | sl0 a cap es =>
        have : xs = [] := by cases xs with
          | nil => rfl
          | cons a b => cases hxs
        exact (h0 this a cap w).mono fun e w' ⟨he, hw⟩ => ⟨he, hw ▸ RowKit.Below.refl _ _⟩
      | sl b off cap es ys vs' hb' hle hp hlen hcell hrep =>
        have hl : xs'.length = xs.length := by rw [hxs, List.length_map]
        rw [hl]
        refine h b off cap w (fun j x hj => ?_) (hS b hb') (by omega)
        have hg : xs'[j]? = some (rowS x) := by rw [hxs, List.getElem?_map, hj]; rfl
        have h1 := hcell j _ 0 (.sc (.string x)) hg rfl
        have h2 := hrep j _ 0 (.sc (.string x)) hg rfl
        rw [show off + (j * 1 + 0) = off + j by omega] at h1
        rw [h1]
        generalize vs' j 0 = z at h2
        cases h2
        rfl
end Go.Proofs.YthaelohccopgjaaW
