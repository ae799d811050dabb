/- An evaluator of loaded code by value, and the proof that what it shows holds of calls; part 4. Conditions: the program draws orders in the mixed way, and the table of types is as the program has it. -/
import Derived.Test.YtocjbababdlilaaV3
set_option linter.unusedVariables false
set_option linter.unusedSimpArgs false
set_option linter.unnecessarySimpa false
/- Aids for functions: branches told, numbers that count, comparisons as propositions. -/
namespace Go.Proofs.YtocjbababdlilaaW
theorem brT {b : Bool} {K L : Prop} (h : b = true) (k : K) : brk b K L := brkI (fun _ => k) (fun h' => by rw [h] at h'; cases h')
theorem brF {b : Bool} {K L : Prop} (h : b = false) (k : L) : brk b K L := brkI (fun h' => by rw [h] at h'; cases h') (fun _ => k)
theorem add1 {j : Nat} (h : j < 9223372036854775807) : prims.add .i64 (Int.ofNat j) 1 = Int.ofNat (j + 1) := by
  have : (Int.ofNat j) = (j : Int) := rfl
  show IntKind.i64.wrap (Int.ofNat j + 1) = _
  rw [wrap_i64 (by omega) (by omega)]; rfl
theorem lt_t {a b : Int} (h : prims.lt a b = true) : a < b := of_decide_eq_true h
theorem lt_f {a b : Int} (h : prims.lt a b = false) : b ≤ a := Int.not_lt.1 (of_decide_eq_false h)
theorem le_t {a b : Int} (h : prims.le a b = true) : a ≤ b := of_decide_eq_true h
theorem le_f {a b : Int} (h : prims.le a b = false) : b < a := Int.not_le.1 (of_decide_eq_false h)
theorem eq_t {a b : Int} (h : prims.eq a b = true) : a = b := eq_of_beq h
theorem eq_f {a b : Int} (h : prims.eq a b = false) : a ≠ b := ne_of_beq_false h
theorem mk_lt {a b : Int} (h : a < b) : prims.lt a b = true := decide_eq_true h
theorem mk_nlt {a b : Int} (h : b ≤ a) : prims.lt a b = false := decide_eq_false (Int.not_lt.2 h)
theorem mk_le {a b : Int} (h : a ≤ b) : prims.le a b = true := decide_eq_true h
theorem mk_nle {a b : Int} (h : b < a) : prims.le a b = false := decide_eq_false (Int.not_le.2 h)
theorem maxLen_is : maxLen = 9223372036854775807 := rfl
theorem ite_f {α : Type} {b : Bool} {x y : α} (h : b = false) : (if b then x else y) = y := by rw [h]; rfl
theorem ite_t {α : Type} {b : Bool} {x y : α} (h : b = true) : (if b then x else y) = x := by rw [h]; rfl
theorem lget {xs : List (List Y)} {i : Nat} {x : List Y} {K : List Y → Prop} (h : xs[i]? = some x) (k : K x) : ∃ x, LGet xs (Int.ofNat i) x ∧ K x := ⟨x, ⟨Int.natCast_nonneg i, h⟩, k⟩
theorem callK {P : Program} {Ca : Contract} (hC : CallOK P = Ca) {f : FuncId} {as : List A} {k : IntKind} {n : Int} {K : Res → Prop} (h : CallOK P f as ⟨.c (.y (.sc (.int k n))), []⟩) (kk : ∀ m, m = n → K ⟨.c (.y (.sc (.int k m))), []⟩) : ∃ r, Ca f as r ∧ K r := ⟨_, hC ▸ h, kk _ rfl⟩
theorem xorComm (k : IntKind) (a b : Int) : prims.xor k a b = prims.xor k b a := by
  show bitsW .xor k a b = bitsW .xor k b a
  simp only [bitsW, BitVec.xor_comm]
theorem compl_u32 (a : Int) : prims.compl .u32 a = prims.xor .u32 a 4294967295 := by rw [xorComm]; rfl
/-- A number's last byte. -/
def lastByte (a : Int) : UInt8 := UInt8.ofNat (prims.conv .u8 a).toNat
theorem conv_u8 (a : Int) : prims.conv .u8 a = a % 256 := by
  show IntKind.u8.wrap a = _
  unfold IntKind.wrap
  simp [IntKind.bits, IntKind.signed]
theorem lastByte_is (a : Int) : ((lastByte a).toNat : Int) = prims.conv .u8 a := by
  rw [lastByte, conv_u8]
  have h1 : 0 ≤ a % 256 := Int.emod_nonneg _ (by decide)
  have h2 : a % 256 < 256 := Int.emod_lt_of_pos _ (by decide)
  have : (UInt8.ofNat (a % 256).toNat).toNat = (a % 256).toNat := by simp [UInt8.toNat_ofNat']; omega
  rw [this]; omega
theorem byte_row (a : Int) : [Y.sc (.int .u8 (prims.conv .u8 a))] = [Y.sc (.int .u8 (lastByte a).toNat)] := by rw [lastByte_is]
theorem xor_u32_range (a b : Int) : 0 ≤ prims.xor .u32 a b ∧ prims.xor .u32 a b < 4294967296 := by
  have e : ∀ n : Int, IntKind.u32.wrap n = n % 4294967296 := fun n => by unfold IntKind.wrap; simp [IntKind.bits, IntKind.signed]
  show 0 ≤ IntKind.u32.wrap _ ∧ IntKind.u32.wrap _ < 4294967296
  rw [e]
  exact ⟨Int.emod_nonneg _ (by decide), Int.emod_lt_of_pos _ (by decide)⟩
theorem conv_i64_xor (a b : Int) : prims.conv .i64 (prims.xor .u32 a b) = prims.xor .u32 a b := by
  have := xor_u32_range a b
  exact wrap_i64 (by omega) (by omega)
theorem toList_inj {a b : ByteArray} : a.toList = b.toList ↔ a = b := by
  rw [ByteArray.toList_eq, ByteArray.toList_eq]
  constructor
  · intro h
    cases a; cases b
    rename_i x y
    cases x; cases y
    simp_all
  · rintro rfl; rfl
theorem seq_is (a b : ByteArray) : (a.toList == b.toList) = decide (a = b) := by
  rw [Bool.eq_iff_iff, beq_iff_eq, decide_eq_true_iff, toList_inj]
/-- A row of places, filled up to a place. -/
def fill {α : Type} (row : α → List Y) (z : List Y) (l : List α) (i : Nat) : List (List Y) := (l.take i).map row ++ List.replicate (l.length - i) z
theorem fill_zero {α : Type} (row : α → List Y) (z : List Y) (l : List α) : List.replicate l.length z = fill row z l 0 := by simp [fill]
theorem fill_end {α : Type} (row : α → List Y) (z : List Y) (l : List α) : fill row z l l.length = l.map row := by simp [fill]
theorem fill_len {α : Type} (row : α → List Y) (z : List Y) (l : List α) {i : Nat} (h : i ≤ l.length) : (fill row z l i).length = l.length := by simp [fill]; omega
theorem fill_get {α : Type} (row : α → List Y) (z : List Y) (l : List α) {i : Nat} (h : i < l.length) : (fill row z l i)[i]? = some z := by
  rw [fill, List.getElem?_append_right (by simp; omega)]
  simp only [List.length_map, List.length_take, Nat.min_eq_left (Nat.le_of_lt h), Nat.sub_self]
  rw [List.getElem?_replicate, if_pos (by omega)]
theorem fill_set {α : Type} (row : α → List Y) (z : List Y) (l : List α) {i : Nat} (h : i < l.length) : prims.lset (fill row z l i) (Int.ofNat i) (row l[i]) = fill row z l (i + 1) := by
  show (fill row z l i).set (Int.ofNat i).toNat (row l[i]) = _
  have e : (Int.ofNat i).toNat = i := rfl
  rw [e, fill, fill, List.set_append_right _ _ (by simp; omega), List.take_succ_eq_append_getElem h]
  have e2 : l.length - i = (l.length - (i + 1)) + 1 := by omega
  simp only [List.length_map, List.length_take, Nat.min_eq_left (Nat.le_of_lt h), Nat.sub_self]
  rw [e2, List.replicate_succ, List.set_cons_zero, List.map_append, List.append_assoc]; rfl
/-- An element's row. -/
theorem row_get {α : Type} {row : α → List Y} {l : List α} {xs : List (List Y)} (hx : xs = l.map row) {i : Nat} (h : i < l.length) {u : α} (hu : u = l[i]) : xs[i]? = some (row u) := by
  rw [hx, List.getElem?_map, List.getElem?_eq_getElem h, ← hu]; rfl
/-- A loop from a state, what follows kept closed. -/
theorem loop_k {body : State → Post → Prop} {K : Post} {α : Type} (st : α → State) (pre : α → Prop) (μ : α → Nat) (a0 : α) {s0 : State} (hs : st a0 = s0) (h0 : pre a0)
    (h : ∀ (K' : Post), (∀ e s', K e s' → K' e s') → ∀ (I : State → Prop) (a : α), pre a → (∀ a', pre a' → μ a' < μ a → I (st a')) → body (st a) (fun e s' => match e with | .normal => I s' | .exit i => K' (.exit i) s' | .ret => K' .ret s')) : Loop body K s0 :=
  loop_at st pre μ a0 hs h0 (h K fun _ _ h => h)
/-- Code behind code: the second part kept closed while the first runs. -/
theorem seqK {F : Prims} {T : Tab} {g : Cfg} {Ca : Contract} {fn : Nat} {c d : Code} {st : State} {K : Post}
    (h : ∀ K1 : Post, (∀ s', run F T g Ca fn d s' K → K1 .normal s') → (∀ i s', K (.exit i) s' → K1 (.exit i) s') → (∀ s', K .ret s' → K1 .ret s') → run F T g Ca fn c st K1) : run F T g Ca fn (.seq c d) st K := by
  have := h (fun e st => match e with
    | .normal => run F T g Ca fn d st K
    | .exit i => K (.exit i) st
    | .ret => K .ret st) (fun _ h => h) (fun _ _ h => h) (fun _ h => h)
  rw [run]
  exact cast (congrArg (run F T g Ca fn c st) (funext fun e => funext fun s => by cases e <;> rfl)) this
/-- To look at the state at a loop. -/
theorem peek {body : State → Post → Prop} {K : Post} {s0 : State} (h : ∀ s, s = s0 → Loop body K s) : Loop body K s0 := h _ rfl
end Go.Proofs.YtocjbababdlilaaW
