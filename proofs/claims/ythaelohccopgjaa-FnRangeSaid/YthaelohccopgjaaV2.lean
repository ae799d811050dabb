/- An evaluator of loaded code by value, and the proof that what it shows holds of calls; part 2. Conditions: the program draws orders in the mixed way, and the table of types is as the program has it. -/
import Derived.Test.YthaelohccopgjaaV1
set_option linter.unusedVariables false
set_option linter.unusedSimpArgs false
set_option linter.unnecessarySimpa false
/- Soundness, part 13: rows made, slice literals, conversions. -/
namespace Go.Proofs.YthaelohccopgjaaW
variable {P : Program} {T : Tab} {E : Env} {γ γ' : Ghs} {s s' : Nat → X} {o o' : Look} {tm : Array Value} {w w' : World}

theorem QRes.row {d : Nat} (hfr : Fr (fun _ => False) w w') {g cap n es : Nat} {xs : List (List Y)} (hg : w.heap.size ≤ g ∧ g < w'.heap.size) (hr : ∀ γ', Nx γ w γ' w' → RowOk w' (E.Sh γ' w') g es cap n xs) :
    QRes E γ w d (.c (.aw (key d 1))) [(1, .ar es xs)] (.slice (some ⟨g, 0, none⟩) n cap) (fun k => if k = key d 1 then .row g es cap n else γ k) w' := by
  refine QRes.one (c := 1) (G := .row g es cap n) hfr (fun g' hg' => by simp [Gh.bs] at hg'; subst hg'; exact hg) ⟨by simp [RC], .inr rfl⟩ ?_
  refine .inr ⟨g, cap, n, by simp, hr _ ⟨hfr.mono fun _ h => h.elim, fun b ⟨k, hk⟩ => ?_⟩⟩
  by_cases e : k = key d 1
  · simp [e, Gh.bs] at hk; exact .inr (by omega)
  · simp [e] at hk; exact .inl ⟨k, hk⟩

theorem plainCs_ok {S : Nat → Prop} : ∀ {vs : List Value} {cs : List C} {K : List Y → Prop}, RCs w S γ vs cs → plainCs cs K → ∃ ys, K ys ∧ ys.length = vs.length ∧ (∀ v ∈ vs, v.oneCell' = true) ∧ ∀ (j : Nat) (y : Y), ys[j]? = some y → ∃ u, vs[j]? = some u ∧ Rep w S u y
  | [], [], K, _, hk => ⟨[], hk, rfl, by simp, fun j y h => by simp at h⟩
  | v :: vs, c :: cs, K, h, hk => by
    have one : ∃ y, Rep w S v y ∧ plainCs cs fun ys => K (y :: ys) := by
      cases c <;> simp only [plainCs, plainC] at hk <;> try exact hk.elim
      · exact ⟨_, h.1.1, hk⟩
      · obtain ⟨a, rfl⟩ := h.1.1
        exact ⟨_, Rep.sl0 _ _ _, hk⟩
    obtain ⟨y, h1, h2⟩ := one
    obtain ⟨ys, h3, h4, h5, h6⟩ := plainCs_ok h.2 h2
    refine ⟨y :: ys, h3, by simp [h4], fun u hu => ?_, fun j y' hj => ?_⟩
    · rcases List.mem_cons.1 hu with rfl | hu
      · exact h.1.2
      · exact h5 u hu
    · cases j with
      | zero => simp at hj; subst hj; exact ⟨v, rfl, h1⟩
      | succ j => simpa using h6 j y' (by simpa using hj)
  | [], _ :: _, _, h, _ => h.elim
  | _ :: _, [], _, h, _ => h.elim

theorem qMakeSlice_ok (hT : TabOk P T) {d t : Nat} {u v : Value} {x y : X} (hx : RX w (E.Sh γ w) γ u x) (hy : RX w (E.Sh γ w) γ v y) {K : QK} (hq : qMakeSlice prims T d t x y K) :
    QOp P E γ w d ((Instr.makeSlice t u v).run P w) K := by
  simp only [qMakeSlice] at hq
  cases hel : (T.at t).el with
  | none => simp [hel] at hq
  | some e =>
    simp only [hel, asI_iff, chk_iff, lenOk_iff] at hq
    obtain ⟨k1, n, rfl, k2, c, rfl, h1, h2, h3, h4, h5, h6, hq⟩ := hq
    have e1 := rx_int hx
    have e2 := rx_int hy
    subst e1 e2
    have h1 : 0 ≤ n := by simpa [prims] using h1
    have h2 : n ≤ c := by simpa [prims] using h2
    have h4 : 0 < e.2.1 := by simpa using h4
    have h5 := leN_t h5
    obtain ⟨ti, z, he⟩ := hT.elOk hel
    obtain ⟨ti', hi', _, _, z', hz', hzc⟩ := (hT.at h6).info
    have : ti' = ti := by rw [he.info] at hi'; cases hi'; rfl
    subst this
    have : z' = z := by rw [he.zero] at hz'; cases hz'; rfl
    subst this
    obtain ⟨ys, hq, hl, _, hys⟩ := plainCs_ok (zeroC_ok w γ (E.Sh γ w) hzc).1 hq
    have hbytes : (ti'.bytes : Int) * c ≤ 281474976710656 := by
      rw [he.bytes]
      have a1 : (e.2.2.1 : Int) * c ≤ 16384 * c := Int.mul_le_mul_of_nonneg_right (by omega) (by omega)
      omega
    have hr := run_make (P := P) w t e.1 ti' z' he.under he.info he.zero k1 k2 n c h1 h2 hbytes (by omega)
    by_cases hc0 : c.toNat = 0
    · have hn0 : n = 0 := by omega
      have hc00 : c = 0 := by omega
      subst hn0 hc00
      refine ⟨_, _, _, (fun k => if k = key d 1 then .nil else γ k), _, hr, QRes.one (c := 1) (x := .c (.aw (key d 1))) (b := .ar e.2.1 (prims.rep 0 ys)) (G := .nil) (Fr.alloc w _) (fun g hg => by simp [Gh.bs] at hg) ⟨?_, .inr rfl⟩ (.inl ⟨by simp, rfl⟩), hq.2⟩
      simp only [RC, if_true]
      exact ⟨_, rfl⟩
    refine ⟨_, _, _, _, _, hr, QRes.row (n := n.toNat) (es := e.2.1) (xs := prims.rep n ys) (Fr.alloc w _) ⟨Nat.le_refl _, by simp⟩ fun γ' hn => ?_, hq.2⟩
    have hlen : (prims.rep n ys).length = n.toNat := by simp [prims]
    have hget : ∀ i, i < (madeCells z'.cells (c.toNat * ti'.size)).size → (madeCells z'.cells (c.toNat * ti'.size))[i]? = z'.cells[i % e.2.1]? := fun i hi => by
      have hlt : i % z'.cells.size < z'.cells.size := Nat.mod_lt _ (by rw [he.zs]; exact h4)
      rw [size_madeCells] at hi
      simp only [madeCells, Array.getElem?_map, Array.getElem?_range, hi, if_true, Option.map_some]
      rw [getElem!_pos z'.cells _ hlt, ← Array.getElem?_eq_getElem hlt, he.zs]
    have hmm : ∀ m es, 0 < es → m ≤ c.toNat → m * es ≤ c.toNat * es := fun m es _ hm => Nat.mul_le_mul_right _ hm
    refine ⟨hlen, by omega, by simp only [maxLen]; omega, h4, by omega, madeCells z'.cells (c.toNat * ti'.size), e.1, (0, 0), heap_alloc_new w _, ZOk.zero _, by rw [size_madeCells, he.size], fun u hu => ?_, fun i x hi => ?_⟩
    · obtain ⟨i, hi, rfl⟩ := Array.getElem_of_mem hu
      have h9 := hget i hi
      rw [Array.getElem?_eq_getElem hi] at h9
      exact he.zo _ (Array.mem_of_getElem? h9.symm)
    · have hx : x = ys ∧ i < n.toNat := by
        simp only [prims, List.getElem?_replicate] at hi
        split at hi
        · cases hi; exact ⟨rfl, by assumption⟩
        · cases hi
      obtain ⟨rfl, hi⟩ := hx
      have hyl : x.length = e.2.1 := by rw [hl, Array.length_toList, he.zs]
      refine ⟨hyl, fun j y hj => ?_⟩
      obtain ⟨u, h7, h8⟩ := hys j y hj
      refine ⟨u, ?_, hn.rep h8⟩
      have hjl : j < e.2.1 := by rw [← hyl]; exact (List.getElem?_eq_some_iff.1 hj).1
      have hb : i * e.2.1 + j < c.toNat * e.2.1 := by
        have := hmm (i + 1) e.2.1 h4 (by omega)
        rw [Nat.add_mul] at this; omega
      rw [hget _ (by rw [size_madeCells, he.size]; exact hb)]
      rw [Nat.mul_comm i, Nat.mul_add_mod, Nat.mod_eq_of_lt hjl]
      simpa using h7

/-! #### Slice literals -/
theorem notb_iff {b : Bool} : notb b = true ↔ b = false := by cases b <;> simp [notb]
theorem fill_row {S : Nat → Prop} (es : Nat) (hp : 0 < es) : ∀ (parts : List (Nat × X)) (vals : List (Nat × Value)) (i : Nat) (cur : Array Value) (K : List (List Y) → Prop),
      vals.length = parts.length → (∀ (j : Nat) (p : Nat × X) (q : Nat × Value), parts[j]? = some p → vals[j]? = some q → q.1 = p.1 ∧ RX w S γ q.2 p.2) → i * es + parts.length * es = cur.size →
      buildElems es i parts K → ∃ l news, K l ∧ Flat w S es l news ∧ l.length = parts.length ∧ Instr.fill (fun i => some (i * es, es)) cur vals = some (cur.toList.take (i * es) ++ news).toArray
  | [], [], i, cur, K, _, _, hs, hk => ⟨[], [], hk, Flat.nil _ _ _, rfl, by
      simp only [Instr.fill]
      rw [List.take_of_length_le (by simp; simp at hs; omega)]; simp⟩
  | p :: parts, q :: vals, i, cur, K, hl, hv, hs, hk => by
    obtain ⟨j, x⟩ := p
    obtain ⟨j', v⟩ := q
    obtain ⟨h1, h2⟩ := hv 0 _ _ rfl rfl
    simp only at h1 h2
    subst h1
    simp only [buildElems, chk_iff, notb_iff] at hk
    obtain ⟨e1, hno, hnt, hk⟩ := hk
    have e1 := eqN_t e1
    subst e1
    have hc := h2.cells hno (fun l e => by rw [e] at hnt; simp [X.isTup] at hnt)
    obtain ⟨ys, hk, hyl, hone, hys⟩ := plainCs_ok hc hk
    have e2 := eqN_t hk.1
    rw [lenN_eq] at e2
    have hvs : v.cells.size = es := by rw [← e2, hyl]; simp
    simp only [List.length_cons] at hs
    have hs1 : i * es + es + parts.length * es = cur.size := by rw [← hs, Nat.add_mul]; omega
    have hf := fold_set v.cells.toList (i * es) 0 cur (by simp only [Array.length_toList]; omega)
    simp only [Nat.add_zero, Array.length_toList] at hf
    obtain ⟨l, news, h3, h4, h5, h6⟩ := fill_row es hp parts vals (i + 1) (cur.toList.take (i * es) ++ v.cells.toList ++ cur.toList.drop (i * es + v.cells.size)).toArray (fun l => K (ys :: l)) (by simpa using hl)
      (fun m p q hp hq => hv (m + 1) p q (by simpa using hp) (by simpa using hq)) (by
        simp only [List.size_toArray, List.length_append, List.length_take, List.length_drop, Array.length_toList]; rw [Nat.add_mul]; omega) hk.2
    refine ⟨ys :: l, v.cells.toList ++ news, h3, ?_, by simp [h5], ?_⟩
    · have h7 : Flat w S es [ys] v.cells.toList := ⟨by simp [hvs], hone, fun m x hm => by
        cases m with
        | zero =>
          simp at hm; subst hm
          refine ⟨e2, fun j y hj => ?_⟩
          simpa using hys j y hj
        | succ m => simp at hm⟩
      exact h7.app h4
    · simp only [Instr.fill]
      rw [if_neg (by simp; omega)]
      have : v.cells.zipIdx.foldl (fun cs (x : Value × Nat) => cs.setIfInBounds (i * es + x.2) x.1) cur = (cur.toList.take (i * es) ++ v.cells.toList ++ cur.toList.drop (i * es + v.cells.size)).toArray := by
        rw [← hf, ← Array.foldl_toList]; simp
      rw [this, h6]
      have hm : (i + 1) * es = i * es + v.cells.size := by rw [Nat.add_mul, hvs]; omega
      have hA : (cur.toList.take (i * es) ++ v.cells.toList).length = (i + 1) * es := by
        rw [List.length_append, List.length_take, Array.length_toList, Array.length_toList, hm]; omega
      have hB : (cur.toList.take (i * es) ++ v.cells.toList ++ cur.toList.drop (i * es + v.cells.size)).take ((i + 1) * es) = cur.toList.take (i * es) ++ v.cells.toList := by
        rw [← hA]; exact List.take_left
      rw [hB, List.append_assoc]
  | [], _ :: _, i, cur, K, hl, _, _, _ => by simp at hl
  | _ :: _, [], i, cur, K, hl, _, _, _ => by simp at hl

theorem qBuildSlice_ok (hT : TabOk P T) {d t n : Nat} {parts : List (Nat × X)} {vals : Array (Nat × Value)} (hl : vals.size = parts.length)
    (hv : ∀ (i : Nat) (p : Nat × X) (q : Nat × Value), parts[i]? = some p → vals.toList[i]? = some q → q.1 = p.1 ∧ RX w (E.Sh γ w) γ q.2 p.2) {K : QK} (hq : qBuildSlice T d t n parts K) :
    QOp P E γ w d ((Instr.buildSlice t n vals).run P w) K := by
  simp only [qBuildSlice] at hq
  cases hel : (T.at t).el with
  | none => simp [hel] at hq
  | some e =>
    simp only [hel] at hq
    obtain ⟨ti, z, he⟩ := hT.elOk hel
    cases n with
    | zero =>
      cases parts with
      | cons p r => exact hq.elim
      | nil =>
        have hv0 : vals = #[] := by simpa using hl
        subst hv0
        refine ⟨.c (.mt e.2.1), [], .slice (some ⟨w.heap.size, 0, none⟩) 0 0, γ, w.alloc (.cells #[] e.1), ?_, ⟨Fr.alloc w _, fun k _ => rfl, fun k b h => by simp [newKs] at h, fun k k' b h => by simp [newKs] at h, ⟨⟨_, rfl⟩, .inr rfl⟩, fun c b h => by simp at h⟩, hq⟩
        simp [Instr.buildSlice, run_underlying he.under, run_sizeOf' he.info, Instr.fill, newRow, newObj, Sem.run]
        have : Array.map (fun _ => (default : Value)) (Array.range 0) = #[] := by simp [Array.range_zero']
        rw [this]
    | succ n =>
      simp only [chk_iff] at hq
      obtain ⟨h1, h2, h3, hq⟩ := hq
      have h1 := eqN_t h1
      rw [lenN_eq] at h1
      have h2 : 0 < e.2.1 := by simpa using h2
      have h3 := leN_t h3
      have hsz := he.size
      let cur : Array Value := (Array.range ((n + 1) * e.2.1)).map (z.cells[· % z.cells.size]!)
      have hcs : cur.size = (n + 1) * e.2.1 := by simp [cur]
      obtain ⟨l, news, hk, hf, hll, hfill⟩ := fill_row (w := w) (γ := γ) (S := E.Sh γ w) e.2.1 h2 parts vals.toList 0 cur _ (by simpa using hl) hv (by rw [hcs, h1]; simp) hq
      simp only [Nat.zero_mul, List.take_zero, List.nil_append] at hfill
      have hne : ¬ ((n + 1) * e.2.1 = 0) := Nat.mul_ne_zero (by omega) (by omega)
      refine ⟨_, _, .slice (some ⟨w.heap.size, 0, none⟩) (n + 1) (n + 1), _, w.alloc (.cells news.toArray e.1), ?_, QRes.row (n := n + 1) (cap := n + 1) (es := e.2.1) (xs := l) (Fr.alloc w _) ⟨Nat.le_refl _, by simp⟩ fun γ' hn => ?_, hk⟩
      · simp only [Instr.buildSlice, Sem.run_bind, run_underlying he.under, Result.andThen_ok, run_sizeOf' he.info, hsz]
        rw [if_neg (by omega)]
        simp only [Sem.run_pure, Result.andThen_ok, hne, if_false, Sem.run_bind, run_zeroValue he.info he.zero, Nat.succ_eq_add_one]
        have : Instr.fill (fun i => some (i * e.2.1, e.2.1)) (Array.map (fun x => z.cells[x % z.cells.size]!) (Array.range ((n + 1) * e.2.1))) vals.toList = some news.toArray := hfill
        simp only [this]
        rfl
      · have hlen : l.length = n + 1 := by rw [hll, h1]
        have := RowOk.of (w := w.alloc (.cells news.toArray e.1)) (S := E.Sh γ' (w.alloc (.cells news.toArray e.1))) (g := w.heap.size) (cap := n + 1) (E := e.1) (hf.mono fun v y h => hn.rep h) h2 (by omega) (by
            have : n + 1 ≤ (n + 1) * e.2.1 := Nat.le_mul_of_pos_right _ h2
            simp only [maxLen]; omega) (by omega) (heap_alloc_new w _) (ZOk.zero _)
          (by rw [List.size_toArray, hf.len, hlen]) (fun u hu => hf.one u (by simpa using hu)) (fun i u hi => by simpa using hi)
        rw [hlen] at this
        exact this
end Go.Proofs.YthaelohccopgjaaW
/- Soundness, part 14: conversions. -/
namespace Go.Proofs.YthaelohccopgjaaW
variable {P : Program} {T : Tab} {E : Env} {γ γ' : Ghs} {s s' : Nat → X} {o o' : Look} {tm : Array Value} {w w' : World}

theorem push_toList (l : List UInt8) : ∀ (b : ByteArray), (l.map fun x => (x.toNat : Int)).foldl (fun r n => r.push (UInt8.ofNat n.toNat)) b = ⟨⟨b.data.toList ++ l⟩⟩ := by
  induction l with
  | nil => intro b; simp
  | cons x l ih =>
    intro b
    simp only [List.map_cons, List.foldl_cons, ih]
    congr 2
    show (b.push (UInt8.ofNat (x.toNat : Int).toNat)).data.toList ++ l = _
    simp [ByteArray.push, Int.toNat_natCast]
theorem run_bytes_string {b : ByteArray} {a : Option Addr} {n c : Nat} (h : ∀ p, a = some p → (loadCells p n).run P w = .ok (b.data.toList.map fun x => Value.int .u8 x.toNat).toArray w) (h0 : a = none → b = .empty) :
    (Conv.bytesToString (.slice a n c)).run P w = .ok (.string b) w := by
  cases a with
  | none => rw [h0 rfl]; rfl
  | some p =>
    have h1 : (loadCells p n).run P w = .ok ((b.data.toList.map fun x => (x.toNat : Int)).map (Value.int .u8)).toArray w := by
      rw [h p rfl, List.map_map]; rfl
    rw [run_bytesToString w p n c _ h1, push_toList]
    rfl

theorem bytes_conv (hT : TabOk P T) (h : Rel E γ s o tm w) {d src dst : Nat} {v : Value} {a : C} (hx : RX w (E.Sh γ w) γ v (.c a)) {e : Nat × Nat × Nat × Bool} (he : (T.at src).el = some e) (hb : e.2.2.2 = true) (hs : (T.at dst).str = true) {K : QK}
    (hq : elems prims o a fun es xs => chk (eqN es 1) (∃ b, BytesOf xs b ∧ K (sc (.string b)) [])) : QOp P E γ w d ((convert src dst v).run P w) K := by
  obtain ⟨ti, z, hel⟩ := hT.elOk he
  have hd := (hT.of (fun e => by rw [e] at hs; simp at hs)).str hs
  obtain ⟨p, n, c, es, xs, rfl, hl, hk, hc⟩ := elems_slice h hx.1 hq
  rw [chk_iff] at hk
  obtain ⟨h1, b, ⟨hb'⟩, hk⟩ := hk
  have h1 := eqN_t h1
  subst h1
  refine QOp.sc (u := .string b) ?_ rfl hk
  rw [run_convert_bytes_string w src dst e.1 p n c hel.under (hel.byte hb) hd]
  have hbl : xs.length = b.data.toList.length := by rw [hb']; simp [bytesL]
  have h0 : xs = [] → b = .empty := fun e => by
    rw [e] at hbl
    have : b.data.toList = [] := List.eq_nil_of_length_eq_zero (by simpa using hbl.symm)
    obtain ⟨⟨l⟩⟩ := b
    simp at this
    subst this
    rfl
  rcases hc with rfl | ⟨g, off, rfl, hp, hc⟩
  · have := h0 rfl
    subst this
    simp at hl
    subst hl
    refine run_bytes_string (fun p _ => ?_) fun _ => rfl
    simp [loadCells, loadCellsFrom]
  · refine run_bytes_string (fun p hp' => ?_) fun e => by cases e
    cases hp'
    have := run_loadCells_list (P := P) w ⟨g, off, none⟩ (b.data.toList.map fun x => Value.int .u8 x.toNat) (fun j u hj => by
      rw [List.getElem?_map] at hj
      cases hbj : b.data.toList[j]? with
      | none => simp [hbj] at hj
      | some x =>
        simp [hbj] at hj
        subst hj
        obtain ⟨u, h3, h4⟩ := (hc j [.sc (.int .u8 x.toNat)] (by rw [hb']; simp [bytesL, hbj])).2 0 (.sc (.int .u8 x.toNat)) rfl
        cases h4
        rw [add_lit]
        simpa using h3)
    rw [List.length_map, ← hbl, hl] at this
    exact this

theorem qConvert_ok (hT : TabOk P T) (h : Rel E γ s o tm w) {d src dst : Nat} {v : Value} {x : X} (hx : RX w (E.Sh γ w) γ v x) {K : QK} (hq : qConvert prims T o d src dst x K) : QOp P E γ w d ((convert src dst v).run P w) K := by
  simp only [qConvert, chk_iff, asC_iff] at hq
  obtain ⟨his, a, rfl, hq⟩ := hq
  have slc : ∀ {a : C}, RX w (E.Sh γ w) γ v (.c a) → (match (T.at src).el with
      | some e => chk e.2.2.2 (chk (T.at dst).str (elems prims o a fun es xs => chk (eqN es 1) (∃ b, BytesOf xs b ∧ K (sc (.string b)) [])))
      | none => False) → QOp P E γ w d ((convert src dst v).run P w) K := by
    intro a hx hq
    cases he : (T.at src).el with
    | none => simp [he] at hq
    | some e =>
      simp only [he, chk_iff] at hq
      exact bytes_conv hT h hx he hq.1 hq.2.1 (by simpa only [chk_iff] using hq.2.2)
  cases a with
  | y c =>
    cases c with
    | sl es xs =>
      refine slc hx ?_
      simp only [chk_iff] at hq ⊢
      exact hq
    | sc z =>
      have e := rx_sc hx
      subst e
      cases v <;> simp only at hq <;> try exact hq.elim
      case int k n =>
        cases hik : (T.at dst).ik with
        | none => simp [hik] at hq
        | some k' =>
          simp only [hik] at hq
          have hd := (hT.of (fun e => by rw [e] at hik; simp at hik)).ik k' hik
          obtain ⟨dd, hs, _⟩ := (hT.at his).under
          refine QOp.sc (u := .int k' (prims.conv k' n)) ?_ rfl hq
          simp [convert, run_underlying hs, run_underlying hd, Conv.intToInt]; rfl
      case string b =>
        cases hs : (T.at src).str with
        | false => simp [hs] at hq
        | true =>
          simp only [hs] at hq
          have hsu := (hT.at his).str hs
          cases hel : (T.at dst).el with
          | none =>
            simp only [hel, chk_iff] at hq
            have hd := (hT.of (fun e => by have := hq.1; rw [e] at this; simp at this)).str hq.1
            exact QOp.sc (u := .string b) (by simp [convert, run_underlying hsu, run_underlying hd]) rfl hq.2
          | some e =>
            simp only [hel, chk_iff] at hq
            obtain ⟨ti, z, he⟩ := hT.elOk hel
            have heb := he.byte hq.1
            let cap := grownCap w b.size 0 e.1
            have hcap : b.size ≤ cap := grownCap_ge w b.size 0 e.1
            let cells : Array Value := (b.data.map fun x => Value.int .u8 x.toNat) ++ Array.replicate (cap - b.size) (.int .u8 0)
            let w1 : World := w.drew.alloc (.cells cells e.1)
            let w2 : World := w1.freeze ⟨w.heap.size, cells.size, none⟩ 1
            have hheap1 : w1.heap[w.heap.size]? = some (.cells cells e.1 (0, 0)) := heap_alloc_new w.drew _
            have hrun : (convert src dst (.string b)).run P w = .ok (.slice (some ⟨w.heap.size, 0, none⟩) b.size cap) w2 := by
              have hshape : w1.shape? w.heap.size = some (e.1, cells.size) := by simp only [World.shape?, hheap1]
              simp only [convert, Sem.run_bind, run_underlying hsu, run_underlying he.under, Result.andThen_ok, run_underlying heb, Conv.stringToBytes]
              have hch : (choose (.appendCap b.size 0 e.1)).run P w = .ok cap w.drew := by
                simp only [choose, Sem.run, Question.forced]; rfl
              have hnew : (newRow e.1 cells).run P w.drew = .ok ⟨w.heap.size, 0, none⟩ w1 := rfl
              have hmark : (markStringish ⟨w.heap.size, 0, none⟩).run P w1 = .ok () w2 := by
                simp only [markStringish, Sem.run_bind]
                have : (shape w.heap.size).run P w1 = .ok (some (e.1, cells.size)) w1 := by
                  simp only [shape, Sem.run, hshape]
                simp only [this, Result.andThen_ok]
                rfl
              simp only [hch, Result.andThen_ok]
              have hnew' := hnew
              simp only [cells] at hnew'
              simp only [hnew', Result.andThen_ok, hmark, Sem.run_pure]
            have hfr : Fr (fun _ => False) w w2 := by
              refine ⟨rfl, rfl, rfl, ?_, fun k hk _ => ?_⟩
              · have : w2.heap.size = w1.heap.size := by simp [w2, World.freeze]
                rw [this]; simp [w1]
              · have : w2.heap[k]? = w1.heap[k]? := by
                  have hne : ¬ (w.heap.size = k) := by omega
                  simp only [w2, World.freeze, Nat.one_ne_zero, if_false, Array.getElem?_modify, hne]
                rw [this]
                exact heap_alloc_old w.drew _ hk
            have hcell : ∀ j, w2.cell? ⟨w.heap.size, j, none⟩ = cells[j]? := fun j => by
              have hh : ∃ fr, w2.heap[w.heap.size]? = some (.cells cells e.1 fr) := by
                simp only [w2, World.freeze, Nat.one_ne_zero, if_false, Array.getElem?_modify, if_true, hheap1, Option.map_some]
                exact ⟨_, rfl⟩
              obtain ⟨fr, hh⟩ := hh
              exact cell_of_heap hh j
            have hlen : (prims.bytes b).length = b.size := by
              show (bytesL b.data.toList).length = b.size
              simp only [bytesL, List.length_map, Array.length_toList]
              try rfl
            have hok : b.size ≤ 4294967296 := by
              have h1 := hq.2.1
              rw [lenOk_iff] at h1
              have h2 : (prims.slen b : Int) = (b.size : Int) := rfl
              omega
            have hmax : cap ≤ maxLen := grownCap_le_maxLen w b.size 0 e.1 (by unfold maxLen; omega)
            have hw2 : w2.heap.size = w.heap.size + 1 := by
              have : w2.heap.size = w1.heap.size := by simp [w2, World.freeze]
              rw [this]; simp [w1]
            have hcs : cells.size = cap := by
              simp only [cells, Array.size_append, Array.size_map, Array.size_replicate]
              have : b.data.size = b.size := rfl
              omega
            have hh2 : ∃ fz, w2.heap[w.heap.size]? = some (.cells cells e.1 fz) ∧ ZOk fz cells.size := by
              simp only [w2, World.freeze, Nat.one_ne_zero, if_false, Array.getElem?_modify, if_true, hheap1, Option.map_some]
              refine ⟨_, rfl, .inr ?_⟩
              simp
            have kget : ∀ (i : Nat) (x : List Y), (prims.bytes b)[i]? = some x → ∃ u, b.data.toList[i]? = some u ∧ x = [.sc (.int .u8 u.toNat)] := fun i x hi => by
              have hi : (bytesL b.data.toList)[i]? = some x := hi
              simp only [bytesL, List.getElem?_map] at hi
              cases hb : b.data.toList[i]? with
              | none => simp [hb] at hi
              | some u => simp [hb] at hi; exact ⟨u, rfl, hi.symm⟩
            by_cases hc0 : cap = 0
            · have hb0 : b.size = 0 := by omega
              have hnil : prims.bytes b = [] := List.eq_nil_of_length_eq_zero (by rw [hlen]; exact hb0)
              refine ⟨_, _, _, (fun k => if k = key d 1 then .nil else γ k), _, hrun, QRes.one (c := 1) (x := .c (.aw (key d 1))) (b := .ar 1 (prims.bytes b)) (G := .nil) hfr (fun g hg => by simp [Gh.bs] at hg) ⟨?_, .inr rfl⟩ (.inl ⟨by simp, hnil⟩), hq.2.2⟩
              simp only [RC, if_true]
              exact ⟨_, by rw [hb0, hc0]⟩
            refine ⟨_, _, _, _, _, hrun, QRes.row (n := b.size) (es := 1) (xs := prims.bytes b) hfr ⟨Nat.le_refl _, by rw [hw2]; omega⟩ fun γ' hn => ?_, hq.2.2⟩
            obtain ⟨fz, hh2, hz2⟩ := hh2
            refine ⟨hlen, hcap, hmax, by omega, by omega, cells, e.1, fz, hh2, hz2, by rw [hcs, Nat.mul_one], fun u hu => ?_, fun i x hi => ?_⟩
            · simp only [cells, Array.mem_append, Array.mem_map, Array.mem_replicate] at hu
              rcases hu with ⟨x, _, rfl⟩ | ⟨_, rfl⟩ <;> rfl
            · obtain ⟨u, h1, rfl⟩ := kget i x hi
              refine ⟨rfl, fun j y hj => ?_⟩
              cases j with
              | succ j => simp at hj
              | zero =>
                simp at hj
                subst hj
                refine ⟨_, ?_, Rep.sc _ rfl⟩
                have hsz : i < b.data.size := by have := (List.getElem?_eq_some_iff.1 h1).1; simpa using this
                rw [show i * 1 + 0 = i by omega, Array.getElem?_append_left (by simpa using hsz)]
                have h2 : b.data[i]? = some u := by simpa using h1
                simp [h2]
  | _ =>
    refine slc hx ?_
    simp only [chk_iff] at hq ⊢
    exact hq
end Go.Proofs.YthaelohccopgjaaW
/- Soundness, part 15: arguments looked at, results laid down. -/
namespace Go.Proofs.YthaelohccopgjaaW
variable {P : Program} {T : Tab} {E : Env} {γ γ' : Ghs} {s s' : Nat → X} {o o' : Look} {tm : Array Value} {w w' : World}

theorem app_eq {α : Type} : ∀ (a b : List α), app a b = a ++ b
  | [], b => rfl
  | x :: r, b => by simp [app, app_eq r b]

theorem viewC_ok {S0 : Nat → Prop} (hS : ∀ b, E.Sh γ w b → S0 b) (h : Rel E γ s o tm w) {v : Value} {c : C} (hc : RC w (E.Sh γ w) γ v c) (hk : ∀ k ∈ rowKeys [c], ∀ b, b ∈ (γ k).bs → S0 b) {K : Y → Prop} (hq : viewC prims o c K) : ∃ y, K y ∧ Rep w S0 v y := by
  cases c with
  | y c => exact ⟨c, hq, hc.mono hS fun _ _ => rfl⟩
  | mt es => obtain ⟨a, rfl⟩ := hc; exact ⟨_, hq, .sl0 _ _ _⟩
  | aw k =>
    simp only [viewC, rowAt_iff] at hq
    obtain ⟨es, xs, ho, hq⟩ := hq
    refine ⟨_, hq, ?_⟩
    simp only [RC] at hc
    rcases h.objs k _ ho with ⟨hg, rfl⟩ | ⟨g, cap, n, hg, hr⟩
    · rw [hg] at hc; obtain ⟨a, rfl⟩ := hc; exact .sl0 _ _ _
    · rw [hg] at hc; subst hc
      have := hr.rep hS (hk k (by simp [rowKeys]) g (by rw [hg]; first | rfl | exact Gh.in_bx | exact Gh.in_row)) 0 n cap (by omega) hr.le
      simpa [← hr.len] using this
  | as k lo m =>
    simp only [viewC, rowAt_iff] at hq
    obtain ⟨es, xs, ho, hq⟩ := hq
    refine ⟨_, hq, ?_⟩
    simp only [RC] at hc
    rcases h.objs k _ ho with ⟨hg, rfl⟩ | ⟨g, cap, n, hg, hr⟩
    · rw [hg] at hc; obtain ⟨rfl, a, c, rfl⟩ := hc
      simpa [prims] using Rep.sl0 (w := w) (S := S0) a c es
    · rw [hg] at hc
      obtain ⟨h1, h2, h3, c, h4, h5⟩ := hc
      rcases h5 with rfl | ⟨rfl, a, rfl⟩
      · exact hr.rep hS (hk k (by simp [rowKeys]) g (by rw [hg]; first | rfl | exact Gh.in_bx | exact Gh.in_row)) lo.toNat m.toNat c (by omega) h4
      · simpa [prims] using Rep.sl0 (w := w) (S := S0) a c es
  | _ => exact hq.elim
theorem rowKeys_cons {S0 : Nat → Prop} (hS : ∀ b, E.Sh γ w b → S0 b) (c : C) (cs : List C) : rowKeys (c :: cs) = rowKeys [c] ++ rowKeys cs := by cases c <;> simp [rowKeys]
theorem viewCs_ok {S0 : Nat → Prop} (hS : ∀ b, E.Sh γ w b → S0 b) (h : Rel E γ s o tm w) : ∀ {vs : List Value} {cs : List C} {K : List Y → Prop}, RCs w (E.Sh γ w) γ vs cs → (∀ k ∈ rowKeys cs, ∀ b, b ∈ (γ k).bs → S0 b) → viewCs prims o cs K →
    ∃ ys, K ys ∧ ys.length = vs.length ∧ (∀ v ∈ vs, v.oneCell' = true) ∧ ∀ (j : Nat) (y : Y), ys[j]? = some y → ∃ u, vs[j]? = some u ∧ Rep w S0 u y
  | [], [], K, _, _, hk => ⟨[], hk, rfl, by simp, fun j y h => by simp at h⟩
  | v :: vs, c :: cs, K, hc, hk, hq => by
    rw [rowKeys_cons hS] at hk
    obtain ⟨y, h1, h2⟩ := viewC_ok hS h hc.1.1 (fun k hk' => hk k (List.mem_append_left _ hk')) hq
    obtain ⟨ys, h3, h4, h5, h6⟩ := viewCs_ok hS h hc.2 (fun k hk' => hk k (List.mem_append_right _ hk')) h1
    refine ⟨y :: ys, h3, by simp [h4], fun u hu => ?_, fun j y' hj => ?_⟩
    · rcases List.mem_cons.1 hu with rfl | hu
      · exact hc.1.2
      · exact h5 u hu
    · cases j with
      | zero => simp at hj; subst hj; exact ⟨v, rfl, h2⟩
      | succ j => simpa using h6 j y' (by simpa using hj)
  | [], _ :: _, _, hc, _, _ => hc.elim
  | _ :: _, [], _, hc, _, _ => hc.elim
theorem capsV_ok {S0 : Nat → Prop} (hS : ∀ b, E.Sh γ w b → S0 b) (h : Rel E γ s o tm w) : ∀ {ks : List Nat} {K : List (List Y) → Prop}, (∀ k ∈ capKeys o ks, ∀ b, b ∈ (γ k).bs → S0 b) → capsV prims o ks K →
    ∃ l, K l ∧ l.length = ks.length ∧ ∀ (i : Nat) (cs : List Y), l[i]? = some cs → ∃ k g, ks[i]? = some k ∧ γ k = .bx g ∧ RP w S0 (.pointer (some ⟨g, 0, none⟩)) cs
  | [], K, _, hq => ⟨[], hq, rfl, fun i cs h => by simp at h⟩
  | k :: ks, K, hk, hq => by
    simp only [capsV, boxAt_iff] at hq
    obtain ⟨cs, ho, hq⟩ := hq
    simp only [capKeys, ho, app_eq] at hk
    obtain ⟨g, hg, cur, e, hh, hc⟩ := h.objs k _ ho
    obtain ⟨ys, h1, h2, h3, h4⟩ := viewCs_ok hS h hc (fun k' hk' => hk k' (.tail _ (List.mem_append_left _ hk'))) hq
    obtain ⟨l, h5, h6, h7⟩ := capsV_ok hS h (fun k' hk' => hk k' (.tail _ (List.mem_append_right _ hk'))) h1
    refine ⟨ys :: l, h5, by simp [h6], fun i cs' hi => ?_⟩
    cases i with
    | zero =>
      simp at hi; subst hi
      refine ⟨k, g, rfl, hg, g, 0, rfl, hk k (.head _) g (by rw [hg]; first | rfl | exact Gh.in_bx | exact Gh.in_row), fun j y hj => ?_⟩
      obtain ⟨u, h8, h9⟩ := h4 j y hj
      exact ⟨u, by rw [cell_of_heap hh]; simpa using h8, h9⟩
    | succ i => simpa using h7 i cs' (by simpa using hi)

theorem racs_of_ys {S0 : Nat → Prop} (hS : ∀ b, E.Sh γ w b → S0 b) {vs : List Value} {ys : List Y} (hl : ys.length = vs.length) (h1 : ∀ v ∈ vs, v.oneCell' = true) (h : ∀ (j : Nat) (y : Y), ys[j]? = some y → ∃ u, vs[j]? = some u ∧ Rep w S0 u y) :
    RACs w S0 none vs (viewA.mapAC ys) (List.replicate ys.length .no) := by
  induction ys generalizing vs with
  | nil => cases vs with
    | nil => trivial
    | cons v vs => simp at hl
  | cons y ys ih =>
    cases vs with
    | nil => simp at hl
    | cons v vs =>
      obtain ⟨u, h2, h3⟩ := h 0 y rfl
      simp at h2; subst h2
      exact ⟨⟨⟨rfl, h3⟩, h1 v (.head _)⟩, ih (by simpa using hl) (fun v hv => h1 v (.tail _ hv)) fun j y hj => by simpa using h (j + 1) y (by simpa using hj)⟩
theorem viewA_ok {S0 : Nat → Prop} (hS : ∀ b, E.Sh γ w b → S0 b) (h : Rel E γ s o tm w) {v : Value} {x : X} (hx : RX w (E.Sh γ w) γ v x) (hk : ∀ k ∈ ownKey o x, ∀ b, b ∈ (γ k).bs → S0 b) {K : A → Prop} (hq : viewA prims o x K) : ∃ a Gs, K a ∧ RA w S0 v a Gs ∧ blocks Gs = [] ∧ (∀ cs, a ≠ .io cs) ∧ (∀ b cs, a ≠ .ir b cs) ∧ (∀ q, a ≠ .iop q) := by
  cases x with
  | tup l => exact hq.elim
  | agg cs =>
    obtain ⟨vs, rfl, hc⟩ := hx
    obtain ⟨ys, h1, h2, h3, h4⟩ := viewCs_ok hS h hc hk hq
    refine ⟨_, .no :: List.replicate ys.length .no, h1, ⟨vs, _, rfl, rfl, racs_of_ys hS h2 h3 h4⟩, ?_, by simp⟩
    have : ∀ n, blocks (List.replicate n .no) = [] := fun n => by induction n with
      | zero => rfl
      | succ n ih => simpa [blocks, List.replicate_succ, Gh.bs] using ih
    simpa [blocks, Gh.bs] using this ys.length
  | c a =>
    have gen : ∀ {a : C}, RX w (E.Sh γ w) γ v (.c a) → (∀ k ∈ rowKeys [a], ∀ b, b ∈ (γ k).bs → S0 b) → viewC prims o a (fun y => K (.c (.y y))) → ∃ a Gs, K a ∧ RA w S0 v a Gs ∧ blocks Gs = [] ∧ (∀ cs, a ≠ .io cs) ∧ (∀ b cs, a ≠ .ir b cs) ∧ (∀ q, a ≠ .iop q) := by
      intro a hx hk hq
      obtain ⟨y, h1, h2⟩ := viewC_ok hS h hx.1 hk hq
      exact ⟨.c (.y y), [.no, .no], h1, ⟨.no, rfl, rfl, h2⟩, rfl, by simp⟩
    cases a with
    | rp cs => exact ⟨_, [], hq, ⟨rfl, hx.1.mono hS fun _ _ => rfl⟩, rfl, by simp⟩
    | fv f l =>
      obtain ⟨vs, h1, h2, h3⟩ := hx.1
      exact ⟨_, [], hq, ⟨rfl, vs, h1, h2, fun i cs hi => let ⟨u, h4, h5⟩ := h3 i cs hi; ⟨u, h4, h5.mono hS fun _ _ => rfl⟩⟩, rfl, by simp⟩
    | fn f ks =>
      obtain ⟨l, h1, h2, h3⟩ := capsV_ok hS h hk hq
      obtain ⟨vs, h4, h5, h6⟩ := hx.1
      refine ⟨_, [], h1, ⟨rfl, vs, h4, by rw [h5, h2], fun i cs hi => ?_⟩, rfl, by simp⟩
      obtain ⟨k, g, h7, h8, h9⟩ := h3 i cs hi
      have := h6 i k h7
      rw [h8] at this
      exact ⟨_, this, h9⟩
    | no => exact hq.elim
    | y c => exact gen (a := .y c) hx (fun k hk' => by simp [rowKeys] at hk') hq
    | mt es => exact gen (a := .mt es) hx (fun k hk' => by simp [rowKeys] at hk') hq
    | aw k => exact gen (a := .aw k) hx hk hq
    | as k lo n => exact gen (a := .as k lo n) hx hk hq
    | pb k j => exact hq.elim
    | pr k i j => exact hq.elim
theorem viewAs_ok {S0 : Nat → Prop} (hS : ∀ b, E.Sh γ w b → S0 b) (h : Rel E γ s o tm w) : ∀ {vs : List Value} {xs : List X} {K : List A → Prop}, vs.length = xs.length → (∀ (i : Nat) (v : Value) (x : X), vs[i]? = some v → xs[i]? = some x → RX w (E.Sh γ w) γ v x) →
    (∀ k ∈ ownKeys o xs, ∀ b, b ∈ (γ k).bs → S0 b) → viewAs prims o xs K → ∃ as Gs, K as ∧ RAs w S0 vs as Gs ∧ blocks Gs.flatten = [] ∧ ioG as Gs = []
  | [], [], K, _, _, _, hq => ⟨[], [], hq, trivial, rfl, rfl⟩
  | v :: vs, x :: xs, K, hl, hx, hk, hq => by
    simp only [ownKeys, app_eq] at hk
    obtain ⟨a, G, h1, h2, h3, h4, h4'⟩ := viewA_ok hS h (hx 0 v x rfl rfl) (fun k hk' => hk k (List.mem_append_left _ hk')) hq
    obtain ⟨as, Gs, h5, h6, h7, h8⟩ := viewAs_ok hS h (by simpa using hl) (fun i v x hv hx' => hx (i + 1) v x (by simpa using hv) (by simpa using hx')) (fun k hk' => hk k (List.mem_append_right _ hk')) h1
    refine ⟨a :: as, G :: Gs, h5, ⟨h2, h6⟩, ?_, ?_⟩
    · simp only [blocks, List.flatten_cons, List.flatMap_append] at h3 h7 ⊢
      rw [h3, h7]; rfl
    · cases a <;> first | exact h8 | exact absurd rfl (h4 _) | exact absurd rfl (h4'.1 _ _) | exact absurd rfl (h4'.2 _)
  | [], _ :: _, _, hl, _, _, _ => by simp at hl
  | _ :: _, [], _, hl, _, _, _ => by simp at hl
end Go.Proofs.YthaelohccopgjaaW
/- Soundness, part 16: results laid down, quiet calls. -/
namespace Go.Proofs.YthaelohccopgjaaW
variable {P : Program} {T : Tab} {E : Env} {γ γ' : Ghs} {s s' : Nat → X} {o o' : Look} {tm : Array Value} {w w' : World}

/-- Cells of a result: what they say, where the ghosts of the new rows are set. -/
theorem layA_ok {S S' : Nat → Prop} {g : Option Nat} (d : Nat) (hg : ∀ b, g = some b → γ' (key d 0) = .bx b) : ∀ {vs : List Value} {as : List AC} {Gs : List Gh} {j : Nat}, RACs w S g vs as Gs →
    ((∀ v y, Rep w S v y → Rep w S' v y) ∨ FlatL as) → (∀ (i : Nat) (G : Gh), Gs[i]? = some G → (∃ es xs, as[i]? = some (.own es xs)) → γ' (key d (j + i)) = G) →
    RCs w S' γ' vs (layA d j as).1 ∧ (∀ c b, (c, b) ∈ (layA d j as).2 → j ≤ c ∧ c < j + as.length ∧ (∃ es xs, as[c - j]? = some (.own es xs)) ∧ RO w S' γ' (key d c) b)
  | [], [], [], j, _, _, _ => ⟨trivial, fun c b h => by simp [layA] at h⟩
  | v :: vs, a :: as, G :: Gs, j, h, hm, hk => by
    have hm' : (∀ v y, Rep w S v y → Rep w S' v y) ∨ FlatL as := hm.imp id fun h a ha => h a (.tail _ ha)
    obtain ⟨h1, h2⟩ := layA_ok d hg (j := j + 1) h.2 hm' (fun i G hi ho => by
      have := hk (i + 1) G (by simpa using hi) (by simpa using ho)
      rw [show j + 1 + i = j + (i + 1) by omega]; exact this)
    have up : ∀ c b, (c, b) ∈ (layA d (j + 1) as).2 → j ≤ c ∧ c < j + (a :: as).length ∧ (∃ es xs, (a :: as)[c - j]? = some (.own es xs)) ∧ RO w S' γ' (key d c) b := fun c b hb => by
      obtain ⟨h3, h4, ⟨es, xs, h5⟩, h6⟩ := h2 c b hb
      refine ⟨by omega, by simp; omega, ⟨es, xs, ?_⟩, h6⟩
      rw [show c - j = (c - (j + 1)) + 1 by omega]; simpa using h5
    cases a with
    | no => exact ⟨⟨⟨trivial, h.1.2⟩, h1⟩, up⟩
    | op q => exact h.1.1.elim
    | self =>
      obtain ⟨_, b, hb, rfl⟩ := h.1.1
      exact ⟨⟨⟨by simp only [RC, hg b hb], rfl⟩, h1⟩, up⟩
    | y c =>
      refine ⟨⟨⟨?_, h.1.2⟩, h1⟩, up⟩
      rcases hm with hm | hf
      · exact hm _ _ h.1.1.2
      · cases c with
        | sc z => have := h.1.1.2; cases this; rename_i h9; exact Rep.sc _ h9
        | sl es xs => exact (hf _ (.head _)).elim
    | own es xs =>
      have hm1 : ∀ x ∈ xs, ∀ y ∈ x, ∀ v, Rep w S v y → Rep w S' v y := by
        intro x hx y hy v hv
        rcases hm with hm | hf
        · exact hm _ _ hv
        · obtain ⟨u, rfl⟩ := hf _ (.head _) x hx y hy
          cases hv; rename_i h9; exact Rep.sc _ h9
      have hG := hk 0 G rfl ⟨es, xs, rfl⟩
      simp only [Nat.add_zero] at hG
      simp only [layA]
      rcases h.1.1 with ⟨rfl, rfl, b, rfl⟩ | ⟨b, cap, n, rfl, rfl, hr⟩ | ⟨b, ys, rfl, rfl, rfl, rfl, cur, e, hh, hys⟩
      · have e1 : layOwn (key d j) es [] = (.aw (key d j), .ar es []) := by cases es <;> rfl
        rw [e1]
        refine ⟨⟨⟨by simp only [RC, hG]; exact ⟨b, rfl⟩, rfl⟩, h1⟩, fun c b hb => ?_⟩
        rcases List.mem_cons.1 hb with hb | hb
        · cases hb
          exact ⟨Nat.le_refl _, by simp, ⟨es, [], by simp⟩, .inl ⟨hG, rfl⟩⟩
        · exact up c b hb
      case inr.inr =>
        refine ⟨⟨⟨by simp only [layOwn, RC, hG], rfl⟩, h1⟩, fun c b' hb => ?_⟩
        rcases List.mem_cons.1 hb with hb | hb
        · cases hb
          exact ⟨Nat.le_refl _, by simp, ⟨0, [ys], by simp⟩, b, hG, cur, e, hh, (hys.mono1 fun y hy v hv => hm1 ys (.head _) y hy v hv).rcs⟩
        · exact up c b' hb
      · have e1 : layOwn (key d j) es xs = (.aw (key d j), .ar es xs) := by
          cases es with
          | zero => exact absurd hr.pos (by simp)
          | succ es => rfl
        rw [e1]
        refine ⟨⟨⟨by simp only [RC, hG], rfl⟩, h1⟩, fun c b' hb => ?_⟩
        rcases List.mem_cons.1 hb with hb | hb
        · cases hb
          obtain ⟨cur, e, fz, h3, hz, h4, h5, h6⟩ := hr.row
          exact ⟨Nat.le_refl _, by simp, ⟨es, xs, by simp⟩, .inr ⟨b, cap, n, hG, hr.len, hr.le, hr.max, hr.pos, hr.cpos, cur, e, fz, h3, hz, h4, h5, fun i x hi => ⟨(h6 i x hi).1, fun j y hj => let ⟨u, h7, h8⟩ := (h6 i x hi).2 j y hj; ⟨u, h7, hm1 x (List.mem_of_getElem? hi) y (List.mem_of_getElem? hj) _ h8⟩⟩⟩⟩
        · exact up c b' hb

theorem RACs.length {S : Nat → Prop} {g : Option Nat} : ∀ {vs : List Value} {as : List AC} {Gs : List Gh}, RACs w S g vs as Gs → vs.length = as.length ∧ Gs.length = as.length
  | [], [], [], _ => ⟨rfl, rfl⟩
  | _ :: _, _ :: _, _ :: _, h => by have := RACs.length h.2; simp [this]
/-- Only rows have ghosts. -/
theorem RACs.ghost {S : Nat → Prop} {g : Option Nat} : ∀ {vs : List Value} {as : List AC} {Gs : List Gh} {i : Nat} {G : Gh}, RACs w S g vs as Gs → Gs[i]? = some G → (∃ es xs, as[i]? = some (.own es xs)) ∨ G.bs = []
  | _ :: _, a :: _, G' :: _, 0, G, h, hi => by
    simp at hi; subst hi
    have := h.1.1
    cases a with
    | own es xs => exact .inl ⟨es, xs, rfl⟩
    | no => exact .inr (by rw [show G' = .no from this]; rfl)
    | self => exact .inr (by rw [this.1]; rfl)
    | op q => exact this.elim
    | y c => exact .inr (by rw [this.1]; rfl)
  | _ :: _, _ :: _, _ :: _, i + 1, G, h, hi => by
    have := RACs.ghost h.2 (i := i) (by simpa using hi)
    simpa using this
  | [], [], [], _, _, _, hi => by simp at hi

def TsOut (w : World) (S' : Nat → Prop) (γ' : Ghs) (d j : Nat) (vs : List Value) (l : List (Bool × List AC)) (Gs : List Gh) : Prop :=
    RTs w S' γ' vs (layTs d j l).1 ∧ (∀ c b, (c, b) ∈ (layTs d j l).2 → j ≤ c ∧ c < j + (RV.cells.tupCells l).length ∧ (∃ es xs, (RV.cells.tupCells l)[c - j]? = some (.own es xs)) ∧ RO w S' γ' (key d c) b) ∧ Gs.length = (RV.cells.tupCells l).length ∧
    ∀ (i : Nat) (G : Gh), Gs[i]? = some G → (∃ es xs, (RV.cells.tupCells l)[i]? = some (.own es xs)) ∨ G.bs = []
theorem layTs_ok {S S' : Nat → Prop} (d : Nat) : ∀ {vs : List Value} {l : List (Bool × List AC)} {Gs : List Gh} {j : Nat}, RTup w S vs l Gs →
    ((∀ v y, Rep w S v y → Rep w S' v y) ∨ ∀ q ∈ l, FlatL q.2) → (∀ (i : Nat) (G : Gh), Gs[i]? = some G → (∃ es xs, (RV.cells.tupCells l)[i]? = some (.own es xs)) → γ' (key d (j + i)) = G) →
    TsOut w S' γ' d j vs l Gs
  | [], [], [], j, _, _, _ => ⟨trivial, fun c b h => by simp [layTs] at h, rfl, fun i G h => by simp at h⟩
  | v :: vs, (q1, cs) :: l, Gs, j, h, hm, hk => by
    obtain ⟨G1, G2, rfl, h1, h2⟩ := h
    have hm2 : (∀ v y, Rep w S v y → Rep w S' v y) ∨ ∀ q ∈ l, FlatL q.2 := hm.imp id fun h q hq => h q (.tail _ hq)
    have hm1 : (∀ v y, Rep w S v y → Rep w S' v y) ∨ FlatL cs := hm.imp id fun h => h _ (.head _)
    have fin : ∀ {us : List Value}, RACs w S none us cs G1 → (RCs w S' γ' us (layA d j cs).1 → RV1 w S' γ' v (q1, (layA d j cs).1)) → TsOut w S' γ' d j (v :: vs) ((q1, cs) :: l) (G1 ++ G2) := fun {us} hc hv => by
      have hlen := RACs.length hc
      have hk1 : ∀ (i : Nat) (G : Gh), G1[i]? = some G → (∃ es xs, cs[i]? = some (.own es xs)) → γ' (key d (j + i)) = G := fun i G hi ⟨es, xs, ho⟩ => by
        refine hk i G ?_ ⟨es, xs, ?_⟩
        · rw [List.getElem?_append_left (List.getElem?_eq_some_iff.1 hi).1]; exact hi
        · simp only [RV.cells.tupCells]
          rw [List.getElem?_append_left (List.getElem?_eq_some_iff.1 ho).1]; exact ho
      obtain ⟨e1, e2⟩ := layA_ok (γ' := γ') d (fun b hb => by cases hb) (j := j) hc hm1 hk1
      obtain ⟨e3, e4, e5, e6⟩ := layTs_ok d (j := j + cs.length) h2 hm2 (fun i G hi ⟨es, xs, ho⟩ => by
        have := hk (cs.length + i) G (by rw [List.getElem?_append_right (by omega), hlen.2, show cs.length + i - cs.length = i by omega]; exact hi) ⟨es, xs, by
          simp only [RV.cells.tupCells]
          rw [List.getElem?_append_right (by omega), show cs.length + i - cs.length = i by omega]; exact ho⟩
        rw [show j + cs.length + i = j + (cs.length + i) by omega]; exact this)
      simp only [TsOut, layTs, lenN_eq, RV.cells.tupCells]
      refine ⟨⟨hv e1, e3⟩, fun c b hb => ?_, by simp [hlen.2, e5], fun i G hi => ?_⟩
      · rcases List.mem_append.1 hb with hb | hb
        · obtain ⟨h3, h4, ⟨es, xs, h5⟩, h6⟩ := e2 c b hb
          exact ⟨h3, by simp; omega, ⟨es, xs, by rw [List.getElem?_append_left (List.getElem?_eq_some_iff.1 h5).1]; exact h5⟩, h6⟩
        · obtain ⟨h3, h4, ⟨es, xs, h5⟩, h6⟩ := e4 c b hb
          refine ⟨by omega, by simp; omega, ⟨es, xs, ?_⟩, h6⟩
          rw [List.getElem?_append_right (by omega), show c - j - cs.length = c - (j + cs.length) by omega]; exact h5
      · by_cases hlt : i < G1.length
        · rw [List.getElem?_append_left hlt] at hi
          rcases RACs.ghost hc hi with ⟨es, xs, h9⟩ | h9
          · exact .inl ⟨es, xs, by rw [List.getElem?_append_left (List.getElem?_eq_some_iff.1 h9).1]; exact h9⟩
          · exact .inr h9
        · rw [List.getElem?_append_right (by omega)] at hi
          rcases e6 _ G hi with ⟨es, xs, h9⟩ | h9
          · refine .inl ⟨es, xs, ?_⟩
            rw [List.getElem?_append_right (by omega), ← hlen.2]; exact h9
          · exact .inr h9
    cases q1 with
    | true =>
      obtain ⟨us, rfl, hc⟩ := h1
      exact fin hc fun e => ⟨us, rfl, e⟩
    | false =>
      obtain ⟨a, G, e1, rfl, hc⟩ := h1
      simp only at e1
      subst e1
      -- a single cell need not be told to be one cell
      by_cases hv : v.oneCell' = true
      · exact fin (us := [v]) ⟨⟨hc, hv⟩, trivial⟩ fun e => by
          cases hl : (layA d j [a]).1 with
          | nil => rw [hl] at e; exact e.elim
          | cons c r =>
            rw [hl] at e
            cases r with
            | nil => exact ⟨c, rfl, e.1.1, .inr e.1.2⟩
            | cons c' r => exact e.2.elim
      · have ha : a = .no := by
          cases a with
          | no => rfl
          | self => obtain ⟨_, b, hb, _⟩ := hc; cases hb
          | op q => exact hc.elim
          | y c => exact absurd hc.2.one hv
          | own es xs =>
            rcases hc with ⟨_, _, b, rfl⟩ | ⟨b, cap, n, _, rfl, _⟩ | ⟨b, ys, _, _, _, rfl, _⟩ <;> exact absurd rfl hv
        subst ha
        have hG : G = .no := hc
        subst hG
        obtain ⟨e3, e4, e5, e6⟩ := layTs_ok d (j := j + 1) h2 hm2 (fun i G hi ⟨es, xs, ho⟩ => by
          have := hk (i + 1) G (by simpa using hi) ⟨es, xs, by simpa [RV.cells.tupCells] using ho⟩
          rw [show j + 1 + i = j + (i + 1) by omega]; exact this)
        simp only [TsOut, layTs, lenN_eq, RV.cells.tupCells, layA, List.nil_append, List.length_singleton]
        refine ⟨⟨⟨.no, rfl, trivial, .inl rfl⟩, e3⟩, fun c b hb => ?_, by simp [e5], fun i G hi => ?_⟩
        · obtain ⟨h3, h4, ⟨es, xs, h5⟩, h6⟩ := e4 c b hb
          refine ⟨by omega, by simp; omega, ⟨es, xs, ?_⟩, h6⟩
          rw [show c - j = (c - (j + 1)) + 1 by omega]; simpa using h5
        · cases i with
          | zero => simp at hi; subst hi; exact .inr rfl
          | succ i => simpa using e6 i G (by simpa using hi)
  | [], [], _ :: _, _, h, _, _ => h.elim
  | [], _ :: _, _, _, h, _, _ => by cases ‹List Gh› <;> exact h.elim
  | _ :: _, [], _, _, h, _, _ => by cases ‹List Gh› <;> exact h.elim

def ROut (w : World) (S' : Nat → Prop) (γ' : Ghs) (d : Nat) (v : Value) (r : RV) (Gs : List Gh) : Prop :=
  RX w S' γ' v (layR d r).1 ∧ (∀ c b, (c, b) ∈ (layR d r).2 → 1 ≤ c ∧ c < 1 + r.cells.length ∧ (∃ es xs, r.cells[c - 1]? = some (.own es xs)) ∧ RO w S' γ' (key d c) b) ∧ Gs.length = r.cells.length ∧
    ∀ (i : Nat) (G : Gh), Gs[i]? = some G → (∃ es xs, r.cells[i]? = some (.own es xs)) ∨ G.bs = []
theorem flatT_of : ∀ {l : List (Bool × List AC)}, FlatL (RV.cells.tupCells l) → ∀ q ∈ l, FlatL q.2
  | [], _, q, hq => absurd hq (by simp)
  | p :: l, h, q, hq => by
    rcases List.mem_cons.1 hq with rfl | hq
    · exact fun a ha => h a (List.mem_append_left _ ha)
    · exact flatT_of (fun a ha => h a (List.mem_append_right _ ha)) q hq
theorem flatC_of : ∀ {l : List AC}, flatCs l = true → FlatL l
  | [], _, a, ha => absurd ha (by simp)
  | c :: l, h, a, ha => by
    simp only [flatCs] at h
    cases hc : c.flat <;> simp [hc] at h
    rcases List.mem_cons.1 ha with rfl | ha
    · cases a with
      | y c => cases c <;> simp [AC.flat] at hc <;> trivial
      | _ => simp [AC.flat] at hc
    · exact flatC_of h a ha
theorem flatTs_of : ∀ {l : List (Bool × List AC)}, flatTs l = true → FlatL (RV.cells.tupCells l)
  | [], _, a, ha => absurd ha (by simp [RV.cells.tupCells])
  | p :: l, h, a, ha => by
    simp only [flatTs] at h
    cases hc : flatCs p.2 <;> simp [hc] at h
    rcases List.mem_append.1 ha with ha | ha
    · exact flatC_of hc a ha
    · exact flatTs_of h a ha
theorem flatR_of {r : RV} (h : r.flat = true) : FlatL r.cells := by
  cases r with
  | c a => have h' : a.flat = true := h; exact flatC_of (l := [a]) (by simp only [flatCs, h'])
  | agg cs => exact flatC_of h
  | tup l => exact flatTs_of h
theorem layR_ok {S S' : Nat → Prop} (d : Nat) {v : Value} {r : RV} {Gs : List Gh} (h : RR w S v r Gs) (hm : (∀ v y, Rep w S v y → Rep w S' v y) ∨ FlatL r.cells)
    (hk : ∀ (i : Nat) (G : Gh), Gs[i]? = some G → (∃ es xs, r.cells[i]? = some (.own es xs)) → γ' (key d (1 + i)) = G) : ROut w S' γ' d v r Gs := by
  cases r with
  | tup l =>
    obtain ⟨vs, rfl, h⟩ := h
    obtain ⟨h1, h2, h3, h4⟩ := layTs_ok (γ' := γ') d (j := 1) h (hm.imp id flatT_of) hk
    exact ⟨⟨vs, rfl, h1⟩, h2, h3, h4⟩
  | agg cs =>
    obtain ⟨vs, rfl, h⟩ := h
    obtain ⟨h1, h2⟩ := layA_ok (γ' := γ') d (fun b hb => by cases hb) (j := 1) h hm hk
    exact ⟨⟨vs, rfl, h1⟩, h2, (RACs.length h).2, fun i G hi => RACs.ghost h hi⟩
  | c a =>
    obtain ⟨G, rfl, h⟩ := h
    by_cases hv : v.oneCell' = true
    · have hc : RACs w S none [v] [a] [G] := ⟨⟨h, hv⟩, trivial⟩
      have hm' : (∀ v y, Rep w S v y → Rep w S' v y) ∨ FlatL [a] := hm
      obtain ⟨h1, h2⟩ := layA_ok (γ' := γ') d (fun b hb => by cases hb) (j := 1) hc hm' hk
      refine ⟨?_, ?_, rfl, fun i G hi => RACs.ghost hc hi⟩
      · simp only [layR]
        cases hl : (layA d 1 [a]).1 with
        | nil => rw [hl] at h1; exact h1.elim
        | cons c r => rw [hl] at h1; exact ⟨h1.1.1, .inr h1.1.2⟩
      · intro c b hb
        simp only [layR] at hb
        cases hl : (layA d 1 [a]).1 with
        | nil => rw [hl] at hb; simp at hb
        | cons c' r => rw [hl] at hb; exact h2 c b hb
    · have ha : a = .no := by
        cases a with
        | no => rfl
        | self => obtain ⟨_, b, hb, _⟩ := h; cases hb
        | op q => exact h.elim
        | y c => exact absurd h.2.one hv
        | own es xs => rcases h with ⟨_, _, b, rfl⟩ | ⟨b, cap, n, _, rfl, _⟩ | ⟨b, ys, _, _, _, rfl, _⟩ <;> exact absurd rfl hv
      subst ha
      have hG : G = .no := h
      subst hG
      exact ⟨⟨trivial, .inl rfl⟩, fun c b hb => by simp [layR, layA] at hb, rfl, fun i G hi => by
        cases i with
        | zero => simp at hi; subst hi; exact .inr rfl
        | succ i => simp at hi⟩

/-! ### Calls that turn nothing -/
theorem mem_blocks {Gs : List Gh} {b : Nat} : b ∈ blocks Gs ↔ ∃ G ∈ Gs, b ∈ G.bs := by simp [blocks]
theorem blocks_inj {Gs : List Gh} (h : (blocks Gs).Nodup) : ∀ (i j : Nat) (G G' : Gh) (b : Nat), Gs[i]? = some G → Gs[j]? = some G' → b ∈ G.bs → b ∈ G'.bs → i = j := by
  induction Gs with
  | nil => intro i j G G' b h1; simp at h1
  | cons a r ih =>
    intro i j G G' b h1 h2 h3 h4
    have hr : (blocks r).Nodup := by
      simp only [blocks, List.flatMap_cons] at h ⊢
      exact (List.nodup_append.1 h).2.1
    have hn : ∀ b, b ∈ a.bs → b ∉ blocks r := fun b hb => by
      simp only [blocks, List.flatMap_cons] at h
      exact fun h' => (List.nodup_append.1 h).2.2 b hb b h' rfl
    cases i with
    | zero =>
      simp at h1; subst h1
      cases j with
      | zero => rfl
      | succ j => exact absurd (mem_blocks.2 ⟨G', List.mem_of_getElem? (by simpa using h2), h4⟩) (hn b h3)
    | succ i =>
      cases j with
      | zero => simp at h2; subst h2; exact absurd (mem_blocks.2 ⟨G, List.mem_of_getElem? (by simpa using h1), h3⟩) (hn b h4)
      | succ j => rw [ih hr i j G G' b (by simpa using h1) (by simpa using h2) h3 h4]

theorem own_layA (d : Nat) : ∀ {as : List AC} {j i : Nat} {es : Nat} {xs : List (List Y)}, as[i]? = some (.own es xs) → ∃ b, (j + i, b) ∈ (layA d j as).2
  | a :: as, j, 0, es, xs, h => by simp at h; subst h; simp [layA]
  | a :: as, j, i + 1, es, xs, h => by
    obtain ⟨b, this⟩ := own_layA d (j := j + 1) (as := as) (i := i) (by simpa using h)
    rw [show j + 1 + i = j + (i + 1) by omega] at this
    refine ⟨b, ?_⟩
    cases a <;> simp only [layA] <;> first | exact this | exact .tail _ this
  | [], _, _, _, _, h => by simp at h
theorem own_layTs (d : Nat) : ∀ {l : List (Bool × List AC)} {j i : Nat} {es : Nat} {xs : List (List Y)}, (RV.cells.tupCells l)[i]? = some (.own es xs) → ∃ b, (j + i, b) ∈ (layTs d j l).2
  | (b, cs) :: l, j, i, es, xs, h => by
    simp only [RV.cells.tupCells] at h
    simp only [layTs, lenN_eq]
    by_cases hlt : i < cs.length
    · rw [List.getElem?_append_left hlt] at h
      obtain ⟨b', hb'⟩ := own_layA d (j := j) h
      exact ⟨b', List.mem_append_left _ hb'⟩
    · rw [List.getElem?_append_right (by omega)] at h
      obtain ⟨b', this⟩ := own_layTs d (j := j + cs.length) h
      rw [show j + cs.length + (i - cs.length) = j + i by omega] at this
      exact ⟨b', List.mem_append_right _ this⟩
  | [], _, _, _, _, h => by simp [RV.cells.tupCells] at h
theorem own_layR (d : Nat) {r : RV} {i es : Nat} {xs : List (List Y)} (h : r.cells[i]? = some (.own es xs)) : ∃ b, (1 + i, b) ∈ (layR d r).2 := by
  cases r with
  | tup l => exact own_layTs d h
  | agg cs => exact own_layA d h
  | c a =>
    obtain ⟨b, this⟩ := own_layA d (j := 1) (as := [a]) h
    refine ⟨b, ?_⟩
    cases a <;> simp [layA] at this
    simp only [layR, layA]
    simpa using this
/-- The ghosts behind a result: those of the new rows, where they are laid. -/
def resG (γ : Ghs) (d : Nat) (r : RV) (Gr : List Gh) : Ghs := fun k => if k ∈ newKs d (layR d r).2 then (Gr[k - key d 1]?).getD .no else γ k
theorem resG_own {d : Nat} {r : RV} {Gr : List Gh} {i : Nat} {G : Gh} (hi : Gr[i]? = some G) (ho : ∃ es xs, r.cells[i]? = some (.own es xs)) : resG γ d r Gr (key d (1 + i)) = G := by
  obtain ⟨es, xs, ho⟩ := ho
  obtain ⟨b, hb⟩ := own_layR d ho
  have : key d (1 + i) ∈ newKs d (layR d r).2 := mem_newKs.2 ⟨_, _, hb, rfl⟩
  simp only [resG, this, if_true]
  rw [show key d (1 + i) - key d 1 = i by simp only [key]; omega, hi]; rfl
theorem resG_off {d : Nat} {r : RV} {Gr : List Gh} {k : Nat} (h : k ∉ newKs d (layR d r).2) : resG γ d r Gr k = γ k := by simp [resG, h]
theorem resG_block {d : Nat} {r : RV} {Gr : List Gh} {k b : Nat} (h : k ∈ newKs d (layR d r).2) (hb : b ∈ (resG γ d r Gr k).bs) : ∃ G, Gr[k - key d 1]? = some G ∧ b ∈ G.bs := by
  simp only [resG, h, if_true] at hb
  cases hg : Gr[k - key d 1]? with
  | none => rw [hg] at hb; cases hb
  | some G => rw [hg] at hb; exact ⟨G, rfl, hb⟩

theorem small_ok {S : Nat → Prop} : ∀ {vs : List Value} {as : List A} {Gs : List (List Gh)}, RAs w S vs as Gs → smallAs as = true → ∀ G ∈ Gs, G.length ≤ 950
  | [], [], [], _, _ => by simp
  | v :: vs, a :: as, G :: Gs, h, hs => by
    have h1 : G.length ≤ 950 ∧ smallAs as = true := by
      cases a with
      | c a => obtain ⟨G', rfl, _⟩ := h.1; exact ⟨by simp, hs⟩
      | rp cs => exact ⟨by rw [h.1.1]; simp, hs⟩
      | iop q => obtain ⟨l, nd, rfl, _⟩ := h.1; exact ⟨by simp, hs⟩
      | fv f l => exact ⟨by rw [h.1.1]; simp, hs⟩
      | agg cs =>
        obtain ⟨us, Gs', _, rfl, hc⟩ := h.1
        have := RACs.length hc
        simp only [smallAs] at hs
        cases hb : ltN (lenN cs) 900 with
        | false => rw [hb] at hs; cases hs
        | true =>
          rw [hb] at hs
          have : cs.length < 900 := by rw [lenN_eq] at hb; simpa using hb
          exact ⟨by simp; omega, hs⟩
      | ir b cs =>
        obtain ⟨Gs', rfl, hc⟩ := h.1
        have hlen : Gs'.length = cs.length := by
          cases b
          · exact (RACs.length hc).2
          · obtain ⟨us, _, hc⟩ := hc; exact (RACs.length hc).2
        simp only [smallAs] at hs
        cases hb : ltN (lenN cs) 900 with
        | false => rw [hb] at hs; cases hs
        | true =>
          rw [hb] at hs
          have : cs.length < 900 := by rw [lenN_eq] at hb; simpa using hb
          exact ⟨by simp; omega, hs⟩
      | io cs =>
        obtain ⟨b, Gs', _, rfl, cur, e, _, hc⟩ := h.1
        have := RACs.length hc
        simp only [smallAs] at hs
        cases hb : ltN (lenN cs) 900 with
        | false => rw [hb] at hs; cases hs
        | true =>
          rw [hb] at hs
          have : cs.length < 900 := by rw [lenN_eq] at hb; simpa using hb
          exact ⟨by simp; omega, hs⟩
    intro G' hG
    rcases List.mem_cons.1 hG with rfl | hG
    · exact h1.1
    · exact small_ok h.2 h1.2 G' hG

theorem plainOr_iff (b : Bool) (r : Res) (Q : Prop) : plainOr b r Q ↔ (b = true ∨ FlatL r.val.cells) ∧ Q := by
  cases b <;> simp [plainOr]
theorem qCall_ok (h : Rel E γ s o tm w) {d : Nat} {f : FuncId} {vs : List Value} {xs : List X} (hl : vs.length = xs.length) (hx : ∀ (i : Nat) (v : Value) (x : X), vs[i]? = some v → xs[i]? = some x → RX w (E.Sh γ w) γ v x)
    {K : QK} (hq : qCall prims (CallC P) o d f xs K) : ∃ x n, K x n ∧
      Runs P f vs.toArray w fun e w' => ∃ v γ', e = .returned v ∧ QRes E γ w d x n v γ' w' := by
  obtain ⟨as, Gs, hq, h1, h2, h3⟩ := viewAs_ok (S0 := fun b => E.Sh γ w b ∨ ∃ k ∈ ownKeys o xs, b ∈ (γ k).bs) (fun b hb => .inl hb) h hl hx (fun k hk b hb => .inr ⟨k, hk, hb⟩) hq
  rw [chk_iff] at hq
  obtain ⟨hsm, q, hr, hq⟩ := hq
  obtain ⟨r, rfl⟩ : ∃ r, q = .one r := by cases q with
    | one r => exact ⟨r, rfl⟩
    | many Q => exact hq.elim
  simp only [RQ.only] at hq
  have hr : CallOK P f as r := hr
  simp only [chk_iff, plainOr_iff] at hq
  obtain ⟨e1, e2, e3, hq⟩ := hq
  refine ⟨_, _, hq, (hr.out w vs Gs _ h1 (fun b hb => ⟨?_, by rw [h2]; simp⟩) (by rw [h2]; exact List.nodup_nil) (by rw [h2]; simp) (small_ok h1 hsm)).mono ?_⟩
  · rcases hb with hb | ⟨k, _, hb⟩
    · exact hb.2.1
    · exact h.lt k b hb
  · rintro e w' ⟨v, Gr, Go, rfl, hfr, hnd, hbl, hres, houts⟩
    rw [h2] at hfr hbl hres
    have h3' : ioB as Gs = [] := by simp [ioB, h3, blocks]
    rw [h3'] at hnd hres houts
    rw [h3] at houts
    have ho : r.outs = [] := by cases ho : r.outs <;> rw [ho] at e1 <;> simp [isNilL] at e1
    rw [ho] at houts
    have hgo : Go = [] := by cases Go with
      | nil => rfl
      | cons a b => exact houts.elim
    subst hgo
    simp only [List.flatten_nil, List.append_nil] at hnd hbl hres
    have hfr' : Fr (fun _ => False) w w' := hfr.mono fun b hb => by simp at hb
    have hbl' : ∀ b ∈ blocks Gr, w.heap.size ≤ b ∧ b < w'.heap.size := fun b hb => by simpa using hbl b hb
    have hn : Nx γ w (resG γ d r.val Gr) w' := ⟨hfr'.mono fun _ h => h.elim, fun b ⟨k, hk⟩ => by
      by_cases hm : k ∈ newKs d (layR d r.val).2
      · obtain ⟨G, h5, h6⟩ := resG_block hm hk
        exact .inr (hbl' b (mem_blocks.2 ⟨G, List.mem_of_getElem? h5, h6⟩)).1
      · rw [resG_off hm] at hk; exact .inl ⟨k, hk⟩⟩
    have hlay := layR_ok (γ' := resG γ d r.val Gr) (S' := E.Sh (resG γ d r.val Gr) w') d hres (by
      cases hf : r.val.flat with
      | true => exact .inr (flatR_of hf)
      | false =>
        rcases e2 with e2 | e2
        rotate_left
        · exact .inr e2
        left
        rw [hf] at e2
        have e2 : isNilL (ownKeys o xs) = true := e2
        have hk : ownKeys o xs = [] := by cases hk : ownKeys o xs <;> rw [hk] at e2 <;> simp [isNilL] at e2
        intro v y hv
        refine hv.mono (fun b hb => ?_) fun _ _ => rfl
        obtain ⟨hb1, hb2, hb3⟩ := hb
        rcases hb1 with (hb1 | ⟨k, hk', _⟩) | hb1 | hb1
        · exact hn.sh hb1
        · rw [hk] at hk'; simp at hk'
        · simp at hb1
        · refine ⟨.inr (.inr (Nat.le_trans h.fr.size hb1)), hb2, fun ⟨k, hk'⟩ => ?_⟩
          by_cases hm : k ∈ newKs d (layR d r.val).2
          · obtain ⟨G, h5, h6⟩ := resG_block hm hk'
            exact hb3 (mem_blocks.2 ⟨G, List.mem_of_getElem? h5, h6⟩)
          · rw [resG_off hm] at hk'
            have := h.lt k b hk'
            omega) fun i G hi ho => resG_own hi ho
    obtain ⟨l1, l2, l3, l4⟩ := hlay
    refine ⟨v, resG γ d r.val Gr, rfl, hfr', fun k hk => resG_off hk, fun k b hk hb => ?_, fun k k' b hk hk' hb hb' => ?_, l1, fun c b hb => (l2 c b hb).2.2.2⟩
    · obtain ⟨G, h5, h6⟩ := resG_block hk hb
      exact hbl' b (mem_blocks.2 ⟨G, List.mem_of_getElem? h5, h6⟩)
    · obtain ⟨G, h5, h6⟩ := resG_block hk hb
      obtain ⟨G', h7, h8⟩ := resG_block hk' hb'
      have hij := blocks_inj hnd _ _ G G' b h5 h7 h6 h8
      rw [mem_newKs] at hk hk'
      obtain ⟨c, b1, h9, rfl⟩ := hk
      obtain ⟨c', b2, h10, rfl⟩ := hk'
      have := (l2 c b1 h9).1
      have := (l2 c' b2 h10).1
      simp only [key] at hij ⊢
      omega
end Go.Proofs.YthaelohccopgjaaW
/- Soundness, part 17: all operations that turn nothing, as they are run. -/
namespace Go.Proofs.YthaelohccopgjaaW
variable {P : Program} {T : Tab} {E : Env} {γ γ' : Ghs} {s s' : Nat → X} {o o' : Look} {tm : Array Value} {w w' : World}

theorem opds_length (T : Tab) (s : Nat → X) : ∀ (ts : List TypeId) (xs : List Operand), (opds T s ts xs).length = xs.length
  | _, [] => by simp [opds]
  | [], x :: r => by simp [opds, opds_length T s [] r]
  | t :: ts, x :: r => by simp [opds, opds_length T s ts r]
theorem opds_get (T : Tab) (s : Nat → X) : ∀ (ts : List TypeId) (xs : List Operand) (i : Nat) (x : X), (opds T s ts xs)[i]? = some x → ∃ (t : TypeId) (y : Operand), xs[i]? = some y ∧ x = opd T s t y
  | _, [], i, x, h => by simp [opds] at h
  | [], y :: r, 0, x, h => by simp [opds] at h; exact ⟨0, y, rfl, h.symm⟩
  | [], y :: r, i + 1, x, h => by simpa using opds_get T s [] r i x (by simpa [opds] using h)
  | t :: ts, y :: r, 0, x, h => by simp [opds] at h; exact ⟨t, y, rfl, h.symm⟩
  | t :: ts, y :: r, i + 1, x, h => by simpa using opds_get T s ts r i x (by simpa [opds] using h)
theorem partsX_length (T : Tab) (s : Nat → X) : ∀ (xs : List (Nat × Operand)), (partsX T s xs).length = xs.length
  | [] => rfl
  | (i, x) :: r => by simp [partsX, partsX_length T s r]
theorem partsX_get (T : Tab) (s : Nat → X) : ∀ (xs : List (Nat × Operand)) (i : Nat) (p : Nat × X), (partsX T s xs)[i]? = some p → ∃ q : Nat × Operand, xs[i]? = some q ∧ p = (q.1, opd T s 0 q.2)
  | [], i, x, h => by simp [partsX] at h
  | (j, y) :: r, 0, x, h => by simp [partsX] at h; exact ⟨(j, y), rfl, h.symm⟩
  | (j, y) :: r, i + 1, x, h => by simpa using partsX_get T s r i x (by simpa [partsX] using h)

theorem Rel.opds {a : Act} (h : Rel E γ s o a.tmps w) (ts : List TypeId) (xs : List Operand) (i : Nat) (v : Value) (x : X) (hv : (xs.map a.eval)[i]? = some v) (hx : (Go.Proofs.YthaelohccopgjaaW.opds T s ts xs)[i]? = some x) : RX w (E.Sh γ w) γ v x := by
  obtain ⟨t, y, h1, rfl⟩ := opds_get T s ts xs i x hx
  rw [List.getElem?_map, h1] at hv
  cases hv
  exact h.opd t y
theorem Rel.parts {a : Act} (h : Rel E γ s o a.tmps w) (parts : Array (Nat × Operand)) (i : Nat) (p : Nat × X) (q : Nat × Value) (hp : (partsX T s parts.toList)[i]? = some p)
    (hq : (parts.map fun (i, x) => (i, a.eval x)).toList[i]? = some q) : q.1 = p.1 ∧ RX w (E.Sh γ w) γ q.2 p.2 := by
  obtain ⟨r, h1, rfl⟩ := partsX_get T s _ i p hp
  simp only [Array.toList_map, List.getElem?_map, h1] at hq
  cases hq
  exact ⟨rfl, h.opd 0 r.2⟩

/-- What an operation comes to that turns nothing. -/
def QWp (P : Program) (E : Env) (γ : Ghs) (w : World) (d : Nat) (oo : Oper) (a : Act) (K : QK) : Prop :=
  ∃ x n, K x n ∧ ∀ (next : Act → World → Prop) (Q : Exit → Act → World → Prop), (∀ v γ' w', QRes E γ w d x n v γ' w' → next (a.put oo.dst v) w') → oo.wp P a w next Q

theorem QWp.of {d : Nat} {oo : Oper} {a : Act} {K : QK} {r : Sem Value} (hr : execOp a.eval oo = (do pure (.value (← r)))) (h : QOp P E γ w d (r.run P w) K) : QWp P E γ w d oo a K := by
  obtain ⟨x, n, v, γ', w', h1, h2, h3⟩ := h
  refine ⟨x, n, h3, fun next Q hn => ?_⟩
  unfold Oper.wp
  rw [hr]
  simp only [Sem.run_bind, h1, Result.andThen_ok, Sem.run_pure]
  exact hn v γ' w' h2

theorem QWp.val {d : Nat} {oo : Oper} {a : Act} {K : QK} {v : Value} {x : X} (hr : (execOp a.eval oo).run P w = .ok (.value v) w) (hx : RX w (E.Sh γ w) γ v x) (hk : K x []) : QWp P E γ w d oo a K := by
  refine ⟨x, [], hk, fun next Q hn => ?_⟩
  unfold Oper.wp
  rw [hr]
  exact hn v γ w (QRes.plain hx)

theorem callFunc_run {f : FuncId} {args : Array Value} (h : ∃ fn c, P.funcs[f]? = some fn ∧ fn.body = some c ∧ (fn.name == "runtime.NumGoroutine") = false) : (callFunc f args).run P w = .ok (.enter f args) w := by
  obtain ⟨fn, c, h1, h2, h3⟩ := h
  simp only [callFunc, Sem.run_bind]
  have : (program).run P w = .ok P w := rfl
  simp only [this, Result.andThen_ok, h1, h3, Bool.false_eq_true, if_false, h2, Option.isNone_some]
  rfl

theorem qcall_ok (hT : TabOk P T) {a : Act} (h : Rel E γ s o a.tmps w) {d : Nat} {oo : Oper} {c : Call} (ho : oo.op = .call c) {K : QK} (hq : qcall prims T (CallC P) s o d c K) : QWp P E γ w d oo a K := by
  obtain ⟨dst, op, ty, pos, after, guard⟩ := oo
  simp only at ho
  subst ho
  obtain ⟨callee, args, argTypes⟩ := c
  simp only [qcall] at hq
  cases callee with
  | invoke r m => exact hq.elim
  | value hh =>
    simp only [asC_iff] at hq
    obtain ⟨b, hb, hq⟩ := hq
    cases b <;> simp only at hq <;> try exact hq.elim
    rename_i y
    cases y <;> simp only at hq <;> try exact hq.elim
    rename_i z
    cases z <;> simp only at hq <;> try exact hq.elim
    rename_i fn first caps
    cases fn <;> simp only at hq <;> try exact hq.elim
    rename_i f
    have hv := h.opd (T := T) 0 hh
    rw [hb] at hv
    have hv := rx_sc hv
    simp only [chk_iff] at hq
    obtain ⟨n1, n2, hq⟩ := hq
    have n1 : first = #[] := by cases hf : first.toList <;> rw [hf] at n1 <;> simp [isNilL] at n1; simpa using hf
    have n2 : caps = #[] := by cases hf : caps.toList <;> rw [hf] at n2 <;> simp [isNilL] at n2; simpa using hf
    subst n1 n2
    obtain ⟨x, n, hk, hc⟩ := qCall_ok h (vs := args.toList.map a.eval) (by rw [opds_length]; simp) (fun i v y h1 h2 => h.opds (T := T) argTypes.toList args.toList i v y h1 h2) hq
    refine ⟨x, n, hk, fun next Q hn => ?_⟩
    unfold Oper.wp
    rcases hc with ⟨hfn, hc⟩ | ⟨_, v, hcf, v', γ', he, hr⟩
    rotate_left
    · cases he
      have hrun : (execOp a.eval { dst, op := .call { callee := .value hh, args, argTypes }, type := ty, pos, after, guard }).run P w = .ok (.value v) w := by
        have e : (args.toList.map a.eval).toArray = args.map a.eval := by apply Array.ext'; simp
        rw [e] at hcf
        simp only [execOp, Sem.run_bind, resolve, hv, Deferred.ofValue, Sem.run_pure, Result.andThen_ok, invoke]
        simpa using hcf
      rw [hrun]
      exact hn v γ' w hr
    have hrun : (execOp a.eval { dst, op := .call { callee := .value hh, args, argTypes }, type := ty, pos, after, guard }).run P w = .ok (.enter f (args.toList.map a.eval).toArray) w := by
      have e : (args.toList.map a.eval).toArray = args.map a.eval := by apply Array.ext'; simp
      rw [e]
      simp only [execOp, Sem.run_bind, resolve, hv, Deferred.ofValue, Sem.run_pure, Result.andThen_ok, invoke]
      rw [callFunc_run hfn]
      simp
    rw [hrun, Oper.upon_enter]
    exact hc.mono fun e w' ⟨v, γ', he, hr⟩ => by subst he; exact hn v γ' w' hr
  | builtin b =>
    obtain ⟨tl⟩ := argTypes
    obtain ⟨al⟩ := args
    cases tl with
    | nil => exact hq.elim
    | cons t ts =>
      cases hx : opds T s (t :: ts) al with
      | nil => simp [hx] at hq
      | cons x r =>
        have hlen := opds_length T s (t :: ts) al
        rw [hx] at hlen
        have hrel : ∀ (i : Nat) (v : Value) (y : X), (al.map a.eval)[i]? = some v → (x :: r)[i]? = some y → RX w (E.Sh γ w) γ v y := fun i v y h1 h2 => h.opds (T := T) (t :: ts) al i v y h1 (by rw [hx]; exact h2)
        simp only [hx] at hq
        cases al with
        | nil => simp at hlen
        | cons x0 r0 =>
          have h0 := hrel 0 _ x rfl rfl
          cases b <;> simp only at hq <;> try exact hq.elim
          case len =>
            refine QWp.of (r := Builtin.len_ (t :: ts).toArray ty ((x0 :: r0).map a.eval).toArray) ?_ (qLen_ok hT h h0 hq ty _ rfl _ rfl)
            simp [execOp, resolve, invoke, builtin]
          case append =>
            cases ts with
            | nil => exact hq.elim
            | cons u ts =>
              cases r with
              | nil => exact hq.elim
              | cons z r =>
                cases r0 with
                | nil => simp at hlen
                | cons x1 r0 =>
                  simp only [chk_iff] at hq
                  obtain ⟨n1, n2, hq⟩ := hq
                  have n1 : ts = [] := by cases ts <;> simp [isNilL] at n1; rfl
                  have n2 : r = [] := by cases r <;> simp [isNilL] at n2; rfl
                  subst n1 n2
                  have n3 : r0 = [] := by simpa using hlen.symm
                  subst n3
                  refine QWp.of (r := Builtin.append_ #[t, u] ty #[a.eval x0, a.eval x1]) ?_ (qAppend_ok hT h h0 (hrel 1 _ z rfl rfl) hq ty)
                  simp [execOp, resolve, invoke, builtin]
          case min =>
            cases r with
            | nil => exact hq.elim
            | cons z r =>
              cases r0 with
              | nil => simp at hlen
              | cons x1 r0 =>
                simp only [chk_iff] at hq
                obtain ⟨n2, hq⟩ := hq
                have n2 : r = [] := by cases r <;> simp [isNilL] at n2; rfl
                subst n2
                have n3 : r0 = [] := by simpa using hlen.symm
                subst n3
                refine QWp.of (r := Builtin.min_ (t :: ts).toArray ty #[a.eval x0, a.eval x1]) ?_ (qMinMax_ok h0 (hrel 1 _ z rfl rfl) hq _ ty)
                simp [execOp, resolve, invoke, builtin]
          case max =>
            cases r with
            | nil => exact hq.elim
            | cons z r =>
              cases r0 with
              | nil => simp at hlen
              | cons x1 r0 =>
                simp only [chk_iff] at hq
                obtain ⟨n2, hq⟩ := hq
                have n2 : r = [] := by cases r <;> simp [isNilL] at n2; rfl
                subst n2
                have n3 : r0 = [] := by simpa using hlen.symm
                subst n3
                refine QWp.of (r := Builtin.max_ (t :: ts).toArray ty #[a.eval x0, a.eval x1]) ?_ (qMinMax_ok h0 (hrel 1 _ z rfl rfl) hq _ ty)
                simp [execOp, resolve, invoke, builtin]

theorem Rel.opdO {a : Act} (h : Rel E γ s o a.tmps w) (x : Option Operand) : RXo w (E.Sh γ w) γ (x.map a.eval) (Go.Proofs.YthaelohccopgjaaW.opdO T s x) := by
  cases x with
  | none => trivial
  | some x => exact h.opd 0 x

theorem qcore_ok (hT : TabOk P T) {a : Act} (h : Rel E γ s o a.tmps w) {d : Nat} {oo : Oper} {K : QK} (hq : qcore prims T (CallC P) s o d oo.op oo.type K) : QWp P E γ w d oo a K := by
  obtain ⟨dst, op, ty, pos, after, guard⟩ := oo
  cases op <;> simp only [qcore] at hq <;> try exact hq.elim
  case move x => exact QWp.val (by simp [execOp]) (h.opd ty x) hq
  case assign x =>
    rw [chk_iff] at hq
    obtain ⟨hk, hq⟩ := hq
    have hx := h.opd (T := T) ty x
    cases hx' : opd T s ty x with
    | agg cs => simp [hx'] at hq
    | tup l => simp [hx'] at hq
    | c c =>
      rw [hx'] at hx
      simp only [hx'] at hq
      cases c
      case mt es =>
        obtain ⟨p, hp⟩ := hx.1
        refine QWp.of (r := pure (a.eval x)) (by simp [execOp]) ⟨_, _, a.eval x, (fun k => if k = key d 1 then .nil else γ k), w, by simp, ?_, hq⟩
        rw [hp]
        refine QRes.one (c := 1) (G := .nil) (Fr.refl _ _) (fun g hg => by simp [Gh.bs] at hg) ⟨by simp [RC], .inr rfl⟩ (.inl ⟨by simp, rfl⟩)
      all_goals exact QWp.val (by simp [execOp]) hx hq
  case pick c x y =>
    rw [asB_iff] at hq
    obtain ⟨b, hb, hq⟩ := hq
    have hv := h.opd (T := T) 0 c
    rw [hb] at hv
    have hv := rx_sc hv
    rw [br_iff] at hq
    rcases hq with ⟨rfl, hq⟩ | ⟨rfl, hq⟩
    · exact QWp.val (by simp [execOp, hv, asBool]) (h.opd ty x) hq
    · exact QWp.val (by simp [execOp, hv, asBool]) (h.opd ty y) hq
  case alloc t => exact QWp.of (by simp [execOp]) (qAlloc_ok hT h hq)
  case box t x => exact QWp.of (r := Instr.box t (a.eval x)) rfl (qBox_ok h (h.opd t x) hq)
  case build t parts => exact QWp.of (by simp [execOp]) (qBuild_ok hT (by simp [partsX_length]) (h.parts parts) hq)
  case buildSlice t n parts => exact QWp.of (by simp [execOp]) (qBuildSlice_ok hT (by simp [partsX_length]) (h.parts parts) hq)
  case load t x => exact QWp.of (by simp [execOp]) (qLoad_ok hT h (h.opd 0 x) hq)
  case nilCheck x =>
    rcases qNilCheck_ok h (h.opd (T := T) 0 x) (d := d) hq with ⟨⟨p, hp⟩, hk⟩ | ⟨⟨f, u, v, hp⟩, hk⟩
    · have := h.opd (T := T) 0 x
      exact QWp.val (v := a.eval x) (by simp [execOp, hp]) this hk
    · have := h.opd (T := T) 0 x
      exact QWp.val (v := a.eval x) (by simp [execOp, hp]) this hk
  case binOp op t x y t' => exact QWp.of (r := (do eqGuard op t x y (a.eval x) (a.eval y); binOp op t (a.eval x) (a.eval y))) rfl (qBin_ok hT h (h.opd t x) (h.opd t' y) hq)
  case unOp op t x => exact QWp.of (by simp [execOp]) (qUn_ok (h.opd 0 x) hq)
  case convert t u x => exact QWp.of (by simp [execOp]) (qConvert_ok hT h (h.opd t x) hq)
  case makeFunc f first caps =>
    cases f <;> simp only [chk_iff] at hq <;> try exact hq.elim
    rename_i f
    have hf : first = #[] := by cases hf : first.toList <;> rw [hf] at hq <;> simp [isNilL] at hq; simpa using hf
    subst hf
    refine QWp.of (r := Instr.makeFunc (.func f) #[] (caps.map a.eval)) (by simp [execOp]) (qMakeFunc_ok h (by simp [opds_length]) (fun i x v h1 h2 => h.opds (T := T) [] caps.toList i v x (by simpa using h2) h1) hq.2)
  case makeSlice t n c => exact QWp.of (by simp [execOp]) (qMakeSlice_ok hT (h.opd 0 n) (h.opd 0 c) hq)
  case slice t x lo hi mx =>
    cases mx with
    | some m => exact QWp.of (by simp [execOp]) (qSliceZ_ok hT h (h.opd t x) (h.opdO lo) (h.opdO hi) (h.opdO (some m)) hq)
    | none => exact QWp.of (by simp [execOp]) (qSlice_ok hT h (h.opd t x) (h.opdO lo) (h.opdO hi) hq)
  case fieldAddr t x f => exact QWp.of (by simp [execOp]) (qFieldAddr_ok hT h (h.opd 0 x) hq)
  case field t x f => exact QWp.of (by simp [execOp]) (qField_ok hT (h.opd t x) hq)
  case indexAddr t x i => exact QWp.of (by simp [execOp]) (qIndexAddr_ok hT h (h.opd t x) (h.opd 0 i) hq)
  case index t x i => exact QWp.of (by simp [execOp]) (qIndex_ok hT (h.opd t x) (h.opd 0 i) hq)
  case extract x i => exact QWp.of (by simp [execOp]) (qExtract_ok (h.opd 0 x) hq)
  case call c => exact qcall_ok hT h rfl hq
end Go.Proofs.YthaelohccopgjaaW
/- Soundness, part 18: canonical names; stores, boxes. -/
namespace Go.Proofs.YthaelohccopgjaaW
variable {P : Program} {T : Tab} {E : Env} {γ γ' : Ghs} {s s' : Nat → X} {o o' : Look} {tm : Array Value} {w w' : World}

/-- A new object, in place of what had its name; a call or an append may have turned what was handed over. -/
theorem Rel.new {st : State} (k : Nat) (b : Ob) (h : Rel E γ (slot st.s) (look1 st.o) tm w) (hn : Nx γ w γ' w') (hk : ∀ j, j ≠ k → γ' j = γ j ∨ γ' j = .no)
    (hold : ∀ j b, look1 st.o j = some b → j ≠ k → γ' j = γ j ∧ ∀ g, g ∈ (γ j).bs → w'.heap[g]? = w.heap[g]?) (hb : RO w' (E.Sh γ' w') γ' k b)
    (hi : ∀ k k' b, b ∈ (γ' k).bs → b ∈ (γ' k').bs → k = k') (hl : ∀ k b, b ∈ (γ' k).bs → b < w'.heap.size) :
    Rel E γ' (slot (st.new k b).s) (look1 (st.new k b).o) tm w' := by
  refine h.go hn (C.mapK (killF k)) rfl (turns_mapK hn _ fun j j' e => ?_) (fun i => slot_mapS _ rfl _ _) (fun j b' hb' => ?_) hi hl
  · obtain ⟨rfl, h2⟩ := killF_some e
    exact hk _ h2
  · simp only [State.new, State.kill, look1_put1, look1_mapO, look1_del1] at hb'
    by_cases e : k = j
    · simp [e] at hb'; subst hb'; subst e; exact .inr hb
    · simp [e] at hb'
      obtain ⟨b0, h1, rfl⟩ := hb'
      exact .inl ⟨j, b0, h1, rfl, (hold j b0 h1 (Ne.symm e)).1, (hold j b0 h1 (Ne.symm e)).2⟩

/-- A new empty row, without memory. -/
theorem Rel.newNil {st : State} (k es : Nat) (h : Rel E γ (slot st.s) (look1 st.o) tm w) : ∃ γ', Nx γ w γ' w ∧ γ' k = .nil ∧ (∀ j, j ≠ k → γ' j = γ j) ∧ Rel E γ' (slot (st.new k (.ar es [])).s) (look1 (st.new k (.ar es [])).o) tm w := by
  have hb : ∀ j b, b ∈ (if j = k then Gh.nil else γ j).bs → j ≠ k ∧ b ∈ (γ j).bs := fun j b hj => by
    by_cases e : j = k <;> simp [e, Gh.bs] at hj
    exact ⟨e, hj⟩
  have hn : Nx γ w (fun j => if j = k then Gh.nil else γ j) w := ⟨Fr.refl _ _, fun b ⟨j, hj⟩ => .inl ⟨j, (hb j b hj).2⟩⟩
  exact ⟨_, hn, by simp, fun j hj => by simp [hj], h.new k _ hn (fun j hj => .inl (by simp [hj])) (fun j b hj hne => ⟨by simp [hne], fun _ _ => rfl⟩) (.inl ⟨by simp, rfl⟩)
    (fun a b c h1 h2 => h.inj a b c (hb a c h1).2 (hb b c h2).2) fun a b h1 => h.lt a b (hb a b h1).2⟩

/-- What a slot holds, with the machine's value: replaced by what says the same. -/
theorem Rel.reslot (h : Rel E γ s o tm w) {d : Nat} {x : X} (hx : RX w (E.Sh γ w) γ (tm.getD d undef) x) (hs : ∀ i, s' i = if d = i then x else s i) : Rel E γ s' o tm w where
  slots i := by
    rw [hs]
    by_cases e : d = i
    · subst e; rw [if_pos rfl]; exact hx
    · rw [if_neg e]; exact h.slots i
  objs := h.objs
  inj := h.inj
  lt := h.lt
  own := h.own
  fr := h.fr
  args := h.args
/-- What a box is told to hold: replaced by what says the same. -/
theorem Rel.rebox (h : Rel E γ s o tm w) {k : Nat} {b : Ob} (hb : RO w (E.Sh γ w) γ k b) (ho : ∀ i, o' i = if k = i then some b else o i) : Rel E γ s o' tm w where
  slots := h.slots
  objs i b' hb' := by
    rw [ho] at hb'
    by_cases e : k = i
    · subst e; simp at hb'; subst hb'; exact hb
    · simp [e] at hb'; exact h.objs i b' hb'
  inj := h.inj
  lt := h.lt
  own := h.own
  fr := h.fr
  args := h.args

theorem Rel.canonS {st : State} (d : Nat) (h : Rel E γ (slot st.s) (look1 st.o) tm w) : ∃ γ', Nx γ w γ' w ∧ Rel E γ' (slot (Go.Proofs.YthaelohccopgjaaW.canonS d st).s) (look1 (Go.Proofs.YthaelohccopgjaaW.canonS d st).o) tm w := by
  have hx := h.slots d
  simp only [Go.Proofs.YthaelohccopgjaaW.canonS]
  cases hd : slot st.s d with
  | agg cs => exact ⟨γ, Nx.refl _ _, h⟩
  | tup l => exact ⟨γ, Nx.refl _ _, h⟩
  | c a =>
    rw [hd] at hx
    cases a with
    | aw k => obtain ⟨γ', h1, _, h2⟩ := h.ren k (key d 1); exact ⟨γ', h1, h2⟩
    | as k lo n => obtain ⟨γ', h1, _, h2⟩ := h.ren k (key d 1); exact ⟨γ', h1, h2⟩
    | mt es =>
      obtain ⟨γ', h1, h2, h3, h4⟩ := h.newNil (key d 1) es
      refine ⟨γ', h1, h4.reslot (d := d) (x := .c (.aw (key d 1))) ?_ (fun i => slot_put1 _ _ _ _)⟩
      obtain ⟨p, hp⟩ := hx.1
      rw [hp]
      exact ⟨by simp only [RC, h2]; exact ⟨p, rfl⟩, .inr rfl⟩
    | _ => exact ⟨γ, Nx.refl _ _, h⟩

theorem Rel.canonB : ∀ (n k j : Nat) {st : State} {γ : Ghs}, Rel E γ (slot st.s) (look1 st.o) tm w → ∃ γ', Nx γ w γ' w ∧ (γ' k = γ k ∨ γ' k = .no) ∧ Rel E γ' (slot (Go.Proofs.YthaelohccopgjaaW.canonB n k j st).s) (look1 (Go.Proofs.YthaelohccopgjaaW.canonB n k j st).o) tm w
  | 0, k, j, st, γ, h => ⟨γ, Nx.refl _ _, .inl rfl, h⟩
  | n + 1, k, j, st, γ, h => by
    have next : ∀ {st' : State} {γ' : Ghs}, Nx γ w γ' w → (γ' k = γ k ∨ γ' k = .no) → Rel E γ' (slot st'.s) (look1 st'.o) tm w → ∃ γ', Nx γ w γ' w ∧ (γ' k = γ k ∨ γ' k = .no) ∧ Rel E γ' (slot (Go.Proofs.YthaelohccopgjaaW.canonB n k (j + 1) st').s) (look1 (Go.Proofs.YthaelohccopgjaaW.canonB n k (j + 1) st').o) tm w := fun hn hg h' => by
      obtain ⟨γ'', h1, h3, h2⟩ := Rel.canonB n k (j + 1) h'
      refine ⟨γ'', hn.trans h1, ?_, h2⟩
      rcases h3 with e | e
      · rw [e]; exact hg
      · exact .inr e
    simp only [Go.Proofs.YthaelohccopgjaaW.canonB]
    cases ho : look1 st.o k with
    | none => simp only; exact ⟨γ, Nx.refl _ _, .inl rfl, h⟩
    | some b =>
      cases b with
      | ar es xs => simp only; exact ⟨γ, Nx.refl _ _, .inl rfl, h⟩
      | op q => simp only; exact ⟨γ, Nx.refl _ _, .inl rfl, h⟩
      | bx cs =>
        cases hd : dropN j cs with
        | nil => simp only [hd]; exact ⟨γ, Nx.refl _ _, .inl rfl, h⟩
        | cons c r =>
          cases c with
          | aw k' =>
            simp only [hd]
            obtain ⟨γ', h1, h3, h2⟩ := h.ren k' (k + 1 + j)
            exact next h1 (h3 k (by omega)) h2
          | as k' lo m =>
            simp only [hd]
            obtain ⟨γ', h1, h3, h2⟩ := h.ren k' (k + 1 + j)
            exact next h1 (h3 k (by omega)) h2
          | mt es =>
            simp only [hd]
            obtain ⟨γ', h1, h2, h3, h4⟩ := h.newNil (k + 1 + j) es
            have hkne : k ≠ k + 1 + j := by omega
            have ho' : look1 (st.new (k + 1 + j) (.ar es [])).o k = some (.bx (mapCs (C.mapK (killF (k + 1 + j))) cs)) := by
              simp only [State.new, State.kill, look1_put1, look1_mapO, look1_del1]
              rw [if_neg (Ne.symm hkne), if_neg (Ne.symm hkne), ho]; rfl
            refine next (st' := Go.Proofs.YthaelohccopgjaaW.canonB.setCells (st.new (k + 1 + j) (.ar es [])) k j [.aw (k + 1 + j)]) h1 (.inl (h3 k hkne)) ?_
            simp only [Go.Proofs.YthaelohccopgjaaW.canonB.setCells, ho']
            refine h4.rebox (k := k) (b := .bx (setN (mapCs (C.mapK (killF (k + 1 + j))) cs) j [.aw (k + 1 + j)])) ?_ (fun i => by simp only [look1_put1])
            obtain ⟨g, hg, cur, e, hh, hc⟩ := h4.objs k _ ho'
            refine ⟨g, hg, cur, e, hh, ?_⟩
            -- cell j is an empty slice
            obtain ⟨g0, hg0, cur0, e0, hh0, hc0⟩ := h.objs k _ ho
            have hgg : g = g0 := by
              have := h3 k hkne
              rw [hg, hg0] at this
              cases this; rfl
            subst hgg
            rw [hh] at hh0
            cases hh0
            have hcj : cs[j]? = some (.mt es) := by
              have : (dropN j cs)[0]? = some (.mt es) := by rw [hd]; rfl
              rw [dropN_eq, List.getElem?_drop] at this
              simpa using this
            obtain ⟨v, hv, hv1, hv2⟩ := hc0.get hcj
            obtain ⟨p, rfl⟩ := hv1
            have hjl : j < cs.length := (List.getElem?_eq_some_iff.1 hcj).1
            have hml : ∀ l : List C, (mapCs (C.mapK (killF (k + 1 + j))) l).length = l.length := fun l => by induction l with
              | nil => rfl
              | cons a r ih => simp [mapCs, ih]
            have hone : RCs w (E.Sh γ' w) γ' [Value.slice p 0 0] [.aw (k + 1 + j)] := ⟨⟨by simp only [RC, h2]; exact ⟨p, rfl⟩, rfl⟩, trivial⟩
            have := RCs.setN j hc hone (by rw [hml]; simp; omega)
            have hlist : cur.toList.take j ++ [Value.slice p 0 0] ++ cur.toList.drop (j + [Value.slice p 0 0].length) = cur.toList := by
              have hlt : j < cur.toList.length := (List.getElem?_eq_some_iff.1 hv).1
              have he := (List.getElem?_eq_some_iff.1 hv).2
              rw [← he]
              simp only [List.length_singleton, List.append_assoc, List.singleton_append, List.getElem_cons_drop, List.take_append_drop]
            rw [hlist] at this
            exact this
          | _ => simp only [hd]; exact next (Nx.refl _ _) (.inl rfl) h
end Go.Proofs.YthaelohccopgjaaW
/- Soundness, part 19: writes into what is owned. -/
namespace Go.Proofs.YthaelohccopgjaaW
variable {P : Program} {T : Tab} {E : Env} {γ γ' : Ghs} {s s' : Nat → X} {o o' : Look} {tm : Array Value} {w w' : World}

theorem Nx.setRow {k g : Nat} (hg : g ∈ (γ k).bs) (w : World) (cs : Array Value) : Nx γ w γ (w.setRow g cs) :=
  ⟨⟨rfl, rfl, rfl, by simp [World.setRow], fun b hb hn => setRow_other w g b cs fun e => hn ⟨k, e ▸ hg⟩⟩, fun b h => .inl h⟩

/-- One object's block is written anew. -/
theorem Rel.write (h : Rel E γ s o tm w) {k g : Nat} (hg : g ∈ (γ k).bs) (cs : Array Value) {b : Ob} (hb : RO (w.setRow g cs) (E.Sh γ (w.setRow g cs)) γ k b) (ho : ∀ i, o' i = if k = i then some b else o i) :
    Rel E γ s o' tm (w.setRow g cs) := by
  have hn := Nx.setRow hg w cs
  refine h.go hn (fun c => c) rfl (turns_id hn fun _ => .inl rfl) (fun i => (X.mapC_id _).symm) (fun j b' hb' => ?_) h.inj fun j b hj => by have := h.lt j b hj; simpa [World.setRow] using this
  rw [ho] at hb'
  by_cases e : k = j
  · subst e; simp at hb'; subst hb'; exact .inr hb
  · simp [e] at hb'
    refine .inl ⟨j, b', hb', (Ob.mapC_id _).symm, rfl, fun g' hg' => setRow_other w g g' cs fun e' => e (h.inj k j g hg (e' ▸ hg'))⟩

theorem run_storeVar {t : TypeId} {ti : TypeInfo} (hi : P.info? t = some ti) {g j : Nat} {cur : Array Value} {e : TypeId} {fz : Nat × Nat} (hh : w.heap[g]? = some (.cells cur e fz)) (hzz : ZOk fz cur.size) {v : Value} (hs : v.cells.size = ti.size) (hle : j + v.cells.size ≤ cur.size)
    (h1 : ∀ u ∈ v.cells.toList, u.oneCell' = true) : (storeVar t ⟨g, j, none⟩ v).run P w = .ok () (w.setRow g (cur.toList.take j ++ v.cells.toList ++ cur.toList.drop (j + v.cells.size)).toArray) := by
  have := run_storeCells_z P g j e fz v.cells.toList 0 cur w hh hzz (by simpa using hle) h1
  simp only [Nat.add_zero, Array.length_toList] at this
  simp [storeVar, run_sizeOf' hi, hs, this]

theorem RCs.one {S : Nat → Prop} : ∀ {vs : List Value} {cs : List C}, RCs w S γ vs cs → ∀ v ∈ vs, v.oneCell' = true
  | [], [], _, v, hv => by simp at hv
  | u :: us, c :: cs, h, v, hv => by
    rcases List.mem_cons.1 hv with rfl | hv
    · exact h.1.2
    · exact RCs.one h.2 v hv

/-- A store into a box. -/
theorem store_box (hT : TabOk P T) (h : Rel E γ s o tm w) {t : TypeId} (hi : (T.at t).is = true) {p v : Value} {x : X} {k j : Nat} {cs : List C} (hp : RX w (E.Sh γ w) γ p (.c (.pb k j))) (hv : RX w (E.Sh γ w) γ v x) (hno : x.isNo = false) (htup : ∀ l, x ≠ .tup l)
    (ho : o k = some (.bx cs)) (h1 : x.cells.length = (T.at t).cells) (h2 : j + x.cells.length ≤ cs.length) (ho' : ∀ i, o' i = if k = i then some (.bx (setN cs j x.cells)) else o i) :
    ∃ w', (Instr.storeAt t p v).run P w = .ok () w' ∧ Nx γ w γ w' ∧ Rel E γ s o' tm w' := by
  obtain ⟨g, hg, cur, e, hh, hc⟩ := h.objs k _ ho
  have hpv := hp.1
  simp only [RC, hg] at hpv
  subst hpv
  obtain ⟨ti, hti, hsz, _⟩ := (hT.at hi).info
  have hxc := hv.cells hno htup
  have hl := hxc.length
  have hlc := hc.length
  simp only [Array.length_toList] at hl hlc
  have hgb : g ∈ (γ k).bs := by rw [hg]; first | rfl | exact Gh.in_bx | exact Gh.in_row
  have hrun := run_storeVar (P := P) (t := t) hti hh (ZOk.zero _) (v := v) (by rw [hl, h1, hsz]) (j := j) (by rw [hlc, hl]; exact h2) hxc.one
  refine ⟨w.setRow g (cur.toList.take j ++ v.cells.toList ++ cur.toList.drop (j + v.cells.size)).toArray, by simp only [Instr.storeAt, Sem.run_bind, Instr.sureAddr, Sem.run_pure, Result.andThen_ok, hrun], Nx.setRow hgb w _, h.write hgb _ (b := .bx (setN cs j x.cells)) ?_ ho'⟩
  refine ⟨g, hg, _, e, setRow_heap w g cur _ e _ hh, ?_⟩
  have hn := Nx.setRow hgb w (cur.toList.take j ++ v.cells.toList ++ cur.toList.drop (j + v.cells.size)).toArray
  have t := turns_id (E := E) hn fun _ => .inl rfl
  have := RCs.setN j hc hxc h2
  have := t.cs this
  rw [mapCs_id] at this
  simpa using this

/-- A row's content, written: the same places. -/
theorem Rel.rewrite (h : Rel E γ s o tm w) {k es : Nat} {xs xs' : List (List Y)} (ho : o k = some (.ar es xs)) {g cap n : Nat} (hg : γ k = .row g es cap n) {cur : Array Value} {e : TypeId} {fz : Nat × Nat} (hh : w.heap[g]? = some (.cells cur e fz)) (cur' : Array Value) (hs : cur'.size = cur.size)
    (hone : ∀ u ∈ cur', u.oneCell' = true) (hl : xs'.length = xs.length) (hc : ∀ (i : Nat) (x : List Y), xs'[i]? = some x → x.length = es ∧ ∀ (j : Nat) (y : Y), x[j]? = some y → ∃ u, cur'[i * es + j]? = some u ∧ Rep w (E.Sh γ w) u y)
    (ho' : ∀ i, o' i = if k = i then some (.ar es xs') else o i) : Nx γ w γ (w.setRow g cur') ∧ Rel E γ s o' tm (w.setRow g cur') := by
  have hgb : g ∈ (γ k).bs := by rw [hg]; first | rfl | exact Gh.in_bx | exact Gh.in_row
  have hn := Nx.setRow hgb w cur'
  refine ⟨hn, h.write hgb cur' (b := .ar es xs') (.inr ⟨g, cap, n, hg, ?_⟩) ho'⟩
  rcases h.objs k _ ho with ⟨hg', _⟩ | ⟨g', cap', n', hg', hr⟩
  · rw [hg] at hg'; cases hg'
  · rw [hg] at hg'
    cases hg'
    obtain ⟨cur0, e0, fz0, hh0, hz0, hs0, _, _⟩ := hr.row
    rw [hh] at hh0
    cases hh0
    exact ⟨by rw [hl, hr.len], hr.le, hr.max, hr.pos, hr.cpos, cur', e, fz, setRow_heap w g cur _ e _ hh, ZOk.of_size hz0 hs, by rw [hs, hs0], hone, fun i x hi => ⟨(hc i x hi).1, fun j y hj => let ⟨u, h1, h2⟩ := (hc i x hi).2 j y hj; ⟨u, h1, hn.rep h2⟩⟩⟩

/-- A store into an element of a row. -/
theorem store_row (hT : TabOk P T) (h : Rel E γ s o tm w) {t : TypeId} (hi : (T.at t).is = true) {p v : Value} {x : X} {k j : Nat} {i : Int} {es : Nat} {xs : List (List Y)} {ys el : List Y} (hp : RX w (E.Sh γ w) γ p (.c (.pr k i j))) (hv : RX w (E.Sh γ w) γ v x) (hno : x.isNo = false) (htup : ∀ l, x ≠ .tup l)
    (ho : o k = some (.ar es xs)) (hys : ys.length = x.cells.length ∧ ∀ (m : Nat) (y : Y), ys[m]? = some y → ∃ u, v.cells.toList[m]? = some u ∧ Rep w (E.Sh γ w) u y) (hel : LGet xs i el) (h1 : ys.length = (T.at t).cells) (h2 : j + ys.length ≤ el.length)
    (ho' : ∀ q, o' q = if k = q then some (.ar es (prims.lset xs i (setN el j ys))) else o q) : ∃ w', (Instr.storeAt t p v).run P w = .ok () w' ∧ Nx γ w γ w' ∧ Rel E γ s o' tm w' := by
  have hil := (List.getElem?_eq_some_iff.1 hel.get).1
  rcases h.objs k _ ho with ⟨hg, rfl⟩ | ⟨g, cap, n, hg, hr⟩
  · simp at hil
  · have hpv := hp.1
    simp only [RC, hg] at hpv
    obtain ⟨h0, rfl⟩ := hpv
    obtain ⟨ti, hti, hsz, _⟩ := (hT.at hi).info
    obtain ⟨cur, e, fz, hh, hzz, hs, hone, hc⟩ := hr.row
    have hxc := hv.cells hno htup
    have hvl : v.cells.size = ys.length := by have := hxc.length; rw [hys.1]; simpa using this
    have hell := (hc _ el hel.get).1
    have hbound : i.toNat * es + j + v.cells.size ≤ cur.size := by
      have a1 : (i.toNat + 1) * es ≤ cap * es := Nat.mul_le_mul_right _ (by have := hr.len; have := hr.le; omega)
      rw [Nat.add_mul] at a1
      rw [hs, hvl]; omega
    have hrun := run_storeVar (P := P) (t := t) hti hh hzz (v := v) (by rw [hvl, h1, hsz]) (j := i.toNat * es + j) hbound hxc.one
    let q := i.toNat * es + j
    have hsz' : (cur.toList.take q ++ v.cells.toList ++ cur.toList.drop (q + v.cells.size)).toArray.size = cur.size := by
      simp only [List.size_toArray, List.length_append, List.length_take, List.length_drop, Array.length_toList]; omega
    have hget : ∀ m, (cur.toList.take q ++ v.cells.toList ++ cur.toList.drop (q + v.cells.size)).toArray[m]? = if q ≤ m ∧ m < q + v.cells.size then v.cells[m - q]? else cur[m]? := fun m => by
      simp only [List.getElem?_toArray]
      by_cases a : m < q
      · rw [List.getElem?_append_left (by simp; omega), List.getElem?_append_left (by simp; omega), List.getElem?_take, if_pos a, if_neg (by omega)]; simp
      · by_cases b : m < q + v.cells.size
        · rw [List.getElem?_append_left (by simp; omega), List.getElem?_append_right (by simp; omega), if_pos ⟨by omega, b⟩]
          simp only [List.length_take, Array.length_toList]
          rw [Nat.min_eq_left (by omega)]; simp
        · rw [List.getElem?_append_right (by simp; omega), if_neg (by omega)]
          simp only [List.length_append, List.length_take, Array.length_toList, List.getElem?_drop]
          rw [Nat.min_eq_left (by omega), show q + v.cells.size + (m - (q + v.cells.size)) = m by omega]; simp
    obtain ⟨hn, hrel⟩ := h.rewrite ho hg hh (cur.toList.take q ++ v.cells.toList ++ cur.toList.drop (q + v.cells.size)).toArray (xs' := prims.lset xs i (setN el j ys)) hsz' (fun u hu => by
        simp only [List.mem_toArray, List.mem_append] at hu
        rcases hu with (hu | hu) | hu
        · exact hone u (by simpa using List.mem_of_mem_take hu)
        · exact hxc.one u hu
        · exact hone u (by simpa using List.mem_of_mem_drop hu)) (by simp [prims]) (fun m z hm => by
        have hm : (xs.set i.toNat (setN el j ys))[m]? = some z := hm
        rw [List.getElem?_set] at hm
        by_cases hmi : i.toNat = m
        · subst hmi
          simp [hil] at hm
          subst hm
          have hsl : (setN el j ys).length = el.length := by rw [setN_eq _ _ _ h2]; simp; omega
          refine ⟨by rw [hsl, hell], fun a y ha => ?_⟩
          rw [setN_eq _ _ _ h2] at ha
          rw [hget]
          by_cases a1 : a < j
          · rw [List.getElem?_append_left (by simp; omega), List.getElem?_append_left (by simp; omega), List.getElem?_take, if_pos a1] at ha
            rw [if_neg (by omega)]
            exact (hc _ el hel.get).2 a y ha
          · by_cases a2 : a < j + ys.length
            · rw [List.getElem?_append_left (by simp; omega), List.getElem?_append_right (by simp; omega)] at ha
              simp only [List.length_take] at ha
              rw [Nat.min_eq_left (by omega)] at ha
              rw [if_pos ⟨by omega, by omega⟩, show i.toNat * es + a - q = a - j by omega]
              obtain ⟨u, h3, h4⟩ := hys.2 _ y ha
              exact ⟨u, by simpa using h3, h4⟩
            · rw [List.getElem?_append_right (by simp; omega)] at ha
              simp only [List.length_append, List.length_take, List.getElem?_drop] at ha
              rw [Nat.min_eq_left (by omega), show j + ys.length + (a - (j + ys.length)) = a by omega] at ha
              rw [if_neg (by omega)]
              exact (hc _ el hel.get).2 a y ha
        · simp [hmi] at hm
          refine ⟨(hc m z hm).1, fun a y ha => ?_⟩
          have hal : a < es := by rw [← (hc m z hm).1]; exact (List.getElem?_eq_some_iff.1 ha).1
          obtain ⟨u, h3, h4⟩ := (hc m z hm).2 a y ha
          refine ⟨u, ?_, h4⟩
          rw [hget, if_neg ?_]
          · exact h3
          · rintro ⟨b1, b2⟩
            rcases Nat.lt_or_gt_of_ne hmi with hlt | hgt
            · have : (i.toNat + 1) * es ≤ m * es := Nat.mul_le_mul_right _ hlt
              rw [Nat.add_mul] at this; omega
            · have : (m + 1) * es ≤ i.toNat * es := Nat.mul_le_mul_right _ hgt
              rw [Nat.add_mul] at this; omega) ho'
    exact ⟨_, by simp only [Instr.storeAt, Sem.run_bind, Instr.sureAddr, Sem.run_pure, Result.andThen_ok, hrun]; rfl, hn, hrel⟩
end Go.Proofs.YthaelohccopgjaaW
/- Soundness, part 20: stores, boxes, appends, copies, as they are run. -/
namespace Go.Proofs.YthaelohccopgjaaW
variable {P : Program} {T : Tab} {E : Env} {γ γ' : Ghs} {s s' : Nat → X} {o o' : Look} {tm : Array Value} {w w' : World}

/-- What an operation comes to that may turn what the frame owns. -/
def NWp (P : Program) (E : Env) (γ : Ghs) (w : World) (oo : Oper) (a : Act) (K : SK) : Prop :=
  ∃ x st', K x st' ∧ ∀ (next : Act → World → Prop) (Q : Exit → Act → World → Prop), (∀ v γ' w', Nx γ w γ' w' → Rel E γ' (slot st'.s) (look1 st'.o) a.tmps w' → RX w' (E.Sh γ' w') γ' v x → next (a.put oo.dst v) w') → oo.wp P a w next Q

theorem NWp.val {oo : Oper} {a : Act} {K : SK} {x : X} {st : State} {v : Value} {w' : World} (hr : (execOp a.eval oo).run P w = .ok (.value v) w') (hn : Nx γ w γ' w') (h : Rel E γ' (slot st.s) (look1 st.o) a.tmps w') (hx : RX w' (E.Sh γ' w') γ' v x) (hk : K x st) : NWp P E γ w oo a K := by
  refine ⟨x, st, hk, fun next Q hne => ?_⟩
  unfold Oper.wp
  rw [hr]
  exact hne v γ' w' hn h hx
theorem NWp.skip {oo : Oper} {a : Act} {K : SK} {st : State} {w' : World} (hr : (execOp a.eval oo).run P w = .ok .skip w') (hn : Nx γ w γ' w') (h : Rel E γ' (slot st.s) (look1 st.o) a.tmps w') (hk : K (.c .no) st) : NWp P E γ w oo a K := by
  refine ⟨.c .no, st, hk, fun next Q hne => ?_⟩
  unfold Oper.wp
  rw [hr]
  exact hne undef γ' w' hn h ⟨trivial, .inl rfl⟩

/-- What turns nothing, laid down. -/
theorem NWp.of_quiet {oo : Oper} {a : Act} {K : SK} {st : State} {d : Nat} (h : Rel E γ (slot st.s) (look1 st.o) a.tmps w) (hq : QWp P E γ w d oo a (lay d st K)) : NWp P E γ w oo a K := by
  obtain ⟨x, n, hk, hw⟩ := hq
  refine ⟨x, st.news d n, hk, fun next Q hne => hw next Q fun v γ' w' hr => ?_⟩
  have hn : Nx γ w γ' w' := ⟨hr.fr.mono fun _ h => h.elim, fun b ⟨k, hk⟩ => by
    by_cases hm : k ∈ newKs d n
    · exact .inr (hr.fresh k b hm hk).1
    · rw [hr.off k hm] at hk; exact .inl ⟨k, hk⟩⟩
  refine hne v γ' w' hn (h.news hn d n (fun k hk => .inl (hr.off k hk)) (fun k b hb hm => ⟨hr.off k hm, fun g hg => hr.fr.block g (h.lt k g hg) (fun h => h)⟩) hr.obs ?_ ?_) hr.x
  · intro k k' b h1 h2
    by_cases hm : k ∈ newKs d n
    · by_cases hm' : k' ∈ newKs d n
      · exact hr.inj k k' b hm hm' h1 h2
      · rw [hr.off k' hm'] at h2
        have := (hr.fresh k b hm h1).1
        have := h.lt k' b h2
        omega
    · rw [hr.off k hm] at h1
      by_cases hm' : k' ∈ newKs d n
      · have := (hr.fresh k' b hm' h2).1
        have := h.lt k b h1
        omega
      · rw [hr.off k' hm'] at h2
        exact h.inj k k' b h1 h2
  · intro k b h1
    by_cases hm : k ∈ newKs d n
    · exact (hr.fresh k b hm h1).2
    · rw [hr.off k hm] at h1
      exact Nat.lt_of_lt_of_le (h.lt k b h1) hr.fr.size

theorem plainC_rep {S : Nat → Prop} {v : Value} {c : C} {K : Y → Prop} (h : RC w S γ v c) (hq : plainC c K) : ∃ y, K y ∧ Rep w S v y := by
  cases c <;> simp only [plainC] at hq <;> try exact hq.elim
  · exact ⟨_, hq, h⟩
  · obtain ⟨a, rfl⟩ := h; exact ⟨_, hq, .sl0 _ _ _⟩

theorem nStore_ok (hT : TabOk P T) {oo : Oper} {a : Act} {st : State} (h : Rel E γ (slot st.s) (look1 st.o) a.tmps w) {t : TypeId} {p v : Operand} (ho : oo.op = .store t p v) {K : SK} (hq : nStore prims T st t p v fun st => K (.c .no) st) : NWp P E γ w oo a K := by
  obtain ⟨dst, op, ty, pos, after, guard⟩ := oo
  simp only at ho
  subst ho
  simp only [nStore, chk_iff, brk_iff, and_false, false_or, asC_iff] at hq
  obtain ⟨hi, hno, htup, b, hb, hq⟩ := hq
  have hp := h.opd (T := T) 0 p
  rw [hb] at hp
  have hv := h.opd (T := T) t v
  have run : ∀ {w' : World}, (Instr.storeAt t (a.eval p) (a.eval v)).run P w = .ok () w' → (execOp a.eval { dst, op := .store t p v, type := ty, pos, after, guard }).run P w = .ok .skip w' := fun hr => by
    simp only [execOp, Sem.run_bind, hr, Result.andThen_ok, Sem.run_pure]
  cases b <;> simp only at hq <;> try exact hq.elim
  case pb k j =>
    simp only [boxAt_iff, chk_iff] at hq
    obtain ⟨cs, ho, h1, h2, hk⟩ := hq
    have h1 := eqN_t h1
    have h2 := leN_t h2
    rw [lenN_eq] at h1 h2
    rw [lenN_eq] at h2
    obtain ⟨w', h3, h4, h5⟩ := store_box hT h hi hp hv hno (fun l e => by rw [e] at htup; simp [X.isTup] at htup) ho h1 h2 (o' := look1 (put1 st.o k (.bx (setN cs j (opd T (slot st.s) t v).cells)))) (fun i => look1_put1 _ _ _ _)
    obtain ⟨γ'', h6, _, h7⟩ := Rel.canonB (T.at t).cells k j (st := ⟨st.s, put1 st.o k (.bx (setN cs j (opd T (slot st.s) t v).cells))⟩) h5
    exact NWp.skip (run h3) (h4.trans h6) h7 hk
  case pr k i j =>
    simp only [nRow, rowAt_iff, brk_iff, and_false, false_or] at hq
    obtain ⟨hno', htup', es, xs, ho, hq⟩ := hq
    have hf := h.freezes (rowKeys (opd T (slot st.s) t v).cells)
    have hnd := Nx.drops γ w (rowKeys (opd T (slot st.s) t v).cells)
    have hp' : RX w (E.Sh (fun j => if j ∈ rowKeys (opd T (slot st.s) t v).cells then .no else γ j) w) (fun j => if j ∈ rowKeys (opd T (slot st.s) t v).cells then .no else γ j) (a.eval p) (.c (.pr k i j)) :=
      ⟨turns_id (E := E) hnd (fun j => by by_cases e : j ∈ rowKeys (opd T (slot st.s) t v).cells <;> simp [e]) _ _ hp.1, hp.2⟩
    have hv' := hf.opd (T := T) t v
    have htu : ∀ l, opd T (slot (freezes prims (rowKeys (opd T (slot st.s) t v).cells) st).s) t v ≠ .tup l := fun l e => by rw [e] at htup'; simp [X.isTup] at htup'
    have hc := hv'.cells hno' htu
    obtain ⟨ys, hk, hyl, _, hys⟩ := plainCs_ok hc hq
    simp only [chk_iff] at hk
    obtain ⟨el, hel, e1, e2, hk⟩ := hk
    have e1 := eqN_t e1
    have e2 := leN_t e2
    rw [lenN_eq] at e1 e2
    rw [lenN_eq] at e2
    obtain ⟨w', h3, h4, h5⟩ := store_row hT hf hi hp' hv' hno' htu ho ⟨by rw [hyl, hc.length], hys⟩ hel e1 e2 (o' := look1 (put1 (freezes prims (rowKeys (opd T (slot st.s) t v).cells) st).o k (.ar es (prims.lset xs i (setN el j ys))))) (fun i => look1_put1 _ _ _ _)
    exact NWp.skip (st := ⟨(freezes prims (rowKeys (opd T (slot st.s) t v).cells) st).s, put1 (freezes prims (rowKeys (opd T (slot st.s) t v).cells) st).o k (.ar es (prims.lset xs i (setN el j ys)))⟩) (run h3) (hnd.trans h4) h5 hk
end Go.Proofs.YthaelohccopgjaaW
/- Soundness, part 21: boxes of rows, appends, copies. -/
namespace Go.Proofs.YthaelohccopgjaaW
variable {P : Program} {T : Tab} {E : Env} {γ γ' : Ghs} {s s' : Nat → X} {o o' : Look} {tm : Array Value} {w w' : World}

theorem nBox_ok {oo : Oper} {a : Act} {st : State} (h : Rel E γ (slot st.s) (look1 st.o) a.tmps w) {t : TypeId} {v : Operand} {x : X} (ho : oo.op = .box t v) (hx : RX w (E.Sh γ w) γ (a.eval v) x) {d : Nat} {K : SK} (hq : nBox d x st K) : NWp P E γ w oo a K := by
  obtain ⟨dst, op, ty, pos, after, guard⟩ := oo
  simp only at ho
  subst ho
  have main : x.isNo = false → (∀ l, x ≠ .tup l) → K (.c (.pb (key d 0) 0)) (canonB (lenN x.cells) (key d 0) 0 (st.new (key d 0) (.bx (mapCs (C.mapK (killF (key d 0))) x.cells)))) →
      NWp P E γ w { dst, op := .box t v, type := ty, pos, after, guard } a K := by
    intro hno htup hk
    have hc := hx.cells hno htup
    let γ' : Ghs := fun j => if j = key d 0 then .bx w.heap.size else γ j
    have hb : ∀ j b, b ∈ (γ' j).bs → (j = key d 0 ∧ b = w.heap.size) ∨ (j ≠ key d 0 ∧ b ∈ (γ j).bs) := fun j b hj => by
      by_cases e : j = key d 0
      · simp [γ', e, Gh.bs] at hj; exact .inl ⟨e, hj⟩
      · simp [γ', e] at hj; exact .inr ⟨e, hj⟩
    have hn : Nx γ w γ' (w.alloc (.cells (a.eval v).cells t)) := ⟨(Fr.alloc w _).mono fun _ h => h.elim, fun b ⟨j, hj⟩ => (hb j b hj).elim (fun h => .inr (by omega)) fun h => .inl ⟨j, h.2⟩⟩
    have hnew : Rel E γ' (slot (st.new (key d 0) (.bx (mapCs (C.mapK (killF (key d 0))) x.cells))).s) (look1 (st.new (key d 0) (.bx (mapCs (C.mapK (killF (key d 0))) x.cells))).o) a.tmps (w.alloc (.cells (a.eval v).cells t)) := by
      refine h.new (key d 0) _ hn (fun j hj => .inl (by simp [γ', hj])) (fun j b hj hne => ⟨by simp [γ', hne], fun g hg => heap_alloc_old w _ (h.lt j g hg)⟩) ?_ ?_ ?_
      · refine ⟨w.heap.size, by simp [γ'], (a.eval v).cells, t, heap_alloc_new w _, ?_⟩
        have tt := turns_mapK (E := E) hn (killF (key d 0)) (fun j j' e => by
          obtain ⟨rfl, h2⟩ := killF_some e
          exact .inl (by simp [γ', h2]))
        exact tt.cs hc
      · intro k k' b h1 h2
        rcases hb k b h1 with ⟨e1, e2⟩ | ⟨e1, e2⟩ <;> rcases hb k' b h2 with ⟨e3, e4⟩ | ⟨e3, e4⟩
        · rw [e1, e3]
        · have := h.lt k' b e4; omega
        · have := h.lt k b e2; omega
        · exact h.inj k k' b e2 e4
      · intro k b h1
        rcases hb k b h1 with ⟨e1, rfl⟩ | ⟨e1, e2⟩
        · simp
        · have := h.lt k b e2; simp; omega
    obtain ⟨γ'', h6, h8, h7⟩ := Rel.canonB (lenN x.cells) (key d 0) 0 hnew
    refine NWp.val (x := .c (.pb (key d 0) 0)) (v := .pointer (some ⟨w.heap.size, 0, none⟩)) ?_ (hn.trans h6) h7 ⟨?_, .inr rfl⟩ hk
    · simp [execOp, Instr.box, run_newVar]
    · simp only [RC]
      rcases h8 with e | e <;> rw [e]
      · simp [γ']
      · trivial
  cases x with
  | tup l => exact hq.elim
  | c b =>
    simp only [nBox, brk_iff, and_false, false_or, chk_iff] at hq
    exact main hq.1 (by simp) hq.2.2
  | agg cs =>
    simp only [nBox, brk_iff, and_false, false_or, chk_iff] at hq
    exact main hq.1 (by simp) hq.2.2
end Go.Proofs.YthaelohccopgjaaW
/- Soundness, part 22: appends to a row of one's own. -/
namespace Go.Proofs.YthaelohccopgjaaW
variable {P : Program} {T : Tab} {E : Env} {γ γ' : Ghs} {s s' : Nat → X} {o o' : Look} {tm : Array Value} {w w' : World}

/-- k is killed; its block stays the frame's own. -/
theorem Rel.killKeep {st : State} (k : Nat) (h : Rel E γ (slot st.s) (look1 st.o) tm w) : Rel E γ (slot (st.kill k).s) (look1 (st.kill k).o) tm w := by
  refine h.go (Nx.refl _ _) (C.mapK (killF k)) rfl (turns_mapK (Nx.refl _ _) _ fun j j' e => ?_) (fun i => slot_mapS _ rfl _ _) (fun j b hb => .inl ?_) h.inj h.lt
  · obtain ⟨rfl, h2⟩ := killF_some e
    exact .inl rfl
  · simp only [State.kill, look1_mapO, look1_del1] at hb
    by_cases e : k = j
    · simp [e] at hb
    · simp [e] at hb
      obtain ⟨b0, h1, rfl⟩ := hb
      exact ⟨j, b0, h1, rfl, rfl, fun _ _ => rfl⟩
theorem kill_no {st : State} (k : Nat) : look1 (st.kill k).o k = none := by simp [State.kill, look1_mapO, look1_del1]

/-- A row is turned into another one, under another name. -/
theorem Rel.moveRow {st : State} {k kd : Nat} {G : Gh} {b : Ob} (h : Rel E γ (slot st.s) (look1 st.o) tm w) (hfr : Fr (fun x => x ∈ (γ k).bs) w w') (hG : ∀ x, x ∈ G.bs → (x ∈ (γ k).bs ∨ w.heap.size ≤ x) ∧ x < w'.heap.size)
    (hb : ∀ γ', Nx γ w γ' w' → γ' kd = G → RO w' (E.Sh γ' w') γ' kd b) :
    ∃ γ', Nx γ w γ' w' ∧ γ' kd = G ∧ Rel E γ' (slot ((st.kill k).new kd b).s) (look1 ((st.kill k).new kd b).o) tm w' := by
  let γ' : Ghs := fun j => if j = kd then G else if j = k then .no else γ j
  have hbk : ∀ j x, x ∈ (γ' j).bs → (j = kd ∧ x ∈ G.bs) ∨ (j ≠ kd ∧ j ≠ k ∧ x ∈ (γ j).bs) := fun j x hj => by
    by_cases e : j = kd
    · simp [γ', e] at hj; exact .inl ⟨e, hj⟩
    · by_cases e' : j = k
      · subst e'; simp [γ', e, Gh.bs] at hj
      · simp [γ', e, e'] at hj; exact .inr ⟨e, e', hj⟩
  have hn : Nx γ w γ' w' := ⟨hfr.mono fun x hx => ⟨k, hx⟩, fun x ⟨j, hj⟩ => (hbk j x hj).elim (fun h1 => (hG x h1.2).1.imp (fun h2 => ⟨k, h2⟩) id) fun h1 => .inl ⟨j, h1.2.2⟩⟩
  have hkd : γ' kd = G := by simp [γ']
  refine ⟨γ', hn, hkd, (h.killKeep k).new kd b hn (fun j hj => ?_) (fun j b hb hne => ?_) (hb γ' hn hkd) ?_ ?_⟩
  · by_cases e : j = k
    · subst e; right; simp [γ', hj]
    · left; simp [γ', hj, e]
  · have hjk : j ≠ k := fun e => by subst e; rw [kill_no] at hb; cases hb
    refine ⟨by simp [γ', hne, hjk], fun g hg => hfr.block g (h.lt j g hg) fun hk => hjk (h.inj j k g hg hk)⟩
  · intro a c x h1 h2
    rcases hbk a x h1 with ⟨e1, e2⟩ | ⟨e1, e2, e3⟩ <;> rcases hbk c x h2 with ⟨e4, e5⟩ | ⟨e4, e5, e6⟩
    · rw [e1, e4]
    · rcases (hG x e2).1 with h3 | h3
      · exact absurd (h.inj c k x e6 h3) e5
      · have := h.lt c x e6; omega
    · rcases (hG x e5).1 with h3 | h3
      · exact absurd (h.inj a k x e3 h3) e2
      · have := h.lt a x e3; omega
    · exact h.inj a c x e3 e6
  · intro a x h1
    rcases hbk a x h1 with ⟨_, e2⟩ | ⟨_, _, e3⟩
    · exact (hG x e2).2
    · exact Nat.lt_of_lt_of_le (h.lt a x e3) hfr.size
end Go.Proofs.YthaelohccopgjaaW
/- Soundness, part 23: appends, as they are run. -/
namespace Go.Proofs.YthaelohccopgjaaW
variable {P : Program} {T : Tab} {E : Env} {γ γ' : Ghs} {s s' : Nat → X} {o o' : Look} {tm : Array Value} {w w' : World}

theorem nAppend_ok (hT : TabOk P T) {oo : Oper} {a : Act} {st : State} (h : Rel E γ (slot st.s) (look1 st.o) a.tmps w) {d t u : Nat} {v z : Value} {x y : X} {ty : TypeId}
    (hr : execOp a.eval oo = (do pure (.value (← Builtin.append_ #[t, u] ty #[v, z])))) (hx : RX w (E.Sh γ w) γ v x) (hy : RX w (E.Sh γ w) γ z y) {K : SK} (hq : nAppend prims T d t u x y st K) : NWp P E γ w oo a K := by
  simp only [nAppend] at hq
  cases hel : (T.at t).el with
  | none => simp [hel] at hq
  | some e =>
    simp only [hel, asC_iff] at hq
    obtain ⟨b, rfl, c, rfl, hq⟩ := hq
    cases b <;> simp only at hq <;> try exact hq.elim
    case mt es => exact NWp.of_quiet h (QWp.of hr (qAppend_ok hT h hx hy hq ty))
    case aw k =>
      simp only [rowAt_iff] at hq
      obtain ⟨es, xs, ho, hq⟩ := hq
      obtain ⟨zs, ys, news, hk, hf, hs⟩ := source_ok (P := P) hT h hy hq (fun zs ys hk => by
        simp only [chk_iff] at hk
        have := eqN_t hk.2.1
        rw [this]; simpa using hk.2.2.1)
      simp only [chk_iff, lenOk_iff] at hk
      obtain ⟨h1, h2, h3, h4, h5, hk⟩ := hk
      have h1 := eqN_t h1
      have h2 := eqN_t h2
      subst h2
      have h3 : 0 < zs := by simpa using h3
      have h4 := leN_t h4
      have h5 : xs.length + ys.length ≤ 4294967296 := by simp only [prims] at h5; omega
      obtain ⟨ti, zz, he⟩ := hT.elOk hel
      have hes : ti.size = zs := by rw [he.size, h1]
      have hb : (xs.length + ys.length) * ti.bytes ≤ 140737488355328 := by
        rw [he.bytes]
        have : (xs.length + ys.length) * e.2.2.1 ≤ 4294967296 * 16384 := Nat.mul_le_mul h5 h4
        omega
      -- behind a growth
      have grow : ∀ (p : Option Addr) (n cap : Nat) (olds : List Value), v = .slice p n cap → xs.length = n → Flat w (E.Sh γ w) zs xs olds → (Builtin.firstCells ti.size n (.slice p n cap)).run P w.drew = .ok olds.toArray w.drew → cap < n + ys.length → NWp P E γ w oo a K := by
        intro p n cap olds hv hn ho' hfc hlt
        subst hv
        subst hn
        have hrun := run_append_grow' (w := w) (ty := ty) he.under he.info he.zero p xs.length cap ys.length z olds news (by rw [hes]; exact hs) (by rw [hes]; exact hf.len) hfc hlt (by omega) (growslice_fits hlt hb)
        have hge := grownCap_ge w (xs.length + ys.length) cap e.1
        have hle := grownCap_le_maxLen w (xs.length + ys.length) cap e.1 (by simp only [maxLen]; omega)
        have hfr := Fr.drew w (.cells (olds.toArray ++ news.toArray ++ Builtin.zeroCells zz.cells (grownCap w (xs.length + ys.length) cap e.1 - (xs.length + ys.length))) e.1)
        obtain ⟨γ', e1, e2, e3⟩ := h.moveRow (k := k) (kd := key d 1) (G := .row w.heap.size zs (grownCap w (xs.length + ys.length) cap e.1) (xs.length + ys.length)) (b := .ar zs (prims.lapp xs ys)) (hfr.mono fun _ h => h.elim)
          (fun x hx => by simp [Gh.bs] at hx; subst hx; exact ⟨.inr (Nat.le_refl _), by simp⟩) (fun γ' hn hG => .inr ⟨_, _, _, hG, by
            have hfl := (ho'.app hf).mono fun v y hr => hn.rep hr
            exact grown_row hfl (by simp) h3 (by rw [he.zs, h1]) he.zo hge hle (by omega) (by simp) (heap_alloc_new w.drew _)⟩)
        refine NWp.val (x := .c (.aw (key d 1))) (v := .slice (some ⟨w.heap.size, 0, none⟩) (xs.length + ys.length) (grownCap w (xs.length + ys.length) cap e.1)) ?_ e1 e3 ⟨by simp only [RC, e2], .inr rfl⟩ hk
        rw [hr]
        simp only [Sem.run_bind, hrun, Result.andThen_ok, Sem.run_pure]
      have hxv := hx.1
      simp only [RC] at hxv
      rcases h.objs k _ ho with ⟨hg, rfl⟩ | ⟨g, cap, n, hg, hrow⟩
      · rw [hg] at hxv
        obtain ⟨p, rfl⟩ := hxv
        by_cases hm : ys.length = 0
        · have hy0 : ys = [] := List.eq_nil_of_length_eq_zero hm
          subst hy0
          have hn0 : news = [] := List.eq_nil_of_length_eq_zero (by simpa using hf.len)
          subst hn0
          have hrun := run_append_fit (w := w) (w' := w) (ty := ty) he.under he.info p 0 0 0 z [] (by rw [hes]; exact hs) (by simp) (by omega) (fun a _ => by simp [storeCells]) (fun _ => rfl)
          obtain ⟨γ', e1, e2, e3⟩ := h.moveRow (k := k) (kd := key d 1) (G := .nil) (b := .ar zs (prims.lapp [] [])) (Fr.refl _ w) (fun x hx => by simp [Gh.bs] at hx) (fun γ' hn hG => .inl ⟨hG, rfl⟩)
          refine NWp.val (x := .c (.aw (key d 1))) (v := .slice p 0 0) ?_ e1 e3 ⟨by simp only [RC, e2]; exact ⟨p, rfl⟩, .inr rfl⟩ hk
          rw [hr]
          simp only [Sem.run_bind, hrun, Result.andThen_ok, Sem.run_pure]
        · exact grow p 0 0 [] rfl rfl (Flat.nil _ _ _) (by cases p <;> simp [Builtin.firstCells, loadCells, loadCellsFrom]) (by omega)
      · rw [hg] at hxv
        subst hxv
        obtain ⟨cur, ee, fz, hh, hzz, hsz, hone, _⟩ := hrow.row
        have hfl := hrow.flat hh
        have hnl := hrow.len
        by_cases hfit : n + ys.length ≤ cap
        · have hlen : (n + ys.length) * zs ≤ cap * zs := Nat.mul_le_mul_right _ hfit
          rw [Nat.add_mul] at hlen
          have hst := run_storeCells_z P g (n * zs) ee fz news 0 cur w hh hzz (by rw [hf.len, hsz]; omega) hf.one
          simp only [Nat.add_zero] at hst
          have hrun := run_append_fit (w := w) (ty := ty) he.under he.info (some ⟨g, 0, none⟩) n cap ys.length z news (by rw [hes]; exact hs) (by rw [hes]; exact hf.len) hfit
            (fun a ha => by cases ha; rw [add_lit, hes, Nat.zero_add]; exact hst) (fun hne => by cases hne)
          have hgb : g ∈ (γ k).bs := by rw [hg]; first | rfl | exact Gh.in_bx | exact Gh.in_row
          obtain ⟨γ', e1, e2, e3⟩ := h.moveRow (k := k) (kd := key d 1) (G := .row g zs cap (n + ys.length)) (b := .ar zs (prims.lapp xs ys)) (w' := w.setRow g (cur.toList.take (n * zs) ++ news ++ cur.toList.drop (n * zs + news.length)).toArray)
            ⟨rfl, rfl, rfl, by simp [World.setRow], fun b hb hn => setRow_other w g b _ fun e => hn (e ▸ hgb)⟩
            (fun x hx => by simp [Gh.bs] at hx; rw [hx]; exact ⟨.inl hgb, by have := h.lt k g hgb; simpa [World.setRow] using this⟩) (fun γ' hn hG => .inr ⟨_, _, _, hG, by
              have hfl' := (hfl.app hf).mono fun v y hr => hn.rep hr
              have := RowOk.of hfl' h3 (by rw [List.length_append, hnl]; exact hfit) hrow.max hrow.cpos (setRow_heap w g cur _ ee _ hh) (by
                refine ZOk.of_size hzz ?_
                simp only [List.size_toArray, List.length_append, List.length_take, List.length_drop, Array.length_toList, hf.len]; omega) (by
                simp only [List.size_toArray, List.length_append, List.length_take, List.length_drop, Array.length_toList, hf.len]; omega) (fun u hu => by
                simp only [List.mem_toArray, List.mem_append] at hu
                rcases hu with (hu | hu) | hu
                · exact hone u (by simpa using List.mem_of_mem_take hu)
                · exact hf.one u hu
                · exact hone u (by simpa using List.mem_of_mem_drop hu)) (fun i u hi => by
                rw [List.getElem?_toArray, List.getElem?_append_left (List.getElem?_eq_some_iff.1 hi).1]; exact hi)
              rw [List.length_append, hnl] at this
              exact this⟩)
          refine NWp.val (x := .c (.aw (key d 1))) (v := .slice (some ⟨g, 0, none⟩) (n + ys.length) cap) ?_ e1 e3 ⟨by simp only [RC, e2], .inr rfl⟩ hk
          rw [hr]
          simp only [Sem.run_bind, hrun, Result.andThen_ok, Sem.run_pure]
        · have hle : n * zs ≤ cur.size := by rw [hsz]; exact Nat.mul_le_mul_right _ hrow.le
          refine grow (some ⟨g, 0, none⟩) n cap _ rfl hnl hfl ?_ (by omega)
          refine run_firstCells_some w.drew ti.size n _ n cap _ (by rw [hes, List.length_take, Array.length_toList]; omega) fun j u hj => ?_
          rw [List.getElem?_take] at hj
          split at hj
          · rw [add_lit, Nat.zero_add]
            have : w.drew.cell? ⟨g, j, none⟩ = cur[j]? := cell_of_heap (w := w.drew) hh j
            rw [this]
            simpa using hj
          · cases hj

theorem Flat.take {S : Nat → Prop} {es : Nat} {xs : List (List Y)} {news : List Value} (h : Flat w S es xs news) (n : Nat) : Flat w S es (xs.take n) (news.take (n * es)) := by
  refine ⟨?_, fun u hu => h.one u (List.mem_of_mem_take hu), fun i x hi => ?_⟩
  · rw [List.length_take, List.length_take, h.len]
    by_cases hn : n ≤ xs.length
    · have h2 : min (n * es) (xs.length * es) = n * es := Nat.min_eq_left (Nat.mul_le_mul_right _ hn)
      rw [h2, Nat.min_eq_left hn]
    · have h2 : min (n * es) (xs.length * es) = xs.length * es := Nat.min_eq_right (Nat.mul_le_mul_right _ (by omega))
      have h3 : min n xs.length = xs.length := by omega
      rw [h2, h3]
  · rw [List.getElem?_take] at hi
    split at hi
    · rename_i hlt
      obtain ⟨h1, h2⟩ := h.cells i x hi
      refine ⟨h1, fun j y hj => ?_⟩
      obtain ⟨u, h3, h4⟩ := h2 j y hj
      have hj' := (List.getElem?_eq_some_iff.1 hj).1
      have : (i + 1) * es ≤ n * es := Nat.mul_le_mul_right _ hlt
      rw [Nat.add_mul] at this
      exact ⟨u, by rw [List.getElem?_take, if_pos (by omega)]; exact h3, h4⟩
    · cases hi
theorem Flat.drop {S : Nat → Prop} {es : Nat} {xs : List (List Y)} {news : List Value} (h : Flat w S es xs news) (n : Nat) : Flat w S es (xs.drop n) (news.drop (n * es)) := by
  refine ⟨?_, fun u hu => h.one u (List.mem_of_mem_drop hu), fun i x hi => ?_⟩
  · rw [List.length_drop, List.length_drop, h.len, Nat.sub_mul]
  · rw [List.getElem?_drop] at hi
    obtain ⟨h1, h2⟩ := h.cells _ x hi
    refine ⟨h1, fun j y hj => ?_⟩
    obtain ⟨u, h3, h4⟩ := h2 j y hj
    refine ⟨u, ?_, h4⟩
    rw [List.getElem?_drop, ← Nat.add_assoc, ← Nat.add_mul]; exact h3
theorem run_copy {t e u ty : TypeId} {ti : TypeInfo} (hu : P.underlying t = some (.slice e)) (hti : P.info? e = some ti) {base : Option Addr} {dLen c m : Nat} {z : Value} (hl : (Builtin.lenOf z).run P w = .ok m w) {cells : Array Value}
    (hf : (Builtin.firstCells ti.size (min m dLen) z).run P w = .ok cells w) (hst : match base with | some a => (storeCells a cells.toList).run P w = .ok () w' | none => w' = w) :
    (Builtin.copy_ #[t, u] ty #[.slice base dLen c, z]).run P w = .ok (.int .i64 ((min m dLen : Nat) : Int)) w' := by
  have hf' : (Builtin.firstCells ti.size (Nat.min m dLen) z).run P w = .ok cells w := hf
  cases base with
  | none =>
    simp only at hst
    subst hst
    simp [Builtin.copy_, Sem.run_bind, run_underlying hu, hl, run_sizeOf' hti, hf', goInt]
    first | rfl | (simp [hf]) | skip
  | some a =>
    simp only at hst
    simp [Builtin.copy_, Sem.run_bind, run_underlying hu, hl, run_sizeOf' hti, hf', hst, goInt]
    first | rfl | (simp [hf, hst]) | skip
theorem nCopy_ok (hT : TabOk P T) {oo : Oper} {a : Act} {st : State} (h : Rel E γ (slot st.s) (look1 st.o) a.tmps w) {t u : Nat} {v z : Value} {x y : X} {ty : TypeId}
    (hr : execOp a.eval oo = (do pure (.value (← Builtin.copy_ #[t, u] ty #[v, z])))) (hx : RX w (E.Sh γ w) γ v x) (hy : RX w (E.Sh γ w) γ z y) {K : SK} (hq : nCopy prims T t u x y st K) : NWp P E γ w oo a K := by
  simp only [nCopy] at hq
  cases hel : (T.at t).el with
  | none => simp [hel] at hq
  | some e =>
    simp only [hel, asC_iff] at hq
    obtain ⟨b, rfl, c, rfl, hq⟩ := hq
    obtain ⟨hu, ⟨ti, hti, hsz, _⟩, _⟩ := (hT.el hel).el e hel
    -- the run, of a part of the row
    have key : ∀ (k es lo m : Nat) (xs : List (List Y)) (K' : Nat → List (List Y) → Prop), look1 st.o k = some (.ar es xs) → source prims T (look1 st.o) u c K' → (∀ zs ys, K' zs ys → es = e.2.1 ∧ zs = es ∧ 0 < es) →
        (∀ g cap n, γ k = .row g es cap n → lo + m ≤ n ∧ ∃ c', m ≤ c' ∧ (v = .slice (some ⟨g, lo * es, none⟩) m c' ∨ (m = 0 ∧ ∃ p, v = .slice p 0 c'))) → (γ k = .nil → m = 0 ∧ ∃ p c', v = .slice p 0 c') →
        (∀ zs ys, K' zs ys → K (sc (.int .i64 ((min ys.length m : Nat) : Int))) ⟨st.s, put1 st.o k (.ar es (xs.take lo ++ ys.take m ++ xs.drop (lo + min ys.length m)))⟩) → NWp P E γ w oo a K := by
      intro k es lo m xs K' ho hs hK' hrow hnil hk
      obtain ⟨zs, ys, news, hk', hf, hsrc⟩ := source_ok (P := P) hT h hy hs (fun zs ys h' => by obtain ⟨_, h2, h3⟩ := hK' zs ys h'; omega)
      obtain ⟨e1, e2, e3⟩ := hK' zs ys hk'
      subst e2
      have hes : ti.size = zs := by rw [hsz, e1]
      have hmin : Nat.min ys.length m = min ys.length m := rfl
      have hfirst := hsrc.first (min ys.length m) w (Nat.min_le_left _ _) rfl
      have run0 : ∀ (p : Option Addr) (c' : Nat), v = .slice p 0 c' → m = 0 → NWp P E γ w oo a K := by
        intro p c' hv hm
        subst hm
        have e4 : xs.take lo ++ ys.take 0 ++ xs.drop (lo + min ys.length 0) = xs := by simp
        have hh := hk zs ys hk'
        rw [e4] at hh
        have hh : K (sc (.int .i64 0)) ⟨st.s, put1 st.o k (.ar zs xs)⟩ := by simpa using hh
        have hrel := h.rebox (h.objs k _ ho) (o' := look1 (put1 st.o k (.ar zs xs))) (fun i => look1_put1 _ _ _ _)
        refine NWp.val (st := ⟨st.s, put1 st.o k (.ar zs xs)⟩) (x := sc (.int .i64 0)) (v := .int .i64 0) ?_ (Nx.refl _ _) hrel ⟨Rep.sc _ rfl, .inr rfl⟩ hh
        rw [hr, hv]
        have hfirst := hsrc.first 0 w (Nat.zero_le _) rfl
        simp only [Nat.zero_mul, List.take_zero] at hfirst
        have := run_copy (P := P) (w' := w) (u := u) (ty := ty) hu hti (base := p) (dLen := 0) (c := c') hsrc.len (cells := #[]) (by rw [hes]; simpa using hfirst) (by cases p <;> simp [storeCells])
        simp only [Sem.run_bind, this, Result.andThen_ok, Sem.run_pure]
        simp
      rcases h.objs k _ ho with ⟨hg, rfl⟩ | ⟨g, cap, n, hg, hr2⟩
      · obtain ⟨hm, p, c', hv⟩ := hnil hg
        exact run0 p c' hv hm
      · obtain ⟨hle, c', hc', hv⟩ := hrow g cap n hg
        rcases hv with hv | ⟨hm, p, hv⟩
        · obtain ⟨cur, ee, fz, hh, hzz, hsz', hone, hcur⟩ := hr2.row
          have hfl := hr2.flat hh
          have hxl := hr2.len
          have hnl : (news.take (min ys.length m * zs)).length = min ys.length m * zs := by
            rw [List.length_take, hf.len]
            exact Nat.min_eq_left (Nat.mul_le_mul_right _ (Nat.min_le_left _ _))
          have hmm : min ys.length m ≤ m := Nat.min_le_right _ _
          have hb1 : lo * zs + min ys.length m * zs ≤ n * zs := by rw [← Nat.add_mul]; exact Nat.mul_le_mul_right _ (by omega)
          have hb2 : n * zs ≤ cur.size := by rw [hsz']; exact Nat.mul_le_mul_right _ hr2.le
          have hst := run_storeCells_z P g (lo * zs) ee fz (news.take (min ys.length m * zs)) 0 cur w hh hzz (by rw [hnl]; omega) (fun u hu => hf.one u (List.mem_of_mem_take hu))
          simp only [Nat.add_zero] at hst
          have hxsf : Flat w (E.Sh γ w) zs (xs.take lo ++ ys.take m ++ xs.drop (lo + min ys.length m)) ((cur.toList.take (n * zs)).take (lo * zs) ++ news.take (min ys.length m * zs) ++ (cur.toList.take (n * zs)).drop ((lo + min ys.length m) * zs)) := by
            have e5 : ys.take m = ys.take (min ys.length m) := by
              by_cases hmy : m ≤ ys.length
              · rw [Nat.min_eq_right hmy]
              · rw [Nat.min_eq_left (by omega), List.take_of_length_le (by omega), List.take_of_length_le (Nat.le_refl _)]
            rw [e5]
            exact ((hfl.take lo).app (hf.take _)).app (hfl.drop _)
          obtain ⟨hn, hrel⟩ := h.rewrite ho hg hh (cur.toList.take (lo * zs) ++ news.take (min ys.length m * zs) ++ cur.toList.drop (lo * zs + min ys.length m * zs)).toArray (xs' := xs.take lo ++ ys.take m ++ xs.drop (lo + min ys.length m))
            (by simp only [List.size_toArray, List.length_append, hnl, List.length_take, List.length_drop, Array.length_toList]; omega)
            (fun u hu => by
              simp only [List.mem_toArray, List.mem_append] at hu
              rcases hu with (hu | hu) | hu
              · exact hone u (by simpa using List.mem_of_mem_take hu)
              · exact hf.one u (List.mem_of_mem_take hu)
              · exact hone u (by simpa using List.mem_of_mem_drop hu))
            (by simp only [List.length_append, List.length_take, List.length_drop]; omega)
            (fun i x hi => by
              obtain ⟨q1, q2⟩ := hxsf.cells i x hi
              refine ⟨q1, fun j y hj => ?_⟩
              obtain ⟨u, q3, q4⟩ := q2 j y hj
              refine ⟨u, ?_, q4⟩
              have hlt := (List.getElem?_eq_some_iff.1 q3).1
              rw [List.getElem?_toArray, ← q3]
              have t1 : (cur.toList.take (n * zs)).take (lo * zs) = cur.toList.take (lo * zs) := by rw [List.take_take, Nat.min_eq_left (by omega)]
              rw [t1] at hlt ⊢
              have l1 : (cur.toList.take (lo * zs) ++ news.take (min ys.length m * zs)).length = lo * zs + min ys.length m * zs := by
                rw [List.length_append, hnl, List.length_take, Array.length_toList]; omega
              by_cases hp : i * zs + j < lo * zs + min ys.length m * zs
              · have kk : ∀ C : List Value, ((cur.toList.take (lo * zs) ++ news.take (min ys.length m * zs)) ++ C)[i * zs + j]? = (cur.toList.take (lo * zs) ++ news.take (min ys.length m * zs))[i * zs + j]? := fun C => List.getElem?_append_left (by rw [l1]; exact hp)
                rw [kk, kk]
              · have kk : ∀ C : List Value, ((cur.toList.take (lo * zs) ++ news.take (min ys.length m * zs)) ++ C)[i * zs + j]? = C[i * zs + j - (lo * zs + min ys.length m * zs)]? := fun C => by rw [List.getElem?_append_right (by rw [l1]; omega), l1]
                rw [kk, kk, List.getElem?_drop, List.getElem?_drop, Nat.add_mul, List.getElem?_take]
                have hcl : cur.toList.length = cur.size := Array.length_toList
                rw [List.length_append, l1, List.length_drop, List.length_take, Nat.add_mul] at hlt
                rw [if_pos (by omega)])
            (o' := look1 (put1 st.o k (.ar zs (xs.take lo ++ ys.take m ++ xs.drop (lo + min ys.length m))))) (fun i => look1_put1 _ _ _ _)
          refine NWp.val (st := ⟨st.s, put1 st.o k (.ar zs (xs.take lo ++ ys.take m ++ xs.drop (lo + min ys.length m)))⟩) (x := sc (.int .i64 ((min ys.length m : Nat) : Int))) (v := .int .i64 ((min ys.length m : Nat) : Int)) ?_ hn hrel ⟨Rep.sc _ rfl, .inr rfl⟩ (hk zs ys hk')
          rw [hr, hv]
          rw [hnl] at hst
          have := run_copy (P := P) (u := u) (ty := ty) hu hti (base := some ⟨g, lo * zs, none⟩) (dLen := m) (c := c') hsrc.len (cells := (news.take (min ys.length m * zs)).toArray) (by rw [hes]; exact hfirst) (by simpa using hst)
          simp only [Sem.run_bind, this, Result.andThen_ok, Sem.run_pure]
          rw [List.append_assoc]
        · exact run0 p c' hv hm
    cases b <;> simp only at hq <;> try exact hq.elim
    case aw k =>
      simp only [rowAt_iff] at hq
      obtain ⟨es, xs, ho, hq⟩ := hq
      have hxv := hx.1
      simp only [RC] at hxv
      refine key k es 0 xs.length xs _ ho hq (fun zs ys hk => ?_) (fun g cap n hg => ?_) (fun hg => ?_) fun zs ys hk => ?_
      · simp only [chk_iff] at hk
        exact ⟨eqN_t hk.1, eqN_t hk.2.1, by simpa using hk.2.2.1⟩
      · rw [hg] at hxv
        rcases h.objs k _ ho with ⟨hg', _⟩ | ⟨g', cap', n', hg', hr2⟩
        · rw [hg] at hg'; cases hg'
        · rw [hg] at hg'; cases hg'
          exact ⟨by rw [hr2.len]; omega, cap, by rw [hr2.len]; exact hr2.le, .inl (by rw [hxv, hr2.len, Nat.zero_mul])⟩
      · rw [hg] at hxv
        rcases h.objs k _ ho with ⟨_, rfl⟩ | ⟨g', cap', n', hg', hr2⟩
        · obtain ⟨p, hp⟩ := hxv
          exact ⟨rfl, p, 0, hp⟩
        · rw [hg] at hg'; cases hg'
      · simp only [chk_iff] at hk
        have hk := hk.2.2.2
        have e1 : prims.imin (prims.llen ys) (prims.llen xs) = ((min ys.length xs.length : Nat) : Int) := by
          show (if (xs.length : Int) < (ys.length : Int) then (xs.length : Int) else (ys.length : Int)) = _
          split <;> omega
        have e2 : prims.lcopy xs 0 (prims.llen xs) ys = xs.take 0 ++ ys.take xs.length ++ xs.drop (0 + min ys.length xs.length) := by
          show xs.take (0 : Int).toNat ++ ys.take (xs.length : Int).toNat ++ xs.drop ((0 : Int).toNat + min ys.length (xs.length : Int).toNat) = _
          rfl
        rw [e1, e2] at hk
        exact hk
    case as k lo m =>
      simp only [rowAt_iff] at hq
      obtain ⟨es, xs, ho, hq⟩ := hq
      have hxv := hx.1
      simp only [RC] at hxv
      have hpos : 0 ≤ lo ∧ 0 ≤ m ∨ (γ k = .nil ∧ m = 0) := by
        rcases h.objs k _ ho with ⟨hg', _⟩ | ⟨g', cap', n', hg', hr2⟩
        · rw [hg'] at hxv; exact .inr ⟨hg', hxv.1⟩
        · rw [hg'] at hxv; exact .inl ⟨hxv.1, hxv.2.1⟩
      refine key k es lo.toNat m.toNat xs _ ho hq (fun zs ys hk => ?_) (fun g cap n hg => ?_) (fun hg => ?_) fun zs ys hk => ?_
      · simp only [chk_iff] at hk
        exact ⟨eqN_t hk.1, eqN_t hk.2.1, by simpa using hk.2.2.1⟩
      · rw [hg] at hxv
        obtain ⟨h1, h2, h3, c', h4, h5⟩ := hxv
        refine ⟨by omega, c', h4, h5.imp id fun ⟨h6, p, h7⟩ => ⟨by omega, p, h7⟩⟩
      · rw [hg] at hxv
        obtain ⟨h1, p, c', h2⟩ := hxv
        exact ⟨by omega, p, c', h2⟩
      · simp only [chk_iff] at hk
        have hk := hk.2.2.2
        have hm0 : 0 ≤ m := hpos.elim (fun h => h.2) fun h => by omega
        have e1 : prims.imin (prims.llen ys) m = ((min ys.length m.toNat : Nat) : Int) := by
          show (if m < (ys.length : Int) then m else (ys.length : Int)) = _
          split <;> omega
        have e2 : prims.lcopy xs lo m ys = xs.take lo.toNat ++ ys.take m.toNat ++ xs.drop (lo.toNat + min ys.length m.toNat) := rfl
        rw [e1, e2] at hk
        exact hk
end Go.Proofs.YthaelohccopgjaaW
/- Soundness, part 24: slice literals of rows, assignments. -/
namespace Go.Proofs.YthaelohccopgjaaW
variable {P : Program} {T : Tab} {E : Env} {γ γ' : Ghs} {s s' : Nat → X} {o o' : Look} {tm : Array Value} {w w' : World}

theorem NWp.pre {oo : Oper} {a : Act} {K : SK} (hn : Nx γ w γ' w) (h : NWp P E γ' w oo a K) : NWp P E γ w oo a K := by
  obtain ⟨x, st, hk, hw⟩ := h
  exact ⟨x, st, hk, fun next Q hne => hw next Q fun v γ'' w' h1 h2 h3 => hne v γ'' w' (hn.trans h1) h2 h3⟩

theorem nBuildSlice_ok (hT : TabOk P T) {oo : Oper} {a : Act} {st : State} (h : Rel E γ (slot st.s) (look1 st.o) a.tmps w) {d t n : Nat} {parts : Array (Nat × Operand)} (ho : oo.op = .buildSlice t n parts) (ks : List Nat) {K : SK}
    (hq : qBuildSlice T d t n (partsX T (slot (freezes prims ks st).s) parts.toList) (lay d (freezes prims ks st) K)) : NWp P E γ w oo a K := by
  obtain ⟨dst, op, ty, pos, after, guard⟩ := oo
  simp only at ho
  subst ho
  have hf := h.freezes ks
  refine NWp.pre (Nx.drops γ w ks) (NWp.of_quiet hf (QWp.of rfl (qBuildSlice_ok hT (by simp [partsX_length]) (hf.parts parts) hq)))
end Go.Proofs.YthaelohccopgjaaW
/- Soundness, part 25: arguments handed over. -/
namespace Go.Proofs.YthaelohccopgjaaW
variable {P : Program} {T : Tab} {E : Env} {γ γ' : Ghs} {s s' : Nat → X} {o o' : Look} {tm : Array Value} {w w' : World}

/-- The blocks of keys, in order. -/
def keyBlocks (γ : Ghs) (ks : List Nat) : List Nat := ks.flatMap fun k => (γ k).bs
theorem keyBlocks_nodup (h : Rel E γ s o tm w) : ∀ {ks : List Nat}, ks.Nodup → (keyBlocks γ ks).Nodup
  | [], _ => by simp [keyBlocks]
  | k :: r, hn => by
    have ih := keyBlocks_nodup h (List.nodup_cons.1 hn).2
    simp only [keyBlocks, List.flatMap_cons]
    refine List.nodup_append.2 ⟨Gh.bs_nodup _, ih, fun b hb b' hb' e => ?_⟩
    subst e
    simp only [keyBlocks, List.mem_flatMap] at hb'
    obtain ⟨k', h1, h2⟩ := hb'
    exact (List.nodup_cons.1 hn).1 (h.inj k k' b hb h2 ▸ h1)
theorem nodupN_iff : ∀ {l : List Nat}, nodupN l = true → l.Nodup
  | [], _ => List.nodup_nil
  | k :: r, h => by
    simp only [nodupN] at h
    cases hm : memN k r with
    | true => simp [hm] at h
    | false => simp only [hm] at h; exact List.nodup_cons.2 ⟨(memN_false k r).1 hm, nodupN_iff h⟩
theorem disjN_iff : ∀ {l m : List Nat}, disjN l m = true → ∀ k ∈ l, k ∉ m
  | [], m, _ => by simp
  | k :: r, m, h => by
    simp only [disjN] at h
    cases hm : memN k m with
    | true => simp [hm] at h
    | false =>
      simp only [hm] at h
      intro k' hk'
      rcases List.mem_cons.1 hk' with rfl | hk'
      · exact (memN_false _ m).1 hm
      · exact disjN_iff h k' hk'

theorem RowOk.mono' {S S' : Nat → Prop} {g es cap n : Nat} {xs : List (List Y)} (h : RowOk w S g es cap n xs) (hS : ∀ b, S b → S' b) : RowOk w S' g es cap n xs := by
  obtain ⟨cur, e, fz, h1, hz, h2, h3, h4⟩ := h.row
  exact ⟨h.len, h.le, h.max, h.pos, h.cpos, cur, e, fz, h1, hz, h2, h3, fun i x hi => ⟨(h4 i x hi).1, fun j y hj => let ⟨u, h5, h6⟩ := (h4 i x hi).2 j y hj; ⟨u, h5, h6.mono hS fun _ _ => rfl⟩⟩⟩
theorem giveC_ok {S0 : Nat → Prop} (hS : ∀ b, E.Sh γ w b → S0 b) (h : Rel E γ s o tm w) {v : Value} {c : C} (hc : RC w (E.Sh γ w) γ v c) {b : Option Nat} {g : Option Nat} (hg : ∀ k, b = some k → ∃ x, g = some x ∧ γ k = .bx x) {K : AC → Prop} (hq : giveC o b c K) :
    ∃ a G, K a ∧ RAC w S0 g v a G ∧ blocks [G] = keyBlocks γ (awKeys [c]) ∧ ∀ k, c = .aw k → G = γ k ∧ (G = .nil ∨ ∃ g es cap n, G = .row g es cap n) := by
  cases c with
  | y c => exact ⟨_, .no, hq, ⟨rfl, hc.mono hS fun _ _ => rfl⟩, rfl, by simp⟩
  | mt es => exact ⟨_, .nil, hq, .inl ⟨rfl, rfl, hc⟩, rfl, by simp⟩
  | aw k =>
    simp only [giveC, rowAt_iff] at hq
    obtain ⟨es, xs, ho, hq⟩ := hq
    simp only [RC] at hc
    rcases h.objs k _ ho with ⟨hgk, rfl⟩ | ⟨gg, cap, n, hgk, hr⟩
    · rw [hgk] at hc
      exact ⟨_, .nil, hq, .inl ⟨rfl, rfl, hc⟩, by simp [blocks, keyBlocks, awKeys, hgk, Gh.bs], fun k' e => by cases e; exact ⟨hgk.symm, by simp⟩⟩
    · rw [hgk] at hc
      exact ⟨_, .row gg es cap n, hq, .inr (.inl ⟨gg, cap, n, rfl, hc, hr.mono' hS⟩), by simp [blocks, keyBlocks, awKeys, hgk, Gh.bs], fun k' e => by cases e; exact ⟨hgk.symm, by simp⟩⟩
  | pb k j =>
    simp only [giveC] at hq
    cases b with
    | none => exact ⟨_, .no, hq, rfl, rfl, by simp⟩
    | some k' =>
      simp only at hq
      cases hkk : eqN k k' with
      | false => rw [hkk] at hq; exact ⟨_, .no, hq, rfl, rfl, by simp⟩
      | true =>
        rw [hkk] at hq
        have hkk := eqN_t hkk
        subst hkk
        cases j with
        | succ j => exact ⟨_, .no, hq, rfl, rfl, by simp⟩
        | zero =>
          obtain ⟨x, rfl, hx⟩ := hg k rfl
          simp only [RC, hx] at hc
          exact ⟨_, .no, hq, ⟨rfl, x, rfl, hc⟩, rfl, by simp⟩
  | _ => exact ⟨_, .no, hq, rfl, rfl, by simp⟩
/-- What cells' ghosts are. -/
def RowsG (γ : Ghs) : List C → List Gh → Prop
  | [], [] => True
  | c :: cs, G :: Gs => (∀ k, c = .aw k → G = γ k ∧ (G = .nil ∨ ∃ g es cap n, G = .row g es cap n)) ∧ RowsG γ cs Gs
  | _, _ => False
def BkOk (γ : Ghs) : List Bk → List Ho → Prop
  | [], [] => True
  | b :: bs, h :: hs => (match b, h with
    | .bx k, .bx g => γ k = .bx g
    | .bx k, .op v => ∃ l nd, γ k = .tr v l nd
    | .rows cs, .rows Gs => RowsG γ cs Gs
    | _, _ => False) ∧ BkOk γ bs hs
  | _, _ => False
theorem BkOk.append : ∀ {a b : List Bk} {c d : List Ho}, BkOk γ a c → BkOk γ b d → BkOk γ (a ++ b) (c ++ d)
  | [], _, [], _, _, h => h
  | _ :: _, _, _ :: _, _, h, h' => ⟨h.1, BkOk.append h.2 h'⟩
theorem ioG_cons (a : A) (as : List A) (G : List Gh) (Gs : List (List Gh)) : ioG (a :: as) (G :: Gs) = ioG [a] [G] ++ ioG as Gs := by
  cases a
  case io cs =>
    cases G with
    | nil => rfl
    | cons g r => cases g <;> rfl
  case ir b cs => cases G <;> rfl
  case iop q =>
    cases G with
    | nil => rfl
    | cons g r => cases g <;> rfl
  all_goals rfl
theorem awKeys_cons (c : C) (cs : List C) : awKeys (c :: cs) = awKeys [c] ++ awKeys cs := by cases c <;> simp [awKeys]
theorem keyBlocks_append (a b : List Nat) : keyBlocks γ (a ++ b) = keyBlocks γ a ++ keyBlocks γ b := by simp [keyBlocks]
theorem blocks_sublist : ∀ {a b : List Gh}, a.Sublist b → (blocks a).Sublist (blocks b)
  | _, _, .slnil => .slnil
  | _, _, .cons a h => by
    have := blocks_sublist h
    simpa [blocks] using this.trans (List.sublist_append_right _ _)
  | _, _, .cons_cons a h => by
    have := blocks_sublist h
    simpa [blocks] using (List.Sublist.refl (Gh.bs a)).append this
theorem blocks_append (a b : List Gh) : blocks (a ++ b) = blocks a ++ blocks b := by simp [blocks]
theorem giveCs_ok {S0 : Nat → Prop} (hS : ∀ b, E.Sh γ w b → S0 b) (h : Rel E γ s o tm w) {b : Option Nat} {g : Option Nat} (hg : ∀ k, b = some k → ∃ x, g = some x ∧ γ k = .bx x) : ∀ {vs : List Value} {cs : List C} {K : List AC → Prop}, RCs w (E.Sh γ w) γ vs cs →
    giveCs o b cs K → ∃ as Gs, K as ∧ RACs w S0 g vs as Gs ∧ blocks Gs = keyBlocks γ (awKeys cs) ∧ as.length = cs.length ∧ RowsG γ cs Gs
  | [], [], K, _, hq => ⟨[], [], hq, trivial, rfl, rfl, trivial⟩
  | v :: vs, c :: cs, K, hc, hq => by
    obtain ⟨a, G, h1, h2, h3, h8⟩ := giveC_ok hS h hc.1.1 hg hq
    obtain ⟨as, Gs, h4, h5, h6, h7, h9⟩ := giveCs_ok hS h hg hc.2 h1
    refine ⟨a :: as, G :: Gs, h4, ⟨⟨h2, hc.1.2⟩, h5⟩, ?_, by simp [h7], h8, h9⟩
    rw [awKeys_cons, keyBlocks_append, ← h3, ← h6, ← blocks_append]; rfl
  | [], _ :: _, _, hc, _ => hc.elim
  | _ :: _, [], _, hc, _ => hc.elim

theorem isOp_some {k : Nat} {q : Opq} (h : isOp o k = some q) : o k = some (.op q) := by
  unfold isOp at h
  cases ho : o k with
  | none => rw [ho] at h; cases h
  | some b => cases b <;> rw [ho] at h <;> cases h; rfl
theorem argA_ok {S0 : Nat → Prop} (hS : ∀ b, E.Sh γ w b → S0 b) (h : Rel E γ s o tm w) {v : Value} {x : X} {m : Nat} (hx : RX w (E.Sh γ w) γ v x) (hv : ∀ k ∈ viewKey o m x, ∀ b, b ∈ (γ k).bs → S0 b) {K : A → Prop} (hq : argA prims o m x K) :
    ∃ a Gs, K a ∧ RA w S0 v a Gs ∧ blocks Gs = keyBlocks γ (handKey o m x) ∧ BkOk γ (backKey m x) (ioG [a] [Gs]) := by
  have nob : ∀ b : Option Nat, b = none → ∀ k, b = some k → ∃ x, (none : Option Nat) = some x ∧ γ k = .bx x := fun b e k e' => by rw [e] at e'; cases e'
  have noio : ∀ {a : A} {G : List Gh}, (∀ cs, a ≠ .io cs) ∧ (∀ b cs, a ≠ .ir b cs) ∧ (∀ q, a ≠ .iop q) → ioG [a] [G] = [] := fun {a G} hn => by
    cases a <;> first | rfl | exact absurd rfl (hn.1 _) | exact absurd rfl (hn.2.1 _ _) | exact absurd rfl (hn.2.2 _)
  cases x with
  | tup l => exact hq.elim
  | agg cs =>
    match m with
    | 0 =>
      obtain ⟨a, Gs, h1, h2, h3, h4⟩ := viewA_ok hS h hx hv hq
      exact ⟨a, Gs, h1, h2, by rw [h3]; rfl, by rw [noio h4]; trivial⟩
    | 1 =>
      obtain ⟨vs, rfl, hc⟩ := hx
      obtain ⟨as, Gs, h1, h2, h3, _, h4⟩ := giveCs_ok hS h (nob none rfl) hc hq
      exact ⟨_, .no :: Gs, h1, ⟨vs, Gs, rfl, rfl, h2⟩, by rw [show blocks (.no :: Gs) = blocks Gs from rfl, h3]; rfl, trivial⟩
    | m + 2 =>
      obtain ⟨vs, rfl, hc⟩ := hx
      obtain ⟨as, Gs, h1, h2, h3, _, h4⟩ := giveCs_ok hS h (nob none rfl) hc hq
      exact ⟨_, .no :: Gs, h1, ⟨Gs, rfl, vs, rfl, h2⟩, by rw [show blocks (.no :: Gs) = blocks Gs from rfl, h3]; rfl, h4, trivial⟩
  | c a =>
    have gen : ∀ {a : C}, (∀ k j, a ≠ .pb k j) → RX w (E.Sh γ w) γ v (.c a) → (∀ k ∈ viewKey o m (.c a), ∀ b, b ∈ (γ k).bs → S0 b) →
        argC prims o m a K →
        ∃ a' Gs, K a' ∧ RA w S0 v a' Gs ∧ blocks Gs = keyBlocks γ (handKey o m (.c a)) ∧ BkOk γ (backKey m (.c a)) (ioG [a'] [Gs]) := by
      intro a hne hx hv hq
      match m with
      | 0 =>
        have e1 : viewKey o 0 (.c a) = ownKey o (.c a) := by cases a <;> first | rfl | exact absurd rfl (hne _ _)
        rw [e1] at hv
        obtain ⟨a', Gs, h1, h2, h3, h4⟩ := viewA_ok hS h hx hv hq
        refine ⟨a', Gs, h1, h2, ?_, ?_⟩
        · rw [h3]; cases a <;> first | rfl | exact absurd rfl (hne _ _)
        · rw [noio h4]; cases a <;> first | trivial | exact absurd rfl (hne _ _)
      | 1 =>
        obtain ⟨a', G, h1, h2, h3, h4⟩ := giveC_ok (K := fun a => K (.c a)) hS h hx.1 (nob none rfl) hq
        refine ⟨_, [.no, G], h1, ⟨G, rfl, h2⟩, ?_, ?_⟩
        · rw [show blocks [.no, G] = blocks [G] from rfl, h3]; cases a <;> first | rfl | exact absurd rfl (hne _ _)
        · cases a <;> first | trivial | exact absurd rfl (hne _ _)
      | m + 2 =>
        cases a <;> simp only [argC] at hq <;> try exact hq.elim
        rename_i k
        simp only [rowAt_iff] at hq
        obtain ⟨es, xs, ho, hk⟩ := hq
        have hc := hx.1
        simp only [RC] at hc
        rcases h.objs k _ ho with ⟨hgk, rfl⟩ | ⟨gg, cap, n, hgk, hr⟩
        · rw [hgk] at hc
          obtain ⟨b, rfl⟩ := hc
          exact ⟨_, [.no, .nil], hk, ⟨[.nil], rfl, ⟨.inl ⟨rfl, rfl, b, rfl⟩, rfl⟩, trivial⟩, by simp only [keyBlocks, handKey, awKeys, List.flatMap_cons, hgk]; rfl, ⟨fun k' e => by cases e; exact ⟨hgk.symm, by simp⟩, trivial⟩, trivial⟩
        · rw [hgk] at hc
          subst hc
          exact ⟨_, [.no, .row gg es cap n], hk, ⟨[.row gg es cap n], rfl, ⟨.inr (.inl ⟨gg, cap, n, rfl, rfl, hr.mono' hS⟩), rfl⟩, trivial⟩, by simp only [keyBlocks, handKey, awKeys, List.flatMap_cons, hgk]; rfl, ⟨fun k' e => by cases e; exact ⟨hgk.symm, by simp⟩, trivial⟩, trivial⟩
    cases a with
    | pb k j =>
      simp only [argA] at hq
      cases j with
      | succ j => exact hq.elim
      | zero =>
        cases hio : isOp o k with
        | some q =>
          rw [hio] at hq
          have ho := isOp_some hio
          obtain ⟨v', l, nd, hg, hr⟩ := h.objs k _ ho
          have hv : v = v' := by have := hx.1; simp only [RC, hg] at this; exact this trivial
          subst hv
          refine ⟨_, [.tr v l nd], hq, ⟨l, nd, rfl, hr⟩, ?_, ⟨l, nd, hg⟩, trivial⟩
          simp only [handKey, ho]
          simp [keyBlocks, blocks, hg]
        | none =>
        rw [hio] at hq
        simp only [boxAt_iff] at hq
        obtain ⟨cs, ho, hq⟩ := hq
        obtain ⟨g, hg, cur, e, hh, hc⟩ := h.objs k _ ho
        obtain ⟨as, Gs, h1, h2, h3, _, h4⟩ := giveCs_ok (g := some g) hS h (b := some k) (fun k' e => by cases e; exact ⟨g, rfl, hg⟩) hc hq
        have hv : v = .pointer (some ⟨g, 0, none⟩) := by have := hx.1; simp only [RC, hg] at this; exact this
        refine ⟨_, .bx g :: Gs, h1, ⟨g, Gs, hv, rfl, cur, e, hh, h2⟩, ?_, hg, trivial⟩
        simp only [handKey, ho]
        rw [show blocks (.bx g :: Gs) = g :: blocks Gs from rfl, h3]
        simp [keyBlocks, hg, Gh.bs]
    | _ => exact gen (by simp) hx hv hq

def bkKeys : List Bk → List Nat
  | [] => []
  | .bx k :: r => k :: bkKeys r
  | .rows cs :: r => awKeys cs ++ bkKeys r
theorem bkKeys_append : ∀ (a b : List Bk), bkKeys (a ++ b) = bkKeys a ++ bkKeys b
  | [], b => rfl
  | .bx k :: a, b => by simp [bkKeys, bkKeys_append a b]
  | .rows cs :: a, b => by simp [bkKeys, bkKeys_append a b]
theorem bkA_sub {m : Nat} {x : X} {K : A → Prop} (hq : argA prims o m x K) : ∀ k ∈ bkKeys (backKey m x), k ∈ handKey o m x := by
  cases x with
  | tup l => exact hq.elim
  | agg cs => match m with
    | 0 => simp [backKey, bkKeys]
    | 1 => simp [backKey, bkKeys]
    | m + 2 => simp [backKey, bkKeys, handKey]
  | c a =>
    cases a with
    | pb k j =>
      cases j with
      | succ j => exact hq.elim
      | zero =>
        simp only [argA, boxAt_iff] at hq
        cases hio : isOp o k with
        | some q => have ho := isOp_some hio; simp [backKey, bkKeys, handKey, ho]
        | none =>
          rw [hio] at hq
          obtain ⟨cs, ho, _⟩ := hq
          simp [backKey, bkKeys, handKey, ho]
    | _ => match m with
      | 0 => simp [backKey, bkKeys]
      | 1 => simp [backKey, bkKeys]
      | m + 2 => simp [backKey, bkKeys, handKey]
theorem argAs_ok {S0 : Nat → Prop} (hS : ∀ b, E.Sh γ w b → S0 b) (h : Rel E γ s o tm w) : ∀ {vs : List Value} {xs : List X} {ms : List Nat} {K : List A → Prop}, vs.length = xs.length →
    (∀ (i : Nat) (v : Value) (x : X), vs[i]? = some v → xs[i]? = some x → RX w (E.Sh γ w) γ v x) → (∀ k ∈ viewKeys o ms xs, ∀ b, b ∈ (γ k).bs → S0 b) → argAs prims o ms xs K →
    ∃ as Gs, K as ∧ RAs w S0 vs as Gs ∧ blocks Gs.flatten = keyBlocks γ (handKeys o ms xs) ∧ BkOk γ (backKeys ms xs) (ioG as Gs) ∧ ∀ k ∈ bkKeys (backKeys ms xs), k ∈ handKeys o ms xs
  | [], [], ms, K, _, _, _, hq => ⟨[], [], by cases ms <;> exact hq, trivial, by cases ms <;> rfl, by cases ms <;> trivial, by cases ms <;> simp [backKeys, bkKeys]⟩
  | v :: vs, x :: xs, ms, K, hl, hx, hk, hq => by
    simp only [viewKeys, app_eq] at hk
    have hq' : argA prims o (hd0 ms) x fun a => argAs prims o ms.tail xs fun l => K (a :: l) := by cases ms <;> exact hq
    obtain ⟨a, G, h1, h2, h3, h4⟩ := argA_ok hS h (hx 0 v x rfl rfl) (fun k hk' => hk k (List.mem_append_left _ hk')) hq'
    obtain ⟨as, Gs, h5, h6, h7, h8, h9⟩ := argAs_ok hS h (ms := ms.tail) (by simpa using hl) (fun i v x hv hx' => hx (i + 1) v x (by simpa using hv) (by simpa using hx')) (fun k hk' => hk k (List.mem_append_right _ hk')) h1
    refine ⟨a :: as, G :: Gs, h5, ⟨h2, h6⟩, ?_, ?_, ?_⟩
    · simp only [List.flatten_cons, blocks_append, h3, h7]
      simp only [handKeys, app_eq, keyBlocks_append]
    · rw [ioG_cons]
      simp only [backKeys, app_eq]
      exact h4.append h8
    · intro k hk
      simp only [backKeys, app_eq, bkKeys_append, List.mem_append] at hk
      simp only [handKeys, app_eq, List.mem_append]
      exact hk.imp (bkA_sub hq' k) (h9 k)
  | [], _ :: _, _, _, hl, _, _, _ => by simp at hl
  | _ :: _, [], _, _, hl, _, _, _ => by simp at hl

theorem RAs.append {S : Nat → Prop} : ∀ {vs us : List Value} {as bs : List A} {Gs Hs : List (List Gh)}, RAs w S vs as Gs → RAs w S us bs Hs → RAs w S (vs ++ us) (as ++ bs) (Gs ++ Hs)
  | [], _, [], _, [], _, _, h => h
  | _ :: _, _, _ :: _, _, _ :: _, _, h, h' => ⟨h.1, RAs.append h.2 h'⟩
theorem ras_rp {S : Nat → Prop} : ∀ {us : List Value} {l : List (List Y)}, us.length = l.length → (∀ (i : Nat) (cs : List Y), l[i]? = some cs → ∃ u, us[i]? = some u ∧ RP w S u cs) → RAs w S us (mapRp l) (List.replicate l.length [])
  | [], [], _, _ => trivial
  | u :: us, cs :: l, hl, h => by
    obtain ⟨u', h1, h2⟩ := h 0 cs rfl
    simp at h1; subst h1
    exact ⟨⟨rfl, h2⟩, ras_rp (by simpa using hl) fun i cs hi => by simpa using h (i + 1) cs (by simpa using hi)⟩
  | [], _ :: _, hl, _ => by simp at hl
  | _ :: _, [], hl, _ => by simp at hl
theorem ioG_rp : ∀ (as : List A) (Gs : List (List Gh)) (l : List (List Y)), as.length = Gs.length → ioG (as ++ mapRp l) (Gs ++ List.replicate l.length []) = ioG as Gs
  | [], [], [], _ => rfl
  | [], [], _ :: l, _ => ioG_rp [] [] l rfl
  | a :: as, G :: Gs, l, hl => by
    rw [List.cons_append, List.cons_append, ioG_cons, ioG_rp as Gs l (by simpa using hl), ← ioG_cons]
  | [], _ :: _, _, hl => by simp at hl
  | _ :: _, [], _, hl => by simp at hl
theorem RAs.length {S : Nat → Prop} : ∀ {vs : List Value} {as : List A} {Gs : List (List Gh)}, RAs w S vs as Gs → as.length = Gs.length
  | [], [], [], _ => rfl
  | _ :: _, _ :: _, _ :: _, h => by simp [RAs.length h.2]
end Go.Proofs.YthaelohccopgjaaW
/- Soundness, part 26: what stands behind a call. -/
namespace Go.Proofs.YthaelohccopgjaaW
variable {P : Program} {T : Tab} {E : Env} {γ γ' : Ghs} {s s' : Nat → X} {o o' : Look} {tm : Array Value} {w w' : World}

def ownGs : List AC → List Gh → List Gh
  | .own _ _ :: as, G :: Gs => G :: ownGs as Gs
  | _ :: as, _ :: Gs => ownGs as Gs
  | _, _ => []
theorem ownGs_sub : ∀ (as : List AC) (Gs : List Gh), List.Sublist (ownGs as Gs) Gs
  | [], Gs => by cases Gs <;> simp [ownGs]
  | a :: as, [] => by cases a <;> simp [ownGs]
  | a :: as, G :: Gs => by
    have := ownGs_sub as Gs
    cases a <;> simp only [ownGs] <;> first | exact this.cons_cons _ | exact this.cons _
theorem layA_app (d : Nat) : ∀ (a b : List AC) (j : Nat), (layA d j (a ++ b)).2 = (layA d j a).2 ++ (layA d (j + a.length) b).2
  | [], b, j => by simp [layA]
  | x :: a, b, j => by
    have := layA_app d a b (j + 1)
    rw [show j + (x :: a).length = j + 1 + a.length by simp; omega]
    cases x <;> simp [layA, this]
theorem layTs_eq (d : Nat) : ∀ (l : List (Bool × List AC)) (j : Nat), (layTs d j l).2 = (layA d j (RV.cells.tupCells l)).2
  | [], j => by simp [layTs, RV.cells.tupCells, layA]
  | (b, cs) :: l, j => by simp [layTs, RV.cells.tupCells, layA_app, layTs_eq d l, lenN_eq]
theorem layR_eq (d : Nat) (r : RV) : (layR d r).2 = (layA d 1 r.cells).2 := by
  cases r with
  | c a => cases a <;> rfl
  | agg cs => rfl
  | tup l => exact layTs_eq d l 1
theorem absK_append (d : Nat) : ∀ (a b : List (Nat × Ob)), absK d (a ++ b) = absK d a ++ absK d b
  | [], b => rfl
  | (c, x) :: a, b => by simp [absK, absK_append d a b]
theorem mem_absK {d k : Nat} {b : Ob} : ∀ {l : List (Nat × Ob)}, (k, b) ∈ absK d l ↔ ∃ c, (c, b) ∈ l ∧ k = key d c
  | [] => by simp [absK]
  | (c, x) :: l => by
    simp only [absK, List.mem_cons, mem_absK (l := l), Prod.mk.injEq]
    constructor
    · rintro (⟨rfl, rfl⟩ | ⟨c', h, rfl⟩)
      · exact ⟨c, .inl ⟨rfl, rfl⟩, rfl⟩
      · exact ⟨c', .inr h, rfl⟩
    · rintro ⟨c', ⟨rfl, rfl⟩ | h, rfl⟩
      · exact .inl ⟨rfl, rfl⟩
      · exact .inr ⟨c', h, rfl⟩
theorem keysL_eq : ∀ (l : List (Nat × Ob)), keysL l = l.map Prod.fst
  | [] => rfl
  | (k, b) :: l => by simp [keysL, keysL_eq l]
theorem keysL_append (a b : List (Nat × Ob)) : keysL (a ++ b) = keysL a ++ keysL b := by simp [keysL_eq]
theorem mem_keysL {k : Nat} {l : List (Nat × Ob)} : k ∈ keysL l ↔ ∃ b, (k, b) ∈ l := by simp [keysL_eq]
theorem zip_layA (d : Nat) : ∀ {as : List AC} {Gs : List Gh} {j : Nat}, Gs.length = as.length → (keysL (absK d (layA d j as).2)).length = (ownGs as Gs).length ∧
    ∀ (i : Nat) (G : Gh), Gs[i]? = some G → (∃ es xs, as[i]? = some (.own es xs)) → (key d (j + i), G) ∈ (keysL (absK d (layA d j as).2)).zip (ownGs as Gs)
  | [], [], j, _ => ⟨rfl, fun i G h => by simp at h⟩
  | a :: as, G :: Gs, j, hl => by
    obtain ⟨h1, h2⟩ := zip_layA d (as := as) (Gs := Gs) (j := j + 1) (by simpa using hl)
    have up : ∀ (i : Nat) (G' : Gh), (G :: Gs)[i + 1]? = some G' → (∃ es xs, (a :: as)[i + 1]? = some (.own es xs)) → (key d (j + (i + 1)), G') ∈ (keysL (absK d (layA d (j + 1) as).2)).zip (ownGs as Gs) := fun i G' hi ho => by
      have := h2 i G' (by simpa using hi) (by simpa using ho)
      rwa [show j + 1 + i = j + (i + 1) by omega] at this
    cases a with
    | own es xs =>
      refine ⟨by simp [layA, absK, keysL, ownGs, h1], fun i G' hi ho => ?_⟩
      simp only [layA, absK, keysL, ownGs, List.zip_cons_cons, List.mem_cons]
      cases i with
      | zero => simp at hi; subst hi; exact .inl rfl
      | succ i => exact .inr (up i G' hi ho)
    | _ =>
      refine ⟨by simpa [layA, ownGs] using h1, fun i G' hi ho => ?_⟩
      simp only [layA, ownGs]
      cases i with
      | zero => obtain ⟨es, xs, ho⟩ := ho; simp at ho
      | succ i => exact up i G' hi ho
  | [], _ :: _, _, hl => by simp at hl
  | _ :: _, [], _, hl => by simp at hl
theorem look1_mem {α : Type} {k : Nat} {x : α} : ∀ {l : List (Nat × α)}, look1 l k = some x → (k, x) ∈ l
  | [], h => by simp [look1] at h
  | (a, y) :: l, h => by
    simp only [look1, beq_dec] at h
    by_cases e : a = k
    · simp [e] at h; subst h; subst e; exact .head _
    · simp [e] at h; exact .tail _ (look1_mem h)
theorem look1_nodup {α : Type} {k : Nat} {x : α} : ∀ {l : List (Nat × α)}, (l.map Prod.fst).Nodup → (k, x) ∈ l → look1 l k = some x
  | [], _, h => by simp at h
  | (a, y) :: l, hn, h => by
    simp only [look1, beq_dec]
    simp only [List.map_cons, List.nodup_cons] at hn
    rcases List.mem_cons.1 h with h | h
    · cases h; simp
    · have : a ≠ k := fun e => hn.1 (by subst e; exact List.mem_map.2 ⟨_, h, rfl⟩)
      simp [this]
      exact look1_nodup hn.2 h
theorem look1_none {α : Type} {k : Nat} : ∀ {l : List (Nat × α)}, look1 l k = none → k ∉ l.map Prod.fst
  | [], _ => by simp
  | (a, y) :: l, h => by
    simp only [look1, beq_dec] at h
    by_cases e : a = k
    · simp [e] at h
    · simp [e] at h
      simp only [List.map_cons, List.mem_cons, not_or]
      exact ⟨Ne.symm e, look1_none h⟩
theorem look1_putsA : ∀ (n : List (Nat × Ob)) (o : List (Nat × Ob)) (k : Nat) (b : Ob), look1 (putsA n o) k = some b → (k, b) ∈ n ∨ (k ∉ keysL n ∧ look1 o k = some b)
  | [], o, k, b, h => .inr ⟨by simp [keysL], h⟩
  | (c, b0) :: r, o, k, b, h => by
    simp only [putsA] at h
    rcases look1_putsA r _ k b h with h1 | ⟨h1, h2⟩
    · exact .inl (.tail _ h1)
    · rw [look1_put1] at h2
      by_cases e : c = k
      · simp [e] at h2; subst h2; subst e; exact .inl (.head _)
      · simp [e] at h2
        exact .inr ⟨by simp [keysL, h1, Ne.symm e], h2⟩

/-- Rows given back in place. -/
theorem rowBack_ok {S' S2 : Nat → Prop} : ∀ {cs : List C} {as : List AC} {Gs : List Gh}, RowsG γ cs Gs → ROwn w' S' Gs as →
    (∀ k ∈ keysL (rowBack cs as), k ∈ awKeys cs ∧ ∀ b, b ∈ (γ k).bs → b ∈ blocks Gs) ∧
    ∀ γ' : Ghs, (∀ k ∈ keysL (rowBack cs as), γ' k = γ k) → ((∀ v y, Rep w' S' v y → Rep w' S2 v y) ∨ FlatL as) → ∀ p ∈ rowBack cs as, RO w' S2 γ' p.1 p.2
  | [], [], [], _, _ => ⟨by simp [rowBack, keysL], by simp [rowBack]⟩
  | c :: cs, a :: as, G :: Gs, h, h' => by
    obtain ⟨i1, i2⟩ := rowBack_ok (S2 := S2) h.2 h'.2
    have up : ∀ k ∈ keysL (rowBack cs as), k ∈ awKeys (c :: cs) ∧ ∀ b, b ∈ (γ k).bs → b ∈ blocks (G :: Gs) := fun k hk => by
      obtain ⟨h1, h2⟩ := i1 k hk
      refine ⟨by rw [awKeys_cons]; exact List.mem_append_right _ h1, fun b hb => ?_⟩
      have := h2 b hb
      rw [show G :: Gs = [G] ++ Gs from rfl, blocks_append]
      exact List.mem_append_right _ this
    have fl : ∀ {q : Prop}, q ∨ FlatL (a :: as) → q ∨ FlatL as := fun h => h.imp id fun h a ha => h a (.tail _ ha)
    have skip : rowBack (c :: cs) (a :: as) = rowBack cs as → (∀ k ∈ keysL (rowBack (c :: cs) (a :: as)), k ∈ awKeys (c :: cs) ∧ ∀ b, b ∈ (γ k).bs → b ∈ blocks (G :: Gs)) ∧
        ∀ γ' : Ghs, (∀ k ∈ keysL (rowBack (c :: cs) (a :: as)), γ' k = γ k) → ((∀ v y, Rep w' S' v y → Rep w' S2 v y) ∨ FlatL (a :: as)) → ∀ p ∈ rowBack (c :: cs) (a :: as), RO w' S2 γ' p.1 p.2 := fun e => by
      rw [e]
      exact ⟨up, fun γ' h1 h2 => i2 γ' h1 (fl h2)⟩
    cases c with
    | aw k =>
      cases a with
      | own es xs =>
        obtain ⟨hG, hG'⟩ := h.1 k rfl
        simp only [rowBack, keysL, List.mem_cons, forall_eq_or_imp]
        refine ⟨⟨⟨by simp [awKeys], fun b hb => ?_⟩, up⟩, fun γ' h1 h2 => ⟨?_, i2 γ' h1.2 (fl h2)⟩⟩
        · rw [← hG] at hb
          exact mem_blocks.2 ⟨G, .head _, hb⟩
        · have hm : ∀ x ∈ xs, ∀ y ∈ x, ∀ v, Rep w' S' v y → Rep w' S2 v y := by
            intro x hx y hy v hv
            rcases h2 with h2 | h2
            · exact h2 _ _ hv
            · obtain ⟨u, rfl⟩ := h2 _ (.head _) x hx y hy
              cases hv; rename_i h9; exact Rep.sc _ h9
          have h3 := h'.1
          rcases hG' with e | ⟨g, es', cap, n, e⟩
          · subst e
            obtain ⟨es', h3⟩ := h3
            cases h3
            exact .inl ⟨by rw [h1.1, ← hG], rfl⟩
          · subst e
            obtain ⟨xs', h3, hr⟩ := h3
            cases h3
            refine .inr ⟨g, cap, n, by rw [h1.1, ← hG], hr.len, hr.le, hr.max, hr.pos, hr.cpos, ?_⟩
            obtain ⟨cur, e, fz, h4, hz, h5, h6, h7⟩ := hr.row
            exact ⟨cur, e, fz, h4, hz, h5, h6, fun i x hi => ⟨(h7 i x hi).1, fun j y hj => let ⟨u, h8, h9⟩ := (h7 i x hi).2 j y hj; ⟨u, h8, hm x (List.mem_of_getElem? hi) y (List.mem_of_getElem? hj) _ h9⟩⟩⟩
      | _ => exact skip rfl
    | _ => exact skip rfl
  | [], [], _ :: _, h, _ => h.elim
  | [], _ :: _, [], _, h => h.elim
  | [], _ :: _, _ :: _, h, _ => h.elim
  | _ :: _, [], [], h, _ => h.elim
  | _ :: _, _ :: _, [], h, _ => h.elim
  | _ :: _, [], _ :: _, _, h => h.elim

theorem RACs.noSelf {S : Nat → Prop} {g : Option Nat} : ∀ {vs : List Value} {as : List AC} {Gs : List Gh}, noSelf as = true → RACs w S g vs as Gs → RACs w S none vs as Gs
  | [], [], [], _, _ => trivial
  | v :: vs, a :: as, G :: Gs, h, h' => by
    cases a <;> simp only [Go.Proofs.YthaelohccopgjaaW.noSelf] at h
    case self => cases h
    all_goals exact ⟨h'.1, RACs.noSelf h h'.2⟩
theorem keysN0_append : ∀ (a b : List (Nat × Ob)), keysN0 (a ++ b) = keysN0 a ++ keysN0 b
  | [], b => rfl
  | (k, o) :: a, b => by cases o <;> simp [keysN0, keysN0_append a b]
theorem layOwn_noOp {k es : Nat} {xs : List (List Y)} {q : Opq} (h : (layOwn k es xs).2 = .op q) : False := by
  unfold layOwn at h
  split at h
  · split at h <;> cases h
  · cases h
theorem keysN0_lay (d : Nat) : ∀ {cs : List AC} {d' j : Nat}, keysN0 (absK d (layA d' j cs).2) = keysL (absK d (layA d' j cs).2)
  | [], _, _ => rfl
  | a :: cs, d', j => by
    cases a <;> simp only [layA, absK, keysL, keysN0] <;> try exact keysN0_lay d
    rename_i es xs
    cases ho : (layOwn (key d' j) es xs).2 with
    | op q => exact (layOwn_noOp ho).elim
    | bx l => simp only; rw [keysN0_lay d]
    | ar e l => simp only; rw [keysN0_lay d]
theorem outOp_some {cs : List AC} {q : Opq} (h : outOp cs = some q) : cs = [.op q] := by
  unfold outOp at h
  cases cs with
  | nil => cases h
  | cons a r => cases a <;> simp at h; cases r <;> simp at h; subst h; rfl
theorem backs_ok {S' : Nat → Prop} : ∀ {bks : List Bk} {hos : List Ho} {outs : List (List AC)} {Go : List (List Gh)} {K : List (Nat × Ob) → List (Nat × Ob) → Prop}, BkOk γ bks hos → ROuts w' S' hos outs Go → backs bks outs K →
    ∃ N Q NG, K N Q ∧ (keysL N).length = NG.length ∧ List.Sublist NG Go.flatten ∧ (∀ k ∈ keysL Q, k ∈ bkKeys bks ∧ ∀ b, b ∈ (γ k).bs → b ∈ blocks (hos.flatMap Ho.gs)) ∧ (∀ p ∈ (keysL N).zip NG, p.1 ∉ keysN0 N → p.1 ∈ bkKeys bks ∧ SameTr (γ p.1) p.2) ∧
      ∀ (γ' : Ghs) (S2 : Nat → Prop), (∀ p ∈ (keysL N).zip NG, γ' p.1 = p.2) → (∀ k ∈ keysL Q, γ' k = γ k) → ((∀ v y, Rep w' S' v y → Rep w' S2 v y) ∨ ∀ cs ∈ outs, FlatL cs) → ∀ p ∈ N ++ Q, RO w' S2 γ' p.1 p.2
  | [], [], [], [], K, _, _, hq => ⟨[], [], [], hq, rfl, by simp, by simp [keysL], by simp, by simp⟩
  | b :: bks, ho :: hos, cs :: outs, G :: Go, K, h, h', hq => by
    have fl : ∀ {q : Prop}, (q ∨ ∀ c ∈ cs :: outs, FlatL c) → (q ∨ ∀ c ∈ outs, FlatL c) ∧ (q ∨ FlatL cs) := fun h => by
      rcases h with h | h
      · exact ⟨.inl h, .inl h⟩
      · exact ⟨.inr fun c hc => h c (.tail _ hc), .inr (h _ (.head _))⟩
    cases b with
    | bx k =>
      cases ho with
      | rows Gs => exact h.1.elim
      | op v =>
        obtain ⟨q, l, nd, rfl, rfl, hr⟩ := h'.1
        have hq : backs bks outs fun N Q => K ((k, .op q) :: N) Q := hq
        obtain ⟨N, Q, NG, h1, h2, h3, h4, h6, h5⟩ := backs_ok h.2 h'.2 hq
        refine ⟨_, _, .tr v l nd :: NG, h1, by simp [keysL, h2], ?_, ?_, ?_, ?_⟩
        · rw [List.flatten_cons]; exact (List.Sublist.refl [Gh.tr v l nd]).append h3
        · intro k' hk'
          obtain ⟨e1, e2⟩ := h4 k' hk'
          exact ⟨by simp [bkKeys, e1], fun b hb => by rw [List.flatMap_cons, blocks_append]; exact List.mem_append_right _ (e2 b hb)⟩
        · intro p hp hno
          simp only [keysL, List.zip_cons_cons, List.mem_cons] at hp
          rcases hp with rfl | hp
          · obtain ⟨l0, nd0, hg⟩ := h.1
            exact ⟨by simp [bkKeys], v, l0, nd0, l, nd, hg, rfl⟩
          · exact (h6 p hp hno).imp (fun h => by simp [bkKeys, h]) id
        · intro γ' S2 hz hQ hm
          obtain ⟨hm1, hm2⟩ := fl hm
          simp only [keysL, List.zip_cons_cons, List.mem_cons, forall_eq_or_imp] at hz
          intro p hp
          rcases List.mem_append.1 hp with hp | hp
          · rcases List.mem_cons.1 hp with rfl | hp
            · exact ⟨v, l, nd, hz.1, hr⟩
            · exact h5 γ' S2 hz.2 hQ hm1 p (List.mem_append_left _ hp)
          · exact h5 γ' S2 hz.2 hQ hm1 p (List.mem_append_right _ hp)
      | bx g =>
        have hg : γ k = .bx g := h.1
        have hno : outOp cs = none := by
          cases hcs : outOp cs with
          | none => rfl
          | some q =>
            have hcs := outOp_some hcs
            subst hcs
            obtain ⟨cur, e, hh, hc⟩ := h'.1
            cases hl : cur.toList with
            | nil => rw [hl] at hc; cases G <;> exact hc.elim
            | cons a r => rw [hl] at hc; cases G with
              | nil => exact hc.elim
              | cons g G => exact hc.1.1.elim
        simp only [backs, hno, chk_iff] at hq
        obtain ⟨q1, hq⟩ := hq
        obtain ⟨N, Q, NG, h1, h2, h3, h4, h6, h5⟩ := backs_ok h.2 h'.2 hq
        obtain ⟨cur, e, hh, hc⟩ := h'.1
        obtain ⟨z1, z2⟩ := zip_layA (k / 1000) (as := cs) (Gs := G) (j := k % 1000 + 1) (RACs.length hc).2
        refine ⟨_, _, ownGs cs G ++ NG, h1, ?_, ?_, ?_, ?_, ?_⟩
        · rw [app_eq, keysL_append, List.length_append, List.length_append, z1, h2]
        · rw [List.flatten_cons]; exact (ownGs_sub cs G).append h3
        · intro k' hk'
          simp only [keysL, List.mem_cons] at hk'
          rcases hk' with rfl | hk'
          · refine ⟨by simp [bkKeys], fun b hb => ?_⟩
            rw [hg] at hb
            exact mem_blocks.2 ⟨_, List.mem_flatMap.2 ⟨_, .head _, .head _⟩, hb⟩
          · obtain ⟨e1, e2⟩ := h4 k' hk'
            refine ⟨by simp [bkKeys, e1], fun b hb => ?_⟩
            rw [List.flatMap_cons, blocks_append]
            exact List.mem_append_right _ (e2 b hb)
        · intro p hp hno
          rw [app_eq, keysL_append, List.zip_append z1] at hp
          rw [app_eq, keysN0_append, List.mem_append, not_or, keysN0_lay] at hno
          rcases List.mem_append.1 hp with hp | hp
          · exact absurd (List.of_mem_zip hp).1 hno.1
          · exact (h6 p hp hno.2).imp (fun h => by simp [bkKeys, h]) id
        · intro γ' S2 hz hQ hm
          obtain ⟨hm1, hm2⟩ := fl hm
          rw [app_eq, keysL_append, List.zip_append z1] at hz
          have hz1 := fun p hp => hz p (List.mem_append_left _ hp)
          have hz2 := fun p hp => hz p (List.mem_append_right _ hp)
          simp only [keysL, List.mem_cons, forall_eq_or_imp] at hQ
          obtain ⟨l1, l2⟩ : RCs w' S2 γ' cur.toList (layA (k / 1000) (k % 1000 + 1) cs).1 ∧ ∀ c b, (c, b) ∈ (layA (k / 1000) (k % 1000 + 1) cs).2 → RO w' S2 γ' (key (k / 1000) c) b := by
            cases hz : eqN (k % 1000) 0 with
            | true =>
              have hz := eqN_t hz
              have hk0 : key (k / 1000) 0 = k := by simp only [key]; omega
              obtain ⟨l1, l2⟩ := layA_ok (γ' := γ') (S' := S2) (g := some g) (k / 1000) (fun b hb => by cases hb; rw [hk0, hQ.1, hg]) (j := k % 1000 + 1) hc hm2 (fun i G' hi ho => hz1 _ (z2 i G' hi ho))
              exact ⟨l1, fun c b hb => (l2 c b hb).2.2.2⟩
            | false =>
              rw [hz] at q1
              obtain ⟨l1, l2⟩ := layA_ok (γ' := γ') (S' := S2) (g := none) (k / 1000) (fun b hb => by cases hb) (j := k % 1000 + 1) (RACs.noSelf q1 hc) hm2 (fun i G' hi ho => hz1 _ (z2 i G' hi ho))
              exact ⟨l1, fun c b hb => (l2 c b hb).2.2.2⟩
          have rest := h5 γ' S2 hz2 hQ.2 hm1
          intro p hp
          obtain ⟨kp, bp⟩ := p
          rw [app_eq] at hp
          simp only [List.mem_append, List.mem_cons, mem_absK, Prod.mk.injEq] at hp
          rcases hp with (⟨c, hc', rfl⟩ | hp) | (⟨rfl, rfl⟩ | hp)
          · exact l2 c bp hc'
          · exact rest _ (List.mem_append_left _ hp)
          · exact ⟨g, by rw [hQ.1, hg], cur, e, hh, l1⟩
          · exact rest _ (List.mem_append_right _ hp)
    | rows cs0 =>
      cases ho with
      | bx g => exact h.1.elim
      | op v => exact h.1.elim
      | rows Gs =>
        simp only [backs] at hq
        obtain ⟨N, Q, NG, h1, h2, h3, h4, h6, h5⟩ := backs_ok h.2 h'.2 hq
        obtain ⟨hG, hown⟩ := h'.1
        subst hG
        obtain ⟨r1, _⟩ := rowBack_ok (S2 := S') h.1 hown
        refine ⟨N, _, NG, h1, h2, by simpa using h3, ?_, fun p hp hno => (h6 p hp hno).imp (fun h => by simp [bkKeys, h]) id, ?_⟩
        · intro k hk
          rw [app_eq, keysL_append, List.mem_append] at hk
          rcases hk with hk | hk
          · obtain ⟨e1, e2⟩ := r1 k hk
            refine ⟨by simp [bkKeys, e1], fun b hb => ?_⟩
            rw [List.flatMap_cons, blocks_append]
            exact List.mem_append_left _ (e2 b hb)
          · obtain ⟨e1, e2⟩ := h4 k hk
            refine ⟨by simp [bkKeys, e1], fun b hb => ?_⟩
            rw [List.flatMap_cons, blocks_append]
            exact List.mem_append_right _ (e2 b hb)
        · intro γ' S2 hz hQ hm
          obtain ⟨hm1, hm2⟩ := fl hm
          rw [app_eq, keysL_append] at hQ
          have rest := h5 γ' S2 hz (fun k hk => hQ k (List.mem_append_right _ hk)) hm1
          intro p hp
          rw [app_eq] at hp
          simp only [List.mem_append] at hp
          rcases hp with hp | hp | hp
          · exact rest _ (List.mem_append_left _ hp)
          · exact (rowBack_ok (S2 := S2) h.1 hown).2 γ' (fun k hk => hQ k (List.mem_append_left _ hk)) hm2 p hp
          · exact rest _ (List.mem_append_right _ hp)
  | [], _ :: _, _, _, _, h, _, _ => h.elim
  | _ :: _, [], _, _, _, h, _, _ => h.elim
  | [], [], _ :: _, _, _, _, h, _ => h.elim
  | [], [], [], _ :: _, _, _, h, _ => h.elim
  | _ :: _, _ :: _, [], [], _, _, h, _ => h.elim
  | _ :: _, _ :: _, [], _ :: _, _, _, h, _ => h.elim
  | _ :: _, _ :: _, _ :: _, [], _, _, h, _ => h.elim
end Go.Proofs.YthaelohccopgjaaW
/- Soundness, part 27: calls. -/
namespace Go.Proofs.YthaelohccopgjaaW
variable {P : Program} {T : Tab} {E : Env} {γ γ' : Ghs} {s s' : Nat → X} {o o' : Look} {tm : Array Value} {w w' : World}

theorem small_app {S : Nat → Prop} : ∀ {vs : List Value} {as : List A} {Gs : List (List Gh)} (n : Nat), RAs w S vs as Gs → smallAs as = true → ∀ G ∈ Gs ++ List.replicate n [], G.length ≤ 950 := fun n h hs G hG => by
  rcases List.mem_append.1 hG with hG | hG
  · exact small_ok h hs G hG
  · rw [(List.mem_replicate.1 hG).2]; simp

/-- The ghosts behind a call. -/
def callG (γ1 : Ghs) (zl : List (Nat × Gh)) (D pk : List Nat) : Ghs := fun k => match look1 zl k with
  | some G => G
  | none => if k ∈ D ∧ k ∉ pk then .no else γ1 k

theorem afterCall_ok {st : State} {γ1 : Ghs} {hk : List Nat} {N Q : List (Nat × Ob)} {NG Gall : List Gh} {ioBs : List Nat} (h : Rel E γ1 (slot st.s) (look1 st.o) tm w)
    (hfr : Fr (fun b => b ∈ keyBlocks γ1 hk) w w') (hnd : (blocks Gall ++ ioBs).Nodup) (hbl : ∀ b ∈ blocks Gall, (b ∈ keyBlocks γ1 hk ∨ w.heap.size ≤ b) ∧ b < w'.heap.size)
    (hlen : (keysL N).length = NG.length) (hsub : List.Sublist NG Gall) (hnod : (keysL N).Nodup) (hdis : ∀ k ∈ keysL Q, k ∉ keysL N)
    (hQ : ∀ k ∈ keysL Q, k ∈ hk ∧ ∀ b, b ∈ (γ1 k).bs → b ∈ ioBs) (hop : ∀ p ∈ (keysL N).zip NG, p.1 ∉ keysN0 N → SameTr (γ1 p.1) p.2) :
    (∀ p ∈ (keysL N).zip NG, callG γ1 ((keysL N).zip NG) hk (keysL Q) p.1 = p.2) ∧ (∀ k ∈ keysL Q, callG γ1 ((keysL N).zip NG) hk (keysL Q) k = γ1 k) ∧ Nx γ1 w (callG γ1 ((keysL N).zip NG) hk (keysL Q)) w' ∧
    (∀ b, (E.Sh γ1 w b ∨ b ∈ keyBlocks γ1 hk ∨ w.heap.size ≤ b) → b < w'.heap.size → b ∉ blocks Gall ++ ioBs → E.Sh (callG γ1 ((keysL N).zip NG) hk (keysL Q)) w' b) ∧
    ((∀ p ∈ N ++ Q, RO w' (E.Sh (callG γ1 ((keysL N).zip NG) hk (keysL Q)) w') (callG γ1 ((keysL N).zip NG) hk (keysL Q)) p.1 p.2) →
      Rel E (callG γ1 ((keysL N).zip NG) hk (keysL Q)) (slot (afterCall hk N Q st).s) (look1 (afterCall hk N Q st).o) tm w') := by
  generalize hγ : callG γ1 ((keysL N).zip NG) hk (keysL Q) = γ'
  have hfst : ((keysL N).zip NG).map Prod.fst = keysL N := List.map_fst_zip (by omega)
  have z1 : ∀ p ∈ (keysL N).zip NG, γ' p.1 = p.2 := fun p hp => by
    have := look1_nodup (by rw [hfst]; exact hnod) hp
    rw [← hγ]; simp only [callG, this]
  have z0 : ∀ k, k ∉ keysL N → γ' k = if k ∈ hk ∧ k ∉ keysL Q then .no else γ1 k := fun k hk' => by
    have : look1 ((keysL N).zip NG) k = none := by
      cases hl : look1 ((keysL N).zip NG) k with
      | none => rfl
      | some G =>
        have := List.mem_map_of_mem (f := Prod.fst) (look1_mem hl)
        rw [hfst] at this
        exact absurd this hk'
    rw [← hγ]; simp only [callG, this]
  have zQ : ∀ k ∈ keysL Q, γ' k = γ1 k := fun k hk' => by rw [z0 k (hdis k hk')]; simp [hk']
  -- a block of γ'
  have cases3 : ∀ k b, b ∈ (γ' k).bs → (∃ (i : Nat) (G : Gh), (keysL N)[i]? = some k ∧ NG[i]? = some G ∧ b ∈ G.bs) ∨ (k ∉ keysL N ∧ (k ∈ hk → k ∈ keysL Q) ∧ γ' k = γ1 k ∧ b ∈ (γ1 k).bs) := fun k b hb => by
    by_cases hm : k ∈ keysL N
    · left
      obtain ⟨i, hi⟩ := List.mem_iff_getElem?.1 hm
      have hlt : i < NG.length := by rw [← hlen]; exact (List.getElem?_eq_some_iff.1 hi).1
      refine ⟨i, NG[i], hi, List.getElem?_eq_getElem hlt, ?_⟩
      have hz : (k, NG[i]) ∈ (keysL N).zip NG := by
        refine List.mem_iff_getElem?.2 ⟨i, ?_⟩
        rw [List.getElem?_zip_eq_some]
        exact ⟨hi, List.getElem?_eq_getElem hlt⟩
      rw [z1 _ hz] at hb; exact hb
    · right
      have h0 := z0 k hm
      by_cases hc : k ∈ hk ∧ k ∉ keysL Q
      · rw [if_pos hc] at h0; rw [h0] at hb; cases hb
      · rw [if_neg hc] at h0
        refine ⟨hm, fun h1 => Classical.byContradiction fun h2 => hc ⟨h1, h2⟩, h0, by rw [← h0]; exact hb⟩
  have hGall : ∀ (i : Nat) (G : Gh) (b : Nat), NG[i]? = some G → b ∈ G.bs → b ∈ blocks Gall := fun i G b h1 h2 => mem_blocks.2 ⟨G, hsub.subset (List.mem_of_getElem? h1), h2⟩
  have hNGnd : (blocks NG).Nodup := ((blocks_sublist hsub).nodup (List.nodup_append.1 hnd).1)
  have hdj : ∀ b ∈ blocks Gall, b ∉ ioBs := fun b h1 h2 => (List.nodup_append.1 hnd).2.2 b h1 b h2 rfl
  have hkb : ∀ b, b ∈ keyBlocks γ1 hk ↔ ∃ k ∈ hk, b ∈ (γ1 k).bs := fun b => by simp [keyBlocks]
  have hn : Nx γ1 w γ' w' := ⟨hfr.mono fun b hb => by obtain ⟨k, _, h2⟩ := (hkb b).1 hb; exact ⟨k, h2⟩, fun b ⟨k, hb⟩ => by
    rcases cases3 k b hb with ⟨i, G, _, h2, h3⟩ | ⟨_, _, _, h4⟩
    · rcases (hbl b (hGall i G b h2 h3)).1 with h4 | h4
      · obtain ⟨k', _, h5⟩ := (hkb b).1 h4; exact .inl ⟨k', h5⟩
      · exact .inr h4
    · exact .inl ⟨k, h4⟩⟩
  -- what is of γ1 and still there is not among the results' blocks
  have sep : ∀ k b, (k ∈ hk → k ∈ keysL Q) → b ∈ (γ1 k).bs → b ∉ blocks Gall := fun k b h1 h2 h3 => by
    rcases (hbl b h3).1 with h4 | h4
    · obtain ⟨k', h5, h6⟩ := (hkb b).1 h4
      have := h.inj k k' b h2 h6
      subst this
      exact hdj b h3 ((hQ k (h1 h5)).2 b h2)
    · have := h.lt k b h2; omega
  have hi : ∀ k k' b, b ∈ (γ' k).bs → b ∈ (γ' k').bs → k = k' := fun k k' b h1 h2 => by
    rcases cases3 k b h1 with ⟨i, G, e1, e2, e3⟩ | ⟨e1, e2, e3, e4⟩ <;> rcases cases3 k' b h2 with ⟨i', G', e1', e2', e3'⟩ | ⟨e1', e2', e3', e4'⟩
    · have := blocks_inj hNGnd i i' G G' b e2 e2' e3 e3'
      subst this
      rw [e1] at e1'; exact Option.some.inj e1'
    · exact absurd (hGall i G b e2 e3) (sep k' b e2' e4')
    · exact absurd (hGall i' G' b e2' e3') (sep k b e2 e4)
    · exact h.inj k k' b e4 e4'
  have hl : ∀ k b, b ∈ (γ' k).bs → b < w'.heap.size := fun k b h1 => by
    rcases cases3 k b h1 with ⟨i, G, e1, e2, e3⟩ | ⟨e1, e2, e3, e4⟩
    · exact (hbl b (hGall i G b e2 e3)).2
    · exact Nat.lt_of_lt_of_le (h.lt k b e4) hfr.size
  refine ⟨z1, zQ, hn, fun b hb hlt hno => ?_, fun hRO => ?_⟩
  · have hno1 : b ∉ blocks Gall := fun h' => hno (List.mem_append_left _ h')
    have hno2 : b ∉ ioBs := fun h' => hno (List.mem_append_right _ h')
    refine ⟨?_, hlt, fun ⟨k, hk'⟩ => ?_⟩
    · rcases hb with hb | hb | hb
      · exact hb.1
      · obtain ⟨k, _, h2⟩ := (hkb b).1 hb; exact .inr (h.own k b h2)
      · exact .inr (.inr (Nat.le_trans h.fr.size hb))
    · rcases cases3 k b hk' with ⟨i, G, e1, e2, e3⟩ | ⟨e1, e2, e3, e4⟩
      · exact hno1 (hGall i G b e2 e3)
      · rcases hb with hb | hb | hb
        · exact hb.2.2 ⟨k, e4⟩
        · obtain ⟨k', h1, h2⟩ := (hkb b).1 hb
          have := h.inj k k' b e4 h2
          subst this
          exact hno2 ((hQ k (e2 h1)).2 b e4)
        · have := h.lt k b e4; omega
  · refine h.go hn (C.mapK (killL (keysN0 N))) rfl (turns_mapK2 hn _ fun j j' e => ?_) (fun i => slot_mapS _ rfl _ _) (fun k b hb => ?_) hi hl
    · obtain ⟨rfl, h2⟩ := killL_some e
      by_cases hm : j' ∈ keysL N
      · obtain ⟨i, hi⟩ := List.mem_iff_getElem?.1 hm
        have hlt : i < NG.length := by rw [← hlen]; exact (List.getElem?_eq_some_iff.1 hi).1
        have hz : (j', NG[i]) ∈ (keysL N).zip NG := by
          refine List.mem_iff_getElem?.2 ⟨i, ?_⟩
          rw [List.getElem?_zip_eq_some]
          exact ⟨hi, List.getElem?_eq_getElem hlt⟩
        refine .inr (.inr ?_)
        rw [z1 _ hz]
        exact hop _ hz h2
      · rw [z0 _ hm]
        split
        · exact .inr (.inl rfl)
        · exact .inl rfl
    · rcases look1_putsA _ _ k b hb with h1 | ⟨h1, h2⟩
      · exact .inr (hRO (k, b) (List.mem_append_right _ h1))
      · rcases look1_putsA _ _ k b h2 with h1 | ⟨h3, h4⟩
        · exact .inr (hRO (k, b) (List.mem_append_left _ h1))
        · left
          rw [look1_mapO, look1_delL] at h4
          by_cases hd : k ∈ app hk (keysL N)
          · simp [hd] at h4
          · rw [app_eq, List.mem_append, not_or] at hd
            simp [app_eq, hd.1, hd.2] at h4
            obtain ⟨b0, h5, rfl⟩ := h4
            have h0 := z0 k h3
            rw [if_neg (fun h => hd.1 h.1)] at h0
            refine ⟨k, b0, h5, rfl, h0, fun g hg => hfr.block g (h.lt k g hg) fun hb => ?_⟩
            obtain ⟨k', h6, h7⟩ := (hkb g).1 hb
            exact hd.1 (h.inj k k' g hg h7 ▸ h6)
end Go.Proofs.YthaelohccopgjaaW
/- Soundness, part 28: calls, as they are run. -/
namespace Go.Proofs.YthaelohccopgjaaW
variable {P : Program} {T : Tab} {E : Env} {γ γ' : Ghs} {s s' : Nat → X} {o o' : Look} {tm : Array Value} {w w' : World}

def CapsR (w : World) (S : Nat → Prop) (γ : Ghs) (us : List Value) (caps : List Nat) (capsF : List (List Y)) : Prop :=
  (capsF = [] ∧ us.length = caps.length ∧ ∀ (i : Nat) (k : Nat), caps[i]? = some k → match γ k with
    | .bx g => us[i]? = some (Value.pointer (some ⟨g, 0, none⟩))
    | _ => True) ∨ (caps = [] ∧ us.length = capsF.length ∧ ∀ (i : Nat) (cs : List Y), capsF[i]? = some cs → ∃ u, us[i]? = some u ∧ RP w S u cs)

theorem allFlat_of : ∀ {l : List (List AC)}, allFlat l = true → ∀ cs ∈ l, FlatL cs
  | [], _, q, hq => absurd hq (by simp)
  | p :: l, h, q, hq => by
    simp only [allFlat] at h
    cases hc : flatCs p <;> simp [hc] at h
    rcases List.mem_cons.1 hq with rfl | hq
    · exact flatC_of hc
    · exact allFlat_of h q hq
theorem frz_ok {b : Bool} {r : Res} {K : Bool → Prop} (h : frz b r K) : ∃ fb, (fb = true → FlatR r) ∧ K fb := by
  cases b with
  | true => exact ⟨true, fun _ => h.1, h.2⟩
  | false =>
    refine ⟨_, fun e => ?_, h⟩
    cases hA : r.val.flat <;> rw [hA] at e <;> simp [andb] at e
    exact ⟨flatR_of hA, allFlat_of e⟩
theorem nCall_ok {st : State} (h : Rel E γ (slot st.s) (look1 st.o) tm w) {g : Cfg} {d : Nat} {f : FuncId} {vs us : List Value} {xs : List X} {caps : List Nat} {capsF : List (List Y)} (hl : vs.length = xs.length)
    (hx : ∀ (i : Nat) (v : Value) (x : X), vs[i]? = some v → xs[i]? = some x → RX w (E.Sh γ w) γ v x) (hu : CapsR w (E.Sh γ w) γ us caps capsF)
    {K : SK} (hq : nCall prims g (CallC P) d f xs caps capsF st K) :
      Runs P f (vs ++ us).toArray w fun e w' => ∃ x st', K x st' ∧ ∃ v γ', e = .returned v ∧ Nx γ w γ' w' ∧ Rel E γ' (slot st'.s) (look1 st'.o) tm w' ∧ RX w' (E.Sh γ' w') γ' v x := by
  let o := look1 st.o
  let vk := app (capKeys o caps) (viewKeys o (g.mode f) xs)
  let hk := handKeys o (g.mode f) xs
  let S0 : Nat → Prop := fun b => E.Sh γ w b ∨ ∃ k ∈ vk, b ∈ (γ k).bs
  have hS : ∀ b, E.Sh γ w b → S0 b := fun b hb => .inl hb
  obtain ⟨l, hq, hll, hlc⟩ := capsV_ok (S0 := S0) hS h (fun k hk b hb => .inr ⟨k, by simp only [vk, app_eq]; exact List.mem_append_left _ hk, hb⟩) hq
  obtain ⟨as, Gs, hq, hra, hbk, hbo, hbs⟩ := argAs_ok (S0 := S0) hS h hl hx (fun k hk b hb => .inr ⟨k, by simp only [vk, app_eq]; exact List.mem_append_right _ hk, hb⟩) hq
  simp only [chk_iff] at hq
  obtain ⟨c1, c2, c3, q, hr, hq⟩ := hq
  have hr := CallC.q hr hq
  have c2 := nodupN_iff c2
  have c3 := disjN_iff c3
  -- the captured
  have hcap : us.length = (app l capsF).length ∧ ∀ (i : Nat) (cs : List Y), (app l capsF)[i]? = some cs → ∃ u, us[i]? = some u ∧ RP w S0 u cs := by
    rcases hu with ⟨rfl, h1, h2⟩ | ⟨rfl, h1, h2⟩
    · rw [app_eq, List.append_nil]
      refine ⟨by rw [h1, hll], fun i cs hi => ?_⟩
      obtain ⟨k, gg, h3, h4, h5⟩ := hlc i cs hi
      have := h2 i k h3
      rw [h4] at this
      exact ⟨_, this, h5⟩
    · have hl0 : l = [] := by cases l with
        | nil => rfl
        | cons a b => simp at hll
      subst hl0
      rw [app_eq, List.nil_append]
      exact ⟨h1, fun i cs hi => let ⟨u, h3, h4⟩ := h2 i cs hi; ⟨u, h3, h4.mono (fun b hb => hS b hb) fun _ _ => rfl⟩⟩
  have hras : RAs w S0 (vs ++ us) (app as (mapRp (app l capsF))) (Gs ++ List.replicate (app l capsF).length []) := by
    rw [app_eq]; exact hra.append (ras_rp hcap.1 hcap.2)
  have hfl : (Gs ++ List.replicate (app l capsF).length []).flatten = Gs.flatten := by
    rw [List.flatten_append, List.flatten_replicate_nil, List.append_nil]
  have hio : ioG (app as (mapRp (app l capsF))) (Gs ++ List.replicate (app l capsF).length []) = ioG as Gs := by
    rw [app_eq]; exact ioG_rp as Gs _ hra.length
  have hkb : ∀ b, b ∈ keyBlocks γ hk ↔ ∃ k ∈ hk, b ∈ (γ k).bs := fun b => by simp [keyBlocks]
  have hbk : blocks Gs.flatten = keyBlocks γ hk := hbk
  refine (hr.out w (vs ++ us) _ S0 hras (fun b hb => ?_) ?_ ?_ (small_app _ hra c1)).mono ?_
  · rw [hfl, hbk, hkb]
    rcases hb with hb | ⟨k, hk', hb⟩
    · exact ⟨hb.2.1, fun ⟨k, _, h2⟩ => hb.2.2 ⟨k, h2⟩⟩
    · exact ⟨h.lt k b hb, fun ⟨k', h1, h2⟩ => c3 k hk' (h.inj k k' b hb h2 ▸ h1)⟩
  · rw [hfl, hbk]; exact keyBlocks_nodup h c2
  · rw [hfl, hbk]
    intro b hb
    obtain ⟨k, _, h2⟩ := (hkb b).1 hb
    exact h.lt k b h2
  rintro e w' ⟨r, hq, hpost⟩
  obtain ⟨c4, hq⟩ := hq
  obtain ⟨fb, hfb, hq⟩ := frz_ok hq
  -- rows looked at are frozen, or nothing that is handed back leads to them
  obtain ⟨γ1, st1, hst1, hrel1, hoff, hor, hfz⟩ : ∃ γ1 st1, frozen prims (orb fb (isNilL (app (capKeys (look1 st.o) caps) (viewKeys (look1 st.o) (g.mode f) xs)))) (app (capKeys (look1 st.o) caps) (viewKeys (look1 st.o) (g.mode f) xs)) st = st1 ∧ Rel E γ1 (slot st1.s) (look1 st1.o) tm w ∧ (∀ k, k ∉ vk → γ1 k = γ k) ∧ (∀ k, γ1 k = γ k ∨ γ1 k = .no) ∧
        ((∀ b, S0 b → E.Sh γ1 w b) ∨ FlatR r) := by
    cases hcase : orb fb (isNilL (app (capKeys (look1 st.o) caps) (viewKeys (look1 st.o) (g.mode f) xs))) with
    | true =>
      refine ⟨γ, st, rfl, h, fun _ _ => rfl, fun _ => .inl rfl, ?_⟩
      cases hA : fb with
      | true => exact .inr (hfb hA)
      | false =>
        left
        rw [hA] at hcase
        have hcase : isNilL vk = true := hcase
        have hvk : vk = [] := by cases hv : vk <;> rw [hv] at hcase <;> simp [isNilL] at hcase
        intro b hb
        rcases hb with hb | ⟨k, hk, _⟩
        · exact hb
        · rw [hvk] at hk; simp at hk
    | false =>
      have hn := Nx.drops γ w vk
      refine ⟨_, _, rfl, h.freezes vk, fun k hk => if_neg hk, fun k => by by_cases e : k ∈ vk <;> simp [e], .inl fun b hb => ?_⟩
      rcases hb with hb | ⟨k, hk, hb⟩
      · exact hn.sh hb
      · refine ⟨.inr (h.own k b hb), h.lt k b hb, fun ⟨j, hj⟩ => ?_⟩
        by_cases e : j ∈ vk
        · simp [e, Gh.bs] at hj
        · simp [e] at hj
          exact e (h.inj k j b hb hj ▸ hk)
  rw [hst1] at hq
  have hhk : ∀ k ∈ hk, γ1 k = γ k := fun k hk' => hoff k fun hv => c3 k hv hk'
  have hkb1 : keyBlocks γ1 hk = keyBlocks γ hk := by
    simp only [keyBlocks]
    have : ∀ l : List Nat, (∀ k ∈ l, γ1 k = γ k) → (l.flatMap fun k => (γ1 k).bs) = l.flatMap fun k => (γ k).bs := fun l => by
      induction l with
      | nil => intro _; rfl
      | cons a r ih => intro h'; simp only [List.flatMap_cons, h' a (.head _), ih fun k hk => h' k (.tail _ hk)]
    exact this hk hhk
  -- the callee
  have hbks : ∃ N Q : List (Nat × Ob), nodupN (keysL (app (absK d (layR d r.val).2) N)) = true ∧ disjN (keysL Q) (keysL (app (absK d (layR d r.val).2) N)) = true ∧
      backs (backKeys (g.mode f) xs) r.outs (fun N' Q' => N' = N ∧ Q' = Q) ∧ K (layR d r.val).1 (afterCall (handKeys (look1 st.o) (g.mode f) xs) (app (absK d (layR d r.val).2) N) Q st1) := by
    have gen : ∀ (bks : List Bk) (outs : List (List AC)) (K' : List (Nat × Ob) → List (Nat × Ob) → Prop), backs bks outs K' → ∃ N Q, backs bks outs (fun N' Q' => N' = N ∧ Q' = Q) ∧ K' N Q := by
      intro bks
      induction bks with
      | nil => intro outs K' h'; cases outs with
        | nil => exact ⟨[], [], ⟨rfl, rfl⟩, h'⟩
        | cons a b => exact h'.elim
      | cons b bks ih => intro outs K' h'; cases outs with
        | nil => exact h'.elim
        | cons cs outs =>
          have mono : ∀ (bks : List Bk) (outs : List (List AC)) (K1 K2 : List (Nat × Ob) → List (Nat × Ob) → Prop), (∀ a b, K1 a b → K2 a b) → backs bks outs K1 → backs bks outs K2 := by
            intro bks
            induction bks with
            | nil => intro outs K1 K2 hk h'; cases outs with
              | nil => exact hk _ _ h'
              | cons a b => exact h'.elim
            | cons b bks ih => intro outs K1 K2 hk h'; cases outs with
              | nil => exact h'.elim
              | cons cs outs =>
                cases b with
                | bx k =>
                  simp only [backs, chk_iff] at h' ⊢
                  cases hop : outOp cs with
                  | some q => rw [hop] at h'; exact ih outs _ _ (fun a b hab => hk _ _ hab) h'
                  | none => rw [hop] at h'; exact ⟨h'.1, ih outs _ _ (fun a b hab => hk _ _ hab) h'.2⟩
                | rows cs0 => exact ih outs _ _ (fun a b hab => hk _ _ hab) h'
          cases b with
          | bx k =>
            simp only [backs, chk_iff] at h'
            cases hop : outOp cs with
            | some q =>
              rw [hop] at h'
              obtain ⟨N, Q, h1, h2⟩ := ih outs _ h'
              refine ⟨_, _, ?_, h2⟩
              simp only [backs, hop]
              exact mono _ _ _ _ (fun a b ⟨e1, e2⟩ => by rw [e1, e2]; exact ⟨rfl, rfl⟩) h1
            | none =>
            rw [hop] at h'
            obtain ⟨N, Q, h1, h2⟩ := ih outs _ h'.2
            refine ⟨_, _, ?_, h2⟩
            simp only [backs, hop, chk_iff]
            exact ⟨h'.1, mono _ _ _ _ (fun a b ⟨e1, e2⟩ => by rw [e1, e2]; exact ⟨rfl, rfl⟩) h1⟩
          | rows cs0 =>
            obtain ⟨N, Q, h1, h2⟩ := ih outs _ h'
            refine ⟨_, _, ?_, h2⟩
            simp only [backs]
            exact mono _ _ _ _ (fun a b ⟨e1, e2⟩ => by rw [e1, e2]; exact ⟨rfl, rfl⟩) h1
    obtain ⟨N, Q, h1, h2⟩ := gen _ _ _ hq
    exact ⟨N, Q, h2.1, h2.2.1, h1, h2.2.2⟩
  obtain ⟨N, Q, d1, d2, hbks, hK⟩ := hbks
  have d1 := nodupN_iff d1
  have d2 := disjN_iff d2
  obtain ⟨v, Gr, Go, rfl, hfr, hnd, hbl, hres, houts⟩ := hpost
  simp only [hfl, hbk] at hfr hbl hres houts
  simp only [ioB, hio] at hnd hres houts
  obtain ⟨N', Q', NG, ⟨rfl, rfl⟩, b1, b2, b3, b5, b4⟩ := backs_ok hbo houts hbks
  have hGl : Gr.length = r.val.cells.length := by
    have := layR_ok (γ' := fun k => (Gr[k - key d 1]?).getD .no) (S' := fun b => (S0 b ∨ b ∈ keyBlocks γ hk ∨ w.heap.size ≤ b) ∧ b < w'.heap.size ∧ b ∉ blocks (Gr ++ Go.flatten) ++ blocks ((ioG as Gs).flatMap Ho.gs)) d hres (.inl fun v y h => h) (fun i G hi _ => by
      rw [show key d (1 + i) - key d 1 = i by simp only [key]; omega, hi]; rfl)
    exact this.2.2.1
  obtain ⟨z1, z2⟩ := zip_layA d (as := r.val.cells) (Gs := Gr) (j := 1) hGl
  have hNN : app (absK d (layR d r.val).2) N' = absK d (layA d 1 r.val.cells).2 ++ N' := by rw [app_eq, layR_eq]
  rw [hNN] at d1 d2
  have hlen : (keysL (absK d (layA d 1 r.val.cells).2 ++ N')).length = (ownGs r.val.cells Gr ++ NG).length := by rw [keysL_append, List.length_append, List.length_append, z1, b1]
  obtain ⟨a1, a2, a3, a4, a5⟩ := afterCall_ok (N := absK d (layA d 1 r.val.cells).2 ++ N') (Q := Q') (NG := ownGs r.val.cells Gr ++ NG) (Gall := Gr ++ Go.flatten) (hk := hk) (ioBs := blocks ((ioG as Gs).flatMap Ho.gs)) hrel1
    (by rw [hkb1]; exact hfr) hnd (by rw [hkb1]; exact hbl) hlen ((ownGs_sub _ _).append b2) d1 (fun k hk' => d2 k hk') (fun k hk' => ⟨hbs k (b3 k hk').1, fun b hb => (b3 k hk').2 b (by rw [← hhk k (hbs k (b3 k hk').1)]; exact hb)⟩) (fun p hp hno => by
      rw [keysL_append, List.zip_append z1] at hp
      rw [keysN0_append, List.mem_append, not_or, keysN0_lay] at hno
      rcases List.mem_append.1 hp with hp | hp
      · exact absurd (List.of_mem_zip hp).1 hno.1
      · obtain ⟨e1, e2⟩ := b5 p hp hno.2
        rw [hhk _ (hbs _ e1)]
        exact e2)
  generalize hγ : callG γ1 ((keysL (absK d (layA d 1 r.val.cells).2 ++ N')).zip (ownGs r.val.cells Gr ++ NG)) hk (keysL Q') = γ' at a1 a2 a3 a4 a5
  rw [keysL_append, List.zip_append z1] at a1
  have hm : (∀ v y, Rep w' (fun b => (S0 b ∨ b ∈ keyBlocks γ hk ∨ w.heap.size ≤ b) ∧ b < w'.heap.size ∧ b ∉ blocks (Gr ++ Go.flatten) ++ blocks ((ioG as Gs).flatMap Ho.gs)) v y → Rep w' (E.Sh γ' w') v y) ∨ FlatR r := by
    rcases hfz with hfz | hfz
    · left
      intro v y hv
      refine hv.mono (fun b hb => a4 b ?_ hb.2.1 hb.2.2) fun _ _ => rfl
      rw [hkb1]
      exact hb.1.imp (hfz b) id
    · exact .inr hfz
  have hlay := layR_ok (γ' := γ') (S' := E.Sh γ' w') d hres (hm.imp id fun h => h.1) (fun i G hi ho => a1 _ (List.mem_append_left _ (z2 i G hi ho)))
  have hNx : Nx γ w γ1 w := ⟨Fr.refl _ _, fun b ⟨k, hk'⟩ => .inl ⟨k, by rcases hor k with e | e <;> rw [e] at hk' <;> first | exact hk' | cases hk'⟩⟩
  refine ⟨_, _, hK, v, γ', rfl, hNx.trans a3, ?_, hlay.1⟩
  rw [hNN]
  refine a5 fun p hp => ?_
  have hold := b4 γ' (E.Sh γ' w') (fun p hp => a1 p (List.mem_append_right _ hp)) (fun k hk' => by rw [a2 k hk', hhk k (hbs k (b3 k hk').1)]) (hm.imp id fun h => h.2)
  rw [List.append_assoc] at hp
  rcases List.mem_append.1 hp with hp | hp
  · obtain ⟨k, b⟩ := p
    obtain ⟨c, hc, rfl⟩ := mem_absK.1 hp
    rw [← layR_eq] at hc
    exact (hlay.2.1 c b hc).2.2.2
  · exact hold p hp
end Go.Proofs.YthaelohccopgjaaW
/- Soundness, part 29: all operations. -/
namespace Go.Proofs.YthaelohccopgjaaW
variable {P : Program} {T : Tab} {E : Env} {γ γ' : Ghs} {s s' : Nat → X} {o o' : Look} {tm : Array Value} {w w' : World}

/-- What an operation comes to, where what it ends in may hang on the world. -/
def SWp (P : Program) (E : Env) (γ : Ghs) (w : World) (oo : Oper) (a : Act) (K : SK) : Prop :=
  ∀ (next : Act → World → Prop) (Q : Exit → Act → World → Prop), (∀ x st' v γ' w', K x st' → Nx γ w γ' w' → Rel E γ' (slot st'.s) (look1 st'.o) a.tmps w' → RX w' (E.Sh γ' w') γ' v x → next (a.put oo.dst v) w') → oo.wp P a w next Q
theorem NWp.toS {oo : Oper} {a : Act} {K : SK} (h : NWp P E γ w oo a K) : SWp P E γ w oo a K := fun next Q hn =>
  let ⟨x, st', hk, hw⟩ := h
  hw next Q fun v γ' w' h1 h2 h3 => hn x st' v γ' w' hk h1 h2 h3
theorem ncall_value {oo : Oper} {a : Act} {st : State} (h : Rel E γ (slot st.s) (look1 st.o) a.tmps w) {g : Cfg} {d : Nat} {hh : Operand} {args : Array Operand} {argTypes : Array TypeId} (ho : oo.op = .call ⟨.value hh, args, argTypes⟩)
    {f : FuncId} {us : Array Value} {caps : List Nat} {capsF : List (List Y)} (hv : a.eval hh = .func (.func f) #[] us) (hu : CapsR w (E.Sh γ w) γ us.toList caps capsF)
    {K : SK} (hq : nCall prims g (CallC P) d f (opds T (slot st.s) argTypes.toList args.toList) caps capsF st K) : SWp P E γ w oo a K := by
  obtain ⟨dst, op, ty, pos, after, guard⟩ := oo
  simp only at ho
  subst ho
  have hc := nCall_ok h (vs := args.toList.map a.eval) (by rw [opds_length]; simp) (fun i v y h1 h2 => h.opds (T := T) argTypes.toList args.toList i v y h1 h2) hu hq
  intro next Q hn
  unfold Oper.wp
  rcases hc with ⟨hfn, hc⟩ | ⟨_, v, hcf, x, st', hk, v', γ', he, h1, h2, h3⟩
  rotate_left
  · cases he
    have hrun : (execOp a.eval { dst, op := .call { callee := .value hh, args, argTypes }, type := ty, pos, after, guard }).run P w = .ok (.value v) w := by
      have e : (args.toList.map a.eval ++ us.toList).toArray = args.map a.eval ++ us := by apply Array.ext'; simp
      rw [e] at hcf
      simp only [execOp, Sem.run_bind, resolve, hv, Deferred.ofValue, Sem.run_pure, Result.andThen_ok, invoke]
      simpa using hcf
    rw [hrun]
    exact hn x st' v γ' w hk h1 h2 h3
  have hrun : (execOp a.eval { dst, op := .call { callee := .value hh, args, argTypes }, type := ty, pos, after, guard }).run P w = .ok (.enter f (args.toList.map a.eval ++ us.toList).toArray) w := by
    have e : (args.toList.map a.eval ++ us.toList).toArray = args.map a.eval ++ us := by apply Array.ext'; simp
    rw [e]
    simp only [execOp, Sem.run_bind, resolve, hv, Deferred.ofValue, Sem.run_pure, Result.andThen_ok, invoke]
    rw [callFunc_run hfn]
    simp
  rw [hrun, Oper.upon_enter]
  exact hc.mono fun e w' ⟨x, st', hk, v, γ', he, h1, h2, h3⟩ => by subst he; exact hn x st' v γ' w' hk h1 h2 h3

theorem ncall_ok (hT : TabOk P T) {oo : Oper} {a : Act} {st : State} (h : Rel E γ (slot st.s) (look1 st.o) a.tmps w) {g : Cfg} {d : Nat} {c : Call} (ho : oo.op = .call c) {K : SK} (hq : ncall prims T g (CallC P) d c st K) : SWp P E γ w oo a K := by
  have hoo := ho
  obtain ⟨callee, args, argTypes⟩ := c
  simp only [ncall] at hq
  cases callee with
  | invoke r m => exact hq.elim
  | value hh =>
    simp only [asC_iff] at hq
    obtain ⟨b, hb, hq⟩ := hq
    have hv := h.opd (T := T) 0 hh
    rw [hb] at hv
    cases b <;> simp only at hq <;> try exact hq.elim
    case y y =>
      cases y <;> simp only at hq <;> try exact hq.elim
      rename_i z
      cases z <;> simp only at hq <;> try exact hq.elim
      rename_i fn first caps
      cases fn <;> simp only at hq <;> try exact hq.elim
      rename_i f
      have hv := rx_sc hv
      simp only [chk_iff] at hq
      obtain ⟨n1, n2, hq⟩ := hq
      have n1 : first = #[] := by cases hf : first.toList <;> rw [hf] at n1 <;> simp [isNilL] at n1; simpa using hf
      have n2 : caps = #[] := by cases hf : caps.toList <;> rw [hf] at n2 <;> simp [isNilL] at n2; simpa using hf
      subst n1 n2
      exact ncall_value h hoo hv (.inl ⟨rfl, rfl, by simp⟩) hq
    case fn f ks =>
      obtain ⟨vs, h1, h2, h3⟩ := hv.1
      exact ncall_value h hoo h1 (.inl ⟨rfl, by simpa using h2, fun i k hi => by
        have := h3 i k hi
        split at this
        · rename_i gg hg; rw [hg]; simpa using this
        · rename_i hg
          split
          · rename_i gg hg'; exact absurd hg' (hg gg)
          · trivial⟩) hq
    case fv f l =>
      obtain ⟨vs, h1, h2, h3⟩ := hv.1
      exact ncall_value h hoo h1 (.inr ⟨rfl, by simpa using h2, fun i cs hi => by simpa using h3 i cs hi⟩) hq
  | builtin b =>
    cases b
    case append =>
      simp only at hq
      obtain ⟨tl⟩ := argTypes
      obtain ⟨al⟩ := args
      simp only at hq
      cases tl with
      | nil => exact hq.elim
      | cons t ts =>
        cases ts with
        | nil => exact hq.elim
        | cons u ts =>
          simp only at hq
          have hlen := opds_length T (slot st.s) (t :: u :: ts) al
          have hrel : ∀ (i : Nat) (v : Value) (y : X), (al.map a.eval)[i]? = some v → (opds T (slot st.s) (t :: u :: ts) al)[i]? = some y → RX w (E.Sh γ w) γ v y := fun i v y h1 h2 => h.opds (T := T) (t :: u :: ts) al i v y h1 h2
          cases hx : opds T (slot st.s) (t :: u :: ts) al with
          | nil => simp [hx] at hq
          | cons x r =>
            rw [hx] at hlen hrel
            simp only [hx] at hq
            cases r with
            | nil => exact hq.elim
            | cons z r =>
              simp only [chk_iff] at hq
              obtain ⟨n1, n2, hq⟩ := hq
              have n1 : ts = [] := by cases ts <;> simp [isNilL] at n1; rfl
              have n2 : r = [] := by cases r <;> simp [isNilL] at n2; rfl
              subst n1 n2
              cases al with
              | nil => simp at hlen
              | cons x0 al =>
                cases al with
                | nil => simp at hlen
                | cons x1 al =>
                  have n3 : al = [] := by simpa using hlen.symm
                  subst n3
                  refine NWp.toS (nAppend_ok hT h (v := a.eval x0) (z := a.eval x1) (ty := oo.type) ?_ (hrel 0 _ x rfl rfl) (hrel 1 _ z rfl rfl) hq)
                  obtain ⟨dst, op, ty, pos, after, guard⟩ := oo
                  simp only at hoo
                  subst hoo
                  simp [execOp, resolve, invoke, builtin]
    case copy =>
      simp only at hq
      obtain ⟨tl⟩ := argTypes
      obtain ⟨al⟩ := args
      simp only at hq
      cases tl with
      | nil => exact hq.elim
      | cons t ts =>
        cases ts with
        | nil => exact hq.elim
        | cons u ts =>
          simp only at hq
          have hlen := opds_length T (slot st.s) (t :: u :: ts) al
          have hrel : ∀ (i : Nat) (v : Value) (y : X), (al.map a.eval)[i]? = some v → (opds T (slot st.s) (t :: u :: ts) al)[i]? = some y → RX w (E.Sh γ w) γ v y := fun i v y h1 h2 => h.opds (T := T) (t :: u :: ts) al i v y h1 h2
          cases hx : opds T (slot st.s) (t :: u :: ts) al with
          | nil => simp [hx] at hq
          | cons x r =>
            rw [hx] at hlen hrel
            simp only [hx] at hq
            cases r with
            | nil => exact hq.elim
            | cons z r =>
              simp only [chk_iff] at hq
              obtain ⟨n1, n2, hq⟩ := hq
              have n1 : ts = [] := by cases ts <;> simp [isNilL] at n1; rfl
              have n2 : r = [] := by cases r <;> simp [isNilL] at n2; rfl
              subst n1 n2
              cases al with
              | nil => simp at hlen
              | cons x0 al =>
                cases al with
                | nil => simp at hlen
                | cons x1 al =>
                  have n3 : al = [] := by simpa using hlen.symm
                  subst n3
                  refine NWp.toS (nCopy_ok hT h (v := a.eval x0) (z := a.eval x1) (ty := oo.type) ?_ (hrel 0 _ x rfl rfl) (hrel 1 _ z rfl rfl) hq)
                  obtain ⟨dst, op, ty, pos, after, guard⟩ := oo
                  simp only at hoo
                  subst hoo
                  simp [execOp, resolve, invoke, builtin]
    all_goals exact NWp.toS (NWp.of_quiet h (qcall_ok hT h hoo hq))

theorem run_nil_eql (w : World) (t e : TypeId) (a : Option Addr) (n c : Nat) (h : P.underlying t = some (.slice e)) : (binOp .eql t (.slice a n c) (.slice none 0 0)).run P w = .ok (.bool a.isNone) w := by
  have h1 : ∀ d : Nat, (Op.equalIn (d + 1) t (.slice a n c) (.slice none 0 0)).run P w = .ok a.isNone w := fun d => by
    cases a <;> simp [Op.equalIn, run_underlying h]
  simp only [binOp]
  simp [Op.equal, Op.maxDepth, h1 9999]
theorem run_nil_neq (w : World) (t e : TypeId) (a : Option Addr) (n c : Nat) (h : P.underlying t = some (.slice e)) : (binOp .neq t (.slice a n c) (.slice none 0 0)).run P w = .ok (.bool (!a.isNone)) w := by
  have h1 : ∀ d : Nat, (Op.equalIn (d + 1) t (.slice a n c) (.slice none 0 0)).run P w = .ok a.isNone w := fun d => by
    cases a <;> simp [Op.equalIn, run_underlying h]
  simp only [binOp]
  simp [Op.equal, Op.maxDepth, h1 9999]
theorem isNilC_ok {y : Operand} (h : isNilC y = true) : y = .const (.slice none 0 0) := by
  cases y with
  | const v =>
    cases v <;> simp only [isNilC] at h <;> try exact absurd h (by decide)
    rename_i a n c
    cases a with
    | some a => exact Bool.noConfusion h
    | none =>
      simp only at h
      cases hn : eqN n 0 <;> rw [hn] at h <;> simp only at h
      · exact absurd h (by decide)
      · rw [eqN_t hn, eqN_t h]
  | _ => exact absurd h (by simp [isNilC])
theorem nNil_ok (hT : TabOk P T) {oo : Oper} {a : Act} {st : State} (h : Rel E γ (slot st.s) (look1 st.o) a.tmps w) {op : BinOp} {t : TypeId} {px py : Operand} {v : Value} {x : X} (hx : RX w (E.Sh γ w) γ v x)
    (hr : (execOp a.eval oo) = (do pure (.value (← (do eqGuard op t px py v (.slice none 0 0); binOp op t v (.slice none 0 0) : Sem Value))))) {K : SK} (hq : nNil prims T (look1 st.o) op t x fun r => K r st) : NWp P E γ w oo a K := by
  simp only [nNil] at hq
  cases hel : (T.at t).el with
  | none => simp [hel] at hq
  | some e =>
    simp only [hel, asC_iff] at hq
    obtain ⟨c, rfl, hq⟩ := hq
    have hu := ((hT.el hel).el e hel).1
    have guard : ∀ (p : Option Addr) (n c : Nat), (eqGuard op t px py (.slice p n c) (.slice none 0 0)).run P w = .ok () w := fun p n c => by cases op <;> rfl
    have two : ∀ (p : Option Addr) (n c : Nat), v = .slice p n c → isEql op (fun _ => K (sc (.bool true)) st ∧ K (sc (.bool false)) st) (fun _ => K (sc (.bool false)) st ∧ K (sc (.bool true)) st) → NWp P E γ w oo a K := fun p n c hv hk => by
      subst hv
      cases op <;> simp only [isEql] at hk <;> try exact hk.elim
      case eql =>
        refine NWp.val (v := .bool p.isNone) (x := sc (.bool p.isNone)) (w' := w) (by rw [hr]; simp only [Sem.run_bind, guard, Result.andThen_ok, run_nil_eql w t e.1 p n c hu, Sem.run_pure]) (Nx.refl _ _) h ⟨Rep.sc _ rfl, .inr rfl⟩ ?_
        cases p
        · exact hk.1
        · exact hk.2
      case neq =>
        refine NWp.val (v := .bool (!p.isNone)) (x := sc (.bool (!p.isNone))) (w' := w) (by rw [hr]; simp only [Sem.run_bind, guard, Result.andThen_ok, run_nil_neq w t e.1 p n c hu, Sem.run_pure]) (Nx.refl _ _) h ⟨Rep.sc _ rfl, .inr rfl⟩ ?_
        cases p
        · exact hk.1
        · exact hk.2
    have one : ∀ (p : Addr) (n c : Nat), v = .slice (some p) n c → isEql op (fun _ => K (sc (.bool false)) st) (fun _ => K (sc (.bool true)) st) → NWp P E γ w oo a K := fun p n c hv hk => by
      subst hv
      cases op <;> simp only [isEql] at hk <;> try exact hk.elim
      case eql => exact NWp.val (v := .bool false) (x := sc (.bool false)) (w' := w) (by rw [hr]; simp only [Sem.run_bind, guard, Result.andThen_ok, run_nil_eql w t e.1 (some p) n c hu, Sem.run_pure]; rfl) (Nx.refl _ _) h ⟨Rep.sc _ rfl, .inr rfl⟩ hk
      case neq => exact NWp.val (v := .bool true) (x := sc (.bool true)) (w' := w) (by rw [hr]; simp only [Sem.run_bind, guard, Result.andThen_ok, run_nil_neq w t e.1 (some p) n c hu, Sem.run_pure]; rfl) (Nx.refl _ _) h ⟨Rep.sc _ rfl, .inr rfl⟩ hk
    have nz : ∀ xs : List (List Y), prims.eq (prims.llen xs) 0 = false → xs ≠ [] := fun xs h e => by subst e; exact absurd h (by decide)
    have hxc := hx.1
    cases c with
    | y c =>
      cases c with
      | sc z => exact hq.elim
      | sl es xs =>
        simp only [brk_iff] at hq
        cases hxc with
        | sl0 b cap =>
          rcases hq with ⟨_, hq⟩ | ⟨hz, _⟩
          · exact two _ _ _ rfl hq
          · exact absurd rfl (nz _ hz)
        | sl g off cap _ _ vs =>
          rcases hq with ⟨_, hq⟩ | ⟨_, hq⟩
          · exact two _ _ _ rfl hq
          · exact one _ _ _ rfl hq
    | mt es =>
      obtain ⟨p, rfl⟩ := hxc
      exact two _ _ _ rfl hq
    | aw k =>
      simp only [rowAt_iff] at hq
      obtain ⟨es, xs, ho, hq⟩ := hq
      rw [brk_iff] at hq
      simp only [RC] at hxc
      rcases h.objs k _ ho with ⟨hg, rfl⟩ | ⟨g, cap, n, hg, hr2⟩
      · rw [hg] at hxc
        obtain ⟨b, rfl⟩ := hxc
        rcases hq with ⟨_, hq⟩ | ⟨hz, _⟩
        · exact two _ _ _ rfl hq
        · exact absurd rfl (nz _ hz)
      · rw [hg] at hxc
        rcases hq with ⟨_, hq⟩ | ⟨_, hq⟩
        · exact two _ _ _ hxc hq
        · exact one _ _ _ hxc hq
    | as k lo m =>
      simp only [rowAt_iff] at hq
      obtain ⟨es, xs, ho, hq⟩ := hq
      simp only [RC] at hxc
      rcases h.objs k _ ho with ⟨hg, rfl⟩ | ⟨g, cap, n, hg, hr2⟩
      · rw [hg] at hxc
        obtain ⟨_, b, c, rfl⟩ := hxc
        exact two _ _ _ rfl hq
      · rw [hg] at hxc
        obtain ⟨_, _, _, c, _, hv | ⟨_, p, hv⟩⟩ := hxc
        · exact two _ _ _ hv hq
        · exact two _ _ _ hv hq
    | _ => exact hq.elim

theorem core_ok (hT : TabOk P T) {oo : Oper} {a : Act} {st : State} (h : Rel E γ (slot st.s) (look1 st.o) a.tmps w) {g : Cfg} {d : Nat} {K : SK} (hq : core prims T g (CallC P) d oo.op oo.type st K) : SWp P E γ w oo a K := by
  have quiet : ∀ {op : Op}, oo.op = op → qcore prims T (CallC P) (slot st.s) (look1 st.o) d op oo.type (lay d st K) → SWp P E γ w oo a K := fun e hq => NWp.toS (NWp.of_quiet h (qcore_ok hT h (by rw [e]; exact hq)))
  cases hop : oo.op <;> rw [hop] at hq <;> simp only [core] at hq
  case store t p v => exact NWp.toS (nStore_ok hT h hop hq)
  case box t x => exact NWp.toS (nBox_ok h hop (h.opd t x) hq)
  case buildSlice t n parts => exact NWp.toS (nBuildSlice_ok hT h hop _ hq)
  case call c => exact ncall_ok hT h hop hq
  case assign x =>
    have hx := h.opd (T := T) oo.type x
    refine NWp.toS (NWp.val (v := a.eval x) ?_ (Nx.refl _ _) h hx hq)
    obtain ⟨dst, op, ty, pos, after, guard⟩ := oo
    simp only at hop
    subst hop
    simp [execOp]
  case binOp op t x y u =>
    cases hn : isNilC y with
    | false => rw [hn] at hq; exact quiet hop hq
    | true =>
      rw [hn] at hq
      have hy := isNilC_ok hn
      subst hy
      refine NWp.toS (nNil_ok hT h (h.opd t x) (px := x) (py := .const (.slice none 0 0)) ?_ hq)
      obtain ⟨dst, op', ty, pos, after, guard⟩ := oo
      simp only at hop
      subst hop
      rfl
  all_goals exact quiet hop hq

/-- One operation, as the region's walk wants it. -/
theorem step_ok (hT : TabOk P T) {oo : Oper} {a : Act} {st : State} (h : Rel E γ (slot st.s) (look1 st.o) a.tmps w) {g : Cfg} {K : State → Prop} (hd : ∀ d, oo.dst = some d → d < a.tmps.size ∧ E.arg d = none)
    (hq : step prims T g (CallC P) oo st K) : ∀ (next : Act → World → Prop) (Q : Exit → Act → World → Prop), (∀ (st' : State) (a' : Act) γ' w', K st' → a'.defers = a.defers → a'.tmps.size = a.tmps.size → Rel E γ' (slot st'.s) (look1 st'.o) a'.tmps w' → next a' w') → oo.wp P a w next Q := by
  intro next Q hn
  refine core_ok hT h hq next Q fun x st1 v γ' w' hk h1 h2 h3 => ?_
  cases hdst : oo.dst with
  | none =>
    simp only [hdst] at hk
    exact hn st1 a γ' w' hk rfl rfl h2
  | some d =>
    simp only [hdst] at hk
    obtain ⟨hd1, hd2⟩ := hd d hdst
    have put : ∀ v γ' w', Rel E γ' (slot st1.s) (look1 st1.o) a.tmps w' → RX w' (E.Sh γ' w') γ' v x → Rel E γ' (slot (st1.set d x).s) (look1 (st1.set d x).o) (a.tmps.setIfInBounds d v) w' := fun v γ' w' h2 h3 =>
      h2.put h3 hd1 hd2 (fun i => by simp only [State.set, slot_put1])
    cases ha : isAssign oo.op with
    | false =>
      rw [ha] at hk
      exact hn _ _ γ' w' hk rfl (by simp [Act.put]) (put v γ' w' h2 h3)
    | true =>
      rw [ha] at hk
      obtain ⟨γ'', _, h4⟩ := (put v γ' w' h2 h3).canonS d
      exact hn _ _ γ'' w' hk rfl (by simp [Act.put]) h4
end Go.Proofs.YthaelohccopgjaaW
/- Soundness, part 30: guards; regions in one order. -/
namespace Go.Proofs.YthaelohccopgjaaW
variable {P : Program} {T : Tab} {E : Env} {γ γ' : Ghs} {s s' : Nat → X} {o o' : Look} {tm : Array Value} {w w' : World}

theorem getD_tmps {tm : Array Value} {t : Nat} {v : Value} (h : tm.getD t undef = v) (hv : v ≠ undef) : tm[t]? = some v := by
  rw [Array.getD_eq_getD_getElem?] at h
  cases e : tm[t]? with
  | none => rw [e] at h; exact absurd h.symm hv
  | some u => rw [e] at h; simpa using h

theorem guardW_ok {ops : Array Oper} {oo : Oper} {a : Act} (h : Rel E γ s o a.tmps w) {K : Bool → Prop} (hq : guardW ops.toList s oo K) : K (Region.wanted oo (yielded ops a.tmps)) := by
  simp only [guardW] at hq
  unfold Region.wanted
  cases hg : oo.guard with
  | none => simpa [hg] using hq
  | some jw =>
    obtain ⟨j, want⟩ := jw
    simp only [hg, nth_iff] at hq
    obtain ⟨q, hj, hq⟩ := hq
    have hj' : ops[j]? = some q := by simpa using hj
    simp only
    cases hd : q.dst with
    | none => simp [hd] at hq
    | some t =>
      simp only [hd] at hq
      have ht := h.slots t
      cases hs : s t with
      | agg cs => simp [hs] at hq
      | tup vs =>
        rw [hs] at ht hq
        cases vs with
        | cons x y => exact hq.elim
        | nil =>
          obtain ⟨us, h1, h2⟩ := ht
          have hus : us = #[] := by
            cases hl : us.toList with
            | nil => simpa using hl
            | cons x y => rw [hl] at h2; exact h2.elim
          subst hus
          have : yielded ops a.tmps j = none := by
            unfold yielded
            simp only [hj', Option.bind_some, hd]
            cases e : a.tmps[t]? with
            | none => rfl
            | some u =>
              rw [Array.getD_eq_getD_getElem?, e] at h1
              simp at h1
              rw [h1]
          rw [this]
          simpa using hq
      | c c =>
        rw [hs] at ht
        simp only [hs, asB_iff, br_iff] at hq
        obtain ⟨b, hb, hq⟩ := hq
        rw [hb] at ht
        have hv := rx_sc ht
        have : yielded ops a.tmps j = some b := by
          unfold yielded
          simp only [hj', Option.bind_some, hd, getD_tmps hv (by simp [undef])]
        rw [this]
        cases b <;> cases want <;> simpa [notb] using hq

theorem skip_rel {a : Act} {st : State} {oo : Oper} (h : Rel E γ (slot st.s) (look1 st.o) a.tmps w) (hd : ∀ d, oo.dst = some d → d < a.tmps.size ∧ E.arg d = none) :
    Rel E γ (slot (st.setD oo.dst (.tup [])).s) (look1 (st.setD oo.dst (.tup [])).o) (a.put oo.dst undef).tmps w := by
  cases hdst : oo.dst with
  | none => exact h
  | some d =>
    obtain ⟨h1, h2⟩ := hd d hdst
    exact h.put (x := .tup []) (v := undef) ⟨#[], rfl, trivial⟩ h1 h2 (fun i => by simp only [State.setD, State.set, slot_put1])

theorem put_size (a : Act) (d : Option Nat) (v : Value) : (a.put d v).tmps.size = a.tmps.size := by cases d <;> simp [Act.put]
theorem put_defers (a : Act) (d : Option Nat) (v : Value) : (a.put d v).defers = a.defers := by cases d <;> simp [Act.put]

theorem wpOp_of {ops : Array Oper} {Q : Exit → Act → World → Prop} {i : Nat} {oo : Oper} {K : Act → World → Prop} {a : Act} (hi : ops[i]? = some oo) (h : if Region.wanted oo (yielded ops a.tmps) = true then oo.wp P a w K Q else K (a.put oo.dst undef) w) :
    wpOp P ops Q i K a w := by
  unfold wpOp
  simp only [hi]
  split
  · rename_i hw; simp only [hw, if_true] at h; exact .inl h
  · rename_i hw; simp only [hw] at h; exact h

/-- One operation, guarded. -/
theorem wpOp_step (hT : TabOk P T) {ops : Array Oper} {Q : Exit → Act → World → Prop} {i : Nat} {oo : Oper} {a : Act} {st : State} (h : Rel E γ (slot st.s) (look1 st.o) a.tmps w) {g : Cfg} (hi : ops[i]? = some oo) (hd : ∀ d, oo.dst = some d → d < a.tmps.size ∧ E.arg d = none)
    {K : State → Prop} (hq : guardW ops.toList (slot st.s) oo fun b => match b with
      | true => step prims T g (CallC P) oo st K
      | false => K (st.setD oo.dst (.tup []))) {next : Act → World → Prop}
    (hn : ∀ st' a' γ' w', K st' → a'.defers = a.defers → a'.tmps.size = a.tmps.size → Rel E γ' (slot st'.s) (look1 st'.o) a'.tmps w' → next a' w') : wpOp P ops Q i next a w := by
  have hg := guardW_ok h hq
  refine wpOp_of hi ?_
  split
  · rename_i hw
    rw [hw] at hg
    exact step_ok hT h hd hg _ Q fun st' a' γ' w' hk h1 h2 h3 => hn st' a' γ' w' hk h1 h2 h3
  · rename_i hw
    have hw : Region.wanted oo (yielded ops a.tmps) = false := by simpa using hw
    rw [hw] at hg
    exact hn _ _ γ w hg (put_defers _ _ _) (put_size _ _ _) (skip_rel h hd)

theorem steps_ok (hT : TabOk P T) {ops : Array Oper} {g : Cfg} {Q : Exit → Act → World → Prop} {K : State → Prop} : ∀ (rest : List Oper) (i : Nat) {γ : Ghs} {st : State} {a : Act} {w : World}, ops.toList.drop i = rest → Rel E γ (slot st.s) (look1 st.o) a.tmps w →
    (∀ oo ∈ rest, ∀ d, oo.dst = some d → d < a.tmps.size ∧ E.arg d = none) → steps prims T g (CallC P) ops.toList rest st K →
    (∀ st' a' γ' w', K st' → a'.defers = a.defers → a'.tmps.size = a.tmps.size → Rel E γ' (slot st'.s) (look1 st'.o) a'.tmps w' → Q .normal a' w') → wpOps P ops Q (List.range' i rest.length) a w
  | [], i, γ, st, a, w, hr, h, hd, hq, hQ => hQ st a γ w hq rfl rfl h
  | oo :: rest, i, γ, st, a, w, hr, h, hd, hq, hQ => by
    have hi : ops[i]? = some oo := by
      have : (ops.toList.drop i)[0]? = some oo := by rw [hr]; rfl
      simpa using this
    have hr' : ops.toList.drop (i + 1) = rest := by
      have := congrArg (List.drop 1) hr
      simpa [List.drop_drop] using this
    rw [List.length_cons, List.range'_succ, wpOps_cons]
    unfold steps at hq
    refine wpOp_step (g := g) hT h hi (hd oo (.head _)) (K := fun st => steps prims T g (CallC P) ops.toList rest st K) ?_ fun st' a' γ' w' hk h1 h2 h3 => ?_
    · revert hq
      generalize guardW ops.toList (slot st.s) oo = G
      intro hq
      refine cast (congrArg G (funext fun b => ?_)) hq
      cases b <;> rfl
    · exact steps_ok hT rest (i + 1) hr' h3 (fun oo' ho d hd' => by rw [h2]; exact hd oo' (.tail _ ho) d hd') hk (fun st'' a'' γ'' w'' e1 e2 e3 e4 => hQ st'' a'' γ'' w'' e1 (e2.trans h1) (e3.trans h2) e4)
end Go.Proofs.YthaelohccopgjaaW
/- Soundness, part 31: an operation that turns nothing comes to one thing at a time. -/
namespace Go.Proofs.YthaelohccopgjaaW
variable {P : Program} {T : Tab} {E : Env} {γ γ' : Ghs} {s s' : Nat → X} {o o' : Look} {tm : Array Value} {w w' : World}

def Pk {α : Type} (H : (α → Prop) → Prop) : Prop := ∃ A : α → Prop, ∀ K, H K ↔ ∃ a, A a ∧ K a
def Pk2 {α β : Type} (H : (α → β → Prop) → Prop) : Prop := ∃ A : α → β → Prop, ∀ K, H K ↔ ∃ a b, A a b ∧ K a b
section
variable {α β δ ε : Type}
theorem pk_ret (a : α) : Pk (fun K => K a) := ⟨fun x => x = a, fun K => by simp⟩
theorem pk_false : Pk (fun _ : α → Prop => False) := ⟨fun _ => False, fun K => by simp⟩
theorem pk_chk {b : Bool} {H : (α → Prop) → Prop} (h : Pk H) : Pk (fun K => chk b (H K)) := by
  obtain ⟨A, hA⟩ := h
  exact ⟨fun a => b = true ∧ A a, fun K => by simp only [chk_iff, hA]; exact ⟨fun ⟨h1, a, h2, h3⟩ => ⟨a, ⟨h1, h2⟩, h3⟩, fun ⟨a, ⟨h1, h2⟩, h3⟩ => ⟨h1, a, h2, h3⟩⟩⟩
theorem pk_brk {b : Bool} {H H' : (α → Prop) → Prop} (h : Pk H) (h' : Pk H') : Pk (fun K => brk b (H K) (H' K)) := by
  cases b
  · exact h'
  · exact h
theorem pk_br {b : Bool} {H H' : (α → Prop) → Prop} (h : Pk H) (h' : Pk H') : Pk (fun K => br b (fun _ => H K) (fun _ => H' K)) := by
  cases b
  · exact h'
  · exact h
theorem pk2_br {b : Bool} {H H' : (α → β → Prop) → Prop} (h : Pk2 H) (h' : Pk2 H') : Pk2 (fun K => br b (fun _ => H K) (fun _ => H' K)) := by
  cases b
  · exact h'
  · exact h
theorem pk_bind {H1 : (β → Prop) → Prop} (h : Pk H1) {H2 : β → (α → Prop) → Prop} (h' : ∀ b, Pk (H2 b)) : Pk (fun K => H1 (fun b => H2 b K)) := by
  obtain ⟨A, hA⟩ := h
  have h'' : ∃ B : β → α → Prop, ∀ b K, H2 b K ↔ ∃ a, B b a ∧ K a := ⟨fun b => (h' b).choose, fun b => (h' b).choose_spec⟩
  obtain ⟨B, hB⟩ := h''
  refine ⟨fun a => ∃ b, A b ∧ B b a, fun K => (hA _).trans ?_⟩
  constructor
  · rintro ⟨b, h1, h2⟩
    obtain ⟨a, h3, h4⟩ := (hB b K).1 h2
    exact ⟨a, ⟨b, h1, h3⟩, h4⟩
  · rintro ⟨a, ⟨b, h1, h3⟩, h4⟩
    exact ⟨b, h1, (hB b K).2 ⟨a, h3, h4⟩⟩
theorem pk_ex {A : β → Prop} {H : β → (α → Prop) → Prop} (h : ∀ b, Pk (H b)) : Pk (fun K => ∃ b, A b ∧ H b K) :=
  pk_bind (H1 := fun K => ∃ b, A b ∧ K b) ⟨A, fun K => Iff.rfl⟩ h
theorem pk2_ret (a : α) (b : β) : Pk2 (fun K => K a b) := ⟨fun x y => x = a ∧ y = b, fun K => ⟨fun h => ⟨a, b, ⟨rfl, rfl⟩, h⟩, fun ⟨_, _, ⟨h1, h2⟩, h⟩ => by rw [← h1, ← h2]; exact h⟩⟩
theorem pk2_false : Pk2 (fun _ : α → β → Prop => False) := ⟨fun _ _ => False, fun K => by simp⟩
theorem pk2_chk {b : Bool} {H : (α → β → Prop) → Prop} (h : Pk2 H) : Pk2 (fun K => chk b (H K)) := by
  cases b
  · exact pk2_false
  · exact h
theorem pk2_plainOr {b : Bool} {r : Res} {H : (α → β → Prop) → Prop} (h : Pk2 H) : Pk2 (fun K => plainOr b r (H K)) := by
  cases b
  · obtain ⟨A, hA⟩ := h
    exact ⟨fun x y => FlatL r.val.cells ∧ A x y, fun K => by
      show FlatL r.val.cells ∧ H K ↔ _
      rw [hA]
      exact ⟨fun ⟨h1, a, b, h2, h3⟩ => ⟨a, b, ⟨h1, h2⟩, h3⟩, fun ⟨a, b, ⟨h1, h2⟩, h3⟩ => ⟨h1, a, b, h2, h3⟩⟩⟩
  · exact h
theorem pk2_brk {b : Bool} {H H' : (α → β → Prop) → Prop} (h : Pk2 H) (h' : Pk2 H') : Pk2 (fun K => brk b (H K) (H' K)) := by
  cases b
  · exact h'
  · exact h
theorem pk2_bind {H1 : (δ → Prop) → Prop} (h : Pk H1) {H2 : δ → (α → β → Prop) → Prop} (h' : ∀ b, Pk2 (H2 b)) : Pk2 (fun K => H1 (fun b => H2 b K)) := by
  obtain ⟨A, hA⟩ := h
  have h'' : ∃ B : δ → α → β → Prop, ∀ b K, H2 b K ↔ ∃ a c, B b a c ∧ K a c := ⟨fun b => (h' b).choose, fun b => (h' b).choose_spec⟩
  obtain ⟨B, hB⟩ := h''
  refine ⟨fun a c => ∃ b, A b ∧ B b a c, fun K => (hA _).trans ?_⟩
  constructor
  · rintro ⟨b, h1, h2⟩
    obtain ⟨a, c, h3, h4⟩ := (hB b K).1 h2
    exact ⟨a, c, ⟨b, h1, h3⟩, h4⟩
  · rintro ⟨a, c, ⟨b, h1, h3⟩, h4⟩
    exact ⟨b, h1, (hB b K).2 ⟨a, c, h3, h4⟩⟩
theorem pk2_ex {A : δ → Prop} {H : δ → (α → β → Prop) → Prop} (h : ∀ b, Pk2 (H b)) : Pk2 (fun K => ∃ b, A b ∧ H b K) :=
  pk2_bind (H1 := fun K => ∃ b, A b ∧ K b) ⟨A, fun K => Iff.rfl⟩ h
theorem pk_of2 {H : (α → Prop) → Prop} (h : Pk H) {g : α → ε} {b : β} : Pk2 (fun K : ε → β → Prop => H fun a => K (g a) b) := pk2_bind h fun a => pk2_ret _ _
/-- Two binders. -/
theorem pk2_bind2 {H1 : (δ → ε → Prop) → Prop} (h : Pk2 H1) {H2 : δ → ε → (α → β → Prop) → Prop} (h' : ∀ b c, Pk2 (H2 b c)) : Pk2 (fun K => H1 (fun b c => H2 b c K)) := by
  obtain ⟨A, hA⟩ := h
  have := pk2_bind (α := α) (β := β) (H1 := fun K : δ × ε → Prop => H1 fun b c => K (b, c)) ⟨fun p => A p.1 p.2, fun K => (hA _).trans ⟨fun ⟨a, b, h⟩ => ⟨(a, b), h⟩, fun ⟨⟨a, b⟩, h⟩ => ⟨a, b, h⟩⟩⟩ (H2 := fun p => H2 p.1 p.2) fun p => h' p.1 p.2
  exact this
theorem Pk2.pick {H : (α → β → Prop) → Prop} (h : Pk2 H) {K : α → β → Prop} (hk : H K) : ∃ a b, K a b ∧ H (fun a' b' => a' = a ∧ b' = b) := by
  obtain ⟨A, hA⟩ := h
  obtain ⟨a, b, h1, h2⟩ := (hA K).1 hk
  exact ⟨a, b, h2, (hA _).2 ⟨a, b, h1, rfl, rfl⟩⟩
end

theorem pk_asSc (x : X) : Pk (fun K => asSc x K) := ⟨fun v => x = .c (.y (.sc v)), fun K => asSc_iff⟩
theorem pk_asI (x : X) : Pk (fun K => asI x K) := ⟨fun n => ∃ k, x = .c (.y (.sc (.int k n))), fun K => asI_iff.trans ⟨fun ⟨k, n, h, h'⟩ => ⟨n, ⟨k, h⟩, h'⟩, fun ⟨n, ⟨k, h⟩, h'⟩ => ⟨k, n, h, h'⟩⟩⟩
theorem pk_asB (x : X) : Pk (fun K => asB x K) := ⟨fun v => x = .c (.y (.sc (.bool v))), fun K => asB_iff⟩
theorem pk_asC (x : X) : Pk (fun K => asC x K) := ⟨fun v => x = .c v, fun K => asC_iff⟩
theorem pk_boxAt (o : Look) (k : Nat) : Pk (fun K => boxAt o k K) := ⟨fun cs => o k = some (.bx cs), fun K => boxAt_iff⟩
theorem pk_rowAt (o : Look) (k : Nat) : Pk2 (fun K => rowAt o k K) := ⟨fun es xs => o k = some (.ar es xs), fun K => rowAt_iff⟩
theorem pk_nth {α : Type} (l : List α) (n : Nat) : Pk (fun K => nth l n K) := ⟨fun x => l[n]? = some x, fun K => nth_iff⟩
theorem pk_takeN {α : Type} (n : Nat) (l : List α) : Pk (fun K => takeN n l K) := ⟨fun x => n ≤ l.length ∧ x = l.take n, fun K => takeN_iff.trans ⟨fun ⟨h1, h2⟩ => ⟨_, ⟨h1, rfl⟩, h2⟩, fun ⟨a, ⟨h1, h2⟩, h3⟩ => ⟨h1, by rw [← h2]; exact h3⟩⟩⟩

theorem pk_vInt (op : BinOp) (k : IntKind) (a b : Int) : Pk (fun K => vInt prims op k a b K) := by
  cases op <;> simp only [vInt] <;> first | exact pk_ret _ | exact pk_false | exact pk_brk pk_false (pk_ret _) | exact pk_br (pk_ret _) (pk_ret _)
theorem pk_vStr (op : BinOp) (a b : ByteArray) : Pk (fun K => vStr prims op a b K) := by
  cases op <;> simp only [vStr] <;> first | exact pk_ret _ | exact pk_false | exact pk_chk (pk_ret _) | exact pk_br (pk_ret _) (pk_ret _)
theorem pk_isEql (op : BinOp) {H H' : (X → List (Nat × Ob) → Prop) → Prop} (h : Pk2 H) (h' : Pk2 H') : Pk2 (fun K => isEql op (fun _ => H K) (fun _ => H' K)) := by
  cases op <;> simp only [isEql] <;> first | exact h | exact h' | exact pk2_false
theorem pk_isEqlV (op : BinOp) (a b : Value) : Pk (fun K => isEql op (fun _ => K a) (fun _ => K b)) := by
  cases op <;> simp only [isEql] <;> first | exact pk_ret _ | exact pk_false
theorem pk_vBool (op : BinOp) (a b : Bool) : Pk (fun K => vBool prims op a b K) := by
  cases op <;> simp only [vBool] <;> first | exact pk_false | exact pk_br (pk_ret _) (pk_ret _)
theorem pk_vBin (tb tp : Bool) (op : BinOp) (a b : Value) : Pk (fun K => vBin prims tb tp op a b K) := by
  cases a <;> try exact pk_false
  case int j a =>
    cases b <;> try exact pk_false
    cases op <;> simp only [vBin] <;> first | exact pk_brk pk_false (pk_ret _) | exact pk_chk (pk_vInt _ _ _ _)
  case string a =>
    cases b <;> first | exact pk_false | exact pk_vStr _ _ _
  case bool a =>
    cases b <;> first | exact pk_false | exact pk_chk (pk_vBool _ _ _)
  case pointer a =>
    cases a <;> try exact pk_false
    cases b <;> try exact pk_false
    rename_i b
    cases b <;> first | exact pk_false | exact pk_chk (pk_isEqlV _ _ _)
theorem pk_eqSc (k : Nat) (a b : Value) : Pk (fun K => eqSc prims k a b K) := by
  cases a <;> try exact pk_false
  all_goals cases b <;> first | exact pk_false | exact pk_chk (pk_chk (pk_ret _)) | exact pk_chk (pk_ret _)
theorem pk_unSc (c : C) : Pk (fun K => unSc c K) := by
  cases c <;> try exact pk_false
  rename_i c
  cases c <;> first | exact pk_false | exact pk_ret _
theorem pk_eqCells : ∀ (ks : List Nat) (a b : List C), Pk (fun K => eqCells prims ks a b K)
  | [], [], [] => pk_ret true
  | k :: ks, a :: r, b :: q => pk_bind (pk_unSc a) fun u => pk_bind (pk_unSc b) fun v => pk_bind (pk_eqSc k u v) fun t => pk_br (pk_eqCells ks r q) (pk_ret false)
  | [], [], _ :: _ => pk_false
  | [], _ :: _, _ => pk_false
  | _ :: _, [], _ => pk_false
  | _ :: _, _ :: _, [] => pk_false
theorem pk_qBin (op : BinOp) (t : TypeId) (a b : X) : Pk2 (fun K : QK => qBin prims T o op t a b fun x => K x []) := by
  cases a with
  | tup l => exact pk2_false
  | c a =>
    cases b with
    | tup l => exact pk2_false
    | agg l => exact pk2_false
    | c b =>
      simp only [qBin]
      cases a.isPtr o
      · cases b.isPtr o
        · exact pk2_bind (pk_asSc _) fun u => pk2_bind (pk_asSc _) fun v => pk2_bind (pk_vBin _ _ _ _ _) fun r => pk2_ret _ _
        · exact pk2_chk (pk2_chk (pk_isEql _ (pk2_ret _ _) (pk2_ret _ _)))
      · exact pk2_chk (pk2_chk (pk_isEql _ (pk2_ret _ _) (pk2_ret _ _)))
  | agg a =>
    cases b with
    | tup l => exact pk2_false
    | c l => exact pk2_false
    | agg b =>
      simp only [qBin]
      cases (T.at t).cmp with
      | none => exact pk2_false
      | some ks => exact pk_isEql _ (pk2_bind (pk_eqCells _ _ _) fun t => pk2_ret _ _) (pk2_bind (pk_eqCells _ _ _) fun t => pk2_br (pk2_ret _ _) (pk2_ret _ _))
theorem pk_qUn (op : UnOp) (x : X) : Pk2 (fun K : QK => qUn prims op x fun x => K x []) := by
  refine pk2_bind (pk_asSc x) fun v => ?_
  cases op <;> simp only <;> first | exact pk2_false | (cases v <;> first | exact pk2_false | exact pk2_ret _ _ | exact pk2_br (pk2_ret _ _) (pk2_ret _ _))
theorem pk_elems (o : Look) (c : C) : Pk2 (fun K => elems prims o c K) := by
  cases c <;> try exact pk2_false
  case y c => cases c <;> first | exact pk2_false | exact pk2_ret _ _
  case mt es => exact pk2_ret _ _
  case aw k => exact pk_rowAt o k
  case as k lo n => exact pk2_bind2 (pk_rowAt o k) fun es xs => pk2_ret _ _
theorem pk_bind2 {α δ ε : Type} {H1 : (δ → ε → Prop) → Prop} (h : Pk2 H1) {H2 : δ → ε → (α → Prop) → Prop} (h' : ∀ b c, Pk (H2 b c)) : Pk (fun K => H1 (fun b c => H2 b c K)) := by
  obtain ⟨A, hA⟩ := h
  have := pk_bind (α := α) (H1 := fun K : δ × ε → Prop => H1 fun b c => K (b, c)) ⟨fun p => A p.1 p.2, fun K => (hA _).trans ⟨fun ⟨a, b, h⟩ => ⟨(a, b), h⟩, fun ⟨⟨a, b⟩, h⟩ => ⟨a, b, h⟩⟩⟩ (H2 := fun p => H2 p.1 p.2) fun p => h' p.1 p.2
  exact this
theorem pk_viewC (o : Look) (c : C) : Pk (fun K => viewC prims o c K) := by
  cases c <;> try exact pk_false
  case y c => exact pk_ret _
  case mt es => exact pk_ret _
  case aw k => exact pk_bind2 (pk_rowAt o k) fun es xs => pk_ret _
  case as k lo n => exact pk_bind2 (pk_rowAt o k) fun es xs => pk_ret _
theorem pk_viewCs (o : Look) : ∀ cs : List C, Pk (fun K => viewCs prims o cs K)
  | [] => pk_ret _
  | c :: cs => pk_bind (pk_viewC o c) fun y => pk_bind (pk_viewCs o cs) fun ys => pk_ret _
theorem pk_plainC (c : C) : Pk (fun K => plainC c K) := by
  cases c <;> first | exact pk_false | exact pk_ret _
theorem pk_plainCs : ∀ cs : List C, Pk (fun K => plainCs cs K)
  | [] => pk_ret _
  | c :: cs => pk_bind (pk_plainC c) fun y => pk_bind (pk_plainCs cs) fun ys => pk_ret _
theorem pk_buildCells (fs : List (Nat × Nat × Bool)) : ∀ (cs : List C) (ps : List (Nat × X)), Pk (fun K => buildCells fs cs ps K)
  | cs, [] => pk_ret _
  | cs, (f, x) :: r => pk_brk pk_false <| pk_brk pk_false <| pk_bind (pk_nth fs f) fun fl => pk_chk (pk_chk (pk_buildCells fs _ r))
theorem pk_buildElems (es : Nat) : ∀ (i : Nat) (ps : List (Nat × X)), Pk (fun K => buildElems es i ps K)
  | i, [] => pk_ret _
  | i, (j, x) :: r => pk_chk <| pk_chk <| pk_chk <| pk_bind (pk_plainCs _) fun ys => pk_chk <| pk_bind (pk_buildElems es (i + 1) r) fun l => pk_ret _
theorem pk_qAlloc (d t : Nat) : Pk2 (fun K => qAlloc T d t K) := by
  simp only [qAlloc]
  split <;> exact pk2_chk (pk2_chk (pk2_ret _ _))
theorem pk_qBox (d : Nat) (x : X) : Pk2 (fun K => qBox d x K) := by
  cases x <;> simp only [qBox]
  case tup l => exact pk2_false
  all_goals exact pk2_brk pk2_false (pk2_chk (pk2_chk (pk2_ret _ _)))
theorem pk_qBuild (t : Nat) (ps : List (Nat × X)) : Pk2 (fun K => qBuild T t ps K) := pk2_brk pk2_false <| pk2_chk <| pk2_chk <| pk2_bind (pk_buildCells _ _ _) fun cs => pk2_ret _ _
theorem pk_qBuildSlice (d t n : Nat) (ps : List (Nat × X)) : Pk2 (fun K => qBuildSlice T d t n ps K) := by
  unfold qBuildSlice
  cases (T.at t).el with
  | none => exact pk2_false
  | some e =>
    cases n with
    | zero => cases ps <;> first | exact pk2_false | exact pk2_ret _ _
    | succ n => exact pk2_chk <| pk2_chk <| pk2_chk <| pk2_bind (pk_buildElems _ _ _) fun l => pk2_ret _ _
theorem pk_qLoad (t : TypeId) (x : X) : Pk2 (fun K => qLoad T o t x K) := by
  refine pk2_chk <| pk2_bind (pk_asC x) fun a => ?_
  have fin : ∀ cs : List C, Pk2 (fun K : QK => match (T.at t).agg with
      | true => K (.agg cs) []
      | false => match cs with
        | [] => False
        | c :: r => match r with
          | [] => K (.c c) []
          | _ => False) := fun cs => by
    cases (T.at t).agg
    · cases cs with
      | nil => exact pk2_false
      | cons c r => cases r <;> first | exact pk2_false | exact pk2_ret _ _
    · exact pk2_ret _ _
  cases a <;> try exact pk2_false
  case pb k j => exact pk2_bind (pk_boxAt o k) fun cs => pk2_bind (pk_takeN _ _) fun l => fin l
  case pr k i j => exact pk2_bind2 (pk_rowAt o k) fun es xs => pk2_ex fun x => pk2_bind (pk_takeN _ _) fun l => fin (mapY l)
  case rp cs => exact pk2_bind (pk_takeN _ _) fun l => fin (mapY l)
theorem pk_qNilCheck (x : X) : Pk2 (fun K => qNilCheck o x K) := by
  refine pk2_bind (pk_asC x) fun a => ?_
  cases orb (a.isPtr o) a.isFn
  · refine pk2_bind (pk_asSc x) fun v => ?_
    cases v <;> try exact pk2_false
    rename_i f a b
    cases f <;> first | exact pk2_false | exact pk2_ret _ _
  · exact pk2_ret _ _
theorem pk_qFieldAddr (s f : Nat) (x : X) : Pk2 (fun K => qFieldAddr T o s f x K) := by
  refine pk2_bind (pk_nth _ _) fun fl => pk2_brk pk2_false <| pk2_bind (pk_asC x) fun a => ?_
  cases a <;> try exact pk2_false
  case pb k j => exact pk2_bind (pk_boxAt o k) fun _ => pk2_ret _ _
  case pr k i j => exact pk2_bind2 (pk_rowAt o k) fun _ _ => pk2_ret _ _
  case rp cs => exact pk2_ret _ _
theorem pk_qField (t f : Nat) (x : X) : Pk2 (fun K => qField T t f x K) := by
  cases x <;> try exact pk2_false
  refine pk2_bind (pk_nth _ _) fun fl => ?_
  cases fl.2.2
  · exact pk2_bind (pk_nth _ _) fun c => pk2_ret _ _
  · exact pk2_bind (pk_takeN _ _) fun c => pk2_ret _ _
theorem pk_qIndexAddr (t : TypeId) (x i : X) : Pk2 (fun K => qIndexAddr prims T o t x i K) := by
  unfold qIndexAddr
  cases (T.at t).el with
  | none => exact pk2_false
  | some e =>
    refine pk2_bind (pk_asI i) fun i => pk2_bind (pk_asC x) fun a => ?_
    cases a <;> try exact pk2_false
    case y c => cases c <;> first | exact pk2_false | exact pk2_chk (pk2_ex fun x => pk2_ret _ _)
    case aw k => exact pk2_bind2 (pk_rowAt o k) fun es xs => pk2_chk <| pk2_chk <| pk2_chk <| pk2_ret _ _
    case as k lo n => exact pk2_bind2 (pk_rowAt o k) fun es xs => pk2_chk <| pk2_chk <| pk2_chk <| pk2_ret _ _
theorem pk_cut (len : Int) (lo hi : Option X) : Pk2 (fun K => cut prims len lo hi K) := by
  cases lo <;> cases hi <;> simp only [cut]
  · exact pk2_ret _ _
  · exact pk2_bind (pk_asI _) fun h => pk2_chk (pk2_chk (pk2_ret _ _))
  · exact pk2_bind (pk_asI _) fun h => pk2_chk (pk2_chk (pk2_ret _ _))
  · exact pk2_bind (pk_asI _) fun l => pk2_bind (pk_asI _) fun h => pk2_chk (pk2_chk (pk2_chk (pk2_ret _ _)))
theorem pk_qSliceZ (t : TypeId) (x : X) (lo hi mx : Option X) : Pk2 (fun K => qSliceZ T o t x lo hi mx K) := by
  simp only [qSliceZ]
  cases (T.at t).el with
  | none => exact pk2_false
  | some e =>
    refine pk2_chk (pk2_chk (pk2_chk (pk2_bind (pk_asC x) fun a => ?_)))
    cases a <;> try exact pk2_false
    case y c => cases c <;> first | exact pk2_false | exact pk2_ret _ _
    case mt es => exact pk2_ret _ _
    case aw k => exact pk2_bind2 (pk_rowAt _ _) fun _ _ => pk2_ret _ _
    case as k lo n => exact pk2_bind2 (pk_rowAt _ _) fun _ _ => pk2_ret _ _
theorem pk_qSlice (t : TypeId) (x : X) (lo hi : Option X) : Pk2 (fun K => qSlice prims T o t x lo hi K) := by
  refine pk2_bind (pk_asC x) fun a => ?_
  cases a <;> try exact pk2_false
  case y c =>
    cases c with
    | sl es xs =>
      simp only
      cases (T.at t).el with
      | none => exact pk2_false
      | some e => exact pk2_chk (pk2_bind2 (pk_cut _ _ _) fun b c => pk2_ret _ _)
    | sc v => cases v <;> first | exact pk2_false | exact pk2_chk (pk2_bind2 (pk_cut _ _ _) fun b c => pk2_ret _ _)
  case mt es =>
    simp only
    cases (T.at t).el with
    | none => exact pk2_false
    | some e => exact pk2_bind2 (pk_cut _ _ _) fun b c => pk2_ret _ _
  case aw k =>
    simp only
    cases (T.at t).el with
    | none => exact pk2_false
    | some e => exact pk2_bind2 (pk_rowAt o k) fun es xs => pk2_chk (pk2_bind2 (pk_cut _ _ _) fun b c => pk2_ret _ _)
  case as k l n =>
    simp only
    cases (T.at t).el with
    | none => exact pk2_false
    | some e => exact pk2_bind2 (pk_rowAt o k) fun es xs => pk2_chk (pk2_bind2 (pk_cut _ _ _) fun b c => pk2_ret _ _)
theorem pk_qExtract (i : Nat) (x : X) : Pk2 (fun K => qExtract i x K) := by
  cases x <;> try exact pk2_false
  refine pk2_bind (pk_nth _ _) fun v => ?_
  obtain ⟨b, l⟩ := v
  cases b
  · cases l with
    | nil => exact pk2_false
    | cons c r => cases r <;> first | exact pk2_false | exact pk2_ret _ _
  · exact pk2_ret _ _
theorem pk_boxKeys : ∀ xs : List X, Pk (fun K => boxKeys xs K)
  | [] => pk_ret _
  | x :: xs => pk_bind (pk_asC x) fun a => by
    cases a <;> try exact pk_false
    rename_i k j
    cases j <;> first | exact pk_false | exact pk_bind (pk_boxKeys xs) fun l => pk_ret _
theorem pk_qMakeFunc (f : FuncId) (xs : List X) : Pk2 (fun K => qMakeFunc f xs K) := by
  cases xs with
  | nil => exact pk2_ret _ _
  | cons x xs => exact pk2_bind (pk_boxKeys _) fun ks => pk2_ret _ _
theorem pk_qMakeSlice (d t : Nat) (n c : X) : Pk2 (fun K => qMakeSlice prims T d t n c K) := by
  unfold qMakeSlice
  cases (T.at t).el with
  | none => exact pk2_false
  | some e => exact pk2_bind (pk_asI _) fun n => pk2_bind (pk_asI _) fun c => pk2_chk <| pk2_chk <| pk2_chk <| pk2_chk <| pk2_chk <| pk2_chk <| pk2_bind (pk_plainCs _) fun ys => pk2_chk (pk2_ret _ _)
theorem pk_qConvert (d t u : Nat) (x : X) : Pk2 (fun K => qConvert prims T o d t u x K) := by
  refine pk2_chk <| pk2_bind (pk_asC x) fun a => ?_
  have gen : ∀ a : C, Pk2 (fun K : QK => match (T.at t).el with
    | some e => chk e.2.2.2 (chk (T.at u).str (elems prims o a fun es xs => chk (eqN es 1) (∃ b, BytesOf xs b ∧ K (sc (.string b)) [])))
    | none => False) := fun a => by
    cases (T.at t).el with
    | none => exact pk2_false
    | some e => exact pk2_chk <| pk2_chk <| pk2_bind2 (pk_elems o a) fun es xs => pk2_chk <| pk2_ex fun b => pk2_ret _ _
  cases a
  case y c =>
    cases c with
    | sl es xs =>
      simp only
      cases (T.at t).el with
      | none => exact pk2_false
      | some e => exact pk2_chk <| pk2_chk <| pk2_chk <| pk2_ex fun b => pk2_ret _ _
    | sc v =>
      cases v <;> try exact pk2_false
      case int k n =>
        simp only
        cases (T.at u).ik with
        | none => exact pk2_false
        | some k => exact pk2_ret _ _
      case string b =>
        simp only
        cases (T.at t).str
        · exact pk2_false
        · cases (T.at u).el with
          | none => exact pk2_chk (pk2_ret _ _)
          | some e => exact pk2_chk (pk2_chk (pk2_ret _ _))
  all_goals exact gen _
theorem pk_qIndex (t : TypeId) (x i : X) : Pk2 (fun K => qIndex prims T t x i K) := by
  refine pk2_bind (pk_asI i) fun i => pk2_bind (pk_asSc x) fun v => ?_
  cases v <;> first | exact pk2_false | exact pk2_chk <| pk2_chk <| pk2_chk <| pk2_ret _ _
theorem pk_qLen (t : TypeId) (x : X) : Pk2 (fun K => qLen prims T o t x K) := by
  refine pk2_bind (pk_asC x) fun a => ?_
  cases a <;> try exact pk2_false
  case y c =>
    cases c with
    | sl es xs =>
      simp only
      cases (T.at t).el <;> first | exact pk2_false | exact pk2_ret _ _
    | sc v => cases v <;> first | exact pk2_false | exact pk2_chk (pk2_ret _ _)
  case mt es =>
    simp only
    cases (T.at t).el <;> first | exact pk2_false | exact pk2_ret _ _
  case aw k =>
    simp only
    cases (T.at t).el <;> first | exact pk2_false | exact pk2_bind2 (pk_rowAt o k) fun es xs => pk2_ret _ _
  case as k l n =>
    simp only
    cases (T.at t).el <;> first | exact pk2_false | exact pk2_bind2 (pk_rowAt o k) fun es xs => pk2_ret _ _
theorem pk_qMinMax (mx : Bool) (x z : X) : Pk2 (fun K => qMinMax prims mx x z K) := by
  refine pk2_bind (pk_asSc x) fun u => pk2_bind (pk_asSc z) fun v => ?_
  cases u <;> try exact pk2_false
  cases v <;> try exact pk2_false
  cases mx <;> exact pk2_chk (pk2_ret _ _)
theorem pk_source (t : TypeId) (c : C) : Pk2 (fun K => source prims T o t c K) := by
  have gen : ∀ a : C, Pk2 (fun K : Nat → List (List Y) → Prop => match (T.at t).el with
    | some _ => elems prims o a K
    | none => False) := fun a => by
    cases (T.at t).el <;> first | exact pk2_false | exact pk_elems o a
  cases c
  case y c =>
    cases c with
    | sl es xs =>
      simp only [source]
      cases (T.at t).el <;> first | exact pk2_false | exact pk2_ret _ _
    | sc v => cases v <;> first | exact pk2_false | exact pk2_chk (pk2_ret _ _)
  all_goals exact gen _
theorem pk_qAppend (d : Nat) (t u : TypeId) (x z : X) : Pk2 (fun K => qAppend prims T o d t u x z K) := by
  unfold qAppend
  cases (T.at t).el with
  | none => exact pk2_false
  | some e =>
    refine pk2_bind (pk_asC x) fun a => pk2_bind (pk_asC z) fun b => ?_
    cases a <;> try exact pk2_false
    exact pk2_bind2 (pk_source _ _) fun es xs => pk2_chk <| pk2_chk <| pk2_chk <| pk2_chk <| pk2_ret _ _
theorem pk_capsV (o : Look) : ∀ ks : List Nat, Pk (fun K => capsV prims o ks K)
  | [] => pk_ret _
  | k :: ks => pk_bind (pk_boxAt o k) fun cs => pk_bind (pk_viewCs o cs) fun ys => pk_bind (pk_capsV o ks) fun l => pk_ret _
theorem pk_viewA (o : Look) (x : X) : Pk (fun K => viewA prims o x K) := by
  cases x with
  | tup l => exact pk_false
  | agg cs => exact pk_bind (pk_viewCs o cs) fun ys => pk_ret _
  | c a =>
    cases a
    case rp cs => exact pk_ret _
    case fn f caps => exact pk_bind (pk_capsV o caps) fun l => pk_ret _
    case fv f caps => exact pk_ret _
    all_goals
      simp only [viewA]
      exact pk_bind (pk_viewC o _) fun y => pk_ret (A.c (.y y))
theorem pk_viewAs (o : Look) : ∀ xs : List X, Pk (fun K => viewAs prims o xs K)
  | [] => pk_ret _
  | x :: xs => pk_bind (pk_viewA o x) fun y => pk_bind (pk_viewAs o xs) fun ys => pk_ret _
theorem pk_qCall (Ca : Contract) (d : Nat) (f : FuncId) (xs : List X) : Pk2 (fun K => qCall prims Ca o d f xs K) :=
  pk2_bind (pk_viewAs o xs) fun as => pk2_chk <| pk2_ex fun q => by
    cases q with
    | one r => exact pk2_chk <| pk2_plainOr <| pk2_chk <| pk2_ret _ _
    | many Q => exact pk2_false
theorem pk_qcall (Ca : Contract) (d : Nat) (c : Call) : Pk2 (fun K => qcall prims T Ca s o d c K) := by
  obtain ⟨callee, args, ats⟩ := c
  simp only [qcall]
  cases callee with
  | invoke _ _ => exact pk2_false
  | value h =>
    refine pk2_bind (pk_asC _) fun a => ?_
    cases a <;> try exact pk2_false
    rename_i c
    cases c <;> try exact pk2_false
    rename_i v
    cases v <;> try exact pk2_false
    rename_i f u v
    cases f <;> try exact pk2_false
    exact pk2_chk <| pk2_chk <| pk_qCall _ _ _ _
  | builtin b =>
    simp only
    cases ats.toList with
    | nil => exact pk2_false
    | cons t ts =>
      simp only
      cases opds T s (t :: ts) args.toList with
      | nil => exact pk2_false
      | cons x r =>
        cases b <;> try exact pk2_false
        case len => exact pk_qLen _ _
        case append =>
          cases ts with
          | nil => exact pk2_false
          | cons u ts => cases r with
            | nil => exact pk2_false
            | cons z r => exact pk2_chk <| pk2_chk <| pk_qAppend _ _ _ _ _
        case min => cases r with
          | nil => exact pk2_false
          | cons z r => exact pk2_chk <| pk_qMinMax _ _ _
        case max => cases r with
          | nil => exact pk2_false
          | cons z r => exact pk2_chk <| pk_qMinMax _ _ _
theorem pk_qcore (Ca : Contract) (d : Nat) (op : Op) (ty : TypeId) : Pk2 (fun K => qcore prims T Ca s o d op ty K) := by
  cases op <;> simp only [qcore] <;> try exact pk2_false
  case move x => exact pk2_ret _ _
  case assign x =>
    refine pk2_chk ?_
    cases opd T s ty x with
    | agg cs => exact pk2_false
    | tup cs => exact pk2_false
    | c c => cases c <;> exact pk2_ret _ _
  case pick c x y => exact pk2_bind (pk_asB _) fun t => pk2_br (pk2_ret _ _) (pk2_ret _ _)
  case alloc t => exact pk_qAlloc _ _
  case box t x => exact pk_qBox _ _
  case build t ps => exact pk_qBuild _ _
  case buildSlice t n ps => exact pk_qBuildSlice _ _ _ _
  case load t a => exact pk_qLoad _ _
  case nilCheck x => exact pk_qNilCheck _
  case binOp => exact pk_qBin _ _ _ _
  case unOp => exact pk_qUn _ _
  case convert => exact pk_qConvert _ _ _ _
  case makeFunc fn first caps => cases fn <;> first | exact pk2_false | exact pk2_chk (pk_qMakeFunc _ _)
  case makeSlice => exact pk_qMakeSlice _ _ _ _
  case slice t x lo hi mx => cases mx <;> first | exact pk_qSlice _ _ _ _ | exact pk_qSliceZ _ _ _ _ _
  case fieldAddr => exact pk_qFieldAddr _ _ _
  case field => exact pk_qField _ _ _
  case indexAddr => exact pk_qIndexAddr _ _ _
  case index => exact pk_qIndex _ _ _
  case extract => exact pk_qExtract _ _
  case call c => exact pk_qcall _ _ _
end Go.Proofs.YthaelohccopgjaaW
