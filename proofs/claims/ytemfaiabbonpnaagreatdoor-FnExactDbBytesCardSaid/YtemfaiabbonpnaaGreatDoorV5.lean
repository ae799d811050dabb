/- An evaluator of loaded code by value, and the proof that what it shows holds of calls; part 5. Conditions: the program draws orders in the mixed way, and the table of types is as the program has it. -/
import Derived.Test.YtemfaiabbonpnaaGreatDoorV4
import Derived.Shelf.Strings.BuilderF
set_option linter.unusedVariables false
set_option linter.unusedSimpArgs false
set_option linter.unnecessarySimpa false
/- Aids for functions: strings.Builder's methods, off the kit's shelf, as contracts of the evaluator. -/
namespace Go.Proofs.YtemfaiabbonpnaaGreatDoorW
open Go.Shelf Go.RowKit Go.Proofs
variable {P : Program} {ρ : Ren}

/-- A buffer: nil, or a row of bytes of its own. -/
def RowB (w : World) (e : TypeId) (r : Value) (s : ByteArray) (lb : List Nat) : Prop :=
  (r = .slice none 0 0 ∧ s.size = 0 ∧ lb = []) ∨ ∃ g cap cur fz, r = .slice (some ⟨g, 0, none⟩) s.size cap ∧ lb = [g] ∧ w.heap[g]? = some (.cells cur e fz) ∧
    fz.2 ≤ s.size ∧ s.size ≤ cap ∧ cap ≤ maxLen ∧ cur.size = cap ∧ cur.toList.take s.size = bytesV s
theorem rop_bd {w : World} {v : Value} {l : List Nat} {t e : TypeId} {s : ByteArray} : ROp w v l (.bd t e s) ↔
    ∃ b p r lb, v = .pointer (some ⟨b, 0, none⟩) ∧ (p = .pointer none ∨ p = .pointer (some ⟨b, 0, none⟩)) ∧ w.heap[b]? = some (.cells #[p, r] t (0, 0)) ∧ l = b :: lb ∧ RowB w e r s lb := by
  constructor
  · rintro ⟨b, p, r, h1, h2, h3, h4 | ⟨g, cap, cur, fz, h4, h5, h6⟩⟩
    · exact ⟨b, p, r, [], h1, h2, h3, h4.2.2, .inl ⟨h4.1, h4.2.1, rfl⟩⟩
    · exact ⟨b, p, r, [g], h1, h2, h3, h5, .inr ⟨g, cap, cur, fz, h4, rfl, h6⟩⟩
  · rintro ⟨b, p, r, lb, h1, h2, h3, rfl, ⟨h4, h5, rfl⟩ | ⟨g, cap, cur, fz, h4, rfl, h6⟩⟩
    · exact ⟨b, p, r, h1, h2, h3, .inl ⟨h4, h5, rfl⟩⟩
    · exact ⟨b, p, r, h1, h2, h3, .inr ⟨g, cap, cur, fz, h4, rfl, h6⟩⟩
theorem RowB.keep {w w' : World} {e : TypeId} {r : Value} {s : ByteArray} {lb : List Nat} (h : RowB w e r s lb) (hk : ∀ g ∈ lb, w'.heap[g]? = w.heap[g]?) : RowB w' e r s lb := by
  rcases h with h | ⟨g, cap, cur, fz, h1, rfl, h2, h3⟩
  · exact .inl h
  · exact .inr ⟨g, cap, cur, fz, h1, rfl, by rw [hk g (.head _)]; exact h2, h3⟩
theorem bytesV_append (s t : ByteArray) : bytesV (s ++ t) = bytesV s ++ bytesV t := by
  simp [bytesV, ByteArray.data_append]
theorem bytesV_length (s : ByteArray) : (bytesV s).length = s.size := by simp [bytesV]
/-- A text appended to a buffer. -/
theorem append_buf {w : World} {t u ty e : TypeId} {i : TypeInfo} (ht : P.underlying t = some (.slice e)) (hu : P.underlying u = some .string) (hi : P.info? e = some i) (hz : i.zero = some (.int .u8 0))
    (hsize : i.size = 1) (hby : i.bytes = 1) {r : Value} {s s2 : ByteArray} {lb : List Nat} (h : RowB w e r s lb) (h63 : s.size + s2.size ≤ maxLen) (hlen : s.size + s2.size ≤ 140737488355328) :
    ∃ r' w' lb', (Builtin.append_ #[t, u] ty #[r, .string s2]).run P w = .ok r' w' ∧ RowB w' e r' (s ++ s2) lb' ∧ Fr (fun b => b ∈ lb) w w' ∧ (∀ g ∈ lb', (g ∈ lb ∨ w.heap.size ≤ g) ∧ g < w'.heap.size) ∧ lb'.length ≤ 1 := by
  have hsz : (s ++ s2).size = s.size + s2.size := ByteArray.size_append
  rcases h with ⟨rfl, h0, rfl⟩ | ⟨g, cap, cur, fz, rfl, rfl, hg, hfz, hnc, hcm, hcs, htake⟩
  · obtain ⟨v', w', h1, h2, h3, h4⟩ := Lib.run_append_own_stringF (P := P) (w := w) w.heap.size t u ty e i ht hu hi hz hsize hby (.slice none 0 0) 0 [] ⟨rfl, .inl ⟨rfl, rfl⟩⟩ s2 (by omega) (by omega) (Nat.le_refl _)
    have hs0 : bytesV s = [] := List.eq_nil_of_length_eq_zero (by rw [bytesV_length]; exact h0)
    have hf : Fr (fun b => b ∈ ([] : List Nat)) w w' := ⟨h3.os, h3.tape, h3.output, h3.size, fun b hb _ => h3.block b hb (by simp [Value.ownBlock])⟩
    rcases h2.2 with ⟨rfl, h5⟩ | ⟨g, cap, cur, fz, rfl, hbg, hg, hfz, hnc, hcm, hcs, htake⟩
    · exact ⟨_, w', [], h1, .inl ⟨rfl, by omega, rfl⟩, hf, by simp, by simp⟩
    · simp only [Nat.zero_add, Nat.mul_one, List.nil_append] at *
      refine ⟨_, w', [g], h1, .inr ⟨g, cap, cur, fz, by rw [hsz, h0, Nat.zero_add], rfl, hg, by omega, by omega, hcm, hcs, ?_⟩, hf, ?_, by simp⟩
      · rw [hsz, h0, Nat.zero_add, htake, bytesV_append, hs0]; rfl
      · intro g' hg'
        obtain rfl : g' = g := by simpa using hg'
        refine ⟨.inr hbg, ?_⟩
        rcases Nat.lt_or_ge g' w'.heap.size with h' | h'
        · exact h'
        · simp [Array.getElem?_eq_none h'] at hg
  · by_cases hroom : s.size + s2.size ≤ cap
    · have hr := Lib.run_append_room_stringF (P := P) (w := w) t u ty e i ht hu hi hsize g s.size cap cur fz hg hfz s2 hroom (by omega)
      refine ⟨_, _, [g], hr, .inr ⟨g, cap, _, fz, by rw [hsz], rfl, setRow_heap w g cur _ e _ hg, by omega, by omega, hcm, ?_, ?_⟩, ⟨rfl, rfl, rfl, by simp, fun k _ hk => setRow_other w g k _ (fun e => hk (by simp [e]))⟩, ?_, by simp⟩
      · simp only [List.size_toArray, List.length_append, List.length_take, List.length_drop, Array.length_toList, Lib.strCells_length]
        omega
      · rw [hsz, bytesV_append, htake]
        have h1 : (bytesV s ++ Lib.strCells s2).length = s.size + s2.size := by rw [List.length_append, bytesV_length, Lib.strCells_length]
        rw [← h1]
        exact List.take_left
      · intro g' hg'
        obtain rfl : g' = g := by simpa using hg'
        refine ⟨.inl (by simp), ?_⟩
        rcases Nat.lt_or_ge g' w.heap.size with h' | h'
        · simpa using h'
        · simp [Array.getElem?_eq_none h'] at hg
    · have holds : ∀ j u, (bytesV s)[j]? = some u → w.cell? ((⟨g, 0, none⟩ : Addr).add j) = some u := fun j u hj => by
        rw [← htake, List.getElem?_take] at hj
        split at hj
        · rw [Addr.add_lit, Nat.zero_add, Lib.cell_of_heap hg]; simpa using hj
        · cases hj
      have hr := Lib.run_append_grow_string (P := P) (w := w) t u ty e i (.int .u8 0) ht hu hi hz ⟨g, 0, none⟩ s.size cap (bytesV s) (by rw [hsize, bytesV_length]; omega) holds s2 (by omega) (by simp only [maxLen] at h63; omega) (by rw [hby]; exact growslice_fits (by omega) (by omega))
      have hge := grownCap_ge w (s.size + s2.size) cap e
      have hcm2 : grownCap w (s.size + s2.size) cap e ≤ maxLen := grownCap_le_maxLen w (s.size + s2.size) cap e h63
      refine ⟨_, _, [w.heap.size], hr, .inr ⟨w.heap.size, _, _, (0, 0), by rw [hsz], rfl, heap_alloc_new w.drew _, Nat.zero_le _, by omega, hcm2, ?_, ?_⟩, ⟨rfl, rfl, rfl, by simp, fun k hk _ => heap_alloc_old w.drew _ hk⟩, ?_, by simp⟩
      · have hz1 : (Value.int IntKind.u8 0).cells.size = 1 := rfl
        simp only [Array.size_append, List.size_toArray, size_zeroCells, hz1, bytesV_length, Lib.strCells_length]
        omega
      · have h1 : (bytesV s ++ Lib.strCells s2).length = s.size + s2.size := by rw [List.length_append, bytesV_length, Lib.strCells_length]
        rw [hsz, bytesV_append]
        simp only [Array.toList_append, List.append_assoc]
        rw [← List.append_assoc, ← h1]
        exact List.take_left
      · intro g' hg'
        simp at hg'; subst hg'
        exact ⟨.inr (Nat.le_refl _), by simp⟩

/-- copyCheck, its world told. -/
theorem copyCheck_w (L : Lays.n240 P ρ) (X : Builder.X72 P ρ) {b : Nat} {p r : Value} {w : World} (hp : p = .pointer none ∨ p = .pointer (some ⟨b, 0, none⟩)) (hb : w.heap[b]? = some (.cells #[p, r] (ρ.t 72) (0, 0))) :
    Calls P (ρ.f 240) #[.pointer (some ⟨b, 0, none⟩)] w fun e w' => e = .returned (.tuple #[]) ∧ w'.heap[b]? = some (.cells #[.pointer (some ⟨b, 0, none⟩), r] (ρ.t 72) (0, 0)) ∧ Fr (fun x => x = b) w w' ∧ w'.heap.size = w.heap.size := by
  rcases hp with rfl | rfl
  · refine (Any.Builder_copyCheck_fresh L X b w (by rw [Lib.cell_of_heap hb]; rfl) (by simp [World.shape?, hb]) (Lib.frozen_of_heap hb 0)).mono ?_
    rintro e w' ⟨rfl, rfl⟩
    refine ⟨rfl, by simp [World.setCell, Array.getElem?_modify, hb], ⟨rfl, rfl, rfl, by simp, fun x _ hx => ?_⟩, by simp⟩
    simp [World.setCell, Array.getElem?_modify, Ne.symm hx]
  · refine (Any.Builder_copyCheck_used L X b w (by rw [Lib.cell_of_heap hb]; rfl)).mono ?_
    rintro e w' ⟨rfl, rfl⟩
    exact ⟨rfl, hb, Fr.refl _ _, rfl⟩

/-- A function that turns a whole, at plain arguments. -/
theorem iop_ok {f : FuncId} {fn : Func} {c : Code} {q q' : Opq} {ls : List Value} {rv : RV} {res : Value} (hf : P.funcs[f]? = some fn) (hb : fn.body = some c) (hname : (fn.name == "runtime.NumGoroutine") = false)
    (hres : ∃ Gr, blocks Gr = [] ∧ ∀ w S, RR w S res rv Gr)
    (h : ∀ w v l, l.Nodup → (∀ b ∈ l, b < w.heap.size) → ROp w v l q → Calls P f (v :: ls).toArray w fun e w' => e = .returned res ∧ ∃ l', l'.Nodup ∧ Fr (fun b => b ∈ l) w w' ∧ (∀ b ∈ l', (b ∈ l ∨ w.heap.size ≤ b) ∧ b < w'.heap.size) ∧ ROp w' v l' q') :
    CallOK P f (.iop q :: ls.map scA) ⟨rv, [[.op q']]⟩ where
  out w vs Gs S hra hS hnd hlt hl := by
    match vs, Gs, hra with
    | v :: vs, G :: Gs, hra =>
      obtain ⟨l, nd, rfl, hr⟩ := hra.1
      obtain ⟨rfl, h2, h3⟩ := ras_sc hra.2
      have hbk : blocks ([Gh.tr v l nd] :: Gs).flatten = l := by rw [List.flatten_cons, blocks_append, h2]; simp [blocks, Gh.bs]
      have hio : ioG (.iop q :: vs.map scA) ([Gh.tr v l nd] :: Gs) = [.op v] := by simp only [ioG, h3]
      have hioB : ioB (.iop q :: vs.map scA) ([Gh.tr v l nd] :: Gs) = [] := by rw [ioB, hio]; rfl
      rw [hbk] at hlt
      refine .inl ⟨⟨fn, c, hf, hb, hname⟩, (h w v l nd hlt hr).mono ?_⟩
      rintro e w' ⟨rfl, l', nd', hfr, hl', hr'⟩
      obtain ⟨Gr, hGr, hR⟩ := hres
      have hbo : blocks (Gr ++ [[Gh.tr v l' nd']].flatten) = l' := by rw [blocks_append, hGr]; simp [blocks, Gh.bs]
      refine ⟨res, Gr, [[.tr v l' nd']], rfl, by rw [hbk]; exact hfr, by rw [hbo, hioB, List.append_nil]; exact nd', by rw [hbo, hbk]; exact hl', hR _ _, ?_⟩
      rw [hio]
      exact ⟨⟨q', l', nd', rfl, rfl, hr'⟩, trivial⟩
    | [], [], hra => exact hra.elim
    | [], _ :: _, hra => exact hra.elim
    | _ :: _, [], hra => exact hra.elim

section
variable {ops : Array Oper} {rest : List Oper} {o : Oper} {a : Act} {Q : Exit → Act → World → Prop}
theorem wpList_append_buf {w : World} (hgd : o.guard = none) (sl x : Operand) (t u : TypeId) (ho : o.op = .call { callee := .builtin .append, args := #[sl, x], argTypes := #[t, u] })
    (e : TypeId) (i : TypeInfo) (ht : P.underlying t = some (.slice e)) (hu : P.underlying u = some .string) (hi : P.info? e = some i) (hz : i.zero = some (.int .u8 0)) (hsize : i.size = 1) (hby : i.bytes = 1)
    (r : Value) (s s2 : ByteArray) (lb : List Nat) (hs : a.eval sl = r) (hx : a.eval x = .string s2) (hr : RowB w e r s lb) (h63 : s.size + s2.size ≤ maxLen) (hlen : s.size + s2.size ≤ 140737488355328)
    (h : ∀ r' w' lb', RowB w' e r' (s ++ s2) lb' → Fr (fun b => b ∈ lb) w w' → (∀ g ∈ lb', (g ∈ lb ∨ w.heap.size ≤ g) ∧ g < w'.heap.size) → lb'.length ≤ 1 → wpList P ops Q rest (a.put o.dst r') w') : wpList P ops Q (o :: rest) a w := by
  refine wpList_plain hgd fun K hK => ?_
  obtain ⟨v', w', lb', hr, h2, h3, h4, h5⟩ := append_buf (P := P) (w := w) (ty := o.type) ht hu hi hz hsize hby hr h63 hlen
  unfold Oper.wp execOp
  simp only [ho, resolve, invoke, builtin, Sem.run_bind, Sem.run_pure, Result.andThen_ok, List.map_toArray, List.map_cons, List.map_nil, hs, hx, hr]
  exact hK _ _ (h v' w' lb' h2 h3 h4 h5)
end
set_option maxHeartbeats 2000000 in
set_option maxRecDepth 100000 in
theorem writeString_w (L : Lays.n166 P ρ) (X : Builder.Extra P ρ) {b : Nat} {p r : Value} {w : World} {s s2 : ByteArray} {lb : List Nat} (hp : p = .pointer none ∨ p = .pointer (some ⟨b, 0, none⟩)) (hb : w.heap[b]? = some (.cells #[p, r] (ρ.t 72) (0, 0)))
    (hr : RowB w (ρ.t 5) r s lb) (hnb : b ∉ lb) (hlen : s.size + s2.size ≤ 140737488355328) :
    Calls P (ρ.f 166) #[.pointer (some ⟨b, 0, none⟩), .string s2] w fun e w' => e = .returned (.tuple #[.int .i64 s2.size, .nilIface]) ∧
      ∃ r' lb', w'.heap[b]? = some (.cells #[.pointer (some ⟨b, 0, none⟩), r'] (ρ.t 72) (0, 0)) ∧ RowB w' (ρ.t 5) r' (s ++ s2) lb' ∧ Fr (fun x => x = b ∨ x ∈ lb) w w' ∧ (∀ g ∈ lb', (g ∈ lb ∨ w.heap.size ≤ g) ∧ g < w'.heap.size) ∧ lb'.length ≤ 1 := by
  obtain ⟨i0, hi, hz0, hz1, hz2⟩ := info_parts X.infoByte
  have mixed := L.mixed
  have t72 := L.t72; have a72 := L.a72; have z72 := L.z72; have v72 := L.v72; have u72 := run_underlying L.t72
  have t70 := L.t70; have a70 := L.a70; have z70 := L.z70; have v70 := L.v70; have u70 := run_underlying L.t70
  have t37 := L.t37; have a37 := L.a37; have z37 := L.z37; have v37 := L.v37; have u37 := run_underlying L.t37
  have t3 := L.t3; have a3 := L.a3; have z3 := L.z3; have v3 := L.v3; have u3 := run_underlying L.t3
  have t9 := L.t9; have a9 := L.a9; have z9 := L.z9; have v9 := L.v9; have u9 := run_underlying L.t9
  have t4 := L.t4; have a4 := L.a4; have z4 := L.z4; have v4 := L.v4; have u4 := run_underlying L.t4
  have t164 := L.t164; have a164 := L.a164; have z164 := L.z164; have v164 := L.v164; have u164 := run_underlying L.t164
  have t5 := X.t5; have a5 := X.a5; have z5 := X.z5; have v5 := X.v5; have u5 := run_underlying X.t5
  have e240 : ∀ args w, (callFunc (ρ.f 240) args).run P w = .ok (.enter (ρ.f 240) args) w := enters_of L.f240 (by kernel_rfl) rfl
  go_enter L.f166, Body.n166_ntmps ρ
  go_wp2_with (go_at_fn (ρ.f 240); refine (copyCheck_w { L with } X.toX72 hp hb).mono ?_)
  rintro e w1 ⟨rfl, hbk, hf1, hsz1⟩
  have hr1 : RowB w1 (ρ.t 5) r s lb := hr.keep fun g hg => hf1.block g (by
    rcases hr with ⟨_, _, rfl⟩ | ⟨g', cap, cur, fz, _, rfl, h2, _⟩
    · cases hg
    · obtain rfl : g = g' := by simpa using hg
      rcases Nat.lt_or_ge g w.heap.size with h' | h'
      · exact h'
      · simp [Array.getElem?_eq_none h'] at h2) fun e => hnb (e ▸ hg)
  have c0 : w1.cell? ⟨b, 0, none⟩ = some (.pointer (some ⟨b, 0, none⟩)) := by rw [Lib.cell_of_heap hbk]; rfl
  have c1 : w1.cell? ⟨b, 1, none⟩ = some r := by rw [Lib.cell_of_heap hbk]; rfl
  go_wp2_with (at_builtin; refine wpList_append_buf rfl _ _ (ρ.t 37) (ρ.t 9) rfl (ρ.t 5) i0 L.t37 L.t9 hi hz0 hz1 hz2 r s s2 lb rfl rfl hr1 (by unfold maxLen; omega) hlen ?_)
  intro r' w2 lb' hr' hf2 hl2 hn2
  have hlt : b < w1.heap.size := by
    rcases Nat.lt_or_ge b w1.heap.size with h' | h'
    · exact h'
    · simp [Array.getElem?_eq_none h'] at hbk
  have hb2 : w2.heap[b]? = some (.cells #[.pointer (some ⟨b, 0, none⟩), r] (ρ.t 72) (0, 0)) := by
    rw [hf2.block b hlt hnb]; exact hbk
  have d0 : w2.cell? ⟨b, 0, none⟩ = some (.pointer (some ⟨b, 0, none⟩)) := by rw [Lib.cell_of_heap hb2]; rfl
  have d1 : w2.cell? ⟨b, 1, none⟩ = some r := by rw [Lib.cell_of_heap hb2]; rfl
  have f1 : w2.frozen? ⟨b, 1, none⟩ = false := Lib.frozen_of_heap hb2 1
  obtain ⟨ao, n', cap, rfl⟩ : ∃ ao n' cap, r' = .slice ao n' cap := by
    rcases hr' with ⟨hv, _⟩ | ⟨g, cap, cur, fz, hv, _⟩
    · exact ⟨_, _, _, hv⟩
    · exact ⟨_, _, _, hv⟩
  have hb' : b ∉ lb' := fun hm => (hl2 b hm).1.elim hnb fun h => by omega
  go_wp2
  go_ret2
  refine ⟨rfl, .slice ao n' cap, lb', by simp [World.setCell, Array.getElem?_modify, hb2], hr'.keep fun g hg => ?_, ⟨?_, ?_, ?_, ?_, fun x hx hn => ?_⟩, fun g hg => ?_, hn2⟩
  · have : b ≠ g := fun e => hb' (e ▸ hg)
    simp [World.setCell, Array.getElem?_modify, this]
  · exact hf2.os.trans hf1.os
  · exact hf2.tape.trans hf1.tape
  · exact hf2.output.trans hf1.output
  · have := hf2.size; have := hf1.size; simp; omega
  · have h1 : ¬ x = b := fun e => hn (.inl e)
    have h2 : x ∉ lb := fun e => hn (.inr e)
    have : b ≠ x := fun e => h1 e.symm
    have h3 : (w2.setCell ⟨b, 1, none⟩ (.slice ao n' cap)).heap[x]? = w2.heap[x]? := by simp [World.setCell, Array.getElem?_modify, this]
    rw [h3, hf2.block x (by omega) h2, hf1.block x hx h1]
  · obtain ⟨h1, h2⟩ := hl2 g hg
    exact ⟨h1.imp id fun h => by omega, by simpa using h2⟩

theorem RowB.lt {w : World} {e : TypeId} {r : Value} {s : ByteArray} {lb : List Nat} (h : RowB w e r s lb) : lb.Nodup ∧ ∀ g ∈ lb, g < w.heap.size := by
  rcases h with ⟨_, _, rfl⟩ | ⟨g', cap, cur, fz, _, rfl, h2, _⟩
  · exact ⟨List.nodup_nil, by simp⟩
  · refine ⟨by simp, fun g hg => ?_⟩
    obtain rfl : g = g' := by simpa using hg
    rcases Nat.lt_or_ge g w.heap.size with h' | h'
    · exact h'
    · simp [Array.getElem?_eq_none h'] at h2
theorem writeString_ok (L : Lays.n166 P ρ) (X : Builder.Extra P ρ) {s s2 : ByteArray} (hlen : s.size + s2.size ≤ 140737488355328) :
    CallOK P (ρ.f 166) [.iop (.bd (ρ.t 72) (ρ.t 5) s), aS s2] ⟨.tup [(false, [.y (.sc (.int .i64 s2.size))]), (false, [.no])], [[.op (.bd (ρ.t 72) (ρ.t 5) (s ++ s2))]]⟩ := by
  refine iop_ok (ls := [.string s2]) L.f166 rfl (by kernel_rfl) (res := .tuple #[.int .i64 s2.size, .nilIface]) ⟨[.no, .no], rfl, fun w S => ⟨_, rfl, [.no], [.no], rfl, ⟨_, .no, rfl, rfl, rfl, Rep.sc _ rfl⟩, [.no], [], rfl, ⟨_, .no, rfl, rfl, rfl⟩, trivial⟩⟩ fun w v l nd hl hr => ?_
  obtain ⟨b, p, r, lb, rfl, hp, hb, rfl, hrow⟩ := rop_bd.1 hr
  have hnb := (List.nodup_cons.1 nd).1
  refine (writeString_w L X hp hb hrow hnb hlen).mono ?_
  rintro e w' ⟨rfl, r', lb', h1, h2, h3, h4, h5⟩
  have hlt := hl b (.head _)
  have hb' : b ∉ lb' := fun hm => (h4 b hm).1.elim hnb fun h => by omega
  refine ⟨rfl, b :: lb', List.nodup_cons.2 ⟨hb', h2.lt.1⟩, h3.mono fun x hx => by simpa using hx, fun x hx => ?_, rop_bd.2 ⟨b, _, r', lb', rfl, .inr rfl, h1, rfl, h2⟩⟩
  rcases List.mem_cons.1 hx with rfl | hx
  · exact ⟨.inl (.head _), Nat.lt_of_lt_of_le hlt h3.size⟩
  · exact ⟨(h4 x hx).1.imp (fun h => .tail _ h) id, (h4 x hx).2⟩

set_option maxHeartbeats 1000000 in
set_option maxRecDepth 100000 in
theorem string_w (L : Lays.n169 P ρ) (X : Builder.Extra P ρ) {b : Nat} {p r : Value} {w : World} {s : ByteArray} {lb : List Nat} (hb : w.heap[b]? = some (.cells #[p, r] (ρ.t 72) (0, 0)))
    (hr : RowB w (ρ.t 5) r s lb) (hnb : b ∉ lb) (hs : s.size ≠ 0) :
    Calls P (ρ.f 169) #[.pointer (some ⟨b, 0, none⟩)] w fun e w' => e = .returned (.string s) ∧ w'.heap[b]? = some (.cells #[p, r] (ρ.t 72) (0, 0)) ∧ RowB w' (ρ.t 5) r s lb ∧ Fr (fun x => x ∈ lb) w w' := by
  obtain ⟨g, cap, cur, fz, rfl, rfl, hg, hfz, hnc, hcm, hcs, htake⟩ : ∃ g cap cur fz, r = .slice (some ⟨g, 0, none⟩) s.size cap ∧ lb = [g] ∧ w.heap[g]? = some (.cells cur (ρ.t 5) fz) ∧ fz.2 ≤ s.size ∧ s.size ≤ cap ∧ cap ≤ maxLen ∧ cur.size = cap ∧ cur.toList.take s.size = bytesV s := by
    rcases hr with ⟨_, h0, _⟩ | h
    · exact absurd h0 hs
    · exact h
  have hbg : b ≠ g := fun e => hnb (by simp [e])
  have c1 : w.drew.cell? ⟨b, 1, none⟩ = some (.slice (some ⟨g, 0, none⟩) s.size cap) := by
    have : w.drew.heap[b]? = some (.cells #[p, .slice (some ⟨g, 0, none⟩) s.size cap] (ρ.t 72) (0, 0)) := hb
    rw [Lib.cell_of_heap this]; rfl
  have hSD : (Builtin.unsafeSliceData_ #[(ρ.t 37)] (ρ.t 127) #[.slice (some ⟨g, 0, none⟩) s.size cap]).run P w.drew = .ok (.pointer (some ⟨g, 0, none⟩)) w.drew :=
    Lib.run_unsafeSliceData_row _ _ _ _ _ _ (by omega)
  have hl : s.data.toList.length = s.size := by rw [Array.length_toList]; rfl
  have hUS : (Builtin.unsafeString_ #[(ρ.t 127), (ρ.t 3)] (ρ.t 9) #[.pointer (some ⟨g, 0, none⟩), .int .i64 s.size]).run P w.drew = .ok (.string s) (w.drew.freeze ⟨g, 0, none⟩ s.size) := by
    have := Lib.run_unsafeString_row (P := P) w.drew (ρ.t 127) (ρ.t 3) (ρ.t 9) (ρ.t 5) L.t127 X.cellsByte g cur.size (by have hg' : w.drew.heap[g]? = some (.cells cur (ρ.t 5) fz) := hg; simp [World.shape?, hg']) s.data.toList (by intro e; rw [e] at hl; exact hs hl.symm) (by omega) (by unfold maxLen at hcm; omega) (fun j x hx => by
      have hg' : w.drew.heap[g]? = some (.cells cur (ρ.t 5) fz) := hg
      rw [Addr.add_lit, Nat.zero_add, Lib.cell_of_heap hg', ← Array.getElem?_toList]
      have hj : j < s.size := by rw [← hl]; exact (List.getElem?_eq_some_iff.1 hx).1
      have : (cur.toList.take s.size)[j]? = some (.int .u8 x.toNat) := by rw [htake, bytesV, List.getElem?_map, hx]; rfl
      rw [List.getElem?_take, if_pos hj] at this
      exact this)
    rw [hl] at this
    simpa using this
  have hF : (w.drew.freeze ⟨g, 0, none⟩ s.size).heap[g]? = some (.cells cur (ρ.t 5) (if fz.1 == fz.2 then (0, 0 + s.size) else (min fz.1 0, max fz.2 (0 + s.size)))) := by
    have hg' : w.drew.heap[g]? = some (.cells cur (ρ.t 5) fz) := hg
    simp only [World.freeze, if_neg hs, Array.getElem?_modify, if_true, hg', Option.map_some]
  have hO : ∀ x, x ≠ g → (w.drew.freeze ⟨g, 0, none⟩ s.size).heap[x]? = w.heap[x]? := fun x hx => by
    simp only [World.freeze, if_neg hs, Array.getElem?_modify, if_neg (Ne.symm hx)]; rfl
  have hfin : (w.drew.freeze ⟨g, 0, none⟩ s.size).heap[b]? = some (.cells #[p, .slice (some ⟨g, 0, none⟩) s.size cap] (ρ.t 72) (0, 0)) ∧ RowB (w.drew.freeze ⟨g, 0, none⟩ s.size) (ρ.t 5) (.slice (some ⟨g, 0, none⟩) s.size cap) s [g] ∧ Fr (fun x => x ∈ [g]) w (w.drew.freeze ⟨g, 0, none⟩ s.size) := by
    refine ⟨by rw [hO b hbg]; exact hb, .inr ⟨g, cap, cur, _, rfl, rfl, hF, ?_, hnc, hcm, hcs, htake⟩, ⟨?_, ?_, ?_, ?_, fun x _ hx => hO x fun e => hx (by simp [e])⟩⟩
    · split <;> simp <;> omega
    · simp only [World.freeze, if_neg hs]; rfl
    · simp only [World.freeze, if_neg hs]; rfl
    · simp only [World.freeze, if_neg hs]; rfl
    · simp only [World.freeze, if_neg hs, Array.size_modify]; exact Nat.le_refl _
  have mixed := L.mixed
  have t72 := L.t72; have a72 := L.a72; have z72 := L.z72; have v72 := L.v72; have u72 := run_underlying L.t72
  have t70 := L.t70; have a70 := L.a70; have z70 := L.z70; have v70 := L.v70; have u70 := run_underlying L.t70
  have t37 := L.t37; have a37 := L.a37; have z37 := L.z37; have v37 := L.v37; have u37 := run_underlying L.t37
  have t127 := L.t127; have a127 := L.a127; have z127 := L.z127; have v127 := L.v127; have u127 := run_underlying L.t127
  have t3 := L.t3; have a3 := L.a3; have z3 := L.z3; have v3 := L.v3; have u3 := run_underlying L.t3
  have t9 := L.t9; have a9 := L.a9; have z9 := L.z9; have v9 := L.v9; have u9 := run_underlying L.t9
  have t5 := X.t5; have a5 := X.a5; have z5 := X.z5; have v5 := X.v5; have u5 := run_underlying X.t5
  clear hF hO hr
  go_enter L.f169, Body.n169_ntmps ρ
  go_wp2
  go_region_o
  all_goals (go_wp2; go_ret; exact ⟨rfl, hfin⟩)

theorem string_ok (L : Lays.n169 P ρ) (X : Builder.Extra P ρ) {s : ByteArray} (hs : s.size ≠ 0) :
    CallOK P (ρ.f 169) [.iop (.bd (ρ.t 72) (ρ.t 5) s)] ⟨.c (.y (.sc (.string s))), [[.op (.bd (ρ.t 72) (ρ.t 5) s)]]⟩ := by
  refine iop_ok (ls := []) L.f169 rfl (by kernel_rfl) (res := .string s) ⟨[.no], rfl, fun w S => ⟨.no, rfl, rfl, Rep.sc _ rfl⟩⟩ fun w v l nd hl hr => ?_
  obtain ⟨b, p, r, lb, rfl, hp, hb, rfl, hrow⟩ := rop_bd.1 hr
  have hnb := (List.nodup_cons.1 nd).1
  refine (string_w L X hb hrow hnb hs).mono ?_
  rintro e w' ⟨rfl, h1, h2, h3⟩
  exact ⟨rfl, b :: lb, nd, h3.mono fun x hx => .tail _ hx, fun x hx => ⟨.inl hx, Nat.lt_of_lt_of_le (hl x hx) h3.size⟩, rop_bd.2 ⟨b, p, r, lb, rfl, hp, h1, rfl, h2⟩⟩
set_option maxHeartbeats 2000000 in
set_option maxRecDepth 1000000 in
theorem grow_w (L : Lays.n241 P ρ) (X : Builder.Extra P ρ) {b n cap : Nat} {a : Option Addr} {w : World} (hb : w.heap[b]? = some (.cells #[.pointer (some ⟨b, 0, none⟩), .slice a 0 cap] (ρ.t 72) (0, 0))) (hN : 2 * cap + n ≤ 100000000000000) :
    Calls P (ρ.f 241) #[.pointer (some ⟨b, 0, none⟩), .int .i64 n] w fun e w' => e = .returned (.tuple #[]) ∧ ∃ cs : Array Value,
      w'.heap[b]? = some (.cells #[.pointer (some ⟨b, 0, none⟩), .slice (some ⟨w.heap.size, 0, none⟩) 0 cs.size] (ρ.t 72) (0, 0)) ∧ w'.heap[w.heap.size]? = some (.cells cs (ρ.t 5) (0, 0)) ∧ cs.size ≤ maxLen ∧ Fr (fun x => x = b) w w' := by
  obtain ⟨cs, hrun, hle, hmax⟩ := Lib.run_makeNoZero (P := P) w.drew #[(ρ.t 3)] (ρ.t 37) (ρ.t 5) L.t37 (2 * cap + n) (by omega)
  have hw : IntKind.i64.wrap (IntKind.i64.wrap (2 * (cap : Int)) + (n : Int)) = ((2 * cap + n : Nat) : Int) := by
    rw [IntKind.wrap_i64, IntKind.wrap_i64]
    omega
  have hcall : (callFunc (ρ.f 277) #[.int .i64 (IntKind.i64.wrap (IntKind.i64.wrap (2 * (cap : Int)) + (n : Int)))]).run P w.drew = .ok (.value (.slice (some ⟨w.drew.heap.size, 0, none⟩) (2 * cap + n) cs.size)) (w.drew.drew.drew.alloc (.cells cs (ρ.t 5))) := by
    rw [hw, run_callFunc_extern L.f277 (by kernel_rfl) (by kernel_rfl) (by kernel_rfl) (e := Extern.BytealgMakeNoZero.makeNoZero #[(ρ.t 3)] #[(ρ.t 37)]) (by kernel_rfl), hrun]
    rfl
  have hlt : b < w.heap.size := by
    rcases Nat.lt_or_ge b w.heap.size with h' | h'
    · exact h'
    · simp [Array.getElem?_eq_none h'] at hb
  have c1 : w.drew.cell? ⟨b, 1, none⟩ = some (.slice a 0 cap) := by
    have : w.drew.heap[b]? = _ := hb
    rw [Lib.cell_of_heap this]; rfl
  have c2 : (w.alloc (.cells cs (ρ.t 5))).cell? ⟨b, 1, none⟩ = some (.slice a 0 cap) := by
    have : (w.alloc (.cells cs (ρ.t 5))).heap[b]? = _ := (Lib.alloc_old w _ b hlt).trans hb
    rw [Lib.cell_of_heap this]; rfl
  have f2 : (w.alloc (.cells cs (ρ.t 5))).frozen? ⟨b, 1, none⟩ = false := Lib.frozen_of_heap ((Lib.alloc_old w _ b hlt).trans hb) 1
  have hcopy : ∀ W : World, (Builtin.copy_ #[(ρ.t 37), (ρ.t 37)] (ρ.t 3) #[.slice (some ⟨w.heap.size, 0, none⟩) 0 cs.size, .slice a 0 cap]).run P W = .ok (goInt 0) W :=
    fun W => run_copy_none W (ρ.t 37) (ρ.t 37) (ρ.t 3) (ρ.t 5) _ _ 0 cs.size 0 cap L.t37 X.sizeByte rfl
  clear hw
  have mixed := L.mixed
  have t72 := L.t72; have a72 := L.a72; have z72 := L.z72; have v72 := L.v72; have u72 := run_underlying L.t72
  have t70 := L.t70; have a70 := L.a70; have z70 := L.z70; have v70 := L.v70; have u70 := run_underlying L.t70
  have t37 := L.t37; have a37 := L.a37; have z37 := L.z37; have v37 := L.v37; have u37 := run_underlying L.t37
  have t3 := L.t3; have a3 := L.a3; have z3 := L.z3; have v3 := L.v3; have u3 := run_underlying L.t3
  have t5 := X.t5; have a5 := X.a5; have z5 := X.z5; have v5 := X.v5; have u5 := run_underlying X.t5
  go_enter L.f241, Body.n241_ntmps ρ
  go_wp2
  have hbn : b ≠ w.heap.size := by omega
  have hfin : ∃ cs' : Array Value, ((w.setCell ⟨b, 1, none⟩ (.slice (some ⟨w.heap.size, 0, none⟩) 0 cs.size)).alloc (.cells cs (ρ.t 5))).drew.drew.drew.heap[b]? = some (.cells #[.pointer (some ⟨b, 0, none⟩), .slice (some ⟨w.heap.size, 0, none⟩) 0 cs'.size] (ρ.t 72) (0, 0)) ∧
      ((w.setCell ⟨b, 1, none⟩ (.slice (some ⟨w.heap.size, 0, none⟩) 0 cs.size)).alloc (.cells cs (ρ.t 5))).drew.drew.drew.heap[w.heap.size]? = some (.cells cs' (ρ.t 5) (0, 0)) ∧ cs'.size ≤ maxLen ∧
      Fr (fun x => x = b) w ((w.setCell ⟨b, 1, none⟩ (.slice (some ⟨w.heap.size, 0, none⟩) 0 cs.size)).alloc (.cells cs (ρ.t 5))).drew.drew.drew := by
    have hs : (w.setCell ⟨b, 1, none⟩ (.slice (some ⟨w.heap.size, 0, none⟩) 0 cs.size)).heap.size = w.heap.size := World.size_setCell _ _ _
    refine ⟨cs, ?_, ?_, hmax (by unfold maxLen; omega), ⟨rfl, rfl, rfl, ?_, fun x hx hn => ?_⟩⟩
    · show ((w.setCell ⟨b, 1, none⟩ (.slice (some ⟨w.heap.size, 0, none⟩) 0 cs.size)).alloc (.cells cs (ρ.t 5))).heap[b]? = _
      rw [heap_alloc_old _ _ (by rw [hs]; exact hlt)]
      simp [World.setCell, Array.getElem?_modify, hb]
    · show ((w.setCell ⟨b, 1, none⟩ (.slice (some ⟨w.heap.size, 0, none⟩) 0 cs.size)).alloc (.cells cs (ρ.t 5))).heap[w.heap.size]? = _
      have := heap_alloc_new (w.setCell ⟨b, 1, none⟩ (.slice (some ⟨w.heap.size, 0, none⟩) 0 cs.size)) (.cells cs (ρ.t 5))
      rwa [hs] at this
    · show w.heap.size ≤ ((w.setCell ⟨b, 1, none⟩ (.slice (some ⟨w.heap.size, 0, none⟩) 0 cs.size)).alloc (.cells cs (ρ.t 5))).heap.size
      rw [World.size_alloc, hs]; omega
    · show ((w.setCell ⟨b, 1, none⟩ (.slice (some ⟨w.heap.size, 0, none⟩) 0 cs.size)).alloc (.cells cs (ρ.t 5))).heap[x]? = _
      have : ¬ b = x := fun e => hn e.symm
      rw [heap_alloc_old _ _ (by rw [hs]; exact hx)]
      simp only [World.setCell, Array.getElem?_modify, if_neg this]
  go_region_o
  all_goals (go_wp2; go_end0; exact ⟨rfl, hfin⟩)
end Go.Proofs.YtemfaiabbonpnaaGreatDoorW
/- Aids for functions: strings.Builder.Grow, at an empty builder. -/
namespace Go.Proofs.YtemfaiabbonpnaaGreatDoorW
open Go.Shelf Go.RowKit Go.Proofs
variable {P : Program} {ρ : Ren}
theorem rowB_empty {w : World} {e : TypeId} {r : Value} {lb : List Nat} (h : RowB w e r ⟨#[]⟩ lb) : ∃ a cap, r = .slice a 0 cap := by
  rcases h with ⟨h, _⟩ | ⟨g, cap, _, _, h, _⟩
  · exact ⟨_, _, h⟩
  · exact ⟨_, _, h⟩
theorem rowB_cap {w : World} {e : TypeId} {a : Option Addr} {cap : Nat} {lb : List Nat} (h : RowB w e (.slice a 0 cap) ⟨#[]⟩ lb) : cap ≤ maxLen := by
  rcases h with ⟨h, _⟩ | ⟨g, cap, _, _, h, _, _, _, _, h1, _⟩ <;> cases h
  · exact Nat.zero_le _
  · exact h1
set_option maxHeartbeats 2000000 in
set_option maxRecDepth 1000000 in
theorem Grow_w (L : Lays.n165 P ρ) (X : Builder.Extra P ρ) {b n : Nat} {p r : Value} {w : World} {lb : List Nat} (hp : p = .pointer none ∨ p = .pointer (some ⟨b, 0, none⟩)) (hb : w.heap[b]? = some (.cells #[p, r] (ρ.t 72) (0, 0)))
    (hr : RowB w (ρ.t 5) r ⟨#[]⟩ lb) (hnb : b ∉ lb) (hn : n ≤ 10000000000000) :
    Calls P (ρ.f 165) #[.pointer (some ⟨b, 0, none⟩), .int .i64 n] w fun e w' => e = .returned (.tuple #[]) ∧
      ∃ r' lb', w'.heap[b]? = some (.cells #[.pointer (some ⟨b, 0, none⟩), r'] (ρ.t 72) (0, 0)) ∧ RowB w' (ρ.t 5) r' ⟨#[]⟩ lb' ∧ Fr (fun x => x = b) w w' ∧ (∀ g ∈ lb', g ∈ lb ∨ w.heap.size ≤ g) ∧ b ∉ lb' := by
  obtain ⟨a, cap, rfl⟩ := rowB_empty hr
  have hcap := rowB_cap hr
  have mixed := L.mixed
  have t72 := L.t72; have a72 := L.a72; have z72 := L.z72; have v72 := L.v72; have u72 := run_underlying L.t72
  have t70 := L.t70; have a70 := L.a70; have z70 := L.z70; have v70 := L.v70; have u70 := run_underlying L.t70
  have t37 := L.t37; have a37 := L.a37; have z37 := L.z37; have v37 := L.v37; have u37 := run_underlying L.t37
  have t3 := L.t3; have a3 := L.a3; have z3 := L.z3; have v3 := L.v3; have u3 := run_underlying L.t3
  have t9 := L.t9; have a9 := L.a9; have z9 := L.z9; have v9 := L.v9; have u9 := run_underlying L.t9
  have t4 := L.t4; have a4 := L.a4; have z4 := L.z4; have v4 := L.v4; have u4 := run_underlying L.t4
  have t164 := L.t164; have a164 := L.a164; have z164 := L.z164; have v164 := L.v164; have u164 := run_underlying L.t164
  have t5 := X.t5; have a5 := X.a5; have z5 := X.z5; have v5 := X.v5; have u5 := run_underlying X.t5
  have e240 : ∀ args w, (callFunc (ρ.f 240) args).run P w = .ok (.enter (ρ.f 240) args) w := enters_of L.f240 (by kernel_rfl) rfl
  have e241 : ∀ args w, (callFunc (ρ.f 241) args).run P w = .ok (.enter (ρ.f 241) args) w := enters_of L.f241 (by kernel_rfl) rfl
  go_enter L.f165, Body.n165_ntmps ρ
  go_wp2_with (go_at_fn (ρ.f 240); refine (copyCheck_w { L with } X.toX72 hp hb).mono ?_)
  rintro e w1 ⟨rfl, hbk, hf1, hsz1⟩
  have hr1 : RowB w1 (ρ.t 5) (.slice a 0 cap) ⟨#[]⟩ lb := hr.keep fun g hg => hf1.block g (hr.lt.2 g hg) fun e => hnb (e ▸ hg)
  have c1' : w1.drew.cell? ⟨b, 1, none⟩ = some (.slice a 0 cap) := by
    have : w1.drew.heap[b]? = _ := hbk
    rw [Lib.cell_of_heap this]; rfl
  have hb1 : w1.drew.heap[b]? = some (.cells #[.pointer (some ⟨b, 0, none⟩), .slice a 0 cap] (ρ.t 72) (0, 0)) := hbk
  have hwc : wrap64 (cap : Int) = (cap : Int) := by
    unfold maxLen at hcap
    unfold wrap64
    omega
  have hsz : w1.drew.heap.size = w.heap.size := hsz1
  have hempty : bytesV ⟨#[]⟩ = [] := rfl
  go_wp2
  go_region_o
  all_goals go_wp2_with (go_at_fn (ρ.f 241); refine (grow_w { L with } X hb1 (by omega)).mono ?_; rintro e w' ⟨rfl, cs, h1, h2, h3, h4⟩)
  all_goals first
    | (go_end0; exact ⟨rfl, _, [w1.drew.heap.size], h1, .inr ⟨_, cs.size, cs, (0, 0), rfl, rfl, h2, Nat.zero_le _, Nat.zero_le _, h3, rfl, by rw [hempty]; rfl⟩, hf1.trans (L' := fun x => x = b) (L := fun x => x = b) ⟨h4.os, h4.tape, h4.output, h4.size, h4.block⟩ (fun x h => .inl h), fun g hg => .inr (by rw [List.mem_singleton] at hg; omega), fun hg => by
        rw [List.mem_singleton] at hg
        have : b < w1.drew.heap.size := by
          rcases Nat.lt_or_ge b w1.drew.heap.size with h' | h'
          · exact h'
          · simp [Array.getElem?_eq_none h'] at hb1
        omega⟩)
    | (go_end0; exact ⟨rfl, _, lb, hbk, hr1, ⟨hf1.os, hf1.tape, hf1.output, hf1.size, hf1.block⟩, fun g hg => .inl hg, hnb⟩)
theorem Grow_ok (L : Lays.n165 P ρ) (X : Builder.Extra P ρ) {n : Nat} (hn : n ≤ 10000000000000) :
    CallOK P (ρ.f 165) [.iop (.bd (ρ.t 72) (ρ.t 5) ⟨#[]⟩), .c (.y (.sc (.int .i64 n)))] ⟨.tup [], [[.op (.bd (ρ.t 72) (ρ.t 5) ⟨#[]⟩)]]⟩ := by
  refine iop_ok (ls := [.int .i64 n]) L.f165 rfl (by kernel_rfl) (res := .tuple #[]) ⟨[], rfl, fun w S => ⟨_, rfl, trivial⟩⟩ fun w v l nd hl hr => ?_
  obtain ⟨b, p, r, lb, rfl, hp, hb, rfl, hrow⟩ := rop_bd.1 hr
  have hnb := (List.nodup_cons.1 nd).1
  refine (Grow_w L X hp hb hrow hnb hn).mono ?_
  rintro e w' ⟨rfl, r', lb', h1, h2, h3, h4, h5⟩
  refine ⟨rfl, b :: lb', List.nodup_cons.2 ⟨h5, h2.lt.1⟩, h3.mono fun x hx => by rw [hx]; exact .head _, fun x hx => ?_, rop_bd.2 ⟨b, _, r', lb', rfl, .inr rfl, h1, rfl, h2⟩⟩
  rcases List.mem_cons.1 hx with rfl | hx
  · exact ⟨.inl (.head _), Nat.lt_of_lt_of_le (hl _ (.head _)) h3.size⟩
  · exact ⟨(h4 x hx).imp (fun h => .tail _ h) id, h2.lt.2 x hx⟩
end Go.Proofs.YtemfaiabbonpnaaGreatDoorW
