/- An evaluator of loaded code by value, and the proof that what it shows holds of calls; part 6. Conditions: the program draws orders in the mixed way, and the table of types is as the program has it. -/
import Derived.Test.YthaelohccopgjaaV4
import Derived.Lay
set_option linter.unusedVariables false
set_option linter.unusedSimpArgs false
set_option linter.unnecessarySimpa false
/- Aids for rows: a row that lists what package variables hold. -/
namespace Go.Proofs.YthaelohccopgjaaW
open Go.ChangeShapes Go.WideShapes Go.ChangeAt Go.RowKit
theorem row_of_call_and {C : Checked} {X : World → Array Value → Prop} (hX : ∀ (w w' : World) (args : Array Value), w.heap = w'.heap → X w args → X w' args) {f : FuncId} {fn : Func} {s : ChangeSpec} {conds : List PathCond} {os : Os} {H : Type} {enc : TypeId × Value → H} (own : ownKnob C.prog.godebug = none) (started : os.Started) (hi : C.prog.inits.idxOf? f = none) (hf : C.prog.funcs[f]? = some fn)
    (hwit : ∃ (w : World) (tape : Tape) (i : Input), w.os = os ∧ World.Shaped C.prog (w.forCall tape i) ∧ i.vars = [] ∧ Input.okWide C.prog (w.forCall tape i) Reach.any w.heap.size f i ∧
      ((s.pre enc C.prog fn conds false (w.forCall tape i).memory i.args ∧ X (w.forCall tape i).memory i.args) ∧ sizedMet enc C.prog fn (OpenSpec.ofChange s) false (w.forCall tape i).memory i.args) ∧ ({} : Assume).holds C.prog (lone (Frame.enter C.prog f i.args CallKind.normal) [] (w.forCall tape i)))
    (hbody : fn.body.isSome = true) (hvars : s.vars = []) {tb : TypeId} (hres : fn.resultTypes = #[tb]) (htb : C.prog.underlying tb = some .bool) {ps : List Par} (hps : fn.params.toList = ps.map Par.t)
    (hspec : ∀ ds : List (DataW H), ds.length = ps.length → s.fn H ds = { results := [.lit (.bool true)], args := ds })
    (hl : laidOutB C.prog = true) (hm : mapsRowed C.prog = true) (hz : ((List.range C.prog.types.size).all fun t => match C.prog.underlying t with | some (.slice e) => decide (0 < C.prog.cellsOf e) | _ => true) = true)
    (hts : (ps.map Par.t).all (fun t => ltN t C.prog.types.size) = true) (hpo : ∀ p ∈ ps, ParOk C.prog p)
    (hcall : ∀ yss, ParsR ps yss → CallOK C.prog f (argsOf ps yss) ⟨.c (.y (.sc (.bool true))), []⟩) :
    ReturnsInHanded {} C os f .any (fun w args => (s.pre enc C.prog fn conds false w args ∧ X w args) ∧ sizedMet enc C.prog fn (OpenSpec.ofChange s) false w args) (s.post enc C.prog fn false true false false) := by
  refine returnsInHanded_of_change_and (C := C) hX own started hi hf hwit ?_
  intro W base args ds gs before hval hW _ _ _ _
  have hW' := hW
  obtain ⟨p, q, hA, hV, rfl, hfz, hnd⟩ := hW
  rw [hps] at hA
  rw [hvars] at hV
  have hgs : gs = [] := by cases gs with
    | nil => rfl
    | cons a b => exact hV.elim
  subst hgs
  have hval' : ∀ (j : Nat) (t : TypeId) (v : Value), (ps.map Par.t)[j]? = some t → args.toList[j]? = some v → Value.okWide C.prog W Reach.any base t v := fun j t v h1 h2 => hval j t v (by rw [← hps] at h1; simpa using h1) (by simpa using h2)
  obtain ⟨yss, Gs, h1, h2, h3, h4, h5⟩ := args_open hpo hval' hA
  have hc := (hcall yss h1).out W args.toList Gs (fun b => b < W.heap.size) h2 (fun b hb => ⟨hb, by rw [h3]; simp⟩) (by rw [h3]; exact List.nodup_nil) (by rw [h3]; simp) h4
  rw [show args.toList.toArray = args from rfl] at hc
  have hc := hc.elim And.right fun ⟨⟨fn', h1, h2⟩, _⟩ => by rw [hf] at h1; cases h1; rw [h2] at hbody; cases hbody
  refine hc.mono fun e W' ⟨v, Gr, Go, he, hfr, _, _, hr, _⟩ => ?_
  subst he
  obtain ⟨G, _, _, hrep⟩ := hr
  have hv : v = .bool true := by cases hrep; rfl
  subst hv
  have hbel : Below W.heap.size W W' := ⟨hfr.os, hfr.tape, hfr.output, hfr.size, fun b hb => hfr.block b hb (by rw [h3]; simp)⟩
  have hsp := hspec ds h5
  have hres1 : Value.resultList fn.resultTypes.size (.bool true) = [.bool true] := by rw [hres]; rfl
  have hrt : fn.resultTypes.toList = [tb] := by rw [hres]
  have hAll : ∀ {ts : List TypeId} {vs : List Value} {ds : List (DataW H)} {pl : List MemPlace}, DataW.TrodAll enc C.prog W 0 (fun _ => true) true ts vs ds pl → (∀ t ∈ ts, t < C.prog.types.size) → DataW.TrodAll enc C.prog W' 0 (fun b => decide (b < W.heap.size)) true ts vs ds pl := fun {ts vs ds pl} h ht => by
    have h' : DataW.TrodAll enc C.prog W 0 (fun b => decide (b < W.heap.size)) true ts vs ds pl :=
      DataW.TrodAll.respare (T := (· < C.prog.types.size)) (kids_rows hl hm) (fun t e ht hu => slices_full_of C.prog hz t e ht hu) ht h (fun p hp => by simpa using h.lt p hp)
    have carry : ∀ {ts : List TypeId} {vs : List Value} {ds : List (DataW H)} {pl : List MemPlace}, DataW.TrodAll enc C.prog W 0 (fun b => decide (b < W.heap.size)) true ts vs ds pl → (∀ p ∈ pl, p.block < W.heap.size) → DataW.TrodAll enc C.prog W' 0 (fun b => decide (b < W.heap.size)) true ts vs ds pl := fun {ts} => by
      induction ts with
      | nil => intro vs ds pl h _; cases vs <;> cases ds <;> first | exact h | exact h.elim
      | cons t ts ih =>
        intro vs ds pl h hlt
        cases vs with
        | nil => exact h.elim
        | cons v vs => cases ds with
          | nil => exact h.elim
          | cons d ds =>
            obtain ⟨p, q, ⟨n, h1⟩, h2, rfl⟩ := h
            exact ⟨p, q, ⟨n, DataW.trod_carry _ _ _ _ h1 fun x hx => hbel.same (hlt x (List.mem_append_left _ hx))⟩, ih h2 fun x hx => hlt x (List.mem_append_right _ hx), rfl⟩
    exact carry h' fun p hp => h.lt p hp
  have hts' : ∀ t ∈ ps.map Par.t, t < C.prog.types.size := fun t ht => by have := List.all_eq_true.1 hts t ht; simpa using this
  refine ⟨_, rfl, ds, [], p ++ q, [], p, [], hW', ?_, ?_, ?_, hbel.frame _, fun h => by cases h⟩
  · rw [List.append_nil, hsp, hres1, hrt]
    exact trodAll_mk1 (shut_bool htb true)
  · rw [List.append_nil, hsp, hps]
    exact hAll hA hts'
  · rw [List.append_nil, hsp, hvars]; rfl
end Go.Proofs.YthaelohccopgjaaW
/- Aids for functions: contracts that tell what holds of a result, taken without opening the goal. -/
namespace Go.Proofs.YthaelohccopgjaaW
variable {P : Program}
theorem callQ1 {Ca : Contract} (hC : CallC P = Ca) {f : FuncId} {ar : List A} {α : Type} {H : α → Prop} {R : α → Res} {K : Res → Prop}
    (h : CallQ P f ar fun r => ∃ a, H a ∧ r = R a) (k : ∀ a, H a → K (R a)) : ∃ q, Ca f ar q ∧ q.all K :=
  callQ hC h fun r h => let ⟨a, h1, h2⟩ := h; h2 ▸ k a h1
theorem callQ2 {Ca : Contract} (hC : CallC P = Ca) {f : FuncId} {ar : List A} {α β : Type} {H : α → β → Prop} {R : α → β → Res} {K : Res → Prop}
    (h : CallQ P f ar fun r => ∃ a b, H a b ∧ r = R a b) (k : ∀ a b, H a b → K (R a b)) : ∃ q, Ca f ar q ∧ q.all K :=
  callQ hC h fun r h => let ⟨a, b, h1, h2⟩ := h; h2 ▸ k a b h1
theorem callQ3 {Ca : Contract} (hC : CallC P = Ca) {f : FuncId} {ar : List A} {α β γ : Type} {H : α → β → γ → Prop} {R : α → β → γ → Res} {K : Res → Prop}
    (h : CallQ P f ar fun r => ∃ a b c, H a b c ∧ r = R a b c) (k : ∀ a b c, H a b c → K (R a b c)) : ∃ q, Ca f ar q ∧ q.all K :=
  callQ hC h fun r h => let ⟨a, b, c, h1, h2⟩ := h; h2 ▸ k a b c h1
theorem callQ4 {Ca : Contract} (hC : CallC P = Ca) {f : FuncId} {ar : List A} {α β γ δ : Type} {H : α → β → γ → δ → Prop} {R : α → β → γ → δ → Res} {K : Res → Prop}
    (h : CallQ P f ar fun r => ∃ a b c d, H a b c d ∧ r = R a b c d) (k : ∀ a b c d, H a b c d → K (R a b c d)) : ∃ q, Ca f ar q ∧ q.all K :=
  callQ hC h fun r h => let ⟨a, b, c, d, h1, h2⟩ := h; h2 ▸ k a b c d h1
theorem callQ5 {Ca : Contract} (hC : CallC P = Ca) {f : FuncId} {ar : List A} {α β γ δ ε : Type} {H : α → β → γ → δ → ε → Prop} {R : α → β → γ → δ → ε → Res} {K : Res → Prop}
    (h : CallQ P f ar fun r => ∃ a b c d e, H a b c d e ∧ r = R a b c d e) (k : ∀ a b c d e, H a b c d e → K (R a b c d e)) : ∃ q, Ca f ar q ∧ q.all K :=
  callQ hC h fun r h => let ⟨a, b, c, d, e, h1, h2⟩ := h; h2 ▸ k a b c d e h1
theorem callQ6 {Ca : Contract} (hC : CallC P = Ca) {f : FuncId} {ar : List A} {α β γ δ ε ζ : Type} {H : α → β → γ → δ → ε → ζ → Prop} {R : α → β → γ → δ → ε → ζ → Res} {K : Res → Prop}
    (h : CallQ P f ar fun r => ∃ a b c d e i, H a b c d e i ∧ r = R a b c d e i) (k : ∀ a b c d e i, H a b c d e i → K (R a b c d e i)) : ∃ q, Ca f ar q ∧ q.all K :=
  callQ hC h fun r h => let ⟨a, b, c, d, e, i, h1, h2⟩ := h; h2 ▸ k a b c d e i h1
theorem callQ7 {Ca : Contract} (hC : CallC P = Ca) {f : FuncId} {ar : List A} {α β γ δ ε ζ η : Type} {H : α → β → γ → δ → ε → ζ → η → Prop} {R : α → β → γ → δ → ε → ζ → η → Res} {K : Res → Prop}
    (h : CallQ P f ar fun r => ∃ a b c d e i j, H a b c d e i j ∧ r = R a b c d e i j) (k : ∀ a b c d e i j, H a b c d e i j → K (R a b c d e i j)) : ∃ q, Ca f ar q ∧ q.all K :=
  callQ hC h fun r h => let ⟨a, b, c, d, e, i, j, h1, h2⟩ := h; h2 ▸ k a b c d e i j h1
end Go.Proofs.YthaelohccopgjaaW
/- Aids for functions: a result's own rows, handed on as lists that are looked at. -/
namespace Go.Proofs.YthaelohccopgjaaW
variable {P : Program}
def AC.lo : AC → AC
  | .own es xs => match es with
    | 0 => .own 0 xs
    | e + 1 => .y (.sl (e + 1) xs)
  | a => a
def RV.lo : RV → RV
  | .c a => .c a.lo
  | .agg cs => .agg (cs.map AC.lo)
  | .tup l => .tup l
def Res.lo (r : Res) : Res := ⟨r.val.lo, r.outs⟩
theorem RAC.lo {w : World} {S : Nat → Prop} {g : Option Nat} {v : Value} {a : AC} {G : Gh} (h : RAC w S g v a G) :
    ∃ G', (∀ b, b ∈ G'.bs → b ∈ G.bs) ∧ G'.bs.Nodup ∧ ∀ S' : Nat → Prop, (∀ b, S b → S' b) → (∀ b ∈ G.bs, b ∉ G'.bs → S' b) → RAC w S' g v a.lo G' := by
  have same : a.lo = a → ∃ G', (∀ b, b ∈ G'.bs → b ∈ G.bs) ∧ G'.bs.Nodup ∧ ∀ S' : Nat → Prop, (∀ b, S b → S' b) → (∀ b ∈ G.bs, b ∉ G'.bs → S' b) → RAC w S' g v a.lo G' := fun e => ⟨G, fun _ hb => hb, Gh.bs_nodup G, fun _ hS _ => by rw [e]; exact h.mono hS⟩
  cases a with
  | own es xs =>
    cases es with
    | zero => exact same rfl
    | succ e =>
      refine ⟨.no, fun b hb => by simp [Gh.bs] at hb, List.nodup_nil, fun S' hS hG => ⟨rfl, ?_⟩⟩
      rcases h with ⟨rfl, rfl, a, rfl⟩ | ⟨b, cap, n, rfl, rfl, hr⟩ | ⟨b, ys, h0, _⟩
      · exact .sl0 ..
      · have hb : S' b := hG b Gh.in_row (by simp [Gh.bs])
        have := hr.rep hS hb 0 n cap (by omega) hr.le
        rw [Nat.zero_mul, List.drop_zero, List.take_of_length_le (by rw [hr.len]; omega)] at this
        exact this
      · cases h0
  | _ => exact same rfl
theorem blocks_cons (G : Gh) (Gs : List Gh) : blocks (G :: Gs) = G.bs ++ blocks Gs := rfl
theorem RACs.lo {w : World} {S : Nat → Prop} {g : Option Nat} : ∀ {vs : List Value} {as : List AC} {Gs : List Gh}, RACs w S g vs as Gs → (blocks Gs).Nodup →
    ∃ Gs', (∀ b, b ∈ blocks Gs' → b ∈ blocks Gs) ∧ (blocks Gs').Nodup ∧ ∀ S' : Nat → Prop, (∀ b, S b → S' b) → (∀ b ∈ blocks Gs, b ∉ blocks Gs' → S' b) → RACs w S' g vs (as.map AC.lo) Gs'
  | [], [], [], _, _ => ⟨[], fun _ h => h, List.nodup_nil, fun _ _ _ => trivial⟩
  | v :: vs, a :: as, G :: Gs, h, hd => by
    rw [blocks_cons] at hd
    obtain ⟨d1, d2, d3⟩ := List.nodup_append.1 hd
    obtain ⟨G', a1, a2, a3⟩ := h.1.1.lo
    obtain ⟨Gs', b1, b2, b3⟩ := RACs.lo h.2 d2
    refine ⟨G' :: Gs', fun b hb => ?_, ?_, fun S' hS hG => ⟨⟨a3 S' hS fun b h1 h2 => hG b ?_ ?_, h.1.2⟩, b3 S' hS fun b h1 h2 => hG b ?_ ?_⟩⟩
    · rw [blocks_cons] at hb ⊢
      exact (List.mem_append.1 hb).elim (fun h => List.mem_append_left _ (a1 b h)) fun h => List.mem_append_right _ (b1 b h)
    · rw [blocks_cons]
      exact List.nodup_append.2 ⟨a2, b2, fun x hx y hy => d3 x (a1 x hx) y (b1 y hy)⟩
    · rw [blocks_cons]; exact List.mem_append_left _ h1
    · rw [blocks_cons]
      intro h
      rcases List.mem_append.1 h with h | h
      · exact h2 h
      · exact d3 b h1 b (b1 b h) rfl
    · rw [blocks_cons]; exact List.mem_append_right _ h1
    · rw [blocks_cons]
      intro h
      rcases List.mem_append.1 h with h | h
      · exact d3 b (a1 b h) b h1 rfl
      · exact h2 h
theorem RR.lo {w : World} {S : Nat → Prop} {v : Value} {r : RV} {Gs : List Gh} (h : RR w S v r Gs) (hd : (blocks Gs).Nodup) :
    ∃ Gs', (∀ b, b ∈ blocks Gs' → b ∈ blocks Gs) ∧ (blocks Gs').Nodup ∧ ∀ S' : Nat → Prop, (∀ b, S b → S' b) → (∀ b ∈ blocks Gs, b ∉ blocks Gs' → S' b) → RR w S' v r.lo Gs' := by
  cases r with
  | c a =>
    obtain ⟨G, rfl, h⟩ := h
    obtain ⟨G', a1, a2, a3⟩ := h.lo
    refine ⟨[G'], fun b hb => ?_, ?_, fun S' hS hG => ⟨G', rfl, a3 S' hS fun b h1 h2 => hG b ?_ ?_⟩⟩
    · simp only [blocks, List.flatMap_cons, List.flatMap_nil, List.append_nil] at hb ⊢; exact a1 b hb
    · simpa [blocks] using a2
    · simpa [blocks] using h1
    · simpa [blocks] using h2
  | agg cs =>
    obtain ⟨vs, rfl, h⟩ := h
    obtain ⟨Gs', a1, a2, a3⟩ := h.lo hd
    exact ⟨Gs', a1, a2, fun S' hS hG => ⟨vs, rfl, a3 S' hS hG⟩⟩
  | tup l =>
    obtain ⟨vs, rfl, h⟩ := h
    exact ⟨Gs, fun _ h => h, hd, fun S' hS _ => ⟨vs, rfl, h.mono hS⟩⟩
theorem RBox.mono' {w : World} {S S' : Nat → Prop} (hS : ∀ b, S b → S' b) {b : Nat} {cs : List AC} {Gs : List Gh} (h : RBox w S b cs Gs) : RBox w S' b cs Gs :=
  let ⟨cur, e, h1, h2⟩ := h; ⟨cur, e, h1, h2.mono hS⟩
theorem ROw1.mono' {w : World} {S S' : Nat → Prop} (hS : ∀ b, S b → S' b) {G : Gh} {a : AC} (h : ROw1 w S G a) : ROw1 w S' G a := by
  cases G with
  | row b es cap n => exact let ⟨xs, h1, h2⟩ := h; ⟨xs, h1, h2.mono' hS⟩
  | _ => exact h
theorem ROwn.mono' {w : World} {S S' : Nat → Prop} (hS : ∀ b, S b → S' b) : ∀ {Gs : List Gh} {as : List AC}, ROwn w S Gs as → ROwn w S' Gs as
  | [], [], h => h
  | _ :: _, _ :: _, h => ⟨h.1.mono' hS, h.2.mono' hS⟩
  | [], _ :: _, h => h.elim
  | _ :: _, [], h => h.elim
theorem ROuts.mono' {w : World} {S S' : Nat → Prop} (hS : ∀ b, S b → S' b) : ∀ {bs : List Ho} {os : List (List AC)} {Gs : List (List Gh)}, ROuts w S bs os Gs → ROuts w S' bs os Gs
  | [], [], [], h => h
  | b :: bs, cs :: os, G :: Gs, h => by
    refine ⟨?_, ROuts.mono' hS h.2⟩
    have h1 := h.1
    cases b with
    | bx b => exact h1.mono' hS
    | op v => exact h1
    | rows Gs => exact ⟨h1.1, h1.2.mono' hS⟩
  | [], [], _ :: _, h => h.elim
  | [], _ :: _, _, h => h.elim
  | _ :: _, [], _, h => h.elim
  | _ :: _, _ :: _, [], h => h.elim
theorem blocks_app (A B : List Gh) : blocks (A ++ B) = blocks A ++ blocks B := by simp [blocks, List.flatMap_append]
/-- Own rows of a result are handed on as lists that are looked at. -/
theorem CallQ.lo {f : FuncId} {as : List A} {Q : Res → Prop} (h : CallQ P f as Q) : CallQ P f as fun r' => ∃ r, Q r ∧ r' = r.lo where
  out w vs Gs S h1 h2 h3 h4 h5 := (h.out w vs Gs S h1 h2 h3 h4 h5).mono fun e w' h => by
    obtain ⟨r, hq, v, Gr, Go, he, hfr, hnd, hb, hr, ho⟩ := h
    refine ⟨r.lo, ⟨r, hq, rfl⟩, ?_⟩
    rw [blocks_app, List.append_assoc] at hnd
    obtain ⟨n1, n2, n3⟩ := List.nodup_append.1 hnd
    -- S' is told once Gs' is known
    have key : ∃ Gs', (∀ b, b ∈ blocks Gs' → b ∈ blocks Gr) ∧ (blocks Gs').Nodup ∧ RR w' (fun b => (S b ∨ b ∈ blocks Gs.flatten ∨ w.heap.size ≤ b) ∧ b < w'.heap.size ∧ b ∉ blocks (Gs' ++ Go.flatten) ++ ioB as Gs) v r.lo.val Gs' := by
      obtain ⟨Gs', k1, k2, k3⟩ := hr.lo n1
      refine ⟨Gs', k1, k2, k3 _ (fun b hb' => ⟨hb'.1, hb'.2.1, fun hm => hb'.2.2 ?_⟩) fun b h6 h7 => ?_⟩
      · rw [blocks_app] at hm ⊢
        rcases List.mem_append.1 hm with h | h
        · rcases List.mem_append.1 h with h | h
          · exact List.mem_append_left _ (List.mem_append_left _ (k1 b h))
          · exact List.mem_append_left _ (List.mem_append_right _ h)
        · exact List.mem_append_right _ h
      · have hb' := hb b (by rw [blocks_app]; exact List.mem_append_left _ h6)
        refine ⟨.inr hb'.1, hb'.2, fun hm => ?_⟩
        rw [blocks_app, List.append_assoc] at hm
        rcases List.mem_append.1 hm with h | h
        · exact h7 h
        · exact n3 b h6 b h rfl
    obtain ⟨Gs', k1, k2, k3⟩ := key
    have sub : ∀ b, b ∈ blocks (Gs' ++ Go.flatten) → b ∈ blocks (Gr ++ Go.flatten) := fun b hb' => by
      rw [blocks_app] at hb' ⊢
      exact (List.mem_append.1 hb').elim (fun h => List.mem_append_left _ (k1 b h)) fun h => List.mem_append_right _ h
    refine ⟨v, Gs', Go, he, hfr, ?_, fun b hb' => hb b (sub b hb'), k3, ?_⟩
    · rw [blocks_app, List.append_assoc]
      exact List.nodup_append.2 ⟨k2, n2, fun x hx y hy => n3 x (k1 x hx) y hy⟩
    · refine ho.mono' fun b hb' => ⟨hb'.1, hb'.2.1, fun hm => hb'.2.2 ?_⟩
      exact (List.mem_append.1 hm).elim (fun h => List.mem_append_left _ (sub b h)) fun h => List.mem_append_right _ h
/-- A result whose cells, seen as what is looked at, are known. -/
theorem CallQ.plain {f : FuncId} {as : List A} {Q : Res → Prop} {r : Res} (h : CallQ P f as Q) (hq : ∀ r', Q r' → r'.lo = r) : CallOK P f as r :=
  CallQ.one (h.lo.mono fun _ ⟨r1, h1, h2⟩ => h2.trans (hq r1 h1))
end Go.Proofs.YthaelohccopgjaaW
