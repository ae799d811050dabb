/- An evaluator of loaded code by value, and the proof that what it shows holds of calls; part 6. Conditions: the program draws orders in the mixed way, and the table of types is as the program has it. -/
import Derived.Test.YtemfaiabbonpnaaGreatDoorV4
import Derived.Lay
set_option linter.unusedVariables false
set_option linter.unusedSimpArgs false
set_option linter.unnecessarySimpa false
/- Aids for rows: a row that lists what package variables hold. -/
namespace Go.Proofs.YtemfaiabbonpnaaGreatDoorW
open Go.ChangeShapes Go.WideShapes Go.ChangeAt Go.RowKit
theorem row_of_call_and {C : Checked} {X : World → Array Value → Prop} (hX : ∀ (w w' : World) (args : Array Value), w.heap = w'.heap → X w args → X w' args) {f : FuncId} {fn : Func} {s : ChangeSpec} {conds : List PathCond} {os : Os} {H : Type} {enc : TypeId × Value → H} (own : ownKnob C.prog.godebug = none) (started : os.Started) (hi : C.prog.inits.idxOf? f = none) (hf : C.prog.funcs[f]? = some fn)
    (hwit : ∃ (w : World) (tape : Tape) (i : Input), w.os = os ∧ World.Shaped C.prog (w.forCall tape i) ∧ i.vars = [] ∧ Input.okWide C.prog (w.forCall tape i) Reach.any w.heap.size f i ∧
      ((s.pre enc C.prog fn conds false (w.forCall tape i).memory i.args ∧ X (w.forCall tape i).memory i.args) ∧ sizedMet enc C.prog fn (OpenSpec.ofChange s) false (w.forCall tape i).memory i.args) ∧ ({} : Assume).holds C.prog (lone (Frame.enter C.prog f i.args CallKind.normal) [] (w.forCall tape i)))
    (hbody : fn.body.isSome = true) (hvars : s.vars = []) {tb : TypeId} (hres : fn.resultTypes = #[tb]) (htb : C.prog.underlying tb = some .bool) {ps : List Par} (hps : fn.params.toList = ps.map Par.t)
    (hspec : ∀ ds : List (DataW H), ds.length = ps.length → s.fn H ds = { results := [.lit (.bool true)], args := ds })
    (hl : laidOutB C.prog = true) (hm : mapsRowed C.prog = true) (hz : ((List.range C.prog.types.size).all fun t => match C.prog.underlying t with | some (.slice e) => decide (0 < C.prog.cellsOf e) | _ => true) = true)
    (hts : (ps.map Par.t).all (fun t => ltN t C.prog.types.size) = true) (hpo : ∀ p ∈ ps, ParOk C.prog p)
    (hcall : ∀ yss, ParsR ps yss → CallOK C.prog f (argsOf ps yss) ⟨.c (.y (.sc (.bool true))), []⟩) :
    ReturnsInHanded {} C os f .any (fun w args => (s.pre enc C.prog fn conds false w args ∧ X w args) ∧ sizedMet enc C.prog fn (OpenSpec.ofChange s) false w args) (s.post enc C.prog fn false true false false) := by
  refine returnsInHanded_of_change_and (C := C) hX own started hi hf hwit ?_
  intro W base args ds gs before hval hW _ _ _ _
  have hW' := hW
  obtain ⟨p, q, hA, hV, rfl, hfz, hnd⟩ := hW
  rw [hps] at hA
  rw [hvars] at hV
  have hgs : gs = [] := by cases gs with
    | nil => rfl
    | cons a b => exact hV.elim
  subst hgs
  have hval' : ∀ (j : Nat) (t : TypeId) (v : Value), (ps.map Par.t)[j]? = some t → args.toList[j]? = some v → Value.okWide C.prog W Reach.any base t v := fun j t v h1 h2 => hval j t v (by rw [← hps] at h1; simpa using h1) (by simpa using h2)
  obtain ⟨yss, Gs, h1, h2, h3, h4, h5⟩ := args_open hpo hval' hA
  have hc := (hcall yss h1).out W args.toList Gs (fun b => b < W.heap.size) h2 (fun b hb => ⟨hb, by rw [h3]; simp⟩) (by rw [h3]; exact List.nodup_nil) (by rw [h3]; simp) h4
  rw [show args.toList.toArray = args from rfl] at hc
  have hc := hc.elim And.right fun ⟨⟨fn', h1, h2⟩, _⟩ => by rw [hf] at h1; cases h1; rw [h2] at hbody; cases hbody
  refine hc.mono fun e W' ⟨v, Gr, Go, he, hfr, _, _, hr, _⟩ => ?_
  subst he
  obtain ⟨G, _, _, hrep⟩ := hr
  have hv : v = .bool true := by cases hrep; rfl
  subst hv
  have hbel : Below W.heap.size W W' := ⟨hfr.os, hfr.tape, hfr.output, hfr.size, fun b hb => hfr.block b hb (by rw [h3]; simp)⟩
  have hsp := hspec ds h5
  have hres1 : Value.resultList fn.resultTypes.size (.bool true) = [.bool true] := by rw [hres]; rfl
  have hrt : fn.resultTypes.toList = [tb] := by rw [hres]
  have hAll : ∀ {ts : List TypeId} {vs : List Value} {ds : List (DataW H)} {pl : List MemPlace}, DataW.TrodAll enc C.prog W 0 (fun _ => true) true ts vs ds pl → (∀ t ∈ ts, t < C.prog.types.size) → DataW.TrodAll enc C.prog W' 0 (fun b => decide (b < W.heap.size)) true ts vs ds pl := fun {ts vs ds pl} h ht => by
    have h' : DataW.TrodAll enc C.prog W 0 (fun b => decide (b < W.heap.size)) true ts vs ds pl :=
      DataW.TrodAll.respare (T := (· < C.prog.types.size)) (kids_rows hl hm) (fun t e ht hu => slices_full_of C.prog hz t e ht hu) ht h (fun p hp => by simpa using h.lt p hp)
    have carry : ∀ {ts : List TypeId} {vs : List Value} {ds : List (DataW H)} {pl : List MemPlace}, DataW.TrodAll enc C.prog W 0 (fun b => decide (b < W.heap.size)) true ts vs ds pl → (∀ p ∈ pl, p.block < W.heap.size) → DataW.TrodAll enc C.prog W' 0 (fun b => decide (b < W.heap.size)) true ts vs ds pl := fun {ts} => by
      induction ts with
      | nil => intro vs ds pl h _; cases vs <;> cases ds <;> first | exact h | exact h.elim
      | cons t ts ih =>
        intro vs ds pl h hlt
        cases vs with
        | nil => exact h.elim
        | cons v vs => cases ds with
          | nil => exact h.elim
          | cons d ds =>
            obtain ⟨p, q, ⟨n, h1⟩, h2, rfl⟩ := h
            exact ⟨p, q, ⟨n, DataW.trod_carry _ _ _ _ h1 fun x hx => hbel.same (hlt x (List.mem_append_left _ hx))⟩, ih h2 fun x hx => hlt x (List.mem_append_right _ hx), rfl⟩
    exact carry h' fun p hp => h.lt p hp
  have hts' : ∀ t ∈ ps.map Par.t, t < C.prog.types.size := fun t ht => by have := List.all_eq_true.1 hts t ht; simpa using this
  refine ⟨_, rfl, ds, [], p ++ q, [], p, [], hW', ?_, ?_, ?_, hbel.frame _, fun h => by cases h⟩
  · rw [List.append_nil, hsp, hres1, hrt]
    exact trodAll_mk1 (shut_bool htb true)
  · rw [List.append_nil, hsp, hps]
    exact hAll hA hts'
  · rw [List.append_nil, hsp, hvars]; rfl
end Go.Proofs.YtemfaiabbonpnaaGreatDoorW
/- Aids for functions: contracts that tell what holds of a result, taken without opening the goal. -/
namespace Go.Proofs.YtemfaiabbonpnaaGreatDoorW
variable {P : Program}
theorem callQ1 {Ca : Contract} (hC : CallC P = Ca) {f : FuncId} {ar : List A} {α : Type} {H : α → Prop} {R : α → Res} {K : Res → Prop}
    (h : CallQ P f ar fun r => ∃ a, H a ∧ r = R a) (k : ∀ a, H a → K (R a)) : ∃ q, Ca f ar q ∧ q.all K :=
  callQ hC h fun r h => let ⟨a, h1, h2⟩ := h; h2 ▸ k a h1
theorem callQ2 {Ca : Contract} (hC : CallC P = Ca) {f : FuncId} {ar : List A} {α β : Type} {H : α → β → Prop} {R : α → β → Res} {K : Res → Prop}
    (h : CallQ P f ar fun r => ∃ a b, H a b ∧ r = R a b) (k : ∀ a b, H a b → K (R a b)) : ∃ q, Ca f ar q ∧ q.all K :=
  callQ hC h fun r h => let ⟨a, b, h1, h2⟩ := h; h2 ▸ k a b h1
theorem callQ3 {Ca : Contract} (hC : CallC P = Ca) {f : FuncId} {ar : List A} {α β γ : Type} {H : α → β → γ → Prop} {R : α → β → γ → Res} {K : Res → Prop}
    (h : CallQ P f ar fun r => ∃ a b c, H a b c ∧ r = R a b c) (k : ∀ a b c, H a b c → K (R a b c)) : ∃ q, Ca f ar q ∧ q.all K :=
  callQ hC h fun r h => let ⟨a, b, c, h1, h2⟩ := h; h2 ▸ k a b c h1
theorem callQ4 {Ca : Contract} (hC : CallC P = Ca) {f : FuncId} {ar : List A} {α β γ δ : Type} {H : α → β → γ → δ → Prop} {R : α → β → γ → δ → Res} {K : Res → Prop}
    (h : CallQ P f ar fun r => ∃ a b c d, H a b c d ∧ r = R a b c d) (k : ∀ a b c d, H a b c d → K (R a b c d)) : ∃ q, Ca f ar q ∧ q.all K :=
  callQ hC h fun r h => let ⟨a, b, c, d, h1, h2⟩ := h; h2 ▸ k a b c d h1
theorem callQ5 {Ca : Contract} (hC : CallC P = Ca) {f : FuncId} {ar : List A} {α β γ δ ε : Type} {H : α → β → γ → δ → ε → Prop} {R : α → β → γ → δ → ε → Res} {K : Res → Prop}
    (h : CallQ P f ar fun r => ∃ a b c d e, H a b c d e ∧ r = R a b c d e) (k : ∀ a b c d e, H a b c d e → K (R a b c d e)) : ∃ q, Ca f ar q ∧ q.all K :=
  callQ hC h fun r h => let ⟨a, b, c, d, e, h1, h2⟩ := h; h2 ▸ k a b c d e h1
theorem callQ6 {Ca : Contract} (hC : CallC P = Ca) {f : FuncId} {ar : List A} {α β γ δ ε ζ : Type} {H : α → β → γ → δ → ε → ζ → Prop} {R : α → β → γ → δ → ε → ζ → Res} {K : Res → Prop}
    (h : CallQ P f ar fun r => ∃ a b c d e i, H a b c d e i ∧ r = R a b c d e i) (k : ∀ a b c d e i, H a b c d e i → K (R a b c d e i)) : ∃ q, Ca f ar q ∧ q.all K :=
  callQ hC h fun r h => let ⟨a, b, c, d, e, i, h1, h2⟩ := h; h2 ▸ k a b c d e i h1
theorem callQ7 {Ca : Contract} (hC : CallC P = Ca) {f : FuncId} {ar : List A} {α β γ δ ε ζ η : Type} {H : α → β → γ → δ → ε → ζ → η → Prop} {R : α → β → γ → δ → ε → ζ → η → Res} {K : Res → Prop}
    (h : CallQ P f ar fun r => ∃ a b c d e i j, H a b c d e i j ∧ r = R a b c d e i j) (k : ∀ a b c d e i j, H a b c d e i j → K (R a b c d e i j)) : ∃ q, Ca f ar q ∧ q.all K :=
  callQ hC h fun r h => let ⟨a, b, c, d, e, i, j, h1, h2⟩ := h; h2 ▸ k a b c d e i j h1
end Go.Proofs.YtemfaiabbonpnaaGreatDoorW
