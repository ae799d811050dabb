/- An evaluator of loaded code by value, and the proof that what it shows holds of calls; part 3. Conditions: the program draws orders in the mixed way, and the table of types is as the program has it. -/
import Derived.Test.YthaelohccopgjaaV2
import Derived.ChangeArms
import Derived.ReadAgain
import Derived.WideShapes
import Derived.RowKit
import Derived.Deep.Slices
import Derived.ProofKit
import Derived.OpenShut
import Derived.ShutString
import Derived.ChangeOld
import Derived.Below
import Derived.SizedLaws
set_option linter.unusedVariables false
set_option linter.unusedSimpArgs false
set_option linter.unnecessarySimpa false
/- Soundness, part 32: regions whose order is drawn. -/
namespace Go.Proofs.YthaelohccopgjaaW
variable {P : Program} {T : Tab} {E : Env} {γ γ' : Ghs} {s s' : Nat → X} {o o' : Look} {tm : Array Value} {w w' : World}

/-! ### What waits for what -/
def Closed (ops : Array Oper) (listed : Array Bool) : Prop :=
  ∀ (j : Nat) (oj : Oper), ops[j]? = some oj → listed.getD j false = true → ∀ e ∈ oj.after, Region.binds .any e = true → listed.getD e.on false = true
theorem Closed.set {ops : Array Oper} {listed : Array Bool} {i : Nat} (h : Closed ops listed) (hi : i ∈ Region.ready .any ops listed) : Closed ops (listed.setIfInBounds i true) := by
  obtain ⟨_, oi, hoi, hall⟩ := mem_ready.1 hi
  intro j oj hj hl e he hb
  by_cases hij : i = j
  · subst hij
    have : oj = oi := Option.some.inj (hj.symm.trans hoi)
    subst this
    exact getD_set_true (hall e he hb)
  · rw [getD_set_ne false hij] at hl
    exact getD_set_true (h j oj hj hl e he hb)

theorem mem_addN {x : Nat} : ∀ {a b : List Nat}, x ∈ addN a b ↔ x ∈ a ∨ x ∈ b
  | [], b => by simp [addN]
  | y :: a, b => by
    simp only [addN]
    cases hm : memN y b with
    | true =>
      simp only [mem_addN (a := a), List.mem_cons]
      have := (memN_iff y b).1 hm
      constructor
      · rintro (h | h)
        · exact .inl (.inr h)
        · exact .inr h
      · rintro ((rfl | h) | h)
        · exact .inr this
        · exact .inl h
        · exact .inr h
    | false =>
      simp only [List.mem_cons, mem_addN (a := a)]
      constructor
      · rintro (h | h | h)
        · exact .inl (.inl h)
        · exact .inl (.inr h)
        · exact .inr h
      · rintro ((h | h) | h)
        · exact .inl h
        · exact .inr (.inl h)
        · exact .inr (.inr h)
theorem mem_depsOne {acc : List (List Nat)} {x : Nat} : ∀ {l : List Edge}, x ∈ depsOf.depsOne acc l → ∃ e ∈ l, Region.binds .any e = true ∧ (x = e.on ∨ x ∈ acc.getD e.on [])
  | [], h => by simp [depsOf.depsOne] at h
  | e :: r, h => by
    simp only [depsOf.depsOne] at h
    cases hb : Region.binds .any e with
    | true =>
      rw [hb] at h
      rcases mem_addN.1 h with h | h
      · rcases List.mem_cons.1 h with h | h
        · exact ⟨e, .head _, hb, .inl h⟩
        · exact ⟨e, .head _, hb, .inr h⟩
      · obtain ⟨e', h1, h2⟩ := mem_depsOne h
        exact ⟨e', .tail _ h1, h2⟩
    | false =>
      rw [hb] at h
      obtain ⟨e', h1, h2⟩ := mem_depsOne h
      exact ⟨e', .tail _ h1, h2⟩
theorem depsOf_spec : ∀ (rest pre : List Oper) (acc : List (List Nat)), acc.length = pre.length →
    (∀ (j : Nat) (oj : Oper), pre[j]? = some oj → ∀ x ∈ acc.getD j [], ∃ e ∈ oj.after, Region.binds .any e = true ∧ (x = e.on ∨ (e.on < j ∧ x ∈ acc.getD e.on []))) →
    (depsOf rest acc).length = (pre ++ rest).length ∧ ∀ (j : Nat) (oj : Oper), (pre ++ rest)[j]? = some oj → ∀ x ∈ (depsOf rest acc).getD j [], ∃ e ∈ oj.after, Region.binds .any e = true ∧ (x = e.on ∨ (e.on < j ∧ x ∈ (depsOf rest acc).getD e.on []))
  | [], pre, acc, hl, h => by
    simp only [depsOf, List.append_nil]
    exact ⟨hl, h⟩
  | o :: rest, pre, acc, hl, h => by
    have := depsOf_spec rest (pre ++ [o]) (acc ++ [depsOf.depsOne acc o.after.toList]) (by simp [hl]) ?_
    · simp only [depsOf]
      simpa using this
    · intro j oj hj x hx
      have hget : ∀ i, i < pre.length → (acc ++ [depsOf.depsOne acc o.after.toList]).getD i [] = acc.getD i [] := fun i hi => by
        simp [List.getD_eq_getElem?_getD, List.getElem?_append_left (show i < acc.length by omega)]
      by_cases hjl : j < pre.length
      · rw [List.getElem?_append_left hjl] at hj
        rw [hget j hjl] at hx
        obtain ⟨e, h1, h2, h3⟩ := h j oj hj x hx
        refine ⟨e, h1, h2, h3.imp id fun h4 => ⟨h4.1, ?_⟩⟩
        rw [hget _ (by omega)]; exact h4.2
      · rw [List.getElem?_append_right (by omega)] at hj
        have hj0 : j = pre.length := by
          have := (List.getElem?_eq_some_iff.1 hj).1
          simp at this; omega
        subst hj0
        simp at hj; subst hj
        have hlast : (acc ++ [depsOf.depsOne acc o.after.toList]).getD pre.length [] = depsOf.depsOne acc o.after.toList := by
          rw [← hl]; simp [List.getD_eq_getElem?_getD]
        rw [hlast] at hx
        obtain ⟨e, h1, h2, h3⟩ := mem_depsOne hx
        refine ⟨e, by simpa using h1, h2, h3.imp id fun h4 => ?_⟩
        have hlt : e.on < pre.length := by
          rcases Nat.lt_or_ge e.on pre.length with h5 | h5
          · exact h5
          · rw [List.getD_eq_getElem?_getD, List.getElem?_eq_none (by omega)] at h4
            simp at h4
        exact ⟨hlt, by rw [hget _ hlt]; exact h4⟩
theorem deps_spec (ops : Array Oper) (j : Nat) (oj : Oper) (hj : ops[j]? = some oj) (x : Nat) (hx : x ∈ (depsOf ops.toList []).getD j []) :
    ∃ e ∈ oj.after, Region.binds .any e = true ∧ (x = e.on ∨ (e.on < j ∧ x ∈ (depsOf ops.toList []).getD e.on [])) := by
  have := (depsOf_spec ops.toList [] [] rfl (by simp)).2
  simp only [List.nil_append] at this
  exact this j oj (by simpa using hj) x hx
theorem deps_length (ops : Array Oper) : (depsOf ops.toList []).length = ops.size := by
  have := (depsOf_spec ops.toList [] [] rfl (by simp)).1
  simpa using this
theorem deps_listed (ops : Array Oper) {listed : Array Bool} (hc : Closed ops listed) (hlt : ∀ i, listed.getD i false = true → i < ops.size) : ∀ (j : Nat) (oj : Oper), ops[j]? = some oj → (∀ e ∈ oj.after, Region.binds .any e = true → listed.getD e.on false = true) →
    ∀ x ∈ (depsOf ops.toList []).getD j [], listed.getD x false = true := by
  intro j
  induction j using Nat.strongRecOn with
  | _ j ih =>
    intro oj hj hall x hx
    obtain ⟨e, h1, h2, h3⟩ := deps_spec ops j oj hj x hx
    have h4 := hall e h1 h2
    rcases h3 with rfl | ⟨h5, h6⟩
    · exact h4
    · obtain ⟨oe, hoe⟩ : ∃ oe, ops[e.on]? = some oe := ⟨ops[e.on]'(hlt _ h4), by simp [hlt _ h4]⟩
      exact ih e.on h5 oe hoe (fun e' h7 h8 => hc e.on oe hoe h4 e' h7 h8) x h6
theorem belowAll_spec {deps : List Nat} {j0 : Nat} : ∀ {n : Nat}, belowAll deps j0 n = true → ∀ i, j0 ≤ i → i < n → i ∈ deps
  | 0, _, i, _, h => by omega
  | n + 1, h, i, h0, hi => by
    simp only [belowAll] at h
    cases hl : ltN n j0 with
    | true => have : n < j0 := by simpa using hl
              omega
    | false =>
      rw [hl] at h
      cases hm : memN n deps with
      | false => rw [hm] at h; cases h
      | true =>
        rw [hm] at h
        by_cases e : i = n
        · subst e; exact (memN_iff _ _).1 hm
        · exact belowAll_spec h i h0 (by omega)
theorem belowAll_self (deps : List Nat) (j : Nat) : belowAll deps j j = true := by
  cases j with
  | zero => rfl
  | succ n =>
    simp only [belowAll]
    have : ltN n (n + 1) = true := by simp
    rw [this]
theorem laterAll_spec {j : Nat} : ∀ {l : List (List Nat)}, laterAll j l = true → ∀ (i : Nat) (d : List Nat), l[i]? = some d → j ∈ d
  | [], _, i, d, h => by simp at h
  | a :: r, h, i, d, hd => by
    simp only [laterAll] at h
    cases hm : memN j a with
    | false => rw [hm] at h; cases h
    | true =>
      rw [hm] at h
      cases i with
      | zero => simp at hd; subst hd; exact (memN_iff _ _).1 hm
      | succ i => exact laterAll_spec h i d (by simpa using hd)
theorem barrier_spec {deps : List (List Nat)} {j0 j : Nat} (h : barrier deps j0 j = true) : (∀ i, j0 ≤ i → i < j → i ∈ deps.getD j []) ∧ ∀ i, j < i → i < deps.length → j ∈ deps.getD i [] := by
  simp only [barrier] at h
  cases hb : belowAll (deps.getD j []) j0 j with
  | false => rw [hb] at h; cases h
  | true =>
    rw [hb] at h
    refine ⟨belowAll_spec hb, fun i h1 h2 => ?_⟩
    rw [dropN_eq] at h
    refine laterAll_spec h (i - (j + 1)) _ ?_
    rw [List.getElem?_drop, show j + 1 + (i - (j + 1)) = i by omega, List.getD_eq_getElem?_getD, List.getElem?_eq_getElem h2]
    rfl
theorem barrier_self {deps : List (List Nat)} {j0 j : Nat} (h : barrier deps j0 j = true) : barrier deps j j = true := by
  simp only [barrier] at h ⊢
  rw [belowAll_self]
  cases hb : belowAll (deps.getD j []) j0 j with
  | false => rw [hb] at h; cases h
  | true => rw [hb] at h; exact h
theorem edgesBack_spec {j : Nat} : ∀ {l : List Edge}, edgesBack j l = true → ∀ e ∈ l, Region.binds .any e = true → e.on < j
  | [], _ => by simp
  | a :: r, h => by
    simp only [edgesBack] at h
    cases hb : Region.binds .any a with
    | false =>
      rw [hb] at h
      intro e he hbe
      rcases List.mem_cons.1 he with rfl | he
      · rw [hb] at hbe; cases hbe
      · exact edgesBack_spec h e he hbe
    | true =>
      rw [hb] at h
      cases hm : ltN a.on j with
      | false => rw [hm] at h; cases h
      | true =>
        rw [hm] at h
        intro e he hbe
        rcases List.mem_cons.1 he with rfl | he
        · simpa using hm
        · exact edgesBack_spec h e he hbe
theorem opsBack_spec : ∀ {l : List Oper} {j : Nat}, opsBack j l = true → ∀ (i : Nat) (oi : Oper), l[i]? = some oi → ∀ e ∈ oi.after, Region.binds .any e = true → e.on < j + i
  | [], _, _, i, oi, h => by simp at h
  | a :: r, j, h, i, oi, hi => by
    simp only [opsBack] at h
    cases hm : edgesBack j a.after.toList with
    | false => rw [hm] at h; cases h
    | true =>
      rw [hm] at h
      cases i with
      | zero => simp at hi; subst hi; intro e he hbe; exact edgesBack_spec hm e (by simpa using he) hbe
      | succ i =>
        intro e he hbe
        have := opsBack_spec h i oi (by simpa using hi) e he hbe
        omega

/-! ### Guards, picked -/
theorem pk_guardW (ops : List Oper) (oo : Oper) : Pk (fun K => guardW ops s oo K) := by
  unfold guardW
  cases oo.guard with
  | none => exact pk_ret _
  | some jw =>
    obtain ⟨j, want⟩ := jw
    simp only
    refine pk_bind (pk_nth _ _) fun q => ?_
    cases q.dst with
    | none => exact pk_false
    | some t =>
      simp only
      cases s t with
      | agg cs => exact pk_false
      | tup vs => cases vs <;> first | exact pk_ret _ | exact pk_false
      | c c => exact pk_bind (pk_asB _) fun b => pk_br (pk_ret _) (pk_ret _)
theorem Pk.pick {α : Type} {H : (α → Prop) → Prop} (h : Pk H) {K : α → Prop} (hk : H K) : ∃ a, K a ∧ H (fun a' => a' = a) := by
  obtain ⟨A, hA⟩ := h
  obtain ⟨a, h1, h2⟩ := (hA K).1 hk
  exact ⟨a, h2, (hA _).2 ⟨a, h1, rfl⟩⟩
theorem guardW_congr {ops : List Oper} {oo : Oper} {K : Bool → Prop} (h : ∀ t ∈ guardTmps ops oo, s' t = s t) (hq : guardW ops s oo K) : guardW ops s' oo K := by
  unfold guardW at hq ⊢
  cases hg : oo.guard with
  | none => rw [hg] at hq; exact hq
  | some jw =>
    obtain ⟨j, want⟩ := jw
    rw [hg] at hq
    simp only [nth_iff] at hq ⊢
    obtain ⟨q, hj, hq⟩ := hq
    refine ⟨q, hj, ?_⟩
    cases hd : q.dst with
    | none => rw [hd] at hq; exact hq
    | some t =>
      simp only [hd] at hq ⊢
      rw [h t (by simp [guardTmps, hg, hj, hd])]
      exact hq

/-! ### Keys -/
theorem keysCs_eq : ∀ (l : List C), keysCs l = l.flatMap C.keys
  | [] => rfl
  | c :: r => by simp [keysCs, app_eq, keysCs_eq r]
theorem keysTs_eq : ∀ (l : List (Bool × List C)), keysTs l = l.flatMap fun q => keysCs q.2
  | [] => rfl
  | c :: r => by simp [keysTs, app_eq, keysTs_eq r]
theorem mapCaps_killL {ks : List Nat} : ∀ {l : List Nat}, (∀ k ∈ l, k ∉ ks) → mapCaps (killL ks) l = some l
  | [], _ => rfl
  | a :: r, h => by
    have h1 : killL ks a = some a := by simp [killL, (memN_false a ks).2 (h a (.head _))]
    simp [mapCaps, h1, mapCaps_killL fun k hk => h k (.tail _ hk)]
theorem C.killL_id {ks : List Nat} {c : C} (h : ∀ k ∈ c.keys, k ∉ ks) : C.mapK (killL ks) c = c := by
  cases c <;> simp only [C.mapK] <;> try rfl
  all_goals simp only [C.keys, List.mem_singleton, forall_eq] at h
  case fn f l => rw [mapCaps_killL h]
  all_goals simp only [killL, (memN_false _ _).2 h]
theorem Cs.killL_id {ks : List Nat} : ∀ {l : List C}, (∀ k ∈ keysCs l, k ∉ ks) → mapCs (C.mapK (killL ks)) l = l
  | [], _ => rfl
  | c :: r, h => by
    simp only [keysCs, app_eq, List.mem_append] at h
    simp [mapCs, C.killL_id fun k hk => h k (.inl hk), Cs.killL_id fun k hk => h k (.inr hk)]
theorem Ts.killL_id {ks : List Nat} : ∀ {l : List (Bool × List C)}, (∀ k ∈ keysTs l, k ∉ ks) → mapTs (C.mapK (killL ks)) l = l
  | [], _ => rfl
  | (b, c) :: r, h => by
    simp only [keysTs, app_eq, List.mem_append] at h
    simp [mapTs, Cs.killL_id fun k hk => h k (.inl hk), Ts.killL_id fun k hk => h k (.inr hk)]
theorem X.killL_id {ks : List Nat} {x : X} (h : ∀ k ∈ x.keys, k ∉ ks) : x.mapC (C.mapK (killL ks)) = x := by
  cases x with
  | c a => exact congrArg X.c (C.killL_id h)
  | agg l => exact congrArg X.agg (Cs.killL_id h)
  | tup l => exact congrArg X.tup (Ts.killL_id h)
theorem Ob.killL_id {ks : List Nat} {b : Ob} (h : ∀ k ∈ b.keys, k ∉ ks) : b.mapC (C.mapK (killL ks)) = b := by
  cases b with
  | bx l => exact congrArg Ob.bx (Cs.killL_id h)
  | op q => rfl
  | ar es xs => rfl
theorem C.preF_keys {all : List Nat} {c : C} : ∀ k ∈ (C.mapK (preF all) c).keys, k / 1000 ∉ all := by
  have h1 : ∀ k k', preF all k = some k' → k' / 1000 ∉ all := fun k k' h => by
    simp only [preF] at h
    cases hm : memN (k / 1000) all with
    | true => rw [hm] at h; cases h
    | false => rw [hm] at h; cases h; exact (memN_false _ _).1 hm
  cases c <;> simp only [C.mapK]
  case fn f l =>
    cases hm : mapCaps (preF all) l with
    | none => simp [C.keys]
    | some l' =>
      simp only [C.keys]
      intro k hk
      obtain ⟨i, hi⟩ := List.mem_iff_getElem?.1 hk
      obtain ⟨_, h2⟩ := mapCaps_spec hm
      obtain ⟨k0, _, h3⟩ := h2 i k hi
      exact h1 k0 k h3
  case aw k => cases hk : preF all k <;> simp [C.keys]; exact h1 _ _ hk
  case as k lo n => cases hk : preF all k <;> simp [C.keys]; exact h1 _ _ hk
  case pb k j => cases hk : preF all k <;> simp [C.keys]; exact h1 _ _ hk
  case pr k i j => cases hk : preF all k <;> simp [C.keys]; exact h1 _ _ hk
  all_goals simp [C.keys]
theorem Cs.preF_keys {all : List Nat} : ∀ {l : List C}, ∀ k ∈ keysCs (mapCs (C.mapK (preF all)) l), k / 1000 ∉ all
  | [], k, h => by simp [mapCs, keysCs] at h
  | c :: r, k, h => by
    simp only [mapCs, keysCs, app_eq, List.mem_append] at h
    exact h.elim (C.preF_keys k) (Cs.preF_keys k)
theorem Ts.preF_keys {all : List Nat} : ∀ {l : List (Bool × List C)}, ∀ k ∈ keysTs (mapTs (C.mapK (preF all)) l), k / 1000 ∉ all
  | [], k, h => by simp [mapTs, keysTs] at h
  | (b, c) :: r, k, h => by
    simp only [mapTs, keysTs, app_eq, List.mem_append] at h
    exact h.elim (Cs.preF_keys k) (Ts.preF_keys k)
theorem X.preF_keys {all : List Nat} (x : X) : ∀ k ∈ (x.mapC (C.mapK (preF all))).keys, k / 1000 ∉ all := by
  cases x with
  | c a => exact C.preF_keys
  | agg l => exact Cs.preF_keys
  | tup l => exact Ts.preF_keys
theorem Ob.preF_keys {all : List Nat} (b : Ob) : ∀ k ∈ (b.mapC (C.mapK (preF all))).keys, k / 1000 ∉ all := by
  cases b with
  | bx l => exact Cs.preF_keys
  | ar es xs => intro k hk; simp [Ob.mapC, Ob.keys] at hk
  | op q => intro k hk; simp [Ob.mapC, Ob.keys] at hk
theorem look1_preO {all : List Nat} : ∀ (o : List (Nat × Ob)) (k : Nat), look1 (preO all o) k = if k / 1000 ∈ all then none else look1 o k
  | [], k => by simp [preO, look1]
  | (a, b) :: r, k => by
    simp only [preO]
    cases hm : memN (a / 1000) all with
    | true =>
      have hm := (memN_iff _ _).1 hm
      simp only [look1_preO r, look1, beq_dec]
      by_cases e : a = k
      · subst e; simp [hm]
      · simp [e]
    | false =>
      have hm := (memN_false _ _).1 hm
      simp only [look1_preO r, look1, beq_dec]
      by_cases e : a = k
      · subst e; simp [hm]
      · simp [e]

theorem Rel.pre {st : State} (all : List Nat) (h : Rel E γ (slot st.s) (look1 st.o) tm w) : ∃ γ', Nx γ w γ' w ∧ Rel E γ' (slot (preSt all st).s) (look1 (preSt all st).o) tm w := by
  let γ' : Ghs := fun k => if k / 1000 ∈ all then .no else γ k
  have hb : ∀ k b, b ∈ (γ' k).bs → b ∈ (γ k).bs := fun k b hk => by
    by_cases e : k / 1000 ∈ all
    · simp [γ', e, Gh.bs] at hk
    · simpa [γ', e] using hk
  have hn : Nx γ w γ' w := ⟨Fr.refl _ _, fun b ⟨k, hk⟩ => .inl ⟨k, hb k b hk⟩⟩
  refine ⟨γ', hn, h.go hn (C.mapK (preF all)) rfl (turns_mapK hn _ fun k k' e => ?_) (fun i => slot_mapS _ rfl _ _) (fun k b hk => .inl ?_) (fun k k' b h1 h2 => h.inj k k' b (hb k b h1) (hb k' b h2)) fun k b h1 => h.lt k b (hb k b h1)⟩
  · simp only [preF] at e
    cases hm : memN (k / 1000) all with
    | true => rw [hm] at e; cases e
    | false =>
      rw [hm] at e; cases e
      left
      simp [γ', (memN_false _ _).1 hm]
  · simp only [preSt, look1_mapO, look1_preO] at hk
    by_cases e : k / 1000 ∈ all
    · simp [e] at hk
    · simp [e] at hk
      obtain ⟨b0, h1, rfl⟩ := hk
      exact ⟨k, b0, h1, rfl, by simp [γ', e], fun _ _ => rfl⟩
end Go.Proofs.YthaelohccopgjaaW
/- Soundness, part 33: regions whose order is drawn, 2. -/
namespace Go.Proofs.YthaelohccopgjaaW
variable {P : Program} {T : Tab} {E : Env} {γ γ' : Ghs} {s s' : Nat → X} {o o' : Look} {tm : Array Value} {w w' : World}

/-- What a run of operations has come to: of each, where it writes, what, and what is new. -/
abbrev Ents := List (Nat × X × List (Nat × Ob))
/-- What of one of them is there. -/
abbrev Cur := Nat → (Nat × X × List (Nat × Ob)) → Option (X × List (Nat × Ob))
def runS (base : Nat → X) (fl : Cur) : Nat → Ents → Nat → X
  | _, [], t => base t
  | i, e :: r, t => if e.1 = t then (match fl i e with
    | some p => p.1
    | none => .c .no) else runS base fl (i + 1) r t
def runO (base : Look) (fl : Cur) : Nat → Ents → Look
  | _, [], k => base k
  | i, e :: r, k => if k / 1000 = e.1 then (match fl i e with
    | some p => look1 (putsO e.1 p.2 []) k
    | none => none) else runO base fl (i + 1) r k
def endSt0 : Ents → State → State
  | [], st => st
  | e :: r, st => endSt0 r ⟨put1 st.s e.1 e.2.1, putsO e.1 e.2.2 st.o⟩
def idx : Nat → Ents → List (Nat × Nat)
  | _, [] => []
  | i, e :: r => (i, e.1) :: idx (i + 1) r

theorem sndL_eq : ∀ (l : List (Nat × Nat)), sndL l = l.map Prod.snd
  | [] => rfl
  | p :: r => by simp [sndL, sndL_eq r]
theorem sndL_idx : ∀ (i : Nat) (en : Ents), sndL (idx i en) = en.map Prod.fst
  | _, [] => rfl
  | i, e :: r => by simp [sndL, idx, sndL_idx (i + 1) r]

theorem look1_putsO_app (d : Nat) : ∀ (n o : List (Nat × Ob)) (k : Nat), look1 (putsO d n o) k = match look1 (putsO d n []) k with
    | some b => some b
    | none => look1 o k
  | [], o, k => by simp [putsO, look1]
  | (c, b) :: r, o, k => by
    simp only [putsO]
    rw [look1_putsO_app d r (put1 o (key d c) b), look1_putsO_app d r (put1 [] (key d c) b)]
    cases look1 (putsO d r []) k with
    | some b' => rfl
    | none =>
      simp only [look1_put1]
      by_cases e : key d c = k <;> simp [e, look1]
theorem smallKs_spec : ∀ {n : List (Nat × Ob)}, smallKs n = true → ∀ c b, (c, b) ∈ n → c < 1000
  | [], _, c, b, h => by simp at h
  | p :: r, h, c, b, hc => by
    simp only [smallKs] at h
    cases hm : ltN p.1 1000 with
    | false => rw [hm] at h; cases h
    | true =>
      rw [hm] at h
      rcases List.mem_cons.1 hc with rfl | hc
      · simpa using hm
      · exact smallKs_spec h c b hc
theorem key_div {d c : Nat} (h : c < 1000) : key d c / 1000 = d := by simp only [key]; omega
theorem look1_small {d : Nat} {n : List (Nat × Ob)} (h : smallKs n = true) {k : Nat} {b : Ob} (hk : look1 (putsO d n []) k = some b) : k / 1000 = d ∧ ∃ c, (c, b) ∈ n ∧ k = key d c := by
  rcases look1_putsO d n [] k b hk with ⟨c, h1, rfl⟩ | ⟨_, h2⟩
  · exact ⟨key_div (smallKs_spec h c b h1), c, h1, rfl⟩
  · simp [look1] at h2

/-- All have run. -/
theorem runS_all {fl : Cur} : ∀ {en : Ents} {i : Nat} {st : State} {base : Nat → X}, (∀ (j : Nat) (e : Nat × X × List (Nat × Ob)), en[j]? = some e → fl (i + j) e = some e.2) → (en.map Prod.fst).Nodup → (∀ t, t ∉ en.map Prod.fst → slot st.s t = base t) →
    ∀ t, (∀ t, t ∉ en.map Prod.fst → slot st.s t = base t) → slot (endSt0 en st).s t = runS base fl i en t
  | [], i, st, base, _, _, hb, t, _ => hb t (by simp)
  | e :: r, i, st, base, hf, hn, hb, t, _ => by
    simp only [List.map_cons, List.nodup_cons] at hn
    simp only [endSt0, runS]
    by_cases he : e.1 = t
    · subst he
      have key : ∀ (r : Ents) (st : State), e.1 ∉ r.map Prod.fst → slot (endSt0 r st).s e.1 = slot st.s e.1 := fun r => by
        induction r with
        | nil => intro st _; rfl
        | cons q r ih =>
          intro st hq
          simp only [List.map_cons, List.mem_cons, not_or] at hq
          simp only [endSt0]
          rw [ih _ hq.2, slot_put1]
          simp [Ne.symm hq.1]
      rw [key r _ hn.1, slot_put1]
      have h0 := hf 0 e rfl
      simp only [Nat.add_zero] at h0
      simp [h0]
    · simp only [he, if_false]
      have hb' : ∀ t', t' ∉ r.map Prod.fst → slot (put1 st.s e.1 e.2.1) t' = if t' = e.1 then e.2.1 else base t' := fun t' ht' => by
        rw [slot_put1]
        by_cases h1 : e.1 = t'
        · simp [h1]
        · have h2 : ¬ t' = e.1 := fun h => h1 h.symm
          simp only [h1, if_false, h2]
          exact hb t' (by simp [ht', h2])
      have := runS_all (fl := fl) (i := i + 1) (st := ⟨put1 st.s e.1 e.2.1, putsO e.1 e.2.2 st.o⟩) (base := fun t' => if t' = e.1 then e.2.1 else base t') (fun j e' h => by have := hf (j + 1) e' (by simpa using h); rwa [show i + (j + 1) = i + 1 + j by omega] at this) hn.2 hb' t hb'
      rw [this]
      have cong : ∀ (r : Ents) (i : Nat), (∀ q ∈ r, True) → runS (fun t' => if t' = e.1 then e.2.1 else base t') fl i r t = runS base fl i r t := fun r => by
        induction r with
        | nil => intro i _; simp only [runS]; rw [if_neg (fun h => he h.symm)]
        | cons q r ih => intro i _; simp only [runS]; rw [ih (i + 1) (fun _ _ => trivial)]
      exact cong r (i + 1) fun _ _ => trivial
theorem runO_all {fl : Cur} : ∀ {en : Ents} {i : Nat} {st : State} {base : Look}, (∀ (j : Nat) (e : Nat × X × List (Nat × Ob)), en[j]? = some e → fl (i + j) e = some e.2) → (en.map Prod.fst).Nodup → (∀ e ∈ en, smallKs e.2.2 = true) →
    (∀ k, k / 1000 ∉ en.map Prod.fst → look1 st.o k = base k) → (∀ k, k / 1000 ∈ en.map Prod.fst → look1 st.o k = none) → ∀ k, look1 (endSt0 en st).o k = runO base fl i en k
  | [], i, st, base, _, _, _, hb, _, k => hb k (by simp)
  | e :: r, i, st, base, hf, hn, hs, hb, h0, k => by
    simp only [List.map_cons, List.nodup_cons] at hn
    simp only [endSt0, runO]
    have hse := hs e (.head _)
    have hlook : ∀ k', look1 (putsO e.1 e.2.2 st.o) k' = if k' / 1000 = e.1 then look1 (putsO e.1 e.2.2 []) k' else look1 st.o k' := fun k' => by
      rw [look1_putsO_app]
      by_cases hk : k' / 1000 = e.1
      · simp only [hk, if_true]
        cases hl : look1 (putsO e.1 e.2.2 []) k' with
        | some b => rfl
        | none => simp only; exact h0 k' (by simp [hk])
      · simp only [hk, if_false]
        cases hl : look1 (putsO e.1 e.2.2 []) k' with
        | some b => exact absurd (look1_small hse hl).1 hk
        | none => rfl
    have := runO_all (fl := fl) (i := i + 1) (en := r) (st := ⟨put1 st.s e.1 e.2.1, putsO e.1 e.2.2 st.o⟩) (base := fun k' => if k' / 1000 = e.1 then look1 (putsO e.1 e.2.2 []) k' else base k') (fun j e' h => by have := hf (j + 1) e' (by simpa using h); rwa [show i + (j + 1) = i + 1 + j by omega] at this) hn.2
      (fun q hq => hs q (.tail _ hq)) (fun k' hk' => by
        rw [hlook]
        by_cases h1 : k' / 1000 = e.1
        · simp [h1]
        · simp only [h1, if_false]; exact hb k' (by simp [h1, hk'])) (fun k' hk' => by
        rw [hlook]
        have h1 : ¬ k' / 1000 = e.1 := fun h => hn.1 (h ▸ hk')
        simp only [h1, if_false]
        exact h0 k' (by simp [hk'])) k
    rw [this]
    have cong : ∀ (r : Ents) (i : Nat), e.1 ∉ r.map Prod.fst → runO (fun k' => if k' / 1000 = e.1 then look1 (putsO e.1 e.2.2 []) k' else base k') fl i r k = if k / 1000 = e.1 then look1 (putsO e.1 e.2.2 []) k else runO base fl i r k := fun r => by
      induction r with
      | nil => intro i _; simp only [runO]
      | cons q r ih =>
        intro i hq
        simp only [List.map_cons, List.mem_cons, not_or] at hq
        simp only [runO]
        by_cases h1 : k / 1000 = e.1
        · have h2 : ¬ k / 1000 = q.1 := fun h => hq.1 (h1 ▸ h)
          rw [if_neg h2, ih (i + 1) hq.2, if_pos h1, if_pos h1]
        · simp only [h1, if_false]
          have := ih (i + 1) hq.2
          simp only [h1, if_false] at this
          rw [this]
    rw [cong r (i + 1) hn.1]
    by_cases h1 : k / 1000 = e.1
    · have h0 := hf 0 e rfl
      simp only [Nat.add_zero] at h0
      simp [h1, h0]
    · simp [h1]

def endSt (cs : List (Nat × Nat)) : Nat → Ents → State → State
  | _, [], st => st
  | m, e :: r, st => endSt cs (m + 1) r (behind (conAt cs m) e.1 e.2.1 e.2.2 st)
theorem endSt_snoc (cs : List (Nat × Nat)) (e : Nat × X × List (Nat × Ob)) : ∀ (m : Nat) (en : Ents) (st : State), endSt cs m (en ++ [e]) st = behind (conAt cs (m + en.length)) e.1 e.2.1 e.2.2 (endSt cs m en st)
  | m, [], st => rfl
  | m, a :: r, st => by
    simp only [List.cons_append, endSt, List.length_cons]
    rw [endSt_snoc cs e (m + 1) r, show m + 1 + r.length = m + (r.length + 1) by omega]
/-- An operation that turns nothing, or takes a row. -/
def EntQ (P : Program) (T : Tab) (ops : Array Oper) (seg cs ps : List (Nat × Nat)) (st : State) (m : Nat) (e : Nat × X × List (Nat × Ob)) (oo : Oper) : Prop :=
  pairA ps m = none ∧ pairS ps m = none ∧ oo.dst = some e.1 ∧ visTmps (sndL seg) (aheadOf ((depsOf ops.toList []).getD m []) seg) (app (guardTmps ops.toList oo) (opTmps oo.op)) = true ∧
    ∃ b, guardW ops.toList (slot st.s) oo (fun b' => b' = b) ∧ match b with
      | true => qrun prims T (CallC P) (conAt cs m) (restrictS (opTmps oo.op) fun t => killX (hid (depsOf ops.toList []) m cs) (slot st.s t)) (restrictO (sndL seg) (aheadOf ((depsOf ops.toList []).getD m []) seg) (killO (hid (depsOf ops.toList []) m cs) (look1 st.o))) e.1 oo.op oo.type (fun x' n' => x' = e.2.1 ∧ n' = e.2.2)
      | false => e.2.1 = .tup [] ∧ e.2.2 = []
/-- An alloc of a pair. -/
def EntA (ops : Array Oper) (seg cs ps : List (Nat × Nat)) (m : Nat) (e : Nat × X × List (Nat × Ob)) (oo : Oper) : Prop :=
  ∃ is d t, pairA ps m = some is ∧ pairS ps m = none ∧ pairS ps is = some m ∧ conAt cs m = none ∧ oo.guard = none ∧ oo.op = .alloc t ∧ oo.dst = some d ∧ (is, d) ∈ seg ∧ e.2 = (.c .no, [])
/-- A store of a pair. -/
def EntS (T : Tab) (ops : Array Oper) (seg cs ps : List (Nat × Nat)) (st : State) (m : Nat) (e : Nat × X × List (Nat × Ob)) (oo : Oper) : Prop :=
  ∃ ia oa t v ys, pairA ps m = none ∧ pairS ps m = some ia ∧ conAt cs m = none ∧ oo.guard = none ∧ oo.dst = none ∧ oo.op = .store t (.tmp e.1) v ∧ ia ∈ (depsOf ops.toList []).getD m [] ∧ segFrom seg 0 ≤ ia ∧ ops[ia]? = some oa ∧ oa.op = .alloc t ∧ oa.dst = some e.1 ∧
    visTmps (sndL seg) (aheadOf ((depsOf ops.toList []).getD m []) seg) (srcT v) = true ∧ (T.at t).is = true ∧ (T.at t).bld = none ∧ (T.at t).zero.length < 900 ∧ smallKs (naD T e.1 t) = true ∧ onlyD e.1 (keysN (naD T e.1 t)) = true ∧ (T.at t).zero.length = (T.at t).cells ∧
    (opd T (restrictS (srcT v) fun u => killX (hid (depsOf ops.toList []) m cs) (slot st.s u)) t v).isNo = false ∧ (opd T (restrictS (srcT v) fun u => killX (hid (depsOf ops.toList []) m cs) (slot st.s u)) t v).isTup = false ∧
    (opd T (restrictS (srcT v) fun u => killX (hid (depsOf ops.toList []) m cs) (slot st.s u)) t v).cells = mapY ys ∧ ys.length = (T.at t).cells ∧ e.2 = (.c (.pb (key e.1 0) 0), [(0, .bx (mapY ys))])
/-- Of the run: what its operation number m is to show. -/
structure EntOk (P : Program) (T : Tab) (ops : Array Oper) (seg cs ps : List (Nat × Nat)) (st : State) (m : Nat) (e : Nat × X × List (Nat × Ob)) : Prop where
  small : smallKs e.2.2 = true
  off : offs (conAt cs m) (hid (depsOf ops.toList []) m cs) e.1 e.2.1 e.2.2 = true
  vk : visAll (sndL seg) (aheadOf ((depsOf ops.toList []).getD m []) seg) e.1 (app e.2.1.keys (keysN e.2.2)) = true
  op : ∃ oo, ops[m]? = some oo ∧ reg ps m oo = some e.1 ∧ (EntQ P T ops seg cs ps st m e oo ∨ EntA ops seg cs ps m e oo ∨ EntS T ops seg cs ps st m e oo)
def SegOk (P : Program) (T : Tab) (ops : Array Oper) (seg cs ps : List (Nat × Nat)) : Nat → State → Ents → Prop
  | _, _, [] => True
  | m, st, e :: r => EntOk P T ops seg cs ps st m e ∧ SegOk P T ops seg cs ps (m + 1) (behind (conAt cs m) e.1 e.2.1 e.2.2 st) r

theorem pk_qcons2 (t : Nat) (o : Look) (d t0 u : Nat) (x z : X) : Pk2 (fun K => qcons2 prims T t o d t0 u x z K) := by
  simp only [qcons2]
  split
  · exact pk2_false
  · refine pk2_bind (pk_asC x) fun a => pk2_bind (pk_asC z) fun b => ?_
    split
    · exact pk2_chk <| pk2_bind2 (pk_rowAt _ _) fun es xs => pk2_bind2 (pk_source _ _) fun zs ys => pk2_chk <| pk2_chk <| pk2_chk <| pk2_chk <| pk2_chk <| pk2_ret _ _
    · exact pk2_false
theorem pk_qcons (t : Nat) (s : Nat → X) (o : Look) (d : Nat) (op : Op) : Pk2 (fun K => qcons prims T t s o d op K) := by
  cases op <;> simp only [qcons] <;> try exact pk2_false
  rename_i c
  split
  · split
    · split
      · exact pk2_false
      · split
        · exact pk2_false
        · split
          · exact pk2_false
          · split
            · exact pk2_false
            · exact pk2_chk <| pk2_chk <| pk_qcons2 _ _ _ _ _ _ _
    · exact pk2_false
  · exact pk2_false
theorem pk_qrun (con : Option Nat) (s : Nat → X) (o : Look) (d : Nat) (op : Op) (ty : TypeId) : Pk2 (fun K => qrun prims T (CallC P) con s o d op ty K) := by
  cases con with
  | none => exact pk_qcore (CallC P) d op ty
  | some t => exact pk_qcons t s o d op

theorem isNone_t {α : Type} {o : Option α} (h : isNone o = true) : o = none := by cases o <;> simp [isNone] at h; rfl
theorem noGuard_t {o : Oper} (h : noGuard o = true) : o.guard = none := by
  simp only [noGuard] at h
  cases hg : o.guard <;> simp [hg] at h; rfl
theorem isD_t {d : Nat} {o : Option Nat} (h : isD d o = true) : o = some d := by
  cases o with
  | none => simp [isD] at h
  | some e => simp only [isD] at h; rw [eqN_t h]
theorem memP_t {i d : Nat} : ∀ {l : List (Nat × Nat)}, memP i d l = true → (i, d) ∈ l
  | [], h => by simp [memP] at h
  | p :: r, h => by
    simp only [memP] at h
    cases he : eqN p.1 i with
    | true => rw [he] at h; rw [← eqN_t he, ← eqN_t h]; exact .head _
    | false => rw [he] at h; exact .tail _ (memP_t h)
theorem onlyD_t {d : Nat} : ∀ {l : List Nat}, onlyD d l = true → ∀ k ∈ l, k / 1000 = d
  | [], _, k, hk => by simp at hk
  | a :: r, h, k, hk => by
    simp only [onlyD] at h
    cases he : eqN (a / 1000) d with
    | false => rw [he] at h; cases h
    | true =>
      rw [he] at h
      rcases List.mem_cons.1 hk with rfl | hk
      · exact eqN_t he
      · exact onlyD_t h k hk
theorem dropN_get {α : Type} : ∀ {n : Nat} {l : List α} {a : α} {r : List α}, dropN n l = a :: r → l[n]? = some a
  | 0, l, a, r, h => by simp only [dropN] at h; subst h; rfl
  | n + 1, [], a, r, h => by simp [dropN] at h
  | n + 1, b :: l, a, r, h => by simp only [dropN] at h; simpa using dropN_get h
theorem yCs_iff : ∀ {l : List C} {K : List Y → Prop}, yCs l K ↔ ∃ ys, l = mapY ys ∧ K ys
  | [], K => ⟨fun h => ⟨[], rfl, h⟩, fun ⟨ys, h1, h2⟩ => by cases ys with
    | nil => exact h2
    | cons y r => simp [mapY] at h1⟩
  | c :: r, K => by
    simp only [yCs]
    cases c <;> simp only [yCs_iff (l := r)]
    case y y => exact ⟨fun ⟨ys, h1, h2⟩ => ⟨y :: ys, by simp [mapY, h1], h2⟩, fun ⟨ys, h1, h2⟩ => by cases ys with
      | nil => simp [mapY] at h1
      | cons y' r' => simp only [mapY, List.cons.injEq, C.y.injEq] at h1; exact ⟨r', h1.2, h1.1 ▸ h2⟩⟩
    all_goals exact ⟨fun h => h.elim, fun ⟨ys, h1, _⟩ => by cases ys <;> simp [mapY] at h1⟩
/-- One of a run: what it shows. -/
theorem ent_of_unit {ops : Array Oper} {seg cs ps : List (Nat × Nat)} {j d : Nat} {oo : Oper} {st : State} {K : QK} (hj : ops[j]? = some oo) (hd : reg ps j oo = some d)
    (hq : unit1 prims T (CallC P) ops.toList ps j ((depsOf ops.toList []).getD j []) (hid (depsOf ops.toList []) j cs) (conAt cs j) seg oo d st K) :
    nodupQ (sndL seg) = true ∧ ∃ x n, EntOk P T ops seg cs ps st j (d, x, n) ∧ K x n := by
  simp only [unit1] at hq
  cases hA : pairA ps j with
  | some is =>
    simp only [hA, alloc1, chk_iff] at hq
    obtain ⟨h1, h2, h3, h4, hq⟩ := hq
    cases hop : oo.op <;> simp only [hop] at hq <;> try exact hq.elim
    rename_i t
    cases hdst : oo.dst with
    | none => simp [hdst] at hq
    | some d' =>
      simp only [hdst, chk_iff] at hq
      obtain ⟨h5, h6, hq⟩ := hq
      refine ⟨h1, .c .no, [], ⟨rfl, ?_, rfl, oo, hj, hd, .inr (.inl ⟨is, d', t, hA, isNone_t h2, isD_t h6, isNone_t h3, noGuard_t h4, hop, hdst, memP_t h5, rfl⟩)⟩, hq⟩
      simp only [offs]
      split <;> rfl
  | none =>
    simp only [hA] at hq
    cases hS : pairS ps j with
    | none =>
      simp only [hS, quiet1, chk_iff] at hq
      obtain ⟨q1, q2, hq⟩ := hq
      have hdst : oo.dst = some d := by simpa [reg, hA, hS] using hd
      obtain ⟨b, hq, hg⟩ := (pk_guardW ops.toList oo).pick hq
      cases b with
      | false =>
        refine ⟨q1, .tup [], [], ⟨rfl, ?_, by simp [X.keys, keysTs, keysN, app, visAll], oo, hj, hd, .inl ⟨hA, hS, hdst, q2, false, hg, rfl, rfl⟩⟩, hq⟩
        simp only [offs, X.keys, keysTs, keysN, app, newKs]; split <;> rfl
      | true =>
        obtain ⟨x, n, hk, hqc⟩ := (pk_qrun (T := T) (conAt cs j) (restrictS (opTmps oo.op) fun t => killX (hid (depsOf ops.toList []) j cs) (slot st.s t)) (restrictO (sndL seg) (aheadOf ((depsOf ops.toList []).getD j []) seg) (killO (hid (depsOf ops.toList []) j cs) (look1 st.o))) d oo.op oo.type).pick hq
        exact ⟨q1, x, n, ⟨hk.1, hk.2.2.1, hk.2.1, oo, hj, hd, .inl ⟨hA, hS, hdst, q2, true, hg, hqc⟩⟩, hk.2.2.2⟩
    | some ia =>
      simp only [hS, store1, chk_iff] at hq
      obtain ⟨h1, h2, h3, h4, h5, h5', hq⟩ := hq
      cases hop : oo.op <;> simp only [hop] at hq <;> try exact hq.elim
      rename_i t a v
      cases a <;> simp only at hq <;> try exact hq.elim
      rename_i d'
      obtain ⟨h6, hq⟩ := hq
      have h6 := eqN_t h6
      subst h6
      cases hdr : dropN ia ops.toList with
      | nil => simp [hdr] at hq
      | cons oa rr =>
        simp only [hdr] at hq
        cases hoa : oa.op <;> simp only [hoa] at hq <;> try exact hq.elim
        rename_i t'
        simp only [chk_iff, brk_iff, and_false, false_or] at hq
        obtain ⟨h7, h8, _, h9, h10, h11, h12, h13, h14, h15, h16, h17, hq⟩ := hq
        have h7 := eqN_t h7
        subst h7
        obtain ⟨ys, hpl, hk⟩ := yCs_iff.1 hq
        obtain ⟨h18, h19, hk⟩ := hk
        have h2' := isNone_t h2
        have h12' : (T.at t').zero.length < 900 := by simpa [lenN_eq] using h12
        refine ⟨h1, _, _, ⟨rfl, by rw [h2']; exact h19, ?_, oo, hj, hd, .inr (.inr ⟨ia, oa, t', v, ys, hA, hS, h2', noGuard_t h3, isNone_t h4, hop, (memN_iff _ _).1 h5, leN_t h5', by simpa using dropN_get hdr, hoa, isD_t h8, h9, h10, isNone_t h11, h12', h13, h14, by simpa [lenN_eq] using eqN_t h15, h16, h17, hpl, by simpa [lenN_eq] using eqN_t h18, rfl⟩)⟩, hk⟩
        have : ∀ l : List Y, keysCs (mapY l) = [] := fun l => by
          induction l with
          | nil => rfl
          | cons y r ih => simp [mapY, keysCs, C.keys, app, ih]
        have e1 : eqN (key d' 0 / 1000) d' = true := by rw [show key d' 0 / 1000 = d' by simp [key]]; exact eqN_refl _
        simp only [X.keys, C.keys, keysN, Ob.keys, this, app, visAll, e1, orb]
/-- A run, out of what is drawn. -/
theorem seg_of_draws {ops : Array Oper} {g : Cfg} {K : State → Prop} : ∀ (rest : List Oper) (j : Nat) (seg cs ps : List (Nat × Nat)) (st : State), ops.toList.drop j = rest → seg ≠ [] →
    draws prims T g (CallC P) ops.toList (depsOf ops.toList []) cs ps j seg rest st K →
    ∃ (en : Ents) (rest' : List Oper), ops.toList.drop (j + en.length) = rest' ∧ SegOk P T ops seg cs ps j st en ∧ segPairs ps (depsOf ops.toList []) (segFrom seg j) j rest = idx j en ∧ (en ≠ [] → nodupQ (sndL seg) = true) ∧
      draws prims T g (CallC P) ops.toList (depsOf ops.toList []) cs ps (j + en.length) [] rest' (endSt cs j en st) K ∧ (rest' = [] ∨ barrier (depsOf ops.toList []) (segFrom seg j) (j + en.length) = true)
  | [], j, seg, cs, ps, st, hr, hseg, hq => ⟨[], [], by simpa using hr, trivial, rfl, fun h => absurd rfl h, by simpa [draws, endSt] using hq, .inl rfl⟩
  | oo :: rest, j, seg, cs, ps, st, hr, hseg, hq => by
    simp only [draws] at hq
    cases hb : barrier (depsOf ops.toList []) (segFrom seg j) j with
    | true =>
      rw [hb] at hq
      refine ⟨[], oo :: rest, by simpa using hr, trivial, by simp [segPairs, hb, idx], fun h => absurd rfl h, ?_, .inr (by simpa using hb)⟩
      simp only [List.length_nil, Nat.add_zero, endSt, draws, segFrom, barrier_self hb]
      exact hq
    | false =>
      rw [hb] at hq
      cases hd : reg ps j oo with
      | none => simp [hd] at hq
      | some d =>
        obtain ⟨p, pp, rfl⟩ : ∃ p pp, seg = p :: pp := by cases seg with
          | nil => exact absurd rfl hseg
          | cons p pp => exact ⟨p, pp, rfl⟩
        simp only [hd, open1] at hq
        have hj : ops[j]? = some oo := by
          have : (ops.toList.drop j)[0]? = some oo := by rw [hr]; rfl
          simpa using this
        have hr' : ops.toList.drop (j + 1) = rest := by
          have := congrArg (List.drop 1) hr
          simpa [List.drop_drop] using this
        obtain ⟨q1, x, n, hok, h4⟩ := ent_of_unit (P := P) (T := T) hj hd hq
        obtain ⟨en, rest', e1, e2, e3, _, e5, e6⟩ := seg_of_draws rest (j + 1) (p :: pp) cs ps _ hr' (by simp) h4
        refine ⟨(d, x, n) :: en, rest', ?_, ⟨hok, e2⟩, ?_, fun _ => q1, ?_, ?_⟩
        · rw [← e1]; congr 1; simp; omega
        · have e3 : segPairs ps (depsOf ops.toList []) (segFrom (p :: pp) j) (j + 1) rest = idx (j + 1) en := e3
          simp [segPairs, hb, hd, idx, e3]
        · rw [show j + ((d, x, n) :: en).length = j + 1 + en.length by simp; omega]; exact e5
        · rw [show j + ((d, x, n) :: en).length = j + 1 + en.length by simp; omega]; exact e6
end Go.Proofs.YthaelohccopgjaaW
/- Soundness, part 34: regions whose order is drawn, 3. -/
namespace Go.Proofs.YthaelohccopgjaaW
variable {P : Program} {T : Tab} {E : Env} {γ γ' : Ghs} {s s' : Nat → X} {o o' : Look} {tm : Array Value} {w w' : World}

theorem SegOk.get {ops : Array Oper} {seg cs ps : List (Nat × Nat)} : ∀ {en : Ents} {m : Nat} {st : State} {i : Nat} {e : Nat × X × List (Nat × Ob)}, SegOk P T ops seg cs ps m st en → en[i]? = some e → EntOk P T ops seg cs ps (endSt cs m (en.take i) st) (m + i) e
  | [], _, _, i, e, _, hi => by simp at hi
  | a :: r, m, st, 0, e, h, hi => by simp at hi; subst hi; exact h.1
  | a :: r, m, st, i + 1, e, h, hi => by
    have := h.2.get (i := i) (by simpa using hi)
    rw [show m + (i + 1) = m + 1 + i by omega]
    exact this
theorem runS_off {fl : Cur} {base : Nat → X} {t : Nat} : ∀ {en : Ents} {i : Nat}, t ∉ en.map Prod.fst → runS base fl i en t = base t
  | [], _, _ => rfl
  | e :: r, i, h => by
    simp only [List.map_cons, List.mem_cons, not_or] at h
    simp only [runS]
    rw [if_neg (fun h' => h.1 h'.symm), runS_off h.2]
theorem runO_off {fl : Cur} {base : Look} {k : Nat} : ∀ {en : Ents} {i : Nat}, k / 1000 ∉ en.map Prod.fst → runO base fl i en k = base k
  | [], _, _ => rfl
  | e :: r, i, h => by
    simp only [List.map_cons, List.mem_cons, not_or] at h
    simp only [runO]
    rw [if_neg h.1, runO_off h.2]
theorem runS_at {fl : Cur} {base : Nat → X} : ∀ {en : Ents} {i j : Nat} {e : Nat × X × List (Nat × Ob)}, (en.map Prod.fst).Nodup → en[j]? = some e → runS base fl i en e.1 = match fl (i + j) e with
    | some p => p.1
    | none => .c .no
  | [], _, j, e, _, h => by simp at h
  | a :: r, i, 0, e, hn, h => by simp at h; subst h; simp only [runS, if_true, Nat.add_zero]; try (cases fl i a <;> rfl)
  | a :: r, i, j + 1, e, hn, h => by
    simp only [List.map_cons, List.nodup_cons] at hn
    have hj : r[j]? = some e := by simpa using h
    have : a.1 ≠ e.1 := fun h' => hn.1 (h' ▸ List.mem_map_of_mem (List.mem_of_getElem? hj))
    simp only [runS]
    rw [if_neg this, runS_at hn.2 hj, show i + 1 + j = i + (j + 1) by omega]
theorem runO_at {fl : Cur} {base : Look} {k : Nat} : ∀ {en : Ents} {i j : Nat} {e : Nat × X × List (Nat × Ob)}, (en.map Prod.fst).Nodup → en[j]? = some e → k / 1000 = e.1 → runO base fl i en k = match fl (i + j) e with
    | some p => look1 (putsO e.1 p.2 []) k
    | none => none
  | [], _, j, e, _, h, _ => by simp at h
  | a :: r, i, 0, e, hn, h, hk => by simp at h; subst h; simp only [runO, hk, if_true, Nat.add_zero]; try (cases fl i a <;> rfl)
  | a :: r, i, j + 1, e, hn, h, hk => by
    simp only [List.map_cons, List.nodup_cons] at hn
    have hj : r[j]? = some e := by simpa using h
    have : ¬ k / 1000 = a.1 := fun h' => hn.1 (by rw [← h', hk]; exact List.mem_map_of_mem (List.mem_of_getElem? hj))
    simp only [runO]
    rw [if_neg this, runO_at hn.2 hj hk, show i + 1 + j = i + (j + 1) by omega]
theorem runS_flag {fl fl' : Cur} {base : Nat → X} {t : Nat} : ∀ {en : Ents} {i : Nat}, (∀ (j : Nat) (e : Nat × X × List (Nat × Ob)), en[j]? = some e → e.1 = t → fl (i + j) e = fl' (i + j) e) → runS base fl i en t = runS base fl' i en t
  | [], _, _ => rfl
  | a :: r, i, h => by
    simp only [runS]
    by_cases e : a.1 = t
    · have := h 0 a rfl e
      simp only [Nat.add_zero] at this
      simp [e, this]
    · rw [if_neg e, if_neg e]
      exact runS_flag fun j e' h1 h2 => by
        have := h (j + 1) e' (by simpa using h1) h2
        rwa [show i + 1 + j = i + (j + 1) by omega]
theorem runO_flag {fl fl' : Cur} {base : Look} {k : Nat} : ∀ {en : Ents} {i : Nat}, (∀ (j : Nat) (e : Nat × X × List (Nat × Ob)), en[j]? = some e → k / 1000 = e.1 → fl (i + j) e = fl' (i + j) e) → runO base fl i en k = runO base fl' i en k
  | [], _, _ => rfl
  | a :: r, i, h => by
    simp only [runO]
    by_cases e : k / 1000 = a.1
    · have := h 0 a rfl e
      simp only [Nat.add_zero] at this
      simp [e, this]
    · rw [if_neg e, if_neg e]
      exact runO_flag fun j e' h1 h2 => by
        have := h (j + 1) e' (by simpa using h1) h2
        rwa [show i + 1 + j = i + (j + 1) by omega]
theorem mem_idx {x t : Nat} : ∀ {en : Ents} {i : Nat}, (x, t) ∈ idx i en → ∃ j e, en[j]? = some e ∧ x = i + j ∧ t = e.1
  | [], _, h => by simp [idx] at h
  | a :: r, i, h => by
    simp only [idx, List.mem_cons, Prod.mk.injEq] at h
    rcases h with ⟨rfl, rfl⟩ | h
    · exact ⟨0, a, rfl, by simp, rfl⟩
    · obtain ⟨j, e, h1, h2, h3⟩ := mem_idx h
      exact ⟨j + 1, e, by simpa using h1, by omega, h3⟩
theorem mem_aheadOf {dp : List Nat} {t : Nat} : ∀ {seg : List (Nat × Nat)}, t ∈ aheadOf dp seg → ∃ x ∈ dp, (x, t) ∈ seg
  | [], h => by simp [aheadOf] at h
  | p :: r, h => by
    simp only [aheadOf] at h
    cases hm : memN p.1 dp with
    | true =>
      rw [hm] at h
      rcases List.mem_cons.1 h with h | h
      · exact ⟨p.1, (memN_iff _ _).1 hm, by rw [h]; exact .head _⟩
      · obtain ⟨x, h1, h2⟩ := mem_aheadOf h
        exact ⟨x, h1, .tail _ h2⟩
    | false =>
      rw [hm] at h
      obtain ⟨x, h1, h2⟩ := mem_aheadOf h
      exact ⟨x, h1, .tail _ h2⟩
theorem vis_spec {all ahead : List Nat} {d : Nat} (h : vis all ahead d = true) : d ∉ all ∨ d ∈ ahead := by
  simp only [vis] at h
  cases hm : memN d all with
  | true => rw [hm] at h; exact .inr ((memN_iff _ _).1 h)
  | false => exact .inl ((memN_false _ _).1 hm)
theorem visTmps_spec {all ahead : List Nat} : ∀ {ts : List Nat}, visTmps all ahead ts = true → ∀ t ∈ ts, vis all ahead t = true
  | [], _ => by simp
  | a :: r, h => by
    simp only [visTmps] at h
    cases hm : vis all ahead a with
    | false => rw [hm] at h; cases h
    | true =>
      rw [hm] at h
      intro t ht
      rcases List.mem_cons.1 ht with rfl | ht
      · exact hm
      · exact visTmps_spec h t ht
theorem visAll_spec {all ahead : List Nat} {d : Nat} : ∀ {ks : List Nat}, visAll all ahead d ks = true → ∀ k ∈ ks, k / 1000 = d ∨ vis all ahead (k / 1000) = true
  | [], _ => by simp
  | a :: r, h => by
    simp only [visAll] at h
    have hm : orb (eqN (a / 1000) d) (vis all ahead (a / 1000)) = true ∧ visAll all ahead d r = true := by
      cases hm : orb (eqN (a / 1000) d) (vis all ahead (a / 1000)) with
      | false => rw [hm] at h; cases h
      | true => rw [hm] at h; exact ⟨rfl, h⟩
    intro k hk
    rcases List.mem_cons.1 hk with rfl | hk
    · have h1 := hm.1
      cases hb : eqN (k / 1000) d with
      | true => exact .inl (eqN_t hb)
      | false => rw [hb] at h1; exact .inr h1
    · exact visAll_spec hm.2 k hk
theorem mem_keysN {k : Nat} : ∀ {n : List (Nat × Ob)}, k ∈ keysN n ↔ ∃ p ∈ n, k ∈ p.2.keys
  | [] => by simp [keysN]
  | q :: r => by simp [keysN, app_eq, mem_keysN (n := r)]

def cnt (l : Array Bool) : Nat → Nat
  | 0 => 0
  | n + 1 => cnt l n + if l.getD n false = true then 0 else 1
theorem cnt_zero {l : Array Bool} : ∀ {n : Nat}, cnt l n = 0 → ∀ i, i < n → l.getD i false = true
  | 0, _, i, h => by omega
  | n + 1, h, i, hi => by
    simp only [cnt] at h
    by_cases hl : l.getD n false = true
    · by_cases e : i = n
      · subst e; exact hl
      · exact cnt_zero (n := n) (by omega) i (by omega)
    · rw [if_neg hl] at h; omega
theorem cnt_pos {l : Array Bool} : ∀ {n : Nat}, cnt l n ≠ 0 → ∃ i, i < n ∧ l.getD i false = false ∧ ∀ i', i' < i → l.getD i' false = true
  | 0, h => absurd rfl h
  | n + 1, h => by
    by_cases h0 : cnt l n = 0
    · refine ⟨n, by omega, ?_, fun i' hi => cnt_zero h0 i' hi⟩
      simp only [cnt] at h
      by_cases hl : l.getD n false = true
      · rw [if_pos hl] at h; omega
      · simpa using hl
    · obtain ⟨i, h1, h2⟩ := cnt_pos h0
      exact ⟨i, by omega, h2⟩
theorem getD_set_self {l : Array Bool} {i : Nat} (h : i < l.size) (d : Bool) : (l.setIfInBounds i true).getD i d = true := by
  simp [Array.getD_eq_getD_getElem?, h]
theorem cnt_set {l : Array Bool} {i : Nat} (hs : i < l.size) (hl : l.getD i false = false) : ∀ {n : Nat}, i < n → cnt (l.setIfInBounds i true) n + 1 = cnt l n
  | 0, h => by omega
  | n + 1, h => by
    simp only [cnt]
    by_cases e : i = n
    · subst e
      have same : ∀ m, m ≤ i → cnt (l.setIfInBounds i true) m = cnt l m := fun m => by
        induction m with
        | zero => intro _; rfl
        | succ m ih =>
          intro hm
          simp only [cnt]
          rw [ih (by omega), getD_set_ne false (by omega)]
      rw [same i (Nat.le_refl _), getD_set_self hs, hl]
      simp
    · have := cnt_set hs hl (n := n) (by omega)
      rw [getD_set_ne false e]
      omega
theorem cnt_le {l : Array Bool} {j : Nat} (h1 : ∀ i, i < j → l.getD i false = true) (h2 : ∀ i, j ≤ i → l.getD i false = false) : ∀ n, cnt l n = n - j
  | 0 => by simp [cnt]
  | n + 1 => by
    simp only [cnt]
    rw [cnt_le h1 h2 n]
    by_cases e : n < j
    · rw [h1 n e]; simp; omega
    · rw [h2 n (by omega)]; simp; omega

/-! What has been taken is hidden. -/
theorem conAt_mem {j k : Nat} : ∀ {cs : List (Nat × Nat)}, conAt cs j = some k → (j, k) ∈ cs
  | [], h => by simp [conAt] at h
  | p :: r, h => by
    simp only [conAt] at h
    cases he : eqN p.1 j with
    | true => rw [he] at h; cases h; rw [← eqN_t he]; exact .head _
    | false => rw [he] at h; exact .tail _ (conAt_mem h)
theorem mem_hid {deps : List (List Nat)} {j k : Nat} : ∀ {cs : List (Nat × Nat)}, (∃ jd, (jd, k) ∈ cs ∧ jd ≠ j ∧ j ∉ deps.getD jd []) → k ∈ hid deps j cs
  | [], ⟨jd, h, _⟩ => by simp at h
  | p :: r, ⟨jd, h, h1, h2⟩ => by
    simp only [hid]
    rcases List.mem_cons.1 h with rfl | h
    · have e1 : eqN (jd, k).1 j = false := by rw [beq_dec]; simp [h1]
      rw [e1]
      dsimp only
      rw [(memN_false _ _).2 h2]
      exact .head _
    · have ih := mem_hid (deps := deps) (j := j) (k := k) (cs := r) ⟨jd, h, h1, h2⟩
      cases eqN p.1 j with
      | true => exact ih
      | false =>
        dsimp only
        cases memN j (deps.getD p.1 []) with
        | true => exact ih
        | false => exact .tail _ ih
theorem mapCaps_killed {ks : List Nat} : ∀ {l : List Nat} {k : Nat}, k ∈ l → k ∈ ks → mapCaps (killL ks) l = none
  | [], k, h, _ => by simp at h
  | a :: r, k, h, hk => by
    simp only [mapCaps]
    rcases List.mem_cons.1 h with rfl | h
    · have : killL ks k = none := by simp [killL, (memN_iff k ks).2 hk]
      rw [this]
    · rw [mapCaps_killed h hk]
      cases killL ks a <;> rfl
theorem C.killed {ks : List Nat} {c : C} {k : Nat} (h : k ∈ c.keys) (hk : k ∈ ks) : C.mapK (killL ks) c = .no := by
  have e : killL ks k = none := by simp [killL, (memN_iff k ks).2 hk]
  cases c <;> simp only [C.keys, List.mem_singleton, List.not_mem_nil] at h <;> simp only [C.mapK]
  case fn f l => rw [mapCaps_killed h hk]
  all_goals subst h; rw [e]
theorem C.kill_two {A B W : List Nat} (hW : ∀ k, k ∈ W ↔ k ∈ A ∨ k ∈ B) (c : C) : C.mapK (killL B) (C.mapK (killL A) c) = C.mapK (killL W) c := by
  by_cases hA : ∀ k ∈ c.keys, k ∉ A
  · rw [C.killL_id hA]
    by_cases hB : ∀ k ∈ c.keys, k ∉ B
    · rw [C.killL_id hB, C.killL_id fun k hk h => ((hW k).1 h).elim (hA k hk) (hB k hk)]
    · obtain ⟨k, h1, h2⟩ : ∃ k, k ∈ c.keys ∧ k ∈ B := by simpa using hB
      rw [C.killed h1 h2, C.killed h1 ((hW k).2 (.inr h2))]
  · obtain ⟨k, h1, h2⟩ : ∃ k, k ∈ c.keys ∧ k ∈ A := by simpa using hA
    rw [C.killed h1 h2, C.killed h1 ((hW k).2 (.inl h2))]; rfl
theorem Cs.kill_two {A B W : List Nat} (hW : ∀ k, k ∈ W ↔ k ∈ A ∨ k ∈ B) : ∀ l : List C, mapCs (C.mapK (killL B)) (mapCs (C.mapK (killL A)) l) = mapCs (C.mapK (killL W)) l
  | [] => rfl
  | c :: r => by simp only [mapCs, C.kill_two hW, Cs.kill_two hW r]
theorem Ts.kill_two {A B W : List Nat} (hW : ∀ k, k ∈ W ↔ k ∈ A ∨ k ∈ B) : ∀ l : List (Bool × List C), mapTs (C.mapK (killL B)) (mapTs (C.mapK (killL A)) l) = mapTs (C.mapK (killL W)) l
  | [] => rfl
  | (b, c) :: r => by simp only [mapTs, Cs.kill_two hW, Ts.kill_two hW r]
theorem X.kill_two {A B W : List Nat} (hW : ∀ k, k ∈ W ↔ k ∈ A ∨ k ∈ B) (x : X) : (x.mapC (C.mapK (killL A))).mapC (C.mapK (killL B)) = x.mapC (C.mapK (killL W)) := by
  cases x with
  | c a => exact congrArg X.c (C.kill_two hW a)
  | agg l => exact congrArg X.agg (Cs.kill_two hW l)
  | tup l => exact congrArg X.tup (Ts.kill_two hW l)
theorem Ob.kill_two {A B W : List Nat} (hW : ∀ k, k ∈ W ↔ k ∈ A ∨ k ∈ B) (b : Ob) : (b.mapC (C.mapK (killL A))).mapC (C.mapK (killL B)) = b.mapC (C.mapK (killL W)) := by
  cases b with
  | bx l => exact congrArg Ob.bx (Cs.kill_two hW l)
  | op q => rfl
  | ar es xs => rfl
theorem C.keys_kill {ks : List Nat} {c : C} {k : Nat} (h : k ∈ (C.mapK (killL ks) c).keys) : k ∈ c.keys ∧ k ∉ ks := by
  by_cases hA : ∀ k ∈ c.keys, k ∉ ks
  · rw [C.killL_id hA] at h; exact ⟨h, hA k h⟩
  · obtain ⟨k', h1, h2⟩ : ∃ k, k ∈ c.keys ∧ k ∈ ks := by simpa using hA
    rw [C.killed h1 h2] at h; simp [C.keys] at h
theorem Cs.keys_kill {ks : List Nat} {k : Nat} : ∀ {l : List C}, k ∈ keysCs (mapCs (C.mapK (killL ks)) l) → k ∈ keysCs l ∧ k ∉ ks
  | [], h => by simp [mapCs, keysCs] at h
  | c :: r, h => by
    simp only [mapCs, keysCs, app_eq, List.mem_append] at h ⊢
    rcases h with h | h
    · exact ⟨.inl (C.keys_kill h).1, (C.keys_kill h).2⟩
    · exact ⟨.inr (Cs.keys_kill h).1, (Cs.keys_kill h).2⟩
theorem Ts.keys_kill {ks : List Nat} {k : Nat} : ∀ {l : List (Bool × List C)}, k ∈ keysTs (mapTs (C.mapK (killL ks)) l) → k ∈ keysTs l ∧ k ∉ ks
  | [], h => by simp [mapTs, keysTs] at h
  | (b, c) :: r, h => by
    simp only [mapTs, keysTs, app_eq, List.mem_append] at h ⊢
    rcases h with h | h
    · exact ⟨.inl (Cs.keys_kill h).1, (Cs.keys_kill h).2⟩
    · exact ⟨.inr (Ts.keys_kill h).1, (Ts.keys_kill h).2⟩
theorem X.keys_kill {ks : List Nat} {x : X} {k : Nat} (h : k ∈ (x.mapC (C.mapK (killL ks))).keys) : k ∈ x.keys ∧ k ∉ ks := by
  cases x with
  | c a => exact C.keys_kill h
  | agg l => exact Cs.keys_kill h
  | tup l => exact Ts.keys_kill h
theorem Ob.keys_kill {ks : List Nat} {b : Ob} {k : Nat} (h : k ∈ (b.mapC (C.mapK (killL ks))).keys) : k ∈ b.keys ∧ k ∉ ks := by
  cases b with
  | bx l => exact Cs.keys_kill h
  | op q => simp [Ob.mapC, Ob.keys] at h
  | ar es xs => simp [Ob.mapC, Ob.keys] at h
theorem killL_one (k : Nat) : killF k = killL [k] := funext fun j => by
  simp only [killF, killL, memN]
  cases eqN j k <;> rfl
def kS (V : List Nat) (s : Nat → X) : Nat → X := fun t => (s t).mapC (C.mapK (killL V))
def kO (V : List Nat) (o : Look) : Look := fun k => if k ∈ V then none else (o k).map (Ob.mapC (C.mapK (killL V)))
theorem killX_eq (V : List Nat) (x : X) : killX V x = x.mapC (C.mapK (killL V)) := by
  cases V with
  | nil => exact (X.killL_id (by simp)).symm
  | cons k r => rfl
theorem killO_eq (V : List Nat) (o : Look) : killO V o = kO V o := by
  cases V with
  | nil =>
    funext k
    simp only [killO, kO, List.not_mem_nil, if_false]
    cases o k with
    | none => rfl
    | some b => simp only [Option.map_some]; rw [Ob.killL_id (by simp)]
  | cons k0 r =>
    funext k
    simp only [killO, kO]
    cases hm : memN k (k0 :: r) with
    | true => rw [if_pos ((memN_iff _ _).1 hm)]
    | false => rw [if_neg ((memN_false _ _).1 hm)]; cases o k <;> rfl
theorem guardW_kill {ops : List Oper} {oo : Oper} {V : List Nat} {K : Bool → Prop} (h : guardW ops s oo K) : guardW ops (fun t => (s t).mapC (C.mapK (killL V))) oo K := by
  simp only [guardW] at h ⊢
  cases hg : oo.guard with
  | none => rw [hg] at h; exact h
  | some jw =>
    obtain ⟨j, want⟩ := jw
    rw [hg] at h
    simp only [nth_iff] at h ⊢
    obtain ⟨q, hj, hq⟩ := h
    refine ⟨q, hj, ?_⟩
    cases hd : q.dst with
    | none => rw [hd] at hq; exact hq
    | some t =>
      rw [hd] at hq
      simp only at hq ⊢
      cases hs : s t with
      | agg l => rw [hs] at hq; exact hq
      | tup l =>
        rw [hs] at hq
        cases l with
        | nil => exact hq
        | cons a r => exact hq.elim
      | c a =>
        rw [hs] at hq
        simp only [asB_iff] at hq ⊢
        obtain ⟨b, hb, hq⟩ := hq
        cases hb
        exact ⟨b, rfl, hq⟩
theorem Rel.weakenK (h : Rel E γ s o tm w) (V : List Nat) (hs : ∀ i, s' i = s i ∨ s' i = (s i).mapC (C.mapK (killL V)) ∨ s' i = .c .no) (ho : ∀ k b, o' k = some b → o k = some b ∨ ∃ b0, o k = some b0 ∧ b = b0.mapC (C.mapK (killL V))) : Rel E γ s' o' tm w := by
  have hn := Nx.refl γ w
  have h' : Rel E γ (kS V s) (fun k => (o k).map (Ob.mapC (C.mapK (killL V)))) tm w := h.go hn (C.mapK (killL V)) rfl (turns_mapK hn _ fun j j' he => by
      obtain ⟨rfl, _⟩ := killL_some he; exact .inl rfl) (fun t => rfl) (fun k b hb => by
      cases hl : o k with
      | none => simp [hl] at hb
      | some b0 => simp only [hl, Option.map_some] at hb; cases hb; exact .inl ⟨k, b0, hl, rfl, rfl, fun g _ => rfl⟩) h.inj h.lt
  exact {
    slots := fun i => by
      rcases hs i with e | e | e <;> rw [e]
      · exact h.slots i
      · exact h'.slots i
      · exact ⟨trivial, .inl rfl⟩
    objs := fun k b hb => by
      rcases ho k b hb with h1 | ⟨b0, h1, rfl⟩
      · exact h.objs k b h1
      · exact h'.objs k _ (by simp only [h1, Option.map_some])
    inj := h.inj
    lt := h.lt
    own := h.own
    fr := h.fr
    args := h.args }
/-- What the first n of them have taken. -/
def VL (cs : List (Nat × Nat)) (j0 : Nat) : Nat → List Nat
  | 0 => []
  | n + 1 => VL cs j0 n ++ (conAt cs (j0 + n)).toList
theorem mem_VL {cs : List (Nat × Nat)} {j0 k : Nat} : ∀ {n : Nat}, k ∈ VL cs j0 n ↔ ∃ i, i < n ∧ conAt cs (j0 + i) = some k
  | 0 => by simp [VL]
  | n + 1 => by
    simp only [VL, List.mem_append, mem_VL (n := n), Option.mem_toList]
    constructor
    · rintro (⟨i, h1, h2⟩ | h)
      · exact ⟨i, by omega, h2⟩
      · exact ⟨n, by omega, h⟩
    · rintro ⟨i, h1, h2⟩
      rcases Nat.lt_or_ge i n with h | h
      · exact .inl ⟨i, h, h2⟩
      · have : i = n := by omega
        subst this; exact .inr h2
theorem offAll_spec {l : List Nat} : ∀ {ks : List Nat}, offAll l ks = true → ∀ k ∈ ks, k ∉ l
  | [], _, k, hk => by simp at hk
  | a :: r, h, k, hk => by
    simp only [offAll] at h
    cases hm : memN a l with
    | true => rw [hm] at h; cases h
    | false =>
      rw [hm] at h
      rcases List.mem_cons.1 hk with rfl | hk
      · exact (memN_false _ _).1 hm
      · exact offAll_spec h k hk
theorem offs_spec {con : Option Nat} {hs : List Nat} {d : Nat} {x : X} {n : List (Nat × Ob)} (h : offs con hs d x n = true) : ∀ k ∈ app (newKs d n) (app x.keys (keysN n)), k ∉ hs ∧ con ≠ some k := fun k hk => by
  simp only [offs] at h
  cases con with
  | none =>
    simp only [conL] at h
    cases hs with
    | nil => simp
    | cons a r => exact ⟨offAll_spec h k hk, by simp⟩
  | some k0 =>
    have := offAll_spec h k hk
    simp only [List.mem_cons, not_or] at this
    exact ⟨this.2, by simp only [ne_eq, Option.some.injEq]; exact fun h => this.1 h.symm⟩
theorem behind_s {con : Option Nat} {d : Nat} {x : X} {n : List (Nat × Ob)} {st : State} {t : Nat} : slot (behind con d x n st).s t = if d = t then x else (slot st.s t).mapC (C.mapK (killL con.toList)) := by
  cases con with
  | none => simp only [behind, slot_put1, Option.toList_none]; rw [X.killL_id (by simp)]
  | some u => simp only [behind, slot_put1, Option.toList_some, State.kill, killL_one]; rw [slot_mapS _ rfl]
theorem behind_o {con : Option Nat} {d : Nat} {x : X} {n : List (Nat × Ob)} {st : State} {k : Nat} : look1 (behind con d x n st).o k = match look1 (putsO d n []) k with
    | some b => some b
    | none => kO con.toList (look1 st.o) k := by
  cases con with
  | none =>
    simp only [behind]; rw [look1_putsO_app]
    simp only [kO, Option.toList_none, List.not_mem_nil, if_false]
    cases look1 (putsO d n []) k with
    | some b => rfl
    | none =>
      simp only
      cases look1 st.o k with
      | none => rfl
      | some b => simp only [Option.map_some]; rw [Ob.killL_id (by simp)]
  | some u =>
    simp only [behind, State.kill]; rw [look1_putsO_app]
    cases look1 (putsO d n []) k with
    | some b => rfl
    | none =>
      simp only [look1_mapO, look1_del1, kO, Option.toList_some, List.mem_singleton, killL_one]
      by_cases e : u = k
      · subst e; simp
      · rw [if_neg e, if_neg (fun h => e h.symm)]
theorem ent_inj {en : Ents} (hn : (en.map Prod.fst).Nodup) {i1 i2 : Nat} {e1 e2 : Nat × X × List (Nat × Ob)} (h1 : en[i1]? = some e1) (h2 : en[i2]? = some e2) (h3 : e1.1 = e2.1) : i1 = i2 := by
  have l1 := (List.getElem?_eq_some_iff.1 h1).1
  refine (List.getElem?_inj (l := en.map Prod.fst) (by simpa using l1) hn).1 ?_
  rw [List.getElem?_map, List.getElem?_map, h1, h2]; simp [h3]
/-- What each writes is not what has been taken. -/
def OffWf (cs : List (Nat × Nat)) (j0 : Nat) (en : Ents) : Prop := ∀ (i : Nat) (e : Nat × X × List (Nat × Ob)), en[i]? = some e → ∀ k ∈ app (newKs e.1 e.2.2) (app e.2.1.keys (keysN e.2.2)), k ∉ VL cs j0 (i + 1)
theorem VL_two {cs : List (Nat × Nat)} {j0 n : Nat} : ∀ k, k ∈ VL cs j0 (n + 1) ↔ k ∈ VL cs j0 n ∨ k ∈ (conAt cs (j0 + n)).toList := fun k => by simp only [VL, List.mem_append]
theorem kO_two {A B W : List Nat} (hW : ∀ k, k ∈ W ↔ k ∈ A ∨ k ∈ B) (o : Look) : kO B (kO A o) = kO W o := funext fun k => by
  simp only [kO]
  by_cases hA : k ∈ A
  · simp [hA, (hW k).2 (.inl hA)]
  · by_cases hB : k ∈ B
    · simp [hB, (hW k).2 (.inr hB)]
    · have : k ∉ W := fun h => ((hW k).1 h).elim hA hB
      simp only [hA, hB, this, if_false]
      cases o k with
      | none => rfl
      | some b => simp only [Option.map_some, Ob.kill_two hW]
theorem kO_at {V : List Nat} {o o' : Look} {k : Nat} (h : o k = o' k) : kO V o k = kO V o' k := by simp only [kO, h]
theorem endSt_s {cs : List (Nat × Nat)} {base : State} {j0 : Nat} {en : Ents} (hn : (en.map Prod.fst).Nodup) (hw : OffWf cs j0 en) : ∀ n, n ≤ en.length →
    (∀ t, t ∉ en.map Prod.fst → slot (endSt cs j0 (en.take n) base).s t = kS (VL cs j0 n) (slot base.s) t) ∧ ∀ (i : Nat) (e : Nat × X × List (Nat × Ob)), en[i]? = some e → i < n → slot (endSt cs j0 (en.take n) base).s e.1 = e.2.1.mapC (C.mapK (killL (VL cs j0 n)))
  | 0, _ => ⟨fun t _ => (X.killL_id (by simp [VL])).symm, fun i e _ h => by omega⟩
  | n + 1, hle => by
    obtain ⟨h1, h2⟩ := endSt_s (base := base) hn hw n (by omega)
    obtain ⟨en', hen⟩ : ∃ e, en[n]? = some e := ⟨en[n], by simp [show n < en.length by omega]⟩
    have htk : en.take (n + 1) = en.take n ++ [en'] := by rw [List.take_add_one, hen]; rfl
    rw [htk, endSt_snoc, show (en.take n).length = n by rw [List.length_take]; omega]
    have hmem : en'.1 ∈ en.map Prod.fst := List.mem_map_of_mem (List.mem_of_getElem? hen)
    refine ⟨fun t ht => ?_, fun i e hi hlt => ?_⟩
    · have hd : ¬ en'.1 = t := fun h => ht (h ▸ hmem)
      rw [behind_s, if_neg hd, h1 t ht]
      exact X.kill_two VL_two _
    · rw [behind_s]
      by_cases hin : i = n
      · subst hin
        have : e = en' := Option.some.inj (hi.symm.trans hen)
        subst this
        rw [if_pos rfl]
        exact (X.killL_id fun k hk => hw i e hi k (by rw [app_eq, app_eq]; simp [hk])).symm
      · rw [if_neg (fun h => hin (ent_inj hn hi hen h.symm)), h2 i e hi (by omega)]
        exact X.kill_two VL_two _
theorem endSt_o {cs : List (Nat × Nat)} {base : State} {j0 : Nat} {en : Ents} (hn : (en.map Prod.fst).Nodup) (hw : OffWf cs j0 en) (hs : ∀ e ∈ en, smallKs e.2.2 = true) (h0 : ∀ k, k / 1000 ∈ en.map Prod.fst → look1 base.o k = none) : ∀ n, n ≤ en.length →
    (∀ k, k / 1000 ∉ en.map Prod.fst → look1 (endSt cs j0 (en.take n) base).o k = kO (VL cs j0 n) (look1 base.o) k) ∧ ∀ (i : Nat) (e : Nat × X × List (Nat × Ob)) (k : Nat), en[i]? = some e → k / 1000 = e.1 → look1 (endSt cs j0 (en.take n) base).o k = if i < n then kO (VL cs j0 n) (look1 (putsO e.1 e.2.2 [])) k else none
  | 0, _ => ⟨fun k _ => by
      simp only [kO, VL, List.not_mem_nil, if_false]
      show look1 base.o k = _
      cases look1 base.o k with
      | none => rfl
      | some b => simp only [Option.map_some]; rw [Ob.killL_id (by simp)], fun i e k hi hk => by
      rw [if_neg (fun h => by omega)]
      exact h0 k (hk ▸ List.mem_map_of_mem (List.mem_of_getElem? hi))⟩
  | n + 1, hle => by
    obtain ⟨h1, h2⟩ := endSt_o (base := base) hn hw hs h0 n (by omega)
    obtain ⟨en', hen⟩ : ∃ e, en[n]? = some e := ⟨en[n], by simp [show n < en.length by omega]⟩
    have htk : en.take (n + 1) = en.take n ++ [en'] := by rw [List.take_add_one, hen]; rfl
    rw [htk, endSt_snoc, show (en.take n).length = n by rw [List.length_take]; omega]
    have hmem : en'.1 ∈ en.map Prod.fst := List.mem_map_of_mem (List.mem_of_getElem? hen)
    have hsm := hs en' (List.mem_of_getElem? hen)
    have hoff : ∀ k, k / 1000 ≠ en'.1 → look1 (putsO en'.1 en'.2.2 []) k = none := fun k hk => by
      cases hl : look1 (putsO en'.1 en'.2.2 []) k with
      | none => rfl
      | some b => exact absurd (look1_small hsm hl).1 hk
    refine ⟨fun k hk => ?_, fun i e k hi hk => ?_⟩
    · rw [behind_o, hoff k (fun h => hk (h ▸ hmem))]
      simp only
      rw [kO_at (h1 k hk)]
      exact congrFun (kO_two VL_two _) k
    · rw [behind_o]
      by_cases hin : i = n
      · subst hin
        have : e = en' := Option.some.inj (hi.symm.trans hen)
        subst this
        rw [if_pos (by omega)]
        cases hl : look1 (putsO e.1 e.2.2 []) k with
        | some b =>
          obtain ⟨_, c', h3, h4⟩ := look1_small hsm hl
          have h5 : k ∉ VL cs j0 (i + 1) := hw i e hi k (by rw [app_eq]; exact List.mem_append_left _ (mem_newKs.2 ⟨c', b, h3, h4⟩))
          simp only [kO, if_neg h5, hl, Option.map_some]
          rw [Ob.killL_id fun k' hk' => hw i e hi k' (by rw [app_eq, app_eq]; exact List.mem_append_right _ (List.mem_append_right _ (mem_keysN.2 ⟨_, h3, hk'⟩)))]
        | none =>
          simp only
          have h3 : look1 (endSt cs j0 (en.take i) base).o k = none := (h2 i e k hi hk).trans (if_neg (Nat.lt_irrefl _))
          simp only [kO, h3, hl, Option.map_none]
          split <;> split <;> rfl
      · rw [hoff k (fun h => hin (ent_inj hn hi hen (hk.symm.trans h)))]
        simp only
        by_cases hlt : i < n
        · have h3 : look1 (endSt cs j0 (en.take n) base).o k = kO (VL cs j0 n) (look1 (putsO e.1 e.2.2 [])) k := (h2 i e k hi hk).trans (if_pos hlt)
          rw [kO_at h3, if_pos (by omega)]
          exact congrFun (kO_two VL_two _) k
        · have h3 : look1 (endSt cs j0 (en.take n) base).o k = none := (h2 i e k hi hk).trans (if_neg hlt)
          rw [if_neg (by omega)]
          simp only [kO, h3, Option.map_none]
          split <;> rfl
/-- The run's state, as a state. -/
def deadE (al : Cur) : Nat → Ents → Ents
  | _, [] => []
  | i, e :: r => (e.1, (match al i e with
    | some p => p.1
    | none => .c .no), (match al i e with
    | some p => p.2
    | none => [])) :: deadE al (i + 1) r
theorem deadE_fst (al : Cur) : ∀ (i : Nat) (en : Ents), (deadE al i en).map Prod.fst = en.map Prod.fst
  | _, [] => rfl
  | i, e :: r => by simp [deadE, deadE_fst al (i + 1) r]
theorem deadE_small {al : Cur} : ∀ {i : Nat} {en : Ents}, (∀ (j : Nat) (e : Nat × X × List (Nat × Ob)) (p : X × List (Nat × Ob)), en[j]? = some e → al (i + j) e = some p → smallKs p.2 = true) → ∀ e ∈ deadE al i en, smallKs e.2.2 = true
  | _, [], _, e, he => by simp [deadE] at he
  | i, a :: r, h, e, he => by
    simp only [deadE, List.mem_cons] at he
    rcases he with rfl | he
    · simp only
      cases hq : al i a with
      | none => rfl
      | some p => exact h 0 a p rfl hq
    · exact deadE_small (i := i + 1) (en := r) (fun j e p h1 h2 => h (j + 1) e p (by simpa using h1) (by rwa [show i + (j + 1) = i + 1 + j by omega])) e he
theorem runS_dead {al : Cur} {base : Nat → X} {t : Nat} : ∀ {en : Ents} {i : Nat}, runS base (fun _ e => some e.2) i (deadE al i en) t = runS base al i en t
  | [], _ => rfl
  | e :: r, i => by
    simp only [deadE, runS, runS_dead (en := r)]
    try (cases al i e <;> rfl)
theorem runO_dead {al : Cur} {base : Look} {k : Nat} : ∀ {en : Ents} {i : Nat}, runO base (fun _ e => some e.2) i (deadE al i en) k = runO base al i en k
  | [], _ => rfl
  | e :: r, i => by
    simp only [deadE, runO, runO_dead (en := r)]
    split
    · cases al i e <;> simp [putsO, look1]
    · rfl
theorem run_state {al : Cur} {base : State} {i : Nat} {en : Ents} (hn : (en.map Prod.fst).Nodup) (hs : ∀ (j : Nat) (e : Nat × X × List (Nat × Ob)) (p : X × List (Nat × Ob)), en[j]? = some e → al (i + j) e = some p → smallKs p.2 = true) (h0 : ∀ k, k / 1000 ∈ en.map Prod.fst → look1 base.o k = none) :
    ∃ st : State, slot st.s = runS (slot base.s) al i en ∧ look1 st.o = runO (look1 base.o) al i en := by
  have hn' : ((deadE al i en).map Prod.fst).Nodup := by rw [deadE_fst]; exact hn
  have hb : ∀ t, t ∉ (deadE al i en).map Prod.fst → slot base.s t = slot base.s t := fun _ _ => rfl
  refine ⟨endSt0 (deadE al i en) base, funext fun t => ?_, funext fun k => ?_⟩
  · rw [runS_all (fl := fun _ e => some e.2) (i := i) (fun _ _ _ => rfl) hn' hb t hb, runS_dead]
  · rw [runO_all (fl := fun _ e => some e.2) (i := i) (base := look1 base.o) (fun _ _ _ => rfl) hn' (deadE_small hs) (fun _ _ => rfl) (fun k hk => h0 k (by rw [deadE_fst] at hk; exact hk)) k, runO_dead]

structure SegCtx (P : Program) (T : Tab) (ops : Array Oper) (cs ps : List (Nat × Nat)) (base : State) (j0 : Nat) (en : Ents) : Prop where
  nd : (en.map Prod.fst).Nodup
  ok : SegOk P T ops (idx j0 en) cs ps j0 base en
  bs : ∀ t, ∀ k ∈ (slot base.s t).keys, k / 1000 ∉ en.map Prod.fst
  bo : ∀ k b, look1 base.o k = some b → k / 1000 ∉ en.map Prod.fst ∧ ∀ k' ∈ b.keys, k' / 1000 ∉ en.map Prod.fst
  back : ∀ (i : Nat) (oi : Oper), ops[i]? = some oi → ∀ e ∈ oi.after, Region.binds .any e = true → e.on < i
  fin : j0 + en.length = ops.size ∨ barrier (depsOf ops.toList []) j0 (j0 + en.length) = true
  le : j0 + en.length ≤ ops.size

theorem deps_lt {ops : Array Oper} (hb : ∀ (i : Nat) (oi : Oper), ops[i]? = some oi → ∀ e ∈ oi.after, Region.binds .any e = true → e.on < i) : ∀ (j : Nat) (oj : Oper), ops[j]? = some oj → ∀ x ∈ (depsOf ops.toList []).getD j [], x < j := by
  intro j
  induction j using Nat.strongRecOn with
  | _ j ih =>
    intro oj hj x hx
    obtain ⟨e, h1, h2, h3⟩ := deps_spec ops j oj hj x hx
    have hlt := hb j oj hj e h1 h2
    rcases h3 with rfl | ⟨h5, h6⟩
    · exact hlt
    · have hj' := (Array.getElem?_eq_some_iff.1 hj).1
      have := ih e.on h5 (ops[e.on]'(by omega)) (by simp [show e.on < ops.size by omega]) x h6
      omega

variable {ops : Array Oper} {cs ps : List (Nat × Nat)} {base : State} {j0 : Nat} {en : Ents}
theorem SegCtx.small (c : SegCtx P T ops cs ps base j0 en) : ∀ e ∈ en, smallKs e.2.2 = true := fun e he => by
  obtain ⟨i, hi⟩ := List.mem_iff_getElem?.1 he
  exact (c.ok.get hi).small
theorem SegCtx.base0 (c : SegCtx P T ops cs ps base j0 en) : ∀ k, k / 1000 ∈ en.map Prod.fst → look1 base.o k = none := fun k hk => by
  cases h : look1 base.o k with
  | none => rfl
  | some b => exact absurd hk (c.bo k b h).1
/-- What may have been taken ahead of an operation is hidden from it. -/
theorem SegCtx.hidden (c : SegCtx P T ops cs ps base j0 en) {i i' k : Nat} (hi : i' < en.length) (hne : i' ≠ i) (hnd : j0 + i ∉ (depsOf ops.toList []).getD (j0 + i') []) (hc : conAt cs (j0 + i') = some k) : k ∈ hid (depsOf ops.toList []) (j0 + i) cs :=
  mem_hid ⟨j0 + i', conAt_mem hc, by omega, hnd⟩
theorem SegCtx.off (c : SegCtx P T ops cs ps base j0 en) : OffWf cs j0 en := fun i e hi k hk hm => by
  have hok := c.ok.get hi
  obtain ⟨h1, h2⟩ := offs_spec hok.off k hk
  obtain ⟨i', h3, h4⟩ := mem_VL.1 hm
  by_cases he : i' = i
  · subst he; exact h2 h4
  · have hil := (List.getElem?_eq_some_iff.1 hi).1
    refine h1 (c.hidden (by omega) he (fun hd => ?_) h4)
    obtain ⟨oo, hoo, _⟩ := (c.ok.get (i := i') (e := en[i']'(by omega)) (by simp [show i' < en.length by omega])).op
    have := deps_lt c.back _ oo hoo _ hd
    omega
/-- What one of them sees is there. -/
theorem SegCtx.seen (c : SegCtx P T ops cs ps base j0 en) {listed : Array Bool} (hcl : Closed ops listed) (hlt : ∀ i, listed.getD i false = true → i < ops.size) {i : Nat} {e : Nat × X × List (Nat × Ob)} (hi : en[i]? = some e) {oo : Oper} (hoo : ops[j0 + i]? = some oo)
    (hall : ∀ e ∈ oo.after, Region.binds .any e = true → listed.getD e.on false = true) {t : Nat} (hv : vis (sndL (idx j0 en)) (aheadOf ((depsOf ops.toList []).getD (j0 + i) []) (idx j0 en)) t = true) :
    t ∉ en.map Prod.fst ∨ ∃ (i' : Nat) (e' : Nat × X × List (Nat × Ob)), en[i']? = some e' ∧ i' < i ∧ t = e'.1 ∧ listed.getD (j0 + i') false = true := by
  rcases vis_spec hv with h | h
  · rw [sndL_idx] at h; exact .inl h
  · right
    obtain ⟨x, h1, h2⟩ := mem_aheadOf h
    obtain ⟨i', e', h3, rfl, h4⟩ := mem_idx h2
    have := deps_lt c.back _ oo hoo _ h1
    exact ⟨i', e', h3, by omega, h4, deps_listed ops hcl hlt _ oo hoo hall _ h1⟩

theorem source_mono {o o' : Look} (hm : ∀ k es xs, o k = some (.ar es xs) → o' k = some (.ar es xs)) {u : TypeId} {c : C} {K : Nat → List (List Y) → Prop} (h : source prims T o u c K) : source prims T o' u c K := by
  have he : ∀ c, elems prims o c K → elems prims o' c K := fun c h => by
    cases c <;> simp only [elems] at h ⊢ <;> try exact h
    all_goals
      rw [rowAt_iff] at h ⊢
      obtain ⟨es, xs, h1, h2⟩ := h
      exact ⟨es, xs, hm _ _ _ h1, h2⟩
  cases c <;> simp only [source] at h ⊢ <;> (try exact h) <;> (split at h <;> first | exact he _ h | exact h)
theorem qcons_ok (hT : TabOk P T) {oo : Oper} {a : Act} {st : State} (h : Rel E γ (slot st.s) (look1 st.o) a.tmps w) {rs : Nat → X} {ro : Look} (hr : Rel E γ rs ro a.tmps w) (hm : ∀ k es xs, ro k = some (.ar es xs) → look1 st.o k = some (.ar es xs)) {k0 d : Nat} {K : QK} (hq : qcons prims T k0 rs ro d oo.op K) :
    ∃ es r, K (.c (.aw (key d 1))) [(1, .ar es r)] ∧ NWp P E γ w oo a (fun x st' => x = .c (.aw (key d 1)) ∧ st' = (st.kill k0).new (key d 1) (.ar es r)) := by
  obtain ⟨dst, op, ty, pos, after, guard⟩ := oo
  cases op <;> simp only [qcons] at hq <;> try exact hq.elim
  rename_i c
  obtain ⟨callee, ⟨al⟩, ⟨tl⟩⟩ := c
  simp only at hq
  cases callee <;> simp only at hq <;> try exact hq.elim
  rename_i b
  cases b <;> simp only at hq <;> try exact hq.elim
  cases tl with
  | nil => exact hq.elim
  | cons t0 ts =>
    cases ts with
    | nil => exact hq.elim
    | cons u ts =>
      simp only at hq
      have hlen := opds_length T rs (t0 :: u :: ts) al
      have hrel : ∀ (i : Nat) (v : Value) (y : X), (al.map a.eval)[i]? = some v → (opds T rs (t0 :: u :: ts) al)[i]? = some y → RX w (E.Sh γ w) γ v y := fun i v y h1 h2 => hr.opds (T := T) (t0 :: u :: ts) al i v y h1 h2
      cases hx : opds T rs (t0 :: u :: ts) al with
      | nil => simp [hx] at hq
      | cons x r =>
        rw [hx] at hlen hrel
        simp only [hx] at hq
        cases r with
        | nil => exact hq.elim
        | cons z r =>
          simp only [chk_iff] at hq
          obtain ⟨n1, n2, hq⟩ := hq
          have n1 : ts = [] := by cases ts <;> simp [isNilL] at n1; rfl
          have n2 : r = [] := by cases r <;> simp [isNilL] at n2; rfl
          subst n1 n2
          cases al with
          | nil => simp at hlen
          | cons x0 al =>
            cases al with
            | nil => simp at hlen
            | cons x1 al =>
              have n3 : al = [] := by simpa using hlen.symm
              subst n3
              simp only [qcons2] at hq
              cases hel : (T.at t0).el with
              | none => simp [hel] at hq
              | some e =>
                simp only [hel, asC_iff] at hq
                obtain ⟨ca, rfl, cz, rfl, hq⟩ := hq
                cases ca <;> simp only at hq <;> try exact hq.elim
                rename_i k
                simp only [chk_iff, rowAt_iff] at hq
                obtain ⟨hk, es, xs, ho, hq⟩ := hq
                obtain ⟨A, hA⟩ := pk_source (T := T) (o := ro) u cz
                obtain ⟨zs, ys, hA1, hK⟩ := (hA _).1 hq
                obtain ⟨h1, h2, h3, h4, h5, hK⟩ := hK
                have hk := eqN_t hk
                subst hk
                refine ⟨es, _, hK, nAppend_ok hT h (d := d) (t := t0) (u := u) (x := .c (.aw k)) (y := .c cz) (v := a.eval x0) (z := a.eval x1) (ty := ty) (by simp [execOp, resolve, invoke, builtin]) (hrel 0 _ _ rfl rfl) (hrel 1 _ _ rfl rfl) ?_⟩
                simp only [nAppend, hel, asC, rowAt_iff]
                refine ⟨es, xs, hm _ _ _ ho, source_mono hm ((hA _).2 ⟨zs, ys, hA1, ?_⟩)⟩
                simp only [chk_iff]
                exact ⟨h1, h2, h3, h4, h5, trivial, trivial⟩

/-! #### Pairs -/
theorem pairS_A {ps : List (Nat × Nat)} {m ia : Nat} : pairS ps m = some ia → pairA ps ia ≠ none := by
  induction ps with
  | nil => intro h; simp [pairS] at h
  | cons p r ih =>
    intro h
    simp only [pairS] at h
    simp only [pairA]
    cases he : eqN p.1 ia with
    | true => simp
    | false =>
      simp only
      cases he' : eqN p.2 m with
      | true =>
        rw [he'] at h
        simp only [Option.some.injEq] at h
        rw [h, eqN_refl] at he; cases he
      | false => rw [he'] at h; exact ih h
def curN (T : Tab) (ops : Array Oper) (m : Nat) (e : Nat × X × List (Nat × Ob)) : List (Nat × Ob) := match ops[m]? with
  | some oo => match oo.op with
    | .store t _ _ => naD T e.1 t
    | _ => []
  | none => []
/-- Listed: all of it; its alloc alone: what that has made. -/
def cur (T : Tab) (ops : Array Oper) (ps : List (Nat × Nat)) (listed : Array Bool) : Cur := fun m e =>
  if listed.getD m false = true then some e.2 else match pairS ps m with
    | some ia => if listed.getD ia false = true then some (e.2.1, curN T ops m e) else none
    | none => none
theorem cur_yes {listed : Array Bool} {m : Nat} {e : Nat × X × List (Nat × Ob)} (h : listed.getD m false = true) : cur T ops ps listed m e = some e.2 := by simp only [cur, if_pos h]
theorem cur_no {listed : Array Bool} {m : Nat} {e : Nat × X × List (Nat × Ob)} (h : listed.getD m false = false) (hp : ∀ ia, pairS ps m = some ia → listed.getD ia false = false) : cur T ops ps listed m e = none := by
  simp only [cur, h, if_neg (show ¬ false = true by simp)]
  cases hs : pairS ps m with
  | none => rfl
  | some ia => simp [hp ia hs]
theorem cur_half {listed : Array Bool} {m ia : Nat} {e : Nat × X × List (Nat × Ob)} (h : listed.getD m false = false) (hp : pairS ps m = some ia) (hl : listed.getD ia false = true) : cur T ops ps listed m e = some (e.2.1, curN T ops m e) := by
  simp only [cur, h, if_neg (show ¬ false = true by simp), hp, if_pos hl]
theorem putsO_appO (d : Nat) : ∀ (l : List (Nat × Ob)) (c : Nat) (b : Ob) (o : List (Nat × Ob)), putsO d (appO l (c, b)) o = put1 (putsO d l o) (key d c) b
  | [], _, _, _ => rfl
  | (c', b') :: r, c, b, o => by simp only [appO, putsO, putsO_appO d r]
theorem naD_box (T : Tab) (d t : Nat) : look1 (putsO d (naD T d t) []) (key d 0) = some (.bx (layCs d 1 (T.at t).zero).1) := by
  simp only [naD, putsO_appO, look1_put1, if_true]
theorem layCs_length (d : Nat) : ∀ (j : Nat) (l : List C), (layCs d j l).1.length = l.length
  | _, [] => rfl
  | j, c :: r => by cases c <;> simp [layCs, layCs_length d (j + 1) r]
theorem mapCs_length (f : C → C) : ∀ l : List C, (mapCs f l).length = l.length
  | [] => rfl
  | c :: r => by simp [mapCs, mapCs_length f r]
theorem mapY_length : ∀ l : List Y, (mapY l).length = l.length
  | [] => rfl
  | y :: r => by simp [mapY, mapY_length r]
theorem mapY_keys : ∀ l : List Y, keysCs (mapY l) = []
  | [] => rfl
  | y :: r => by simp [mapY, keysCs, C.keys, app, mapY_keys r]
theorem SegCtx.pairGe (c : SegCtx P T ops cs ps base j0 en) {i ia : Nat} {e : Nat × X × List (Nat × Ob)} (hi : en[i]? = some e) (h : pairS ps (j0 + i) = some ia) : j0 ≤ ia := by
  obtain ⟨o1, ho1, _, hk1⟩ := (c.ok.get hi).op
  rcases hk1 with ⟨_, hn, _⟩ | ⟨_, _, _, _, hn, _⟩ | ⟨ia', oa, t, v, ys, _, hp, _, _, _, _, _, hle, _⟩
  · rw [h] at hn; cases hn
  · rw [h] at hn; cases hn
  · rw [h] at hp
    cases hp
    cases en with
    | nil => simp at hi
    | cons a r => exact hle
theorem seg_any (hT : TabOk P T) (c : SegCtx P T ops cs ps base j0 en) {Q : Exit → Act → World → Prop} {N : Nat} {D : List Deferred} (hd : ∀ oo ∈ ops, ∀ d, oo.dst = some d → d < N ∧ E.arg d = none) {fuel0 : Nat}
    (cont : ∀ (listed : Array Bool) (a : Act) (γ : Ghs) (w : World), listed.size = ops.size → (∀ i, listed.getD i false = true ↔ i < j0 + en.length) → Closed ops listed → a.tmps.size = N → a.defers = D →
      Rel E γ (slot (endSt cs j0 en base).s) (look1 (endSt cs j0 en base).o) a.tmps w → wpAny P .any ops Q fuel0 listed a w) :
    ∀ (m : Nat) (listed : Array Bool) (a : Act) (γ : Ghs) (w : World), cnt listed (j0 + en.length) = m → listed.size = ops.size → (∀ i, i < j0 → listed.getD i false = true) → (∀ i, listed.getD i false = true → i < j0 + en.length) → Closed ops listed → a.tmps.size = N → a.defers = D →
      (∀ V : List Nat, (∀ i k, i < en.length → listed.getD (j0 + i) false = true → conAt cs (j0 + i) = some k → k ∈ V) → Rel E γ (kS V (runS (slot base.s) (cur T ops ps listed) j0 en)) (kO V (runO (look1 base.o) (cur T ops ps listed) j0 en)) a.tmps w) → wpAny P .any ops Q (fuel0 + m) listed a w := by
  intro m
  induction m with
  | zero =>
    intro listed a γ w hm hsz hlo hhi hcl hN hD h
    have hall := cnt_zero hm
    refine cont listed a γ w hsz (fun i => ⟨hhi i, hall i⟩) hcl hN hD ?_
    have hES := endSt_s (base := base) c.nd c.off en.length (Nat.le_refl _)
    have hEO := endSt_o (base := base) c.nd c.off c.small c.base0 en.length (Nat.le_refl _)
    rw [List.take_length] at hES hEO
    have e1 : slot (endSt cs j0 en base).s = kS (VL cs j0 en.length) (runS (slot base.s) (cur T ops ps listed) j0 en) := funext fun t => by
      by_cases ht : t ∈ en.map Prod.fst
      · obtain ⟨e', h1, rfl⟩ := List.mem_map.1 ht
        obtain ⟨i', h2⟩ := List.mem_iff_getElem?.1 h1
        have hlt := (List.getElem?_eq_some_iff.1 h2).1
        rw [hES.2 i' e' h2 hlt]
        simp only [kS]
        rw [runS_at c.nd h2, cur_yes (hall _ (by omega))]
      · simp only [kS]; rw [runS_off ht]; exact hES.1 t ht
    have e2 : look1 (endSt cs j0 en base).o = kO (VL cs j0 en.length) (runO (look1 base.o) (cur T ops ps listed) j0 en) := funext fun k => by
      by_cases ht : k / 1000 ∈ en.map Prod.fst
      · obtain ⟨e', h1, h1'⟩ := List.mem_map.1 ht
        obtain ⟨i', h2⟩ := List.mem_iff_getElem?.1 h1
        have hlt := (List.getElem?_eq_some_iff.1 h2).1
        rw [hEO.2 i' e' k h2 h1'.symm, if_pos hlt]
        exact kO_at (by rw [runO_at c.nd h2 h1'.symm, cur_yes (hall _ (by omega))])
      · rw [hEO.1 k ht]
        exact kO_at (by rw [runO_off ht])
    rw [e1, e2]; exact h _ fun i k h1 h2 h3 => mem_VL.2 ⟨i, h1, h3⟩
  | succ m ih =>
    intro listed a γ w hm hsz hlo hhi hcl hN hD h
    have hltS : ∀ i, listed.getD i false = true → i < ops.size := fun i hi => Nat.lt_of_lt_of_le (hhi i hi) c.le
    refine ⟨fun hr => ?_, fun mi hmi => ?_⟩
    · exfalso
      obtain ⟨i, h1, h2, h3⟩ := cnt_pos (l := listed) (n := j0 + en.length) (by omega)
      have hi : i < ops.size := Nat.lt_of_lt_of_le h1 c.le
      have : i ∈ Region.ready .any ops listed := by
        rw [mem_ready]
        refine ⟨?_, ops[i], by simp [hi], fun e he hbe => h3 _ (c.back i _ (by simp [hi]) e he hbe)⟩
        simp only [Array.getD_eq_getD_getElem?] at h2 ⊢
        rw [Array.getElem?_eq_getElem (by omega)] at h2 ⊢
        simpa using h2
      rw [hr] at this
      simp at this
    · obtain ⟨hun, oo, hoo, hall⟩ := mem_ready.1 hmi
      have hsize := (Array.getElem?_eq_some_iff.1 hoo).1
      have hunf : listed.getD mi false = false := by
        simp only [Array.getD_eq_getD_getElem?] at hun ⊢
        rw [Array.getElem?_eq_getElem (by omega)] at hun ⊢
        simpa using hun
      have hge : j0 ≤ mi := by
        rcases Nat.lt_or_ge mi j0 with h1 | h1
        · rw [hlo mi h1] at hunf; cases hunf
        · exact h1
      have hle : mi < j0 + en.length := by
        rcases Nat.lt_or_ge mi (j0 + en.length) with h1 | h1
        · exact h1
        · exfalso
          rcases c.fin with h2 | h2
          · omega
          · obtain ⟨b1, b2⟩ := barrier_spec h2
            by_cases he : mi = j0 + en.length
            · subst he
              obtain ⟨i, h3, h4, _⟩ := cnt_pos (l := listed) (n := j0 + en.length) (by omega)
              have := deps_listed ops hcl hltS _ oo hoo hall i (b1 i (Nat.le_of_not_lt fun hh => by rw [hlo i hh] at h4; cases h4) h3)
              rw [this] at h4; cases h4
            · have := deps_listed ops hcl hltS _ oo hoo hall _ (b2 mi (by omega) (by rw [deps_length]; exact hsize))
              have := hhi _ this
              omega
      obtain ⟨i, rfl⟩ : ∃ i, mi = j0 + i := ⟨mi - j0, by omega⟩
      have hil : i < en.length := by omega
      obtain ⟨e, hi⟩ : ∃ e, en[i]? = some e := ⟨en[i], by simp [hil]⟩
      have hok := c.ok.get hi
      obtain ⟨oo', hoo', hreg, hkind⟩ := hok.op
      have : oo' = oo := Option.some.inj (hoo'.symm.trans hoo)
      subst this
      have hseen := fun t hv => c.seen hcl hltS hi hoo hall (t := t) hv
      obtain ⟨H, hH⟩ : ∃ H, H = hid (depsOf ops.toList []) (j0 + i) cs := ⟨_, rfl⟩
      -- what has been taken is hidden
      have hHlist : ∀ i' k, i' < en.length → listed.getD (j0 + i') false = true → conAt cs (j0 + i') = some k → k ∈ H := fun i' k h1 h2 h3 => by
        rw [hH]
        refine c.hidden h1 (fun he => by subst he; rw [hunf] at h2; cases h2) (fun hdp => ?_) h3
        obtain ⟨o1, ho1, _⟩ := (c.ok.get (i := i') (e := en[i']'h1) (by simp [h1])).op
        have := deps_listed ops hcl hltS _ o1 ho1 (fun e he hb => hcl _ _ ho1 h2 e he hb) _ hdp
        rw [hunf] at this; cases this
      have hHV : ∀ k ∈ VL cs j0 i, k ∈ H := fun k hk => by
        obtain ⟨i', h1, h2⟩ := mem_VL.1 hk
        rw [hH]
        refine c.hidden (by omega) (by omega) (fun hdp => ?_) h2
        obtain ⟨o1, ho1, _⟩ := (c.ok.get (i := i') (e := en[i']'(by omega)) (by simp [show i' < en.length by omega])).op
        have := deps_lt c.back _ o1 ho1 _ hdp
        omega
      have hHtwo : ∀ k, k ∈ H ↔ k ∈ VL cs j0 i ∨ k ∈ H := fun k => ⟨.inr, fun h => h.elim (hHV k) id⟩
      have hES := endSt_s (base := base) c.nd c.off i (by omega)
      have hEO := endSt_o (base := base) c.nd c.off c.small c.base0 i (by omega)
      have hH0 := h H hHlist
      -- what it sees
      have hS : ∀ t, vis (sndL (idx j0 en)) (aheadOf ((depsOf ops.toList []).getD (j0 + i) []) (idx j0 en)) t = true → kS H (runS (slot base.s) (cur T ops ps listed) j0 en) t = (slot (endSt cs j0 (en.take i) base).s t).mapC (C.mapK (killL H)) := fun t hv => by
        simp only [kS]
        rcases hseen t hv with h1 | ⟨i', e', h1, h2, rfl, h4⟩
        · rw [runS_off h1, hES.1 t h1]; exact (X.kill_two hHtwo _).symm
        · rw [runS_at c.nd h1, hES.2 i' e' h1 h2, cur_yes h4]; exact (X.kill_two hHtwo _).symm
      have hO : ∀ k, vis (sndL (idx j0 en)) (aheadOf ((depsOf ops.toList []).getD (j0 + i) []) (idx j0 en)) (k / 1000) = true → kO H (look1 (endSt cs j0 (en.take i) base).o) k = kO H (runO (look1 base.o) (cur T ops ps listed) j0 en) k := fun k hv => by
        rcases hseen _ hv with h1 | ⟨i', e', h1, h2, h3, h4⟩
        · rw [kO_at (hEO.1 k h1), congrFun (kO_two hHtwo _) k]
          exact kO_at (by rw [runO_off h1])
        · rw [kO_at ((hEO.2 i' e' k h1 h3).trans (if_pos h2)), congrFun (kO_two hHtwo _) k]
          exact kO_at (by rw [runO_at c.nd h1 h3, cur_yes h4])
      have hlt' : j0 + i < listed.size := by omega
      -- behind it
      have hfl : ∀ i', (listed.setIfInBounds (j0 + i) true).getD i' false = if i' = j0 + i then true else listed.getD i' false := fun i' => by
        by_cases he : i' = j0 + i
        · subst he; simp only [if_true]; exact getD_set_self hlt' _
        · rw [getD_set_ne false (Ne.symm he), if_neg he]
      have hinj : ∀ (i1 i2 : Nat) (e1 e2 : Nat × X × List (Nat × Ob)), en[i1]? = some e1 → en[i2]? = some e2 → e1.1 = e2.1 → i1 = i2 := fun i1 i2 e1 e2 h1 h2 h3 => ent_inj c.nd h1 h2 h3
      -- what a half of a pair has made
      have hhalf : ∀ (i' : Nat) (e' : Nat × X × List (Nat × Ob)) (ia : Nat), en[i']? = some e' → pairS ps (j0 + i') = some ia → e'.2.1 = .c (.pb (key e'.1 0) 0) ∧ smallKs (curN T ops (j0 + i') e') = true ∧ ∀ k ∈ app e'.2.1.keys (keysN (curN T ops (j0 + i') e')), k / 1000 = e'.1 := fun i' e' ia h1 h2 => by
        obtain ⟨o1, ho1, _, hk1⟩ := (c.ok.get h1).op
        rcases hk1 with ⟨_, hn, _⟩ | ⟨_, _, _, _, hn, _⟩ | ⟨ia', oa, t, v, ys, _, _, _, _, _, hop, _, _, _, _, _, _, _, _, _, hsm, hon, _, _, _, _, _, he2⟩
        · rw [h2] at hn; cases hn
        · rw [h2] at hn; cases hn
        · have hcn : curN T ops (j0 + i') e' = naD T e'.1 t := by simp only [curN, ho1, hop]
          have hx : e'.2.1 = .c (.pb (key e'.1 0) 0) := by rw [he2]
          refine ⟨hx, by rw [hcn]; exact hsm, fun k hk => ?_⟩
          rw [hcn, app_eq, List.mem_append] at hk
          rcases hk with hk | hk
          · rw [hx] at hk
            simp only [X.keys, C.keys, List.mem_singleton] at hk
            rw [hk]; exact key_div (by omega)
          · exact onlyD_t hon k hk
      -- nothing leads to what is new
      have hran : ∀ (ir : Nat) (er : Nat × X × List (Nat × Ob)), en[ir]? = some er → listed.getD (j0 + ir) false = false → ∀ (i' : Nat) (e' : Nat × X × List (Nat × Ob)), en[i']? = some e' → listed.getD (j0 + i') false = true → ∀ k ∈ app e'.2.1.keys (keysN e'.2.2), k / 1000 ≠ er.1 := fun ir er hir hur i' e' h1 h2 k hk => by
        have hok' := c.ok.get h1
        obtain ⟨o1, ho1, _⟩ := hok'.op
        have hne : i' ≠ ir := fun he => by subst he; rw [hur] at h2; cases h2
        rcases visAll_spec hok'.vk k hk with h3 | h3
        · rw [h3]; exact fun he => hne (hinj _ _ _ _ h1 hir he)
        · rcases c.seen hcl hltS h1 ho1 (fun e he hb => hcl _ _ ho1 h2 e he hb) h3 with h4 | ⟨i2, e2, h4, _, h5, h6⟩
          · exact fun he => h4 (he ▸ List.mem_map_of_mem (List.mem_of_getElem? hir))
          · rw [h5]
            intro he
            have := hinj _ _ _ _ h4 hir he
            subst this
            rw [hur] at h6; cases h6
      have hpres : ∀ (ir : Nat) (er : Nat × X × List (Nat × Ob)), en[ir]? = some er → cur T ops ps listed (j0 + ir) er = none → ∀ (i' : Nat) (e' : Nat × X × List (Nat × Ob)) (q : X × List (Nat × Ob)), en[i']? = some e' → cur T ops ps listed (j0 + i') e' = some q → ∀ k ∈ app q.1.keys (keysN q.2), k / 1000 ≠ er.1 := fun ir er hir hcr i' e' q h1 hq k hk => by
        have hur : listed.getD (j0 + ir) false = false := by
          cases hx : listed.getD (j0 + ir) false with
          | false => rfl
          | true => rw [cur_yes hx] at hcr; cases hcr
        by_cases hl : listed.getD (j0 + i') false = true
        · rw [cur_yes hl] at hq; cases hq
          exact hran ir er hir hur i' e' h1 hl k hk
        · have hl' : listed.getD (j0 + i') false = false := by simpa using hl
          cases hs : pairS ps (j0 + i') with
          | none => rw [cur_no hl' (fun ia h => by rw [hs] at h; cases h)] at hq; cases hq
          | some ia =>
            by_cases hla : listed.getD ia false = true
            · rw [cur_half hl' hs hla] at hq; cases hq
              rw [(hhalf i' e' ia h1 hs).2.2 k hk]
              intro he
              have := hinj _ _ _ _ h1 hir he
              subst this
              rw [hir] at h1; cases h1
              rw [cur_half hl' hs hla] at hcr; cases hcr
            · rw [cur_no hl' (fun ia' h => by rw [hs] at h; cases h; simpa using hla)] at hq; cases hq
      have hkS : ∀ (ir : Nat) (er : Nat × X × List (Nat × Ob)), en[ir]? = some er → cur T ops ps listed (j0 + ir) er = none → ∀ t, ∀ k ∈ (runS (slot base.s) (cur T ops ps listed) j0 en t).keys, k / 1000 ≠ er.1 := fun ir er hir hcr t k hk => by
        by_cases ht : t ∈ en.map Prod.fst
        · obtain ⟨e', h1, rfl⟩ := List.mem_map.1 ht
          obtain ⟨i', h2⟩ := List.mem_iff_getElem?.1 h1
          rw [runS_at c.nd h2] at hk
          cases hq : cur T ops ps listed (j0 + i') e' with
          | some q =>
            rw [hq] at hk
            exact hpres ir er hir hcr i' e' q h2 hq k (by rw [app_eq]; exact List.mem_append_left _ hk)
          | none =>
            rw [hq] at hk
            simp [X.keys, C.keys] at hk
        · rw [runS_off ht] at hk
          exact fun he => c.bs t k hk (he ▸ List.mem_map_of_mem (List.mem_of_getElem? hir))
      have hkO : ∀ (ir : Nat) (er : Nat × X × List (Nat × Ob)), en[ir]? = some er → cur T ops ps listed (j0 + ir) er = none → ∀ k0 b, runO (look1 base.o) (cur T ops ps listed) j0 en k0 = some b → ∀ k ∈ b.keys, k / 1000 ≠ er.1 := fun ir er hir hcr k0 b hb k hk => by
        by_cases ht : k0 / 1000 ∈ en.map Prod.fst
        · obtain ⟨e', h1, h1'⟩ := List.mem_map.1 ht
          obtain ⟨i', h2⟩ := List.mem_iff_getElem?.1 h1
          rw [runO_at c.nd h2 h1'.symm] at hb
          cases hq : cur T ops ps listed (j0 + i') e' with
          | some q =>
            rw [hq] at hb
            have hsm : smallKs q.2 = true := by
              by_cases hl : listed.getD (j0 + i') false = true
              · rw [cur_yes hl] at hq; cases hq; exact c.small e' h1
              · have hl' : listed.getD (j0 + i') false = false := by simpa using hl
                cases hs : pairS ps (j0 + i') with
                | none => rw [cur_no hl' (fun ia h => by rw [hs] at h; cases h)] at hq; cases hq
                | some ia =>
                  by_cases hla : listed.getD ia false = true
                  · rw [cur_half hl' hs hla] at hq; cases hq
                    exact (hhalf i' e' ia h2 hs).2.1
                  · rw [cur_no hl' (fun ia' h => by rw [hs] at h; cases h; simpa using hla)] at hq; cases hq
            obtain ⟨_, c', h3, _⟩ := look1_small hsm hb
            exact hpres ir er hir hcr i' e' q h2 hq k (by rw [app_eq]; exact List.mem_append_right _ (mem_keysN.2 ⟨_, h3, hk⟩))
          | none => rw [hq] at hb; cases hb
        · rw [runO_off ht] at hb
          exact fun he => (c.bo k0 b hb).2 k hk (he ▸ List.mem_map_of_mem (List.mem_of_getElem? hir))
      have hsmall : ∀ (i' : Nat) (e' : Nat × X × List (Nat × Ob)) (q : X × List (Nat × Ob)), en[i']? = some e' → cur T ops ps listed (j0 + i') e' = some q → smallKs q.2 = true := fun i' e' q h2 hq => by
        by_cases hl : listed.getD (j0 + i') false = true
        · rw [cur_yes hl] at hq; cases hq; exact c.small e' (List.mem_of_getElem? h2)
        · have hl' : listed.getD (j0 + i') false = false := by simpa using hl
          cases hs : pairS ps (j0 + i') with
          | none => rw [cur_no hl' (fun ia h => by rw [hs] at h; cases h)] at hq; cases hq
          | some ia =>
            by_cases hla : listed.getD ia false = true
            · rw [cur_half hl' hs hla] at hq; cases hq
              exact (hhalf i' e' ia h2 hs).2.1
            · rw [cur_no hl' (fun ia' h => by rw [hs] at h; cases h; simpa using hla)] at hq; cases hq
      have hcurO : ∀ (i' : Nat) (e' : Nat × X × List (Nat × Ob)), i' ≠ i → pairS ps (j0 + i') ≠ some (j0 + i) → cur T ops ps (listed.setIfInBounds (j0 + i) true) (j0 + i') e' = cur T ops ps listed (j0 + i') e' := fun i' e' h1 h2 => by
        simp only [cur, hfl]
        rw [if_neg (show ¬ (j0 + i' = j0 + i) by omega)]
        cases hs : pairS ps (j0 + i') with
        | none => rfl
        | some ia =>
          have : ¬ ia = j0 + i := fun h => h2 (by rw [hs, h])
          simp only [if_neg this]
      have hsub : ∀ V : List Nat, (∀ i' k, i' < en.length → (listed.setIfInBounds (j0 + i) true).getD (j0 + i') false = true → conAt cs (j0 + i') = some k → k ∈ V) → ∀ i' k, i' < en.length → listed.getD (j0 + i') false = true → conAt cs (j0 + i') = some k → k ∈ V := fun V hV i' k h1 h2 h3 => by
        refine hV i' k h1 ?_ h3
        rw [hfl]; split
        · rfl
        · exact h2
      have gone : ∀ (ir : Nat) (er : Nat × X × List (Nat × Ob)) (x : X) (n : List (Nat × Ob)), en[ir]? = some er → cur T ops ps listed (j0 + ir) er = none → smallKs n = true → oo'.dst = some er.1 →
          (∀ t, runS (slot base.s) (cur T ops ps (listed.setIfInBounds (j0 + i) true)) j0 en t = if er.1 = t then x else runS (slot base.s) (cur T ops ps listed) j0 en t) →
          (∀ k, runO (look1 base.o) (cur T ops ps (listed.setIfInBounds (j0 + i) true)) j0 en k = if k / 1000 = er.1 then look1 (putsO er.1 n []) k else runO (look1 base.o) (cur T ops ps listed) j0 en k) →
          ∀ v γ' w', QRes E γ w er.1 x n v γ' w' → ∀ V : List Nat, (∀ i' k, i' < en.length → (listed.setIfInBounds (j0 + i) true).getD (j0 + i') false = true → conAt cs (j0 + i') = some k → k ∈ V) →
          Rel E γ' (kS V (runS (slot base.s) (cur T ops ps (listed.setIfInBounds (j0 + i) true)) j0 en)) (kO V (runO (look1 base.o) (cur T ops ps (listed.setIfInBounds (j0 + i) true)) j0 en)) (a.put oo'.dst v).tmps w' := by
        intro ir er x n hir hcr hsmn hdst hrs hro v γ' w' hr V hV
        have h := h V (hsub V hV)
        have hd1 := hd oo' (Array.mem_of_getElem? hoo) er.1 hdst
        have hkey : ∀ k, k ∈ newKs er.1 n → k / 1000 = er.1 := fun k hk => by
          obtain ⟨c', b', h1, rfl⟩ := mem_newKs.1 hk
          exact key_div (smallKs_spec hsmn c' b' h1)
        have hn : Nx γ w γ' w' := ⟨hr.fr.mono fun _ h => h.elim, fun b ⟨k, hk⟩ => by
          by_cases hm : k ∈ newKs er.1 n
          · exact .inr (hr.fresh k b hm hk).1
          · rw [hr.off k hm] at hk; exact .inl ⟨k, hk⟩⟩
        have h1 : Rel E γ' (kS V (runS (slot base.s) (cur T ops ps listed) j0 en)) (fun k => if k / 1000 = er.1 then look1 (putsO er.1 n []) k else kO V (runO (look1 base.o) (cur T ops ps listed) j0 en) k) a.tmps w' := by
          refine h.go hn (C.mapK (killL (newKs er.1 n))) rfl (turns_mapK hn _ fun j j' he => ?_) (fun t => (X.killL_id fun k hk hnew => hkS ir er hir hcr t k (X.keys_kill hk).1 (hkey k hnew)).symm) (fun k b hb => ?_) ?_ ?_
          · obtain ⟨rfl, h2⟩ := killL_some he
            exact .inl (hr.off _ h2)
          · by_cases hk : k / 1000 = er.1
            · rw [if_pos hk] at hb
              obtain ⟨_, c', h3, rfl⟩ := look1_small hsmn hb
              exact .inr (hr.obs c' b h3)
            · rw [if_neg hk] at hb
              refine .inl ⟨k, b, hb, (Ob.killL_id fun k' hk' hnew => ?_).symm, hr.off k (fun hm => hk (hkey k hm)), fun g hg => hr.fr.block g (h.lt k g hg) (fun h => h)⟩
              simp only [kO] at hb
              split at hb
              · cases hb
              · cases hl : runO (look1 base.o) (cur T ops ps listed) j0 en k with
                | none => rw [hl] at hb; cases hb
                | some b0 =>
                  rw [hl] at hb
                  simp only [Option.map_some, Option.some.injEq] at hb
                  subst hb
                  exact hkO ir er hir hcr k b0 hl k' (Ob.keys_kill hk').1 (hkey k' hnew)
          · intro k k' b h1 h2
            by_cases hm : k ∈ newKs er.1 n
            · by_cases hm' : k' ∈ newKs er.1 n
              · exact hr.inj k k' b hm hm' h1 h2
              · rw [hr.off k' hm'] at h2
                have := (hr.fresh k b hm h1).1
                have := h.lt k' b h2
                omega
            · rw [hr.off k hm] at h1
              by_cases hm' : k' ∈ newKs er.1 n
              · have := (hr.fresh k' b hm' h2).1
                have := h.lt k b h1
                omega
              · rw [hr.off k' hm'] at h2
                exact h.inj k k' b h1 h2
          · intro k b h1
            by_cases hm : k ∈ newKs er.1 n
            · exact (hr.fresh k b hm h1).2
            · rw [hr.off k hm] at h1
              exact Nat.lt_of_lt_of_le (h.lt k b h1) hr.fr.size
        have h2 := h1.put (d := er.1) (s' := fun t => if er.1 = t then x else kS V (runS (slot base.s) (cur T ops ps listed) j0 en) t) hr.x (by rw [hN]; exact hd1.1) hd1.2 (fun t => rfl)
        rw [hdst]
        refine h2.weakenK V (fun t => ?_) (fun k b hb => ?_)
        · simp only [kS]
          rw [hrs]
          by_cases he : er.1 = t
          · rw [if_pos he, if_pos he]; exact .inr (.inl rfl)
          · rw [if_neg he, if_neg he]; exact .inl rfl
        · simp only [kO] at hb
          rw [hro] at hb
          split at hb
          · cases hb
          · rename_i hkV
            by_cases hk : k / 1000 = er.1
            · rw [if_pos hk] at hb
              rw [if_pos hk]
              cases hl : look1 (putsO er.1 n []) k with
              | none => rw [hl] at hb; cases hb
              | some b0 => rw [hl] at hb; cases hb; exact .inr ⟨b0, rfl, rfl⟩
            · rw [if_neg hk] at hb
              rw [if_neg hk]
              left
              simp only [kO, if_neg hkV]
              exact hb
      have next : ∀ (a' : Act) γ' w', a'.tmps.size = N → a'.defers = D → (∀ V : List Nat, (∀ i' k, i' < en.length → (listed.setIfInBounds (j0 + i) true).getD (j0 + i') false = true → conAt cs (j0 + i') = some k → k ∈ V) →
          Rel E γ' (kS V (runS (slot base.s) (cur T ops ps (listed.setIfInBounds (j0 + i) true)) j0 en)) (kO V (runO (look1 base.o) (cur T ops ps (listed.setIfInBounds (j0 + i) true)) j0 en)) a'.tmps w') →
          wpAny P .any ops Q (fuel0 + m) (listed.setIfInBounds (j0 + i) true) a' w' := fun a' γ' w' h1 h2 h3 => by
        refine ih _ a' γ' w' ?_ (by simpa using hsz) (fun i' hi' => ?_) (fun i' hi' => ?_) (hcl.set hmi) h1 h2 h3
        · have := cnt_set hlt' hunf hle; omega
        · rw [hfl]; split
          · rfl
          · exact hlo i' hi'
        · rw [hfl] at hi'
          split at hi'
          · omega
          · exact hhi i' hi'
      refine wpOp_of hoo ?_
      rcases hkind with ⟨hpA, hpS, hdst, hvt, b, hg, hb⟩ | ⟨is, d, t, hpA, hpS, hpp, hcon, hgd, hop, hdst, hmem, he2⟩ | ⟨ia, oa, t, v, ys, hpA, hpS, hcon, hgd, hdst, hop, hdep, _, hoa, hoap, hoad, hvt, his, hbld, hz9, hzsm, hzon, hzl, hno, htup, hcells, hyl, he2⟩
      · -- it turns nothing, or takes a row
        have hd1 := hd oo' (Array.mem_of_getElem? hoo) e.1 hdst
        have hcn : cur T ops ps listed (j0 + i) e = none := cur_no hunf fun ia h => by rw [hpS] at h; cases h
        have hnA : ∀ i' : Nat, pairS ps (j0 + i') ≠ some (j0 + i) := fun i' h => pairS_A h hpA
        have hrs : ∀ t, runS (slot base.s) (cur T ops ps (listed.setIfInBounds (j0 + i) true)) j0 en t = if e.1 = t then e.2.1 else runS (slot base.s) (cur T ops ps listed) j0 en t := fun t => by
          by_cases he : e.1 = t
          · subst he
            rw [runS_at c.nd hi, cur_yes (by rw [hfl, if_pos rfl]), if_pos rfl]
          · rw [if_neg he]
            exact runS_flag fun j e' h1 h2 => hcurO j e' (fun hj => by subst hj; rw [hi] at h1; cases h1; exact he h2) (hnA j)
        have hro : ∀ k, runO (look1 base.o) (cur T ops ps (listed.setIfInBounds (j0 + i) true)) j0 en k = if k / 1000 = e.1 then look1 (putsO e.1 e.2.2 []) k else runO (look1 base.o) (cur T ops ps listed) j0 en k := fun k => by
          by_cases he : k / 1000 = e.1
          · rw [if_pos he, runO_at c.nd hi he, cur_yes (by rw [hfl, if_pos rfl])]
          · rw [if_neg he]
            exact runO_flag fun j e' h1 h2 => hcurO j e' (fun hj => by subst hj; rw [hi] at h1; cases h1; exact he h2) (hnA j)
        have gone := gone i e e.2.1 e.2.2 hi hcn hok.small hdst hrs hro
        have hkS := hkS i e hi hcn
        have hkO := hkO i e hi hcn
        have hguard := guardW_ok hH0 (guardW_congr (s' := kS H (runS (slot base.s) (cur T ops ps listed) j0 en)) (fun t ht => hS t (visTmps_spec hvt t (by rw [app_eq]; exact List.mem_append_left _ ht))) (guardW_kill hg))
        cases b with
        | true =>
          rw [hguard, if_pos rfl]
          have hview : ∀ k b, restrictO (sndL (idx j0 en)) (aheadOf ((depsOf ops.toList []).getD (j0 + i) []) (idx j0 en)) (killO H (look1 (endSt cs j0 (en.take i) base).o)) k = some b → kO H (runO (look1 base.o) (cur T ops ps listed) j0 en) k = some b := fun k b hk => by
            simp only [restrictO] at hk
            cases hv : vis (sndL (idx j0 en)) (aheadOf ((depsOf ops.toList []).getD (j0 + i) []) (idx j0 en)) (k / 1000) with
            | false => rw [hv] at hk; cases hk
            | true =>
              rw [hv] at hk
              simp only [killO_eq] at hk
              rw [hO k hv] at hk; exact hk
          have hrest : Rel E γ (restrictS (opTmps oo'.op) (fun t => killX H (slot (endSt cs j0 (en.take i) base).s t))) (restrictO (sndL (idx j0 en)) (aheadOf ((depsOf ops.toList []).getD (j0 + i) []) (idx j0 en)) (killO H (look1 (endSt cs j0 (en.take i) base).o))) a.tmps w := by
            refine hH0.weaken (fun t => ?_) hview
            simp only [restrictS]
            cases hm : memN t (opTmps oo'.op) with
            | false => exact .inr rfl
            | true =>
              left
              simp only [killX_eq]
              exact (hS t (visTmps_spec hvt t (by rw [app_eq]; exact List.mem_append_right _ ((memN_iff _ _).1 hm)))).symm
          simp only at hb
          rw [← hH] at hb
          cases hcon : conAt cs (j0 + i) with
          | none =>
            rw [hcon] at hb
            simp only [qrun] at hb
            obtain ⟨x, n, ⟨rfl, rfl⟩, hwp⟩ := qcore_ok hT hrest hb
            exact hwp _ Q fun v γ' w' hr => next _ γ' w' (by rw [put_size, hN]) (by rw [put_defers, hD]) (gone v γ' w' hr)
          | some k =>
            rw [hcon] at hb
            simp only [qrun] at hb
            obtain ⟨V0, hV0⟩ : ∃ V0 : List Nat, ∀ k, k ∈ V0 ↔ ∃ i', i' < en.length ∧ listed.getD (j0 + i') false = true ∧ conAt cs (j0 + i') = some k := by
              refine ⟨((List.range en.length).filter fun i' => listed.getD (j0 + i') false).filterMap fun i' => conAt cs (j0 + i'), fun k => ?_⟩
              simp only [List.mem_filterMap, List.mem_filter, List.mem_range]
              exact ⟨fun ⟨i', ⟨h1, h2⟩, h3⟩ => ⟨i', h1, h2, h3⟩, fun ⟨i', h1, h2, h3⟩ => ⟨i', ⟨h1, h2⟩, h3⟩⟩
            have hr0 := h V0 fun i' k h1 h2 h3 => (hV0 k).2 ⟨i', h1, h2, h3⟩
            obtain ⟨st1, hs1, ho1⟩ := run_state (al := cur T ops ps listed) (base := base) (i := j0) c.nd hsmall c.base0
            obtain ⟨st0, hs0, ho0⟩ : ∃ st0 : State, slot st0.s = kS V0 (runS (slot base.s) (cur T ops ps listed) j0 en) ∧ look1 st0.o = kO V0 (runO (look1 base.o) (cur T ops ps listed) j0 en) := by
              refine ⟨⟨mapS (C.mapK (killL V0)) st1.s, mapO (C.mapK (killL V0)) (delL V0 st1.o)⟩, funext fun t => ?_, funext fun k => ?_⟩
              · rw [slot_mapS _ rfl, hs1]; rfl
              · rw [look1_mapO, look1_delL, ho1]
                simp only [kO]
                split <;> rfl
            rw [← hs0, ← ho0] at hr0
            obtain ⟨es, r, ⟨hx, hn⟩, x', st', ⟨rfl, rfl⟩, hwp⟩ := qcons_ok hT hr0 hrest (fun k es xs hk => by
              have h1 := hview k _ hk
              rw [ho0]
              simp only [kO] at h1 ⊢
              split at h1
              · cases h1
              · rename_i hkH
                rw [if_neg (fun hm => hkH (by obtain ⟨i', g1, g2, g3⟩ := (hV0 k).1 hm; exact hHlist i' k g1 g2 g3))]
                cases hl : runO (look1 base.o) (cur T ops ps listed) j0 en k with
                | none => rw [hl] at h1; cases h1
                | some b0 =>
                  rw [hl] at h1
                  cases b0 with
                  | ar es' xs' => exact h1
                  | bx cs' => simp [Ob.mapC] at h1
                  | op q => simp [Ob.mapC] at h1) hb
            refine hwp _ Q fun v γ' w' hnx hrel hrx => next _ γ' w' (by rw [put_size, hN]) (by rw [put_defers, hD]) fun V hV => ?_
            rw [hdst]
            have h2 := hrel.put (d := e.1) (s' := fun t => if e.1 = t then X.c (C.aw (key e.1 1)) else slot ((st0.kill k).new (key e.1 1) (Ob.ar es r)).s t) hrx (by rw [hN]; exact hd1.1) hd1.2 (fun t => rfl)
            have hkd : key e.1 1 / 1000 = e.1 := key_div (by omega)
            have hkV : k ∈ V := hV i k hil (by rw [hfl, if_pos rfl]) hcon
            have hV0V : ∀ k', k' ∈ V0 → k' ∈ V := fun k' hk' => by
              obtain ⟨i', g1, g2, g3⟩ := (hV0 k').1 hk'
              exact hsub V hV i' k' g1 g2 g3
            have two1 : ∀ k', k' ∈ V ↔ k' ∈ V0 ∨ k' ∈ V := fun k' => ⟨.inr, fun h => h.elim (hV0V k') id⟩
            have two2 : ∀ k', k' ∈ V ↔ k' ∈ [k] ∨ k' ∈ V := fun k' => ⟨.inr, fun h => h.elim (fun h => by rw [List.mem_singleton.1 h]; exact hkV) id⟩
            refine h2.weakenK V (fun u => ?_) (fun k0 b hb0 => ?_)
            · simp only [kS]
              rw [hrs]
              by_cases he : e.1 = u
              · rw [if_pos he]; simp only [he, if_true]; right; left; rw [← hx, he]
              · simp only [if_neg he]
                right; left
                simp only [State.new, State.kill]
                rw [slot_mapS _ rfl, slot_mapS _ rfl, hs0, killL_one, killL_one]
                simp only [kS]
                rw [X.killL_id (ks := [key e.1 1]) (fun k' hk' hm => hkS u k' (X.keys_kill (X.keys_kill hk').1).1 (by rw [List.mem_singleton.1 hm]; exact hkd)), X.kill_two two2, X.kill_two two1]
            · simp only [kO] at hb0
              rw [hro] at hb0
              split at hb0
              · cases hb0
              · rename_i hk0V
                by_cases hk0 : k0 / 1000 = e.1
                · rw [if_pos hk0, ← hn] at hb0
                  simp only [putsO, look1_put1] at hb0
                  left
                  simp only [State.new, look1_put1]
                  split at hb0
                  · rename_i heq; rw [if_pos heq]; exact hb0
                  · simp [look1] at hb0
                · rw [if_neg hk0] at hb0
                  right
                  cases hl : runO (look1 base.o) (cur T ops ps listed) j0 en k0 with
                  | none => rw [hl] at hb0; cases hb0
                  | some b1 =>
                    rw [hl] at hb0
                    simp only [Option.map_some, Option.some.injEq] at hb0
                    have e1 : ¬ key e.1 1 = k0 := fun h => hk0 (by rw [← h]; exact hkd)
                    have e2 : ¬ k = k0 := fun h => hk0V (by rw [← h]; exact hkV)
                    have e3 : k0 ∉ V0 := fun h => hk0V (hV0V k0 h)
                    refine ⟨((b1.mapC (C.mapK (killL V0))).mapC (C.mapK (killL [k]))).mapC (C.mapK (killL [key e.1 1])), ?_, ?_⟩
                    · simp only [State.new, State.kill, look1_put1, look1_mapO, look1_del1, if_neg e1, if_neg e2, ho0, killL_one]
                      simp only [kO, if_neg e3, hl, Option.map_some]
                    · rw [← hb0, Ob.killL_id (ks := [key e.1 1]) (fun k' hk' hm => hkO k0 b1 hl k' (Ob.keys_kill (Ob.keys_kill hk').1).1 (by rw [List.mem_singleton.1 hm]; exact hkd)), Ob.kill_two two2, Ob.kill_two two1]
        | false =>
          rw [hguard, if_neg (by simp)]
          refine next _ γ w (by rw [put_size, hN]) (by rw [put_defers, hD]) (gone undef γ w ?_)
          rw [hb.1, hb.2]
          exact QRes.plain ⟨#[], rfl, trivial⟩
      · -- an alloc whose store comes behind it
        obtain ⟨i_s, es, hie, his', hes⟩ := mem_idx hmem
        subst his'
        have hne : i_s ≠ i := fun h => by subst h; rw [hpS] at hpp; cases hpp
        obtain ⟨o1, ho1, _, hk1⟩ := (c.ok.get hie).op
        rcases hk1 with ⟨_, hn, _⟩ | ⟨_, _, _, _, hn, _⟩ | ⟨ia', oa, t', v, ys, hpA', hpS', _, _, _, hop1, hdep', _, hoa', hoap', hoad', _, his, hbld, hz9, hzsm, hzon, _, _, _, _, _, hes2⟩
        · rw [hpp] at hn; cases hn
        · rw [hpp] at hn; cases hn
        · have : ia' = j0 + i := by rw [hpp] at hpS'; cases hpS'; rfl
          subst this
          have : oa = oo' := Option.some.inj (hoa'.symm.trans hoo)
          subst this
          have ht : t' = t := by rw [hop] at hoap'; cases hoap'; rfl
          subst ht
          have hdst' : oa.dst = some es.1 := hoad'
          have hun : listed.getD (j0 + i_s) false = false := by
            cases hx : listed.getD (j0 + i_s) false with
            | false => rfl
            | true =>
              have := deps_listed ops hcl hltS _ o1 ho1 (fun e he hb => hcl _ _ ho1 hx e he hb) _ hdep'
              rw [hunf] at this; cases this
          have hcr : cur T ops ps listed (j0 + i_s) es = none := cur_no hun fun ia h => by rw [hpp] at h; cases h; exact hunf
          have hcn : curN T ops (j0 + i_s) es = naD T es.1 t' := by simp only [curN, ho1, hop1]
          have hother : ∀ (j : Nat) (e' : Nat × X × List (Nat × Ob)), en[j]? = some e' → j ≠ i → j ≠ i_s → pairS ps (j0 + j) ≠ some (j0 + i) := fun j e' h1 h2 h3 h4 => by
            obtain ⟨o2, ho2, _, hk2⟩ := (c.ok.get h1).op
            rcases hk2 with ⟨_, hn, _⟩ | ⟨_, _, _, _, hn, _⟩ | ⟨ia2, oa2, _, _, _, _, hpS2, _, _, _, _, _, _, hoa2, _, hoad2, _⟩
            · rw [h4] at hn; cases hn
            · rw [h4] at hn; cases hn
            · have : ia2 = j0 + i := by rw [h4] at hpS2; cases hpS2; rfl
              subst this
              have : oa2 = oa := Option.some.inj (hoa2.symm.trans hoo)
              subst this
              rw [hdst'] at hoad2
              exact h3 (hinj _ _ _ _ h1 hie (Option.some.inj hoad2).symm)
          have hPne : e.1 ≠ es.1 := fun h => hne (hinj _ _ _ _ hie hi h.symm)
          have hce : cur T ops ps listed (j0 + i) e = none := cur_no hunf fun ia h => by rw [hpS] at h; cases h
          have hrs : ∀ t, runS (slot base.s) (cur T ops ps (listed.setIfInBounds (j0 + i) true)) j0 en t = if es.1 = t then es.2.1 else runS (slot base.s) (cur T ops ps listed) j0 en t := fun t => by
            by_cases he : es.1 = t
            · subst he
              rw [runS_at c.nd hie, cur_half (by rw [hfl, if_neg (by omega)]; exact hun) hpp (by rw [hfl, if_pos rfl]), if_pos rfl]
            · rw [if_neg he]
              by_cases hP : e.1 = t
              · subst hP
                rw [runS_at c.nd hi, runS_at c.nd hi, cur_yes (by rw [hfl, if_pos rfl]), hce, he2]
              · exact runS_flag fun j e' h1 h2 => hcurO j e' (fun hj => by subst hj; rw [hi] at h1; cases h1; exact hP h2) (hother j e' h1 (fun hj => by subst hj; rw [hi] at h1; cases h1; exact hP h2) (fun hj => by subst hj; rw [hie] at h1; cases h1; exact he h2))
          have hro : ∀ k, runO (look1 base.o) (cur T ops ps (listed.setIfInBounds (j0 + i) true)) j0 en k = if k / 1000 = es.1 then look1 (putsO es.1 (naD T es.1 t') []) k else runO (look1 base.o) (cur T ops ps listed) j0 en k := fun k => by
            by_cases he : k / 1000 = es.1
            · rw [if_pos he, runO_at c.nd hie he, cur_half (by rw [hfl, if_neg (by omega)]; exact hun) hpp (by rw [hfl, if_pos rfl]), hcn]
            · rw [if_neg he]
              by_cases hP : k / 1000 = e.1
              · rw [runO_at c.nd hi hP, runO_at c.nd hi hP, cur_yes (by rw [hfl, if_pos rfl]), hce, he2]
                simp [putsO, look1]
              · exact runO_flag fun j e' h1 h2 => hcurO j e' (fun hj => by subst hj; rw [hi] at h1; cases h1; exact hP h2) (hother j e' h1 (fun hj => by subst hj; rw [hi] at h1; cases h1; exact hP h2) (fun hj => by subst hj; rw [hie] at h1; cases h1; exact he h2))
          have gone := gone i_s es es.2.1 (naD T es.1 t') hie hcr hzsm hdst' hrs hro
          rw [if_pos (by simp [Region.wanted, hgd])]
          have hq : qcore prims T (CallC P) (kS H (runS (slot base.s) (cur T ops ps listed) j0 en)) (kO H (runO (look1 base.o) (cur T ops ps listed) j0 en)) es.1 oa.op oa.type (fun x' n' => x' = es.2.1 ∧ n' = naD T es.1 t') := by
            have hx : es.2.1 = .c (.pb (key es.1 0) 0) := by rw [hes2]
            simp only [hop, qcore, qAlloc, hbld, chk_iff]
            refine ⟨his, ?_, hx.symm, rfl⟩
            simpa [lenN_eq] using hz9
          obtain ⟨x, n, ⟨rfl, rfl⟩, hwp⟩ := qcore_ok hT hH0 hq
          exact hwp _ Q fun v γ' w' hr => next _ γ' w' (by rw [put_size, hN]) (by rw [put_defers, hD]) (gone v γ' w' hr)
      · -- the store that fills it
        have hla : listed.getD ia false = true := deps_listed ops hcl hltS _ oo' hoo hall _ hdep
        have hcn : curN T ops (j0 + i) e = naD T e.1 t := by simp only [curN, hoo, hop]
        have hx : e.2.1 = .c (.pb (key e.1 0) 0) := by rw [he2]
        have hn2 : e.2.2 = [(0, .bx (mapY ys))] := by rw [he2]
        have hcur : cur T ops ps listed (j0 + i) e = some (e.2.1, naD T e.1 t) := by rw [cur_half hunf hpS hla, hcn]
        have hnA : ∀ i' : Nat, pairS ps (j0 + i') ≠ some (j0 + i) := fun i' h => pairS_A h hpA
        have hrs : ∀ u, runS (slot base.s) (cur T ops ps (listed.setIfInBounds (j0 + i) true)) j0 en u = runS (slot base.s) (cur T ops ps listed) j0 en u := fun u => by
          by_cases he : e.1 = u
          · subst he
            rw [runS_at c.nd hi, runS_at c.nd hi, cur_yes (by rw [hfl, if_pos rfl]), hcur]
          · exact runS_flag fun j e' h1 h2 => hcurO j e' (fun hj => by subst hj; rw [hi] at h1; cases h1; exact he h2) (hnA j)
        have hro : ∀ k, runO (look1 base.o) (cur T ops ps (listed.setIfInBounds (j0 + i) true)) j0 en k = if k / 1000 = e.1 then look1 (putsO e.1 e.2.2 []) k else runO (look1 base.o) (cur T ops ps listed) j0 en k := fun k => by
          by_cases he : k / 1000 = e.1
          · rw [if_pos he, runO_at c.nd hi he, cur_yes (by rw [hfl, if_pos rfl])]
          · rw [if_neg he]
            exact runO_flag fun j e' h1 h2 => hcurO j e' (fun hj => by subst hj; rw [hi] at h1; cases h1; exact he h2) (hnA j)
        have hkd : key e.1 0 / 1000 = e.1 := key_div (by omega)
        have hkH : key e.1 0 ∉ H := by
          have := (offs_spec hok.off (key e.1 0) (by rw [hn2, app_eq]; exact List.mem_append_left _ (by simp [newKs]))).1
          rw [hH]; exact this
        have hbox : runO (look1 base.o) (cur T ops ps listed) j0 en (key e.1 0) = some (.bx (layCs e.1 1 (T.at t).zero).1) := by
          rw [runO_at c.nd hi hkd, hcur]; exact naD_box T e.1 t
        have hvrel : Rel E γ (restrictS (srcT v) (fun u => killX H (slot (endSt cs j0 (en.take i) base).s u))) (kO H (runO (look1 base.o) (cur T ops ps listed) j0 en)) a.tmps w := by
          refine hH0.weaken (fun u => ?_) (fun _ _ h => h)
          simp only [restrictS]
          cases hm : memN u (srcT v) with
          | false => exact .inr rfl
          | true =>
            left
            simp only [killX_eq]
            exact (hS u (visTmps_spec hvt u ((memN_iff _ _).1 hm))).symm
        rw [← hH] at hno htup hcells
        have hvx := hvrel.opd (T := T) t v
        generalize hvX : opd T (restrictS (srcT v) fun u => killX H (slot (endSt cs j0 (en.take i) base).s u)) t v = vx at hno htup hcells hvx
        -- at every list of what is hidden
        have at_V : ∀ V0 : List Nat, key e.1 0 ∉ V0 → (∀ i' k, i' < en.length → listed.getD (j0 + i') false = true → conAt cs (j0 + i') = some k → k ∈ V0) →
            ∃ w', (Instr.storeAt t (a.eval (.tmp e.1)) (a.eval v)).run P w = .ok () w' ∧ Rel E γ (kS V0 (runS (slot base.s) (cur T ops ps listed) j0 en)) (fun k => if key e.1 0 = k then some (.bx (mapY ys)) else kO V0 (runO (look1 base.o) (cur T ops ps listed) j0 en) k) a.tmps w' := by
          intro V0 hk0 hV0
          have hr0 := h V0 hV0
          have hp : RX w (E.Sh γ w) γ (a.eval (.tmp e.1)) (.c (.pb (key e.1 0) 0)) := by
            have := hr0.slots e.1
            simp only [kS] at this
            rw [runS_at c.nd hi, hcur] at this
            simp only [hx] at this
            rw [X.killL_id (fun k hk => by simp only [X.keys, C.keys, List.mem_singleton] at hk; rw [hk]; exact hk0)] at this
            exact this
          have ho : kO V0 (runO (look1 base.o) (cur T ops ps listed) j0 en) (key e.1 0) = some (.bx (mapCs (C.mapK (killL V0)) (layCs e.1 1 (T.at t).zero).1)) := by
            simp only [kO, if_neg hk0, hbox, Option.map_some, Ob.mapC]
          have hl1 : vx.cells.length = (T.at t).cells := by rw [hcells, mapY_length, hyl]
          have hl2 : (mapCs (C.mapK (killL V0)) (layCs e.1 1 (T.at t).zero).1).length = (T.at t).cells := by rw [mapCs_length, layCs_length, hzl]
          have hset : setN (mapCs (C.mapK (killL V0)) (layCs e.1 1 (T.at t).zero).1) 0 vx.cells = mapY ys := by
            rw [setN_eq _ _ _ (by omega)]
            simp only [List.take_zero, List.nil_append, Nat.zero_add]
            rw [List.drop_eq_nil_of_le (by omega), List.append_nil, hcells]
          obtain ⟨w', g1, _, g3⟩ := store_box hT hr0 his hp hvx hno (fun l hl => by rw [hl] at htup; simp [X.isTup] at htup) ho hl1 (by omega) (o' := fun k => if key e.1 0 = k then some (.bx (mapY ys)) else kO V0 (runO (look1 base.o) (cur T ops ps listed) j0 en) k) (fun k => by rw [hset])
          exact ⟨w', g1, g3⟩
        obtain ⟨w', hrun, _⟩ := at_V H hkH hHlist
        rw [if_pos (by simp [Region.wanted, hgd])]
        unfold Oper.wp
        have hex : (execOp a.eval oo').run P w = .ok .skip w' := by
          obtain ⟨dst, op, ty, pos, after, guard⟩ := oo'
          simp only at hop
          subst hop
          simp only [execOp, Sem.run_bind, hrun, Result.andThen_ok, Sem.run_pure]
        rw [hex]
        refine next _ γ w' (by rw [put_size, hN]) (by rw [put_defers, hD]) fun V hV => ?_
        rw [hdst]
        have hVf : key e.1 0 ∉ V.filter (fun k => decide (k ≠ key e.1 0)) := fun hm => by simp at hm
        obtain ⟨w'', g1, g2⟩ := at_V (V.filter fun k => decide (k ≠ key e.1 0)) hVf (fun i' k h1 h2 h3 => by
          rw [List.mem_filter]
          exact ⟨hsub V hV i' k h1 h2 h3, by simp only [decide_eq_true_eq]; exact fun hk => hkH (hk ▸ hHlist i' k h1 h2 h3)⟩)
        have hw : w'' = w' := by rw [hrun] at g1; cases g1; rfl
        subst hw
        have two : ∀ k, k ∈ V ↔ k ∈ V.filter (fun k => decide (k ≠ key e.1 0)) ∨ k ∈ V := fun k => ⟨.inr, fun h => h.elim (fun h => (List.mem_filter.1 h).1) id⟩
        refine g2.weakenK V (fun u => ?_) (fun k b hb => ?_)
        · right; left
          simp only [kS]
          rw [hrs, X.kill_two two]
        · simp only [kO] at hb
          rw [hro] at hb
          split at hb
          · cases hb
          · rename_i hkV
            by_cases hk : k / 1000 = e.1
            · rw [if_pos hk, hn2] at hb
              simp only [putsO, look1_put1] at hb
              left
              split at hb
              · rename_i heq
                rw [if_pos heq]
                simp only [Option.map_some, Option.some.injEq] at hb
                rw [← hb, Ob.killL_id (by simp [Ob.keys, mapY_keys])]
              · simp [look1] at hb
            · rw [if_neg hk] at hb
              have e1 : ¬ key e.1 0 = k := fun h => hk (by rw [← h]; exact hkd)
              rw [if_neg e1]
              right
              cases hl : runO (look1 base.o) (cur T ops ps listed) j0 en k with
              | none => rw [hl] at hb; cases hb
              | some b0 =>
                rw [hl] at hb
                simp only [Option.map_some, Option.some.injEq] at hb
                have hkf : k ∉ V.filter (fun k => decide (k ≠ key e.1 0)) := fun hm => hkV (List.mem_filter.1 hm).1
                refine ⟨b0.mapC (C.mapK (killL (V.filter fun k => decide (k ≠ key e.1 0)))), ?_, ?_⟩
                · simp only [kO, if_neg hkf, hl, Option.map_some]
                · rw [Ob.kill_two two, hb]
end Go.Proofs.YthaelohccopgjaaW
/- Soundness, part 35: code. -/
namespace Go.Proofs.YthaelohccopgjaaW
variable {P : Program} {T : Tab} {E : Env} {γ γ' : Ghs} {s s' : Nat → X} {o o' : Look} {tm : Array Value} {w w' : World}

theorem segOk_le {ops : Array Oper} {seg : List (Nat × Nat)} {j : Nat} {st : State} {cs ps : List (Nat × Nat)} {en : Ents} (h : SegOk P T ops seg cs ps j st en) (hj : j ≤ ops.size) : j + en.length ≤ ops.size := by
  cases hn : en.length with
  | zero => omega
  | succ n =>
    have hlt : n < en.length := by omega
    obtain ⟨oo, hoo, _⟩ := (h.get (i := n) (e := en[n]) (by simp [hlt])).op
    have := (Array.getElem?_eq_some_iff.1 hoo).1
    omega

theorem rising_spec : ∀ {a : Nat} {l : List Nat}, rising a l = true → (∀ b ∈ l, a < b) ∧ l.Nodup
  | _, [], _ => ⟨by simp, List.nodup_nil⟩
  | a, b :: r, h => by
    simp only [rising] at h
    cases hb : ltN a b with
    | false => rw [hb] at h; cases h
    | true =>
      rw [hb] at h
      have hab : a < b := by simpa using hb
      obtain ⟨h1, h2⟩ := rising_spec h
      refine ⟨fun c hc => ?_, List.nodup_cons.2 ⟨fun hm => absurd (h1 b hm) (Nat.lt_irrefl _), h2⟩⟩
      rcases List.mem_cons.1 hc with rfl | hc
      · exact hab
      · exact Nat.lt_trans hab (h1 c hc)
theorem nodupQ_iff : ∀ {l : List Nat}, nodupQ l = true → l.Nodup
  | [], _ => List.nodup_nil
  | a :: r, h => by
    simp only [nodupQ] at h
    cases hr : rising a r with
    | true =>
      obtain ⟨h1, h2⟩ := rising_spec hr
      exact List.nodup_cons.2 ⟨fun hm => absurd (h1 a hm) (Nat.lt_irrefl _), h2⟩
    | false => rw [hr] at h; exact nodupN_iff h

theorem draws_ok (hT : TabOk P T) {ops : Array Oper} {g : Cfg} {cs ps : List (Nat × Nat)} (hback : ∀ (i : Nat) (oi : Oper), ops[i]? = some oi → ∀ e ∈ oi.after, Region.binds .any e = true → e.on < i) {Q : Exit → Act → World → Prop} {N : Nat} {D : List Deferred}
    (hd : ∀ oo ∈ ops, ∀ d, oo.dst = some d → d < N ∧ E.arg d = none) {K : State → Prop} (hQ : ∀ st' a' γ' w', K st' → a'.tmps.size = N → a'.defers = D → Rel E γ' (slot st'.s) (look1 st'.o) a'.tmps w' → Q .normal a' w') :
    ∀ (l : Nat) (j : Nat) (rest : List Oper) (st : State) (listed : Array Bool) (a : Act) (γ : Ghs) (w : World), rest.length = l → j ≤ ops.size → ops.toList.drop j = rest → listed.size = ops.size → (∀ i, listed.getD i false = true ↔ i < j) → Closed ops listed → a.tmps.size = N → a.defers = D →
      Rel E γ (slot st.s) (look1 st.o) a.tmps w → draws prims T g (CallC P) ops.toList (depsOf ops.toList []) cs ps j [] rest st K → wpAny P .any ops Q l listed a w := by
  intro l
  induction l using Nat.strongRecOn with
  | _ l ih =>
    intro j rest st listed a γ w hl hj hr hsz hli hcl hN hD h hq
    have hlen : ops.size - j = l := by rw [← hl, ← hr]; simp
    cases rest with
    | nil =>
      have hjs : j = ops.size := by simp at hl; omega
      refine wpAny_done ?_ (hQ st a γ w hq hN hD h) _
      cases hrd : Region.ready .any ops listed with
      | nil => rfl
      | cons i is =>
        have hi : i ∈ Region.ready .any ops listed := by rw [hrd]; exact .head _
        obtain ⟨h1, oo, h2, _⟩ := mem_ready.1 hi
        have h3 := (Array.getElem?_eq_some_iff.1 h2).1
        have h4 := (hli i).2 (by omega)
        simp only [Array.getD_eq_getD_getElem?] at h1 h4
        rw [Array.getElem?_eq_getElem (by omega)] at h1 h4
        simp at h1 h4
        rw [h1] at h4; cases h4
    | cons oo rest =>
      have hjo : ops[j]? = some oo := by
        have : (ops.toList.drop j)[0]? = some oo := by rw [hr]; rfl
        simpa using this
      have hjlt := (Array.getElem?_eq_some_iff.1 hjo).1
      have hr' : ops.toList.drop (j + 1) = rest := by
        have := congrArg (List.drop 1) hr
        simpa [List.drop_drop] using this
      simp only [draws, segFrom] at hq
      cases hb : barrier (depsOf ops.toList []) j j with
      | true =>
        rw [hb] at hq
        obtain ⟨b1, b2⟩ := barrier_spec hb
        have hun : listed.getD j true = false := by
          have : ¬ listed.getD j false = true := fun h' => by have := (hli j).1 h'; omega
          simp only [Array.getD_eq_getD_getElem?] at this ⊢
          rw [Array.getElem?_eq_getElem (by omega)] at this ⊢
          simpa using this
        have hrd : j ∈ Region.ready .any ops listed := mem_ready.2 ⟨hun, oo, hjo, fun e he hbe => (hli _).2 (hback j oo hjo e he hbe)⟩
        obtain ⟨l', rfl⟩ : ∃ l', l = l' + 1 := ⟨l - 1, by omega⟩
        refine ⟨fun h0 => by rw [h0] at hrd; simp at hrd, fun i hi => ?_⟩
        have hij : i = j := by
          obtain ⟨h1, oi, h2, h3⟩ := mem_ready.1 hi
          have hisz := (Array.getElem?_eq_some_iff.1 h2).1
          rcases Nat.lt_trichotomy i j with h4 | h4 | h4
          · have h5 := (hli i).2 h4
            simp only [Array.getD_eq_getD_getElem?] at h1 h5
            rw [Array.getElem?_eq_getElem (by omega)] at h1 h5
            simp at h1 h5
            rw [h1] at h5; cases h5
          · exact h4
          · have := deps_listed ops hcl (fun i' h' => by have := (hli i').1 h'; omega) i oi h2 h3 j (b2 i h4 (by rw [deps_length]; exact hisz))
            have := (hli j).1 this
            omega
        subst hij
        refine wpOp_step (g := g) hT h hjo (fun d hdd => by rw [hN]; exact hd oo (Array.mem_of_getElem? hjo) d hdd) (K := fun st => draws prims T g (CallC P) ops.toList (depsOf ops.toList []) cs ps (i + 1) [] rest st K) ?_ fun st' a' γ' w' hk h1 h2 h3 => ?_
        · revert hq
          generalize guardW ops.toList (slot st.s) oo = G
          intro hq
          refine cast (congrArg G (funext fun b => ?_)) hq
          cases b <;> rfl
        · refine ih l' (by omega) (i + 1) rest st' _ a' γ' w' (by simp at hl; omega) (by omega) hr' (by simpa using hsz) (fun i' => ?_) (hcl.set hi) (h2.trans hN) (h1.trans hD) h3 hk
          by_cases he : i' = i
          · subst he; rw [getD_set_self (by omega)]; simp
          · rw [getD_set_ne false (Ne.symm he), hli]; omega
      | false =>
        rw [hb] at hq
        cases hdst : reg ps j oo with
        | none => simp [hdst] at hq
        | some d =>
          simp only [hdst, open1] at hq
          obtain ⟨γ1, hn1, hpre⟩ := h.pre (sndL (segPairs ps (depsOf ops.toList []) j j (oo :: rest)))
          generalize hbase : preSt (sndL (segPairs ps (depsOf ops.toList []) j j (oo :: rest))) st = base at hq hpre
          obtain ⟨p, pp, hseg⟩ : ∃ p pp, segPairs ps (depsOf ops.toList []) j j (oo :: rest) = p :: pp := by
            simp only [segPairs, hb, hdst]; exact ⟨_, _, rfl⟩
          have hp1 : segFrom (segPairs ps (depsOf ops.toList []) j j (oo :: rest)) j = j := by simp [segPairs, hb, hdst, segFrom]
          have hp2 : segFrom (p :: pp) j = j := by rw [← hseg]; exact hp1
          have hq' : draws prims T g (CallC P) ops.toList (depsOf ops.toList []) cs ps j (segPairs ps (depsOf ops.toList []) j j (oo :: rest)) (oo :: rest) base K := by
            rw [hseg] at hq ⊢
            simp only [draws, hp2, hb, hdst, open1]
            exact hq
          obtain ⟨en, rest', e1, e2, e3, e4, e5, e6⟩ := seg_of_draws (oo :: rest) j _ cs ps base hr (by rw [hseg]; simp) hq'
          rw [hp1] at e3 e6
          have hne : en ≠ [] := by rintro rfl; rw [hseg] at e3; simp [idx] at e3
          have hle := segOk_le e2 hj
          have hnd := nodupQ_iff (e4 hne)
          rw [e3, sndL_idx] at hnd
          rw [e3] at e2
          have hsnd : sndL (segPairs ps (depsOf ops.toList []) j j (oo :: rest)) = en.map Prod.fst := by rw [e3, sndL_idx]
          rw [hsnd] at hbase
          have c : SegCtx P T ops cs ps base j en := by
            refine ⟨hnd, e2, fun t k hk => ?_, fun k b hk => ?_, hback, ?_, hle⟩
            · rw [← hbase] at hk
              simp only [preSt] at hk
              rw [slot_mapS _ rfl] at hk
              exact X.preF_keys _ k hk
            · rw [← hbase] at hk
              simp only [preSt, look1_mapO, look1_preO] at hk
              by_cases he : k / 1000 ∈ en.map Prod.fst
              · rw [if_pos he] at hk; cases hk
              · rw [if_neg he] at hk
                cases hlo : look1 st.o k with
                | none => rw [hlo] at hk; cases hk
                | some b0 => rw [hlo] at hk; cases hk; exact ⟨he, Ob.preF_keys _⟩
            · rcases e6 with e6 | e6
              · left
                rw [e6] at e1
                have := congrArg List.length e1
                simp at this
                omega
              · exact .inr e6
          have hcnt : cnt listed (j + en.length) = en.length := by
            rw [cnt_le (j := j) (fun i hi => (hli i).2 hi) (fun i hi => by
              cases hx : listed.getD i false with
              | false => rfl
              | true => have := (hli i).1 hx; omega)]; omega
          have henl : 0 < en.length := List.length_pos_iff.2 hne
          have hfuel : l = (ops.size - (j + en.length)) + en.length := by omega
          rw [hfuel]
          refine seg_any hT c hd (fun listed' a' γ' w' s1 s2 s3 s4 s5 s6 => ?_) en.length listed a γ1 w hcnt hsz (fun i hi => (hli i).2 hi) (fun i hi => by have := (hli i).1 hi; omega) hcl hN hD fun V _ => ?_
          · exact ih (ops.size - (j + en.length)) (by omega) (j + en.length) rest' _ listed' a' γ' w' (by rw [← e1]; simp) hle e1 s1 s2 s3 s4 s5 s6 e5
          · have hun : ∀ m, j ≤ m → listed.getD m false = false := fun m hm => by
              cases hx : listed.getD m false with
              | false => rfl
              | true => have := (hli m).1 hx; omega
            have hbeg : Rel E γ1 (runS (slot base.s) (cur T ops ps listed) j en) (runO (look1 base.o) (cur T ops ps listed) j en) a.tmps w := by
             refine hpre.weaken (fun t => ?_) (fun k b hk => ?_)
             · by_cases ht : t ∈ en.map Prod.fst
               · obtain ⟨e', h1, rfl⟩ := List.mem_map.1 ht
                 obtain ⟨i', h2⟩ := List.mem_iff_getElem?.1 h1
                 rw [runS_at hnd h2, cur_no (hun _ (by omega)) fun ia h => hun ia (c.pairGe h2 h)]
                 exact .inr rfl
               · rw [runS_off ht]; exact .inl rfl
             · by_cases ht : k / 1000 ∈ en.map Prod.fst
               · obtain ⟨e', h1, h1'⟩ := List.mem_map.1 ht
                 obtain ⟨i', h2⟩ := List.mem_iff_getElem?.1 h1
                 rw [runO_at hnd h2 h1'.symm, cur_no (hun _ (by omega)) fun ia h => hun ia (c.pairGe h2 h)] at hk
                 cases hk
               · rw [runO_off ht] at hk; exact hk
            refine hbeg.weakenK V (fun t => .inr (.inl rfl)) (fun k b hk => ?_)
            simp only [kO] at hk
            split at hk
            · cases hk
            · cases hl : runO (look1 base.o) (cur T ops ps listed) j en k with
              | none => rw [hl] at hk; cases hk
              | some b0 => rw [hl] at hk; cases hk; exact .inr ⟨b0, rfl, rfl⟩

theorem Rel.cleanup {st : State} (kp : List Nat × List Nat) (h : Rel E γ (slot st.s) (look1 st.o) tm w) : Rel E γ (slot (cleanup kp st).s) (look1 (cleanup kp st).o) tm w := by
  obtain ⟨ks, kso⟩ := kp
  have hs : ∀ (s : List (Nat × X)) (i : Nat), look1 (cleanS ks s) i = if inK ks i = true then look1 s i else none := fun s => by
    induction s with
    | nil => intro i; simp [cleanS, look1]
    | cons q r ih =>
      intro i
      obtain ⟨k, x⟩ := q
      simp only [cleanS]
      cases hk : inK ks k with
      | true =>
        simp only [look1, beq_dec, ih]
        by_cases e : k = i
        · subst e; simp [hk]
        · simp [e]
      | false =>
        simp only [look1, beq_dec, ih]
        by_cases e : k = i
        · subst e; simp [hk]
        · simp [e]
  have ho : ∀ (s : List (Nat × Ob)) (i : Nat) (b : Ob), look1 (cleanO kso s) i = some b → look1 s i = some b := fun s => by
    induction s with
    | nil => intro i b h; simp [cleanO, look1] at h
    | cons q r ih =>
      intro i b hb
      obtain ⟨k, x⟩ := q
      simp only [cleanO] at hb
      have gen : inK kso (i / 1000) = true → look1 (cleanO kso r) i = look1 r i := fun hin => by
        have : ∀ (r : List (Nat × Ob)), look1 (cleanO kso r) i = look1 r i := fun r => by
          induction r with
          | nil => rfl
          | cons q r ih =>
            obtain ⟨k, x⟩ := q
            simp only [cleanO]
            cases hk : inK kso (k / 1000) with
            | true => simp only [look1, ih]
            | false =>
              have : k ≠ i := fun e => by subst e; rw [hin] at hk; cases hk
              simp only [look1, beq_dec, this, decide_false, ih]
        exact this r
      cases hk : inK kso (k / 1000) with
      | true =>
        rw [hk] at hb
        simp only [look1, beq_dec] at hb ⊢
        by_cases e : k = i
        · simpa [e] using hb
        · simp [e] at hb ⊢
          exact ih i b hb
      | false =>
        rw [hk] at hb
        simp only [look1, beq_dec]
        by_cases e : k = i
        · subst e
          exfalso
          have none : ∀ (r : List (Nat × Ob)), look1 (cleanO kso r) k = none := fun r => by
            induction r with
            | nil => rfl
            | cons q r ih =>
              obtain ⟨k', x⟩ := q
              simp only [cleanO]
              cases hk' : inK kso (k' / 1000) with
              | true =>
                have : k' ≠ k := fun e => by subst e; rw [hk] at hk'; cases hk'
                simp only [look1, beq_dec, this, decide_false, ih]
              | false => exact ih
          rw [none r] at hb; cases hb
        · simp [e]; exact ih i b hb
  refine h.weaken (fun i => ?_) (fun k b hb => ho _ k b hb)
  simp only [slot, Go.Proofs.YthaelohccopgjaaW.cleanup, hs]
  cases inK ks i <;> simp

def Ex.out : Ex → Exit
  | .normal => .normal
  | .exit i => .exit i
  | .ret => .ret
/-- Of all operations of the code. -/
def codeOps (p : Oper → Prop) : Code → Prop
  | .region _ ops _ => ∀ oo ∈ ops, p oo
  | .seq a b => codeOps p a ∧ codeOps p b
  | .cond _ a b => codeOps p a ∧ codeOps p b
  | .block _ c => codeOps p c
  | .loop c => codeOps p c
  | _ => True

/-! #### A move taken ahead of all -/
theorem waits0_spec : ∀ {l : List Edge}, waits0 l = true → ∃ e ∈ l, Region.binds .any e = true ∧ e.on = 0
  | [], h => by simp [waits0] at h
  | e :: r, h => by
    simp only [waits0] at h
    cases hb : Region.binds .any e with
    | false => rw [hb] at h; obtain ⟨e', h1, h2⟩ := waits0_spec h; exact ⟨e', .tail _ h1, h2⟩
    | true =>
      rw [hb] at h
      cases he : eqN e.on 0 with
      | true => exact ⟨e, .head _, hb, eqN_t he⟩
      | false => rw [he] at h; obtain ⟨e', h1, h2⟩ := waits0_spec h; exact ⟨e', .tail _ h1, h2⟩
theorem dstIs_f {d : Nat} {x : Option Nat} (h : dstIs d x = false) : x ≠ some d := by
  rintro rfl
  simp only [dstIs, eqN_refl] at h
  cases h
theorem apart0_spec {ops : List Oper} {t d : Nat} : ∀ {l : List Oper}, apart0 ops t d l = true → ∀ o ∈ l, isSel o.op = false ∧ (waits0 o.after.toList = true ∨ (d ∉ guardTmps ops o ∧ d ∉ opTmps o.op ∧ o.dst ≠ some d ∧ o.dst ≠ some t))
  | [], _, o, ho => by simp at ho
  | q :: r, h, o, ho => by
    simp only [apart0] at h
    cases h1 : isSel q.op with
    | true => rw [h1] at h; cases h
    | false =>
      rw [h1] at h
      cases h2 : waits0 q.after.toList with
      | true =>
        rw [h2] at h
        rcases List.mem_cons.1 ho with rfl | ho
        · exact ⟨h1, .inl h2⟩
        · exact apart0_spec h o ho
      | false =>
        rw [h2] at h
        cases h3 : memN d (app (guardTmps ops q) (opTmps q.op)) with
        | true => rw [h3] at h; cases h
        | false =>
          rw [h3] at h
          cases h4 : dstIs d q.dst with
          | true => rw [h4] at h; cases h
          | false =>
            rw [h4] at h
            cases h5 : dstIs t q.dst with
            | true => rw [h5] at h; cases h
            | false =>
              rw [h5] at h
              rcases List.mem_cons.1 ho with rfl | ho
              · have h3 : d ∉ app (guardTmps ops o) (opTmps o.op) := fun hm => by rw [(memN_iff _ _).2 hm] at h3; cases h3
                rw [app_eq, List.mem_append, not_or] at h3
                exact ⟨h1, .inr ⟨h3.1, h3.2, dstIs_f h4, dstIs_f h5⟩⟩
              · exact apart0_spec h o ho
theorem mem_looksAt {ops : Array Oper} {o : Oper} {x : Nat} : x ∈ o.looksAt ops ↔ x ∈ opTmps o.op ∨ x ∈ guardTmps ops.toList o := by
  simp only [Oper.looksAt, List.mem_append, opTmps, guardTmps]
  refine or_congr Iff.rfl ?_
  cases hg : o.guard with
  | none => simp
  | some p =>
    obtain ⟨j, b⟩ := p
    simp only [Array.getElem?_toList]
    cases hj : ops[j]? with
    | none => simp
    | some q => cases hd : q.dst <;> simp [hd]
theorem takes_spec {ops : List Oper} {p : Nat × Nat} (h : takes ops = some p) : ∃ o r, ops = o :: r ∧ o.guard = none ∧ o.dst = some p.2 ∧ o.op = .move (.tmp p.1) ∧ o.after.toList = [] ∧ p.1 ≠ p.2 ∧ apart0 ops p.1 p.2 r = true := by
  simp only [takes] at h
  cases hc : anyCopy ops with
  | false => rw [hc] at h; cases h
  | true =>
    rw [hc] at h
    cases ops with
    | nil => cases h
    | cons o r =>
      simp only at h
      cases hg : o.guard with
      | some q => rw [hg] at h; cases h
      | none =>
        rw [hg] at h
        cases hd : o.dst with
        | none => rw [hd] at h; cases h
        | some d =>
          rw [hd] at h
          simp only at h
          cases ho : o.op <;> rw [ho] at h <;> try (cases h; done)
          case move x =>
            cases x <;> try (cases h; done)
            case tmp t =>
              simp only at h
              cases ha : isNilL o.after.toList with
              | false => rw [ha] at h; cases h
              | true =>
                rw [ha] at h
                cases he : eqN t d with
                | true => rw [he] at h; cases h
                | false =>
                  rw [he] at h
                  cases hp : apart0 (o :: r) t d r with
                  | false => rw [hp] at h; cases h
                  | true =>
                    rw [hp] at h
                    cases h
                    refine ⟨o, r, rfl, hg, hd, ho, ?_, eqN_f he, hp⟩
                    cases hl : o.after.toList with
                    | nil => rfl
                    | cons a b => rw [hl] at ha; cases ha
theorem drawn_ok (hT : TabOk P T) {ops : Array Oper} {g : Cfg} (hback : ∀ (i : Nat) (oi : Oper), ops[i]? = some oi → ∀ e ∈ oi.after, Region.binds .any e = true → e.on < i) {Q : Exit → Act → World → Prop} {N : Nat} {D : List Deferred}
    (hd : ∀ oo ∈ ops, ∀ d, oo.dst = some d → d < N ∧ E.arg d = none) {cs ps : List (Nat × Nat)} {K : State → Prop} (hQ : ∀ st' a' γ' w', K st' → a'.tmps.size = N → a'.defers = D → Rel E γ' (slot st'.s) (look1 st'.o) a'.tmps w' → Q .normal a' w')
    {st : State} {a : Act} (hN : a.tmps.size = N) (hD : a.defers = D) (h : Rel E γ (slot st.s) (look1 st.o) a.tmps w) (hq : drawn prims T g (CallC P) ops.toList cs ps st K) :
    ∃ Q' : Exit → Act → World → Prop, (∀ e a w, Q' e a w → Q e a w) ∧ wpAny P .any ops Q' ops.size (Array.replicate ops.size false) a w := by
  have hfalse : ∀ i, (Array.replicate ops.size false).getD i false = false := fun i => by
    simp only [Array.getD_eq_getD_getElem?, Array.getElem?_replicate]
    split <;> rfl
  simp only [drawn] at hq
  cases ht : takes ops.toList with
  | none =>
    rw [ht] at hq
    exact ⟨Q, fun _ _ _ h => h, draws_ok (cs := cs) (ps := ps) hT hback hd hQ ops.size 0 ops.toList st _ a γ _ (by simp) (Nat.zero_le _) (by simp) (by simp) (fun i => by rw [hfalse]; simp)
        (fun j oj _ hl => by rw [hfalse] at hl; cases hl) hN hD h hq⟩
  | some p =>
    rw [ht] at hq
    obtain ⟨t, d⟩ := p
    obtain ⟨o, r, hops, hg, hdst, hop, haf, hne, hap⟩ := takes_spec ht
    simp only at hq hdst hop hne hap
    have h0 : ops[0]? = some o := by
      have : ops.toList[0]? = some o := by rw [hops]; rfl
      simpa using this
    have hsz : ops.size = r.length + 1 := by rw [← Array.length_toList, hops]; rfl
    have hmem : ∀ j oj, ops[j]? = some oj → j ≠ 0 → oj ∈ r := fun j oj hj hne => by
      obtain ⟨k, rfl⟩ : ∃ k, j = k + 1 := ⟨j - 1, by omega⟩
      have : ops.toList[k + 1]? = some oj := by simpa using hj
      rw [hops] at this
      exact List.mem_of_getElem? (by simpa using this)
    let Q' : Exit → Act → World → Prop := fun e a w => match e with
      | .panic _ => False
      | e => Q e a w
    refine ⟨Q', fun e a w h => by cases e <;> first | exact h | exact h.elim, ?_⟩
    obtain ⟨hd1, hd2⟩ := hd o (Array.mem_of_getElem? h0) d hdst
    have hx := h.slots t
    rw [hsz]
    refine wpAny_first (i := 0) (oi := o) (v := a.tmps.getD t undef) h0 (fun j oj cs b hj hs => ?_) (fun c a w h => h.elim) r.length _ a w (fun j oj hj hj0 _ hno => ?_) ?_ ?_ ?_
    · by_cases hj0 : j = 0
      · subst hj0
        rw [h0] at hj
        cases hj
        rw [hop] at hs
        cases hs
      · have := (apart0_spec hap oj (hmem j oj hj hj0)).1
        rw [hs] at this
        cases this
    · rcases (apart0_spec hap oj (hmem j oj hj hj0)).2 with hw | ⟨a1, a2, a3, a4⟩
      · obtain ⟨e, e1, e2, e3⟩ := waits0_spec hw
        exact absurd e3 (hno e (by simpa using e1) e2)
      · have l1 : (oj.looksAt ops).contains d = false := by
          cases hc : (oj.looksAt ops).contains d with
          | false => rfl
          | true =>
            have := mem_looksAt.1 (List.contains_iff_mem.1 hc)
            exact absurd this (fun h => h.elim a2 (by rw [hops] at *; exact a1))
        simp only [Oper.apart, hdst, l1]
        have l2 : (oj.dst != some d) = true := by simpa using a3
        rw [l2]
        cases hod : oj.dst with
        | none => rfl
        | some d' =>
          have nm : d' ∉ o.looksAt ops := fun hm => by
            have := mem_looksAt.1 hm
            simp only [opTmps, hop, guardTmps, hg] at this
            have e : d' = t := by
              rcases this with h | h
              · simpa [Op.operands] using h
              · simp at h
            rw [hod, e] at a4
            exact absurd rfl a4
          simp [nm]
    · refine mem_ready.2 ⟨?_, o, h0, fun e he => ?_⟩
      · simp only [Array.getD_eq_getD_getElem?, Array.getElem?_replicate]
        rw [if_pos (by omega)]; rfl
      · have : e ∈ o.after.toList := by simpa using he
        rw [haf] at this
        simp at this
    · refine .inl ⟨by simp [Region.wanted, hg], fun w => ?_⟩
      simp only [execOp, hop]
      rfl
    · have hrel : Rel E γ (slot (st.set d (slot st.s t)).s) (look1 (st.set d (slot st.s t)).o) (a.put o.dst (a.tmps.getD t undef)).tmps w := by
        rw [hdst]
        exact h.put hx (by rw [hN]; exact hd1) hd2 (fun i => by simp only [State.set, slot_put1])
      have hl : ∀ i, ((Array.replicate (r.length + 1) false).setIfInBounds 0 true).getD i false = true ↔ i < 1 := fun i => by
        by_cases he : i = 0
        · subst he; rw [getD_set_self (by simp)]; simp
        · rw [getD_set_ne false (Ne.symm he)]
          have : (Array.replicate (r.length + 1) false).getD i false = false := by
            simp only [Array.getD_eq_getD_getElem?, Array.getElem?_replicate]
            split <;> rfl
          rw [this]; simp; omega
      refine draws_ok (cs := cs) (ps := ps) (g := g) hT hback hd (Q := Q') (fun st' a' γ' w' hk h1 h2 h3 => hQ st' a' γ' w' hk h1 h2 h3) r.length 1 r (st.set d (slot st.s t)) _ _ γ w rfl (by omega) (by rw [hops]; rfl) (by simp [hsz]) hl (fun j oj hj hlj e he hbe => ?_) ?_ ?_ hrel ?_
      · have : j = 0 := by have := (hl j).1 hlj; omega
        subst this
        rw [h0] at hj
        cases hj
        have : e ∈ o.after.toList := by simpa using he
        rw [haf] at this
        simp at this
      · rw [hdst]; simp [Act.put, hN]
      · rw [hdst]; exact hD
      · rw [hops] at hq ⊢
        exact hq
/-! #### All orders -/
theorem waitsOn_mem {i : Nat} : ∀ {l : List Edge}, i ∈ waitsOn l ↔ ∃ e ∈ l, Region.binds .any e = true ∧ e.on = i
  | [] => by simp [waitsOn]
  | e :: r => by
    simp only [waitsOn]
    cases hb : Region.binds .any e with
    | true =>
      simp only [List.mem_cons, waitsOn_mem (l := r)]
      constructor
      · rintro (rfl | ⟨e', h1, h2⟩)
        · exact ⟨e, .inl rfl, hb, rfl⟩
        · exact ⟨e', .inr h1, h2⟩
      · rintro ⟨e', rfl | h1, h2, h3⟩
        · exact .inl h3.symm
        · exact .inr ⟨e', h1, h2, h3⟩
    | false =>
      simp only [waitsOn_mem (l := r), List.mem_cons]
      constructor
      · rintro ⟨e', h1, h2⟩; exact ⟨e', .inr h1, h2⟩
      · rintro ⟨e', rfl | h1, h2, h3⟩
        · rw [hb] at h2; cases h2
        · exact ⟨e', h1, h2, h3⟩
theorem allIn_iff {done : List Nat} : ∀ {l : List Nat}, allIn done l = true ↔ ∀ k ∈ l, k ∈ done
  | [] => by simp [allIn]
  | k :: r => by
    simp only [allIn]
    cases hk : memN k done with
    | true => simp only [allIn_iff (l := r), List.mem_cons, forall_eq_or_imp]; exact ⟨fun h => ⟨(memN_iff _ _).1 hk, h⟩, fun h => h.2⟩
    | false => simp only [Bool.false_eq_true, false_iff]; exact fun h => (memN_false _ _).1 hk (h k (.head _))
theorem rdys_mem {done : List Nat} {p : Nat × Oper} : ∀ {l : List (Nat × Oper)}, p ∈ rdys done l ↔ p ∈ l ∧ rdy done p.2 = true
  | [] => by simp [rdys]
  | q :: r => by
    simp only [rdys]
    cases hq : rdy done q.2 with
    | true =>
      simp only [List.mem_cons, rdys_mem (l := r)]
      constructor
      · rintro (rfl | h)
        · exact ⟨.inl rfl, hq⟩
        · exact ⟨.inr h.1, h.2⟩
      · rintro ⟨rfl | h, h2⟩
        · exact .inl rfl
        · exact .inr ⟨h, h2⟩
    | false =>
      simp only [List.mem_cons, rdys_mem (l := r)]
      constructor
      · rintro h; exact ⟨.inr h.1, h.2⟩
      · rintro ⟨rfl | h, h2⟩
        · rw [hq] at h2; cases h2
        · exact ⟨h, h2⟩
theorem without_mem {i : Nat} {p : Nat × Oper} : ∀ {l : List (Nat × Oper)}, p ∈ without i l ↔ p ∈ l ∧ p.1 ≠ i
  | [] => by simp [without]
  | q :: r => by
    simp only [without]
    cases hq : eqN q.1 i with
    | true =>
      simp only [without_mem (l := r), List.mem_cons]
      constructor
      · rintro h; exact ⟨.inr h.1, h.2⟩
      · rintro ⟨rfl | h, h2⟩
        · exact absurd (eqN_t hq) h2
        · exact ⟨h, h2⟩
    | false =>
      simp only [List.mem_cons, without_mem (l := r)]
      constructor
      · rintro (rfl | h)
        · exact ⟨.inl rfl, eqN_f hq⟩
        · exact ⟨.inr h.1, h.2⟩
      · rintro ⟨rfl | h, h2⟩
        · exact .inl rfl
        · exact .inr ⟨h, h2⟩
theorem without_sub {i : Nat} : ∀ {l : List (Nat × Oper)}, ((without i l).map Prod.fst).Sublist (l.map Prod.fst)
  | [] => .slnil
  | q :: r => by
    simp only [without]
    cases eqN q.1 i with
    | true => exact .cons _ without_sub
    | false => exact .cons_cons _ without_sub
theorem without_none {i : Nat} : ∀ {l : List (Nat × Oper)}, i ∉ l.map Prod.fst → without i l = l
  | [], _ => rfl
  | q :: r, h => by
    simp only [List.map_cons, List.mem_cons, not_or] at h
    simp only [without]
    cases hq : eqN q.1 i with
    | true => exact absurd (eqN_t hq).symm h.1
    | false => simp only [without_none h.2]
theorem without_length {i : Nat} : ∀ {l : List (Nat × Oper)}, (l.map Prod.fst).Nodup → i ∈ l.map Prod.fst → (without i l).length + 1 = l.length
  | [], _, h => by simp at h
  | q :: r, hn, h => by
    rw [List.map_cons, List.nodup_cons] at hn
    simp only [without]
    cases hq : eqN q.1 i with
    | true =>
      have := eqN_t hq
      subst this
      simp only [without_none hn.1, List.length_cons]
    | false =>
      have h' : i ∈ r.map Prod.fst := by
        rw [List.map_cons] at h
        rcases List.mem_cons.1 h with e | e
        · exact absurd e.symm (eqN_f hq)
        · exact e
      simp only [List.length_cons]
      rw [without_length hn.2 h']
theorem numd_mem {o : Oper} {i : Nat} : ∀ {l : List Oper} {k : Nat}, (i, o) ∈ numd k l ↔ k ≤ i ∧ l[i - k]? = some o
  | [], k => by simp [numd]
  | q :: r, k => by
    simp only [numd, List.mem_cons, Prod.mk.injEq, numd_mem (l := r)]
    constructor
    · rintro (⟨rfl, rfl⟩ | ⟨h1, h2⟩)
      · exact ⟨Nat.le_refl _, by simp⟩
      · exact ⟨by omega, by rw [show i - k = (i - (k + 1)) + 1 by omega, List.getElem?_cons_succ]; exact h2⟩
    · rintro ⟨h1, h2⟩
      by_cases e : i = k
      · subst e; simp at h2; exact .inl ⟨rfl, h2.symm⟩
      · rw [show i - k = (i - (k + 1)) + 1 by omega, List.getElem?_cons_succ] at h2
        exact .inr ⟨by omega, h2⟩
theorem numd_fst : ∀ {l : List Oper} {k : Nat}, (numd k l).map Prod.fst = List.range' k l.length
  | [], _ => rfl
  | _ :: r, k => by simp only [numd, List.map_cons, numd_fst (l := r), List.length_cons, List.range'_succ]
theorem numd_length : ∀ {l : List Oper} {k : Nat}, (numd k l).length = l.length
  | [], _ => rfl
  | _ :: r, k => by simp only [numd, List.length_cons, numd_length (l := r)]
theorem each_mem {f : Nat × Oper → Prop} : ∀ {l : List (Nat × Oper)}, each f l → ∀ p ∈ l, f p
  | [], h, _, _ => h.elim
  | [q], h, p, hp => by
    have : p = q := by simpa using hp
    subst this; exact h
  | q :: q' :: r, h, p, hp => by
    have h' : f q ∧ each f (q' :: r) := h
    rcases List.mem_cons.1 hp with rfl | hp
    · exact h'.1
    · exact each_mem h'.2 p hp
theorem each_ne {f : Nat × Oper → Prop} : ∀ {l : List (Nat × Oper)}, each f l → ∃ p, p ∈ l
  | [], h => h.elim
  | q :: _, _ => ⟨q, .head _⟩
theorem noSelect_mem : ∀ {l : List Oper}, noSelect l = true → ∀ o ∈ l, isSel o.op = false
  | [], _, _, h => by simp at h
  | q :: r, h, o, ho => by
    simp only [noSelect] at h
    cases hq : isSel q.op with
    | true => rw [hq] at h; cases h
    | false =>
      rw [hq] at h
      rcases List.mem_cons.1 ho with rfl | ho
      · exact hq
      · exact noSelect_mem h o ho
theorem apartOf_spec {ops : List Oper} {i d : Nat} {looks : List Nat} : ∀ {l : List (Nat × Oper)}, apartOf ops i d looks l = true → ∀ p ∈ l, p.1 = i ∨ i ∈ waitsOn p.2.after.toList ∨ (d ∉ guardTmps ops p.2 ∧ d ∉ opTmps p.2.op ∧ p.2.dst ≠ some d ∧ ∀ d', p.2.dst = some d' → d' ∉ looks)
  | [], _, p, hp => by simp at hp
  | q :: r, h, p, hp => by
    simp only [apartOf] at h
    cases h0 : eqN q.1 i with
    | true =>
      rw [h0] at h
      rcases List.mem_cons.1 hp with rfl | hp
      · exact .inl (eqN_t h0)
      · exact apartOf_spec h p hp
    | false =>
      rw [h0] at h
      cases h1 : memN i (waitsOn q.2.after.toList) with
      | true =>
        rw [h1] at h
        rcases List.mem_cons.1 hp with rfl | hp
        · exact .inr (.inl ((memN_iff _ _).1 h1))
        · exact apartOf_spec h p hp
      | false =>
        rw [h1] at h
        cases h3 : memN d (app (guardTmps ops q.2) (opTmps q.2.op)) with
        | true => rw [h3] at h; cases h
        | false =>
          rw [h3] at h
          cases h4 : dstIs d q.2.dst with
          | true => rw [h4] at h; cases h
          | false =>
            rw [h4] at h
            cases h5 : dstIn looks q.2.dst with
            | true => rw [h5] at h; cases h
            | false =>
              rw [h5] at h
              rcases List.mem_cons.1 hp with rfl | hp
              · have h3 : d ∉ app (guardTmps ops p.2) (opTmps p.2.op) := (memN_false _ _).1 h3
                rw [app_eq, List.mem_append, not_or] at h3
                refine .inr (.inr ⟨h3.1, h3.2, dstIs_f h4, fun d' hd' hm => ?_⟩)
                rw [hd'] at h5
                simp only [dstIn] at h5
                exact (memN_false _ _).1 h5 hm
              · exact apartOf_spec h p hp
theorem firstFree_spec {ops : List Oper} {rem : List (Nat × Oper)} {p : Nat × Oper} : ∀ {l : List (Nat × Oper)}, firstFree ops rem l = some p → p ∈ l ∧ isFree ops rem p = true
  | [], h => by simp [firstFree] at h
  | q :: r, h => by
    simp only [firstFree] at h
    cases hq : isFree ops rem q with
    | true => rw [hq] at h; cases h; exact ⟨.head _, hq⟩
    | false => rw [hq] at h; have := firstFree_spec h; exact ⟨.tail _ this.1, this.2⟩
theorem isFree_spec {ops : List Oper} {rem : List (Nat × Oper)} {p : Nat × Oper} (h : isFree ops rem p = true) : p.2.guard = none ∧ ∃ d x, p.2.dst = some d ∧ p.2.op = .move x ∧ apartOf ops p.1 d (opTmps p.2.op) rem = true := by
  simp only [isFree] at h
  cases hg : p.2.guard with
  | some q => rw [hg] at h; cases h
  | none =>
    rw [hg] at h
    cases hd : p.2.dst with
    | none => rw [hd] at h; cases h
    | some d =>
      rw [hd] at h
      simp only at h
      cases ho : p.2.op <;> rw [ho] at h <;> try (cases h; done)
      case move x => exact ⟨rfl, d, x, rfl, rfl, h⟩
theorem guardOff_ok {ops : Array Oper} {oo : Oper} {a : Act} (h : Rel E γ s o a.tmps w) (hg : guardOff ops.toList s oo = true) : Region.wanted oo (yielded ops a.tmps) = false := by
  refine guardW_ok (K := fun b => b = false) h ?_
  simp only [guardOff, dropN_eq] at hg
  simp only [guardW]
  cases hgd : oo.guard with
  | none => rw [hgd] at hg; cases hg
  | some jw =>
    obtain ⟨j, want⟩ := jw
    rw [hgd] at hg
    simp only [nth_iff] at hg ⊢
    cases hdr : ops.toList.drop j with
    | nil => rw [hdr] at hg; cases hg
    | cons q r =>
      rw [hdr] at hg
      have hq : ops.toList[j]? = some q := by
        have : (ops.toList.drop j)[0]? = some q := by rw [hdr]; rfl
        simpa using this
      refine ⟨q, hq, ?_⟩
      simp only at hg
      cases hd : q.dst with
      | none => rw [hd] at hg; cases hg
      | some t =>
        rw [hd] at hg
        simp only at hg ⊢
        cases hs : s t with
        | agg cs => rw [hs] at hg; cases hg
        | tup vs =>
          rw [hs] at hg
          cases vs with
          | nil => exact trivial
          | cons x y => cases hg
        | c c =>
          rw [hs] at hg
          cases c <;> simp only at hg <;> try (cases hg; done)
          rename_i y
          cases y <;> simp only at hg <;> try (cases hg; done)
          rename_i v
          cases v <;> simp only at hg <;> try (cases hg; done)
          rename_i b
          simp only [asB_iff]
          refine ⟨b, rfl, ?_⟩
          cases b <;> cases want <;> simp_all [eqb, br, notb]
theorem firstOff_spec {ops : List Oper} {rem : List (Nat × Oper)} {s : Nat → X} {p : Nat × Oper} : ∀ {l : List (Nat × Oper)}, firstOff ops rem s l = some p → p ∈ l ∧ ∃ d, p.2.dst = some d ∧ guardOff ops s p.2 = true ∧ apartOf ops p.1 d (app (guardTmps ops p.2) (opTmps p.2.op)) rem = true
  | [], h => by simp [firstOff] at h
  | q :: r, h => by
    simp only [firstOff] at h
    have rest : firstOff ops rem s r = some p → p ∈ q :: r ∧ ∃ d, p.2.dst = some d ∧ guardOff ops s p.2 = true ∧ apartOf ops p.1 d (app (guardTmps ops p.2) (opTmps p.2.op)) rem = true := fun h => by
      have := firstOff_spec h
      exact ⟨.tail _ this.1, this.2⟩
    cases hd : q.2.dst with
    | none => rw [hd] at h; exact rest h
    | some d =>
      rw [hd] at h
      simp only at h
      cases hg : guardOff ops s q.2 with
      | false => rw [hg] at h; exact rest h
      | true =>
        rw [hg] at h
        simp only at h
        cases ha : apartOf ops q.1 d (app (guardTmps ops q.2) (opTmps q.2.op)) rem with
        | false => rw [ha] at h; exact rest h
        | true =>
          rw [ha] at h
          cases h
          exact ⟨.head _, d, hd, hg, ha⟩
theorem orders_ok (hT : TabOk P T) {ops : Array Oper} {g : Cfg} (hsel : noSelect ops.toList = true) {Q : Exit → Act → World → Prop} (hQp : ∀ c a a' w, Q (.panic c) a w → Q (.panic c) a' w) {N : Nat} {D : List Deferred}
    (hd : ∀ oo ∈ ops, ∀ d, oo.dst = some d → d < N ∧ E.arg d = none) {K : State → Prop} (hQ : ∀ st' a' γ' w', K st' → a'.tmps.size = N → a'.defers = D → Rel E γ' (slot st'.s) (look1 st'.o) a'.tmps w' → Q .normal a' w') :
    ∀ (n : Nat) (rem : List (Nat × Oper)) (done : List Nat) (st : State) (listed : Array Bool) (a : Act) (γ : Ghs) (w : World), rem.length = n → listed.size = ops.size → (∀ i, listed.getD i false = true ↔ i ∈ done ∧ i < ops.size) →
      (∀ i o, (i, o) ∈ rem ↔ ops[i]? = some o ∧ i ∉ done) → (rem.map Prod.fst).Nodup → a.tmps.size = N → a.defers = D →
      Rel E γ (slot st.s) (look1 st.o) a.tmps w → (∀ i ∈ done, i < ops.size) → orders prims T g (CallC P) ops.toList n rem done st K → wpAny P .any ops Q n listed a w := by
  have und : ∀ {listed : Array Bool} {done : List Nat}, listed.size = ops.size → (∀ i, listed.getD i false = true ↔ i ∈ done ∧ i < ops.size) → ∀ {i : Nat} {o : Oper}, ops[i]? = some o → (listed.getD i true = false ↔ i ∉ done) := fun {listed done} hs hl i o ho => by
    have hlt := (Array.getElem?_eq_some_iff.1 ho).1
    have := hl i
    simp only [Array.getD_eq_getD_getElem?] at this ⊢
    rw [Array.getElem?_eq_getElem (by omega)] at this ⊢
    simp only [Option.getD_some] at this ⊢
    constructor
    · intro h1 h2; rw [this.2 ⟨h2, hlt⟩] at h1; cases h1
    · intro h1
      cases hb : listed[i] with
      | false => rfl
      | true => exact absurd (this.1 hb).1 h1
  intro n
  induction n with
  | zero =>
    intro rem done st listed a γ w hn hs hl hr hnd hN hD h hdn hq
    refine wpAny_done ?_ (hQ st a γ w hq hN hD h) _
    cases hrd : Region.ready .any ops listed with
    | nil => rfl
    | cons i is =>
      have hi : i ∈ Region.ready .any ops listed := by rw [hrd]; exact .head _
      obtain ⟨h1, oo, h2, _⟩ := mem_ready.1 hi
      have := (hr i oo).2 ⟨h2, (und hs hl h2).1 h1⟩
      rw [List.eq_nil_of_length_eq_zero hn] at this
      simp at this
  | succ n ih =>
    intro rem done st listed a γ w hn hs hl hr hnd hN hD h hdn hq
    have ready_of : ∀ p, p ∈ rdys done rem → p.1 ∈ Region.ready .any ops listed ∧ ops[p.1]? = some p.2 ∧ p.1 ∉ done := fun p hp => by
      obtain ⟨h1, h2⟩ := rdys_mem.1 hp
      obtain ⟨h3, h4⟩ := (hr p.1 p.2).1 h1
      refine ⟨mem_ready.2 ⟨(und hs hl h3).2 h4, p.2, h3, fun e he hbe => ?_⟩, h3, h4⟩
      have := allIn_iff.1 h2 e.on (waitsOn_mem.2 ⟨e, by simpa using he, hbe, rfl⟩)
      exact (hl e.on).2 ⟨this, hdn _ this⟩
    have of_ready : ∀ i, i ∈ Region.ready .any ops listed → ∃ o, ops[i]? = some o ∧ (i, o) ∈ rdys done rem := fun i hi => by
      obtain ⟨h1, oo, h2, h3⟩ := mem_ready.1 hi
      refine ⟨oo, h2, rdys_mem.2 ⟨(hr i oo).2 ⟨h2, (und hs hl h2).1 h1⟩, allIn_iff.2 fun k hk => ?_⟩⟩
      obtain ⟨e, e1, e2, rfl⟩ := waitsOn_mem.1 hk
      exact ((hl e.on).1 (h3 e (by simpa using e1) e2)).1
    have next : ∀ i o, ops[i]? = some o → i ∉ done → (without i rem).length = n ∧ (listed.setIfInBounds i true).size = ops.size ∧ (∀ j, (listed.setIfInBounds i true).getD j false = true ↔ j ∈ i :: done ∧ j < ops.size) ∧ (∀ j o', (j, o') ∈ without i rem ↔ ops[j]? = some o' ∧ j ∉ i :: done) ∧ ((without i rem).map Prod.fst).Nodup ∧ (∀ j ∈ i :: done, j < ops.size) := fun i o ho hi => by
      have hlt := (Array.getElem?_eq_some_iff.1 ho).1
      have hm : i ∈ rem.map Prod.fst := List.mem_map.2 ⟨(i, o), (hr i o).2 ⟨ho, hi⟩, rfl⟩
      refine ⟨by have := without_length hnd hm; omega, by simpa using hs, fun j => ?_, fun j o' => ?_, hnd.sublist without_sub, fun j hj => ?_⟩
      · by_cases e : j = i
        · subst e; rw [getD_set_self (by omega)]; simp [hlt]
        · rw [getD_set_ne false (Ne.symm e), hl]; simp [e]
      · rw [without_mem, hr]
        simp only [List.mem_cons, not_or]
        exact ⟨fun ⟨⟨h1, h2⟩, h3⟩ => ⟨h1, h3, h2⟩, fun ⟨h1, h3, h2⟩ => ⟨⟨h1, h2⟩, h3⟩⟩
      · rcases List.mem_cons.1 hj with rfl | hj
        · exact hlt
        · exact hdn j hj
    simp only [orders] at hq
    cases hf : firstFree ops.toList rem (rdys done rem) with
    | some p =>
      rw [hf] at hq
      dsimp only at hq
      obtain ⟨hp, hfree⟩ := firstFree_spec hf
      obtain ⟨hg, d, x, hdst, hop, hap⟩ := isFree_spec hfree
      obtain ⟨hrd, hpo, hpd⟩ := ready_of p hp
      obtain ⟨n1, n2, n3, n4, n5, n6⟩ := next p.1 p.2 hpo hpd
      obtain ⟨hd1, hd2⟩ := hd p.2 (Array.mem_of_getElem? hpo) d hdst
      have hx := h.opd (T := T) p.2.type x
      refine wpAny_first (i := p.1) (oi := p.2) (v := a.eval x) hpo (fun j oj cs b hj hs' => ?_) (fun c a' w' h' => hQp c _ _ _ h') n listed a w (fun j oj hj hji hlj hno => ?_) hrd ?_ ?_
      · have := noSelect_mem hsel oj (by simpa using Array.mem_of_getElem? hj)
        rw [hs'] at this
        cases this
      · rcases apartOf_spec hap (j, oj) ((hr j oj).2 ⟨hj, (und hs hl hj).1 hlj⟩) with e | e | ⟨a1, a2, a3, a4⟩
        · exact absurd e hji
        · obtain ⟨e', e1, e2, e3⟩ := waitsOn_mem.1 e
          exact absurd e3 (hno e' (by simpa using e1) e2)
        · have l1 : (oj.looksAt ops).contains d = false := by
            cases hc : (oj.looksAt ops).contains d with
            | false => rfl
            | true => exact absurd (mem_looksAt.1 (List.contains_iff_mem.1 hc)) (fun h => h.elim a2 a1)
          simp only [Oper.apart, hdst, l1]
          have l2 : (oj.dst != some d) = true := by simpa using a3
          rw [l2]
          cases hod : oj.dst with
          | none => rfl
          | some d' =>
            have nm : d' ∉ p.2.looksAt ops := fun hm => by
              rcases mem_looksAt.1 hm with h' | h'
              · exact a4 d' hod h'
              · simp [guardTmps, hg] at h'
            simp [nm]
      · refine .inl ⟨by simp [Region.wanted, hg], fun w => ?_⟩
        simp only [execOp, hop]
        rfl
      · have hm : moved T st p.2 = opd T (slot st.s) p.2.type x := by simp only [moved, hop]
        rw [hm, hdst] at hq
        refine ih (without p.1 rem) (p.1 :: done) _ _ _ γ w n1 n2 n3 n4 n5 (by rw [hdst]; simpa [Act.put] using hN) (by rw [hdst]; exact hD) ?_ n6 hq
        rw [hdst]
        exact h.put hx (by rw [hN]; exact hd1) hd2 (fun i => by simp only [State.setD, State.set, slot_put1])
    | none =>
      rw [hf] at hq
      dsimp only at hq
      cases hff : firstOff ops.toList rem (slot st.s) (rdys done rem) with
      | some p =>
        rw [hff] at hq
        dsimp only at hq
        obtain ⟨hp, d, hdst, hgo, hap⟩ := firstOff_spec hff
        obtain ⟨hrd, hpo, hpd⟩ := ready_of p hp
        obtain ⟨n1, n2, n3, n4, n5, n6⟩ := next p.1 p.2 hpo hpd
        have hw := guardOff_ok h hgo
        have hskip := skip_rel h (oo := p.2) (fun d hdd => by rw [hN]; exact hd p.2 (Array.mem_of_getElem? hpo) d hdd)
        refine wpAny_first (i := p.1) (oi := p.2) (v := undef) hpo (fun j oj cs b hj hs' => ?_) (fun c a' w' h' => hQp c _ _ _ h') n listed a w (fun j oj hj hji hlj hno => ?_) hrd (.inr ⟨hw, rfl⟩) ?_
        · have := noSelect_mem hsel oj (by simpa using Array.mem_of_getElem? hj)
          rw [hs'] at this
          cases this
        · rcases apartOf_spec hap (j, oj) ((hr j oj).2 ⟨hj, (und hs hl hj).1 hlj⟩) with e | e | ⟨a1, a2, a3, a4⟩
          · exact absurd e hji
          · obtain ⟨e', e1, e2, e3⟩ := waitsOn_mem.1 e
            exact absurd e3 (hno e' (by simpa using e1) e2)
          · have l1 : (oj.looksAt ops).contains d = false := by
              cases hc : (oj.looksAt ops).contains d with
              | false => rfl
              | true => exact absurd (mem_looksAt.1 (List.contains_iff_mem.1 hc)) (fun h => h.elim a2 a1)
            simp only [Oper.apart, hdst, l1]
            have l2 : (oj.dst != some d) = true := by simpa using a3
            rw [l2]
            cases hod : oj.dst with
            | none => rfl
            | some d' =>
              have nm : d' ∉ p.2.looksAt ops := fun hm => by
                refine a4 d' hod ?_
                rw [app_eq, List.mem_append]
                exact (mem_looksAt.1 hm).symm
              simp [nm]
        · exact ih (without p.1 rem) (p.1 :: done) _ _ _ γ w n1 n2 n3 n4 n5 (by rw [hdst]; simpa [Act.put] using hN) (by rw [hdst]; exact hD) hskip n6 hq
      | none =>
      rw [hff] at hq
      dsimp only at hq
      refine ⟨fun hnil => ?_, fun i hi => ?_⟩
      · obtain ⟨p, hp⟩ := each_ne hq
        have := (ready_of p hp).1
        rw [hnil] at this
        simp at this
      · obtain ⟨o, ho, hmem⟩ := of_ready i hi
        have hqi := each_mem hq (i, o) hmem
        have hpd := (ready_of (i, o) hmem).2.2
        obtain ⟨n1, n2, n3, n4, n5, n6⟩ := next i o ho hpd
        refine wpOp_step (g := g) hT h ho (fun d hdd => by rw [hN]; exact hd o (Array.mem_of_getElem? ho) d hdd) (K := fun st => orders prims T g (CallC P) ops.toList n (without i rem) (i :: done) st K) ?_ fun st' a' γ' w' hk h1 h2 h3 => ?_
        · revert hqi
          dsimp only
          generalize guardW ops.toList (slot st.s) o = G
          intro hqi
          refine cast (congrArg G (funext fun b => ?_)) hqi
          cases b <;> rfl
        · exact ih (without i rem) (i :: done) st' _ a' γ' w' n1 n2 n3 n4 n5 (h2.trans hN) (h1.trans hD) h3 n6 hk

theorem run_ok (hT : TabOk P T) (hm : P.follows .mixedOrders = true) {g : Cfg} {fn : Nat} {N : Nat} {D : List Deferred} : ∀ (c : Code) {Q : Exit → Act → World → Prop} {K : Post} {st : State} {a : Act} {γ : Ghs} {w : World},
    codeOps (fun oo => ∀ d, oo.dst = some d → d < N ∧ E.arg d = none) c → a.tmps.size = N → a.defers = D → Rel E γ (slot st.s) (look1 st.o) a.tmps w → run prims T g (CallC P) fn c st K →
    (∀ e st' a' γ' w', K e st' → a'.tmps.size = N → a'.defers = D → Rel E γ' (slot st'.s) (look1 st'.o) a'.tmps w' → Q e.out a' w') → c.wp P Q a w
  | .skip, Q, K, st, a, γ, w, hd, hN, hD, h, hq, hQ => wp_skip (hQ .normal st a γ w hq hN hD h)
  | .region id ops draw, Q, K, st, a, γ, w, hd, hN, hD, h, hq, hQ => by
    simp only [run] at hq
    cases draw with
    | false =>
      refine wp_region ?_
      have := steps_ok (i := 0) hT (Q := Q) ops.toList (by simp) h (fun oo ho d hdd => by rw [hN]; exact hd oo (by simpa using ho) d hdd) hq (fun st' a' γ' w' hk h1 h2 h3 => hQ .normal _ a' γ' w' hk (h2.trans hN) (h1.trans hD) (h3.cleanup _))
      simpa [List.range_eq_range'] using this
    | true =>
      have hrel : Rel E γ (slot st.s) (look1 st.o) a.tmps { w with drawn := w.drawn + 1 } := h.quiet ⟨rfl, rfl, rfl, Nat.le_refl _, fun _ _ _ => rfl⟩
      cases hord : g.ord fn id with
      | true =>
        rw [hord] at hq
        simp only [chk_iff] at hq
        let Q' : Exit → Act → World → Prop := fun e a w => match e with
          | .panic _ => False
          | e => Q e a w
        have hw := orders_ok (g := g) hT hq.1 (Q := Q') (fun c a a' w h => h.elim) hd (fun st' a' γ' w' hk h1 h2 h3 => hQ .normal _ a' γ' w' hk h1 h2 (h3.cleanup _)) ops.size (numd 0 ops.toList) [] st (Array.replicate ops.size false) a γ { w with drawn := w.drawn + 1 }
          (by rw [numd_length]; simp) (by simp) (fun i => by
            simp only [Array.getD_eq_getD_getElem?, Array.getElem?_replicate, List.not_mem_nil, false_and, iff_false]
            split <;> simp) (fun i o => by rw [numd_mem]; simp) (by rw [numd_fst]; exact List.nodup_range') hN hD hrel (fun i hi => by simp at hi) (by have := hq.2; rw [lenN_eq, Array.length_toList] at this; exact this)
        exact wp_mono (wp_region_any hm hw) (fun e a w h => by cases e <;> first | exact h | exact h.elim)
      | false =>
      rw [hord] at hq
      simp only [chk_iff] at hq
      have hback : ∀ (i : Nat) (oi : Oper), ops[i]? = some oi → ∀ e ∈ oi.after, Region.binds .any e = true → e.on < i := fun i oi hi e he hbe => by
        have := opsBack_spec hq.1 i oi (by simpa using hi) e he hbe
        omega
      obtain ⟨Q', hQ', hw⟩ := drawn_ok hT hback hd (Q := Q) (fun st' a' γ' w' hk h1 h2 h3 => hQ .normal _ a' γ' w' hk h1 h2 (h3.cleanup _)) hN hD (hrel.freezes _) hq.2
      exact wp_mono (wp_region_any hm hw) hQ'
  | .seq x y, Q, K, st, a, γ, w, hd, hN, hD, h, hq, hQ => by
    refine wp_seq (run_ok hT hm x hd.1 hN hD h hq fun e st' a' γ' w' hk h1 h2 h3 => ?_)
    cases e with
    | normal => exact run_ok hT hm y hd.2 h1 h2 h3 hk hQ
    | exit i => exact hQ _ _ _ _ _ hk h1 h2 h3
    | ret => exact hQ _ _ _ _ _ hk h1 h2 h3
  | .cond c x y, Q, K, st, a, γ, w, hd, hN, hD, h, hq, hQ => by
    simp only [run, asB_iff] at hq
    obtain ⟨b, hb, hq⟩ := hq
    have hv := h.opd (T := T) 0 c
    rw [hb] at hv
    have hv := rx_sc hv
    rw [br_iff] at hq
    rcases hq with ⟨rfl, hq⟩ | ⟨rfl, hq⟩
    · exact wp_cond_true hv (run_ok hT hm x hd.1 hN hD h hq hQ)
    · exact wp_cond_false hv (run_ok hT hm y hd.2 hN hD h hq hQ)
  | .block id c, Q, K, st, a, γ, w, hd, hN, hD, h, hq, hQ => by
    refine wp_block (run_ok hT hm c hd hN hD h hq fun e st' a' γ' w' hk h1 h2 h3 => ?_)
    cases e with
    | normal => exact hQ .normal _ _ _ _ hk h1 h2 h3
    | ret => exact hQ .ret _ _ _ _ hk h1 h2 h3
    | exit i =>
      simp only at hk
      by_cases hi : i = id
      · subst hi
        rw [show eqN i i = true from eqN_refl i] at hk
        simp only [Ex.out, Exit.inBlock, if_true]
        exact hQ .normal _ _ _ _ hk h1 h2 h3
      · have : eqN i id = false := by rw [beq_dec]; simp [hi]
        rw [this] at hk
        simp only [Ex.out, Exit.inBlock, hi, if_false]
        exact hQ (.exit i) _ _ _ _ hk h1 h2 h3
  | .loop c, Q, K, st, a, γ, w, hd, hN, hD, h, hq, hQ => by
    have key : ∀ (a : Act) (γ : Ghs) (w : World), a.tmps.size = N → a.defers = D → Rel E γ (slot (Go.Proofs.YthaelohccopgjaaW.cleanup (g.head fn (firstId c)) st).s) (look1 (Go.Proofs.YthaelohccopgjaaW.cleanup (g.head fn (firstId c)) st).o) a.tmps w →
        ∀ (b : Frame) (k : List Item) (cs : List Frame), ∃ e a' w', Q e a' w' ∧ Arrives P (lone (b.at a (.code c :: .inLoop c :: k)) cs w) b k cs e a' w' := by
      refine hq.out (fun st => ∀ (a : Act) (γ : Ghs) (w : World), a.tmps.size = N → a.defers = D → Rel E γ (slot st.s) (look1 st.o) a.tmps w →
        ∀ (b : Frame) (k : List Item) (cs : List Frame), ∃ e a' w', Q e a' w' ∧ Arrives P (lone (b.at a (.code c :: .inLoop c :: k)) cs w) b k cs e a' w') fun s hs a γ w hN hD h b k cs => ?_
      obtain ⟨e, a₁, w₁, hq, harr⟩ := run_ok hT hm c (Q := Exit.then (fun a w => ∀ (b : Frame) (k : List Item) (cs : List Frame), ∃ e a' w', Q e a' w' ∧ Arrives P (lone (b.at a (.code c :: .inLoop c :: k)) cs w) b k cs e a' w') Q) hd hN hD (h.cleanup _) hs (fun e st' a' γ' w' hk h1 h2 h3 => by
        cases e with
        | normal => exact hk a' γ' w' h1 h2 h3
        | exit i => exact hQ (.exit i) _ _ _ _ hk h1 h2 h3
        | ret => exact hQ .ret _ _ _ _ hk h1 h2 h3) b (.inLoop c :: k) cs
      cases e with
      | normal =>
        obtain ⟨e₂, a₂, w₂, hq₂, harr₂⟩ := hq b k cs
        exact ⟨e₂, a₂, w₂, hq₂, .of_steps (Steps.trans harr (.one step_inLoop)) harr₂⟩
      | exit id => exact ⟨_, a₁, w₁, hq, .pass (x := .inLoop c) rfl (fun _ _ => .inl (by simp)) harr⟩
      | goto l => exact ⟨_, a₁, w₁, hq, .pass (x := .inLoop c) rfl (fun _ _ => .inl (by simp)) harr⟩
      | ret => exact ⟨_, a₁, w₁, hq, .pass (x := .inLoop c) rfl (fun _ _ => .inl (by simp)) harr⟩
      | panic ch => exact ⟨_, a₁, w₁, hq, .pass (x := .inLoop c) rfl (fun _ _ => .inl (by simp)) harr⟩
      | outgrown => exact ⟨_, a₁, w₁, hq, .pass (x := .inLoop c) rfl (fun _ _ => .inl (by simp)) harr⟩
    intro b k cs
    obtain ⟨e, a', w', hq, harr⟩ := key a γ w hN hD (h.cleanup _) b k cs
    exact ⟨e, a', w', hq, .of_steps (.one step_loop) harr⟩
  | .exit id, Q, K, st, a, γ, w, hd, hN, hD, h, hq, hQ => wp_exit (hQ (.exit id) st a γ w hq hN hD h)
  | .ret, Q, K, st, a, γ, w, hd, hN, hD, h, hq, hQ => wp_ret (hQ .ret st a γ w hq hN hD h)
  | .rangeFunc _ _ _ _, _, _, _, _, _, _, _, _, _, _, hq, _ => hq.elim
  | .scope _, _, _, _, _, _, _, _, _, _, _, hq, _ => hq.elim
  | .label _, _, _, _, _, _, _, _, _, _, _, hq, _ => hq.elim
  | .goto _, _, _, _, _, _, _, _, _, _, _, hq, _ => hq.elim
  | .refuse _, _, _, _, _, _, _, _, _, _, _, hq, _ => hq.elim
end Go.Proofs.YthaelohccopgjaaW
/- Soundness, part 36: results taken out of what is left. -/
namespace Go.Proofs.YthaelohccopgjaaW
variable {P : Program} {T : Tab} {E : Env} {γ γ' : Ghs} {s s' : Nat → X} {o o' : Look} {tm : Array Value} {w w' : World}

/-- Some keys have been taken out. -/
structure Fin (E : Env) (γ : Ghs) (st : State) (tm : Array Value) (w : World) (used : List Nat) : Prop where
  rel : Rel E γ (slot st.s) (look1 st.o) tm w
  gone : ∀ k ∈ used, look1 st.o k = none
  nd : used.Nodup
structure FStep (w : World) (γ : Ghs) (st : State) (γ' : Ghs) (st' : State) : Prop where
  nx : Nx γ w γ' w
  keep : ∀ k, look1 st.o k = none → γ' k = γ k ∧ look1 st'.o k = none
  less : ∀ k, γ' k = γ k ∨ γ' k = .no
theorem FStep.refl (w : World) (γ : Ghs) (st : State) : FStep w γ st γ st := ⟨Nx.refl _ _, fun k h => ⟨rfl, h⟩, fun k => .inl rfl⟩
theorem FStep.trans {γ γ' γ'' : Ghs} {st st' st'' : State} (h : FStep w γ st γ' st') (h' : FStep w γ' st' γ'' st'') : FStep w γ st γ'' st'' :=
  ⟨h.nx.trans h'.nx, fun k hk => let ⟨h1, h2⟩ := h.keep k hk; let ⟨h3, h4⟩ := h'.keep k h2; ⟨h3.trans h1, h4⟩, fun k => (h'.less k).elim (fun e => e ▸ h.less k) .inr⟩
theorem FStep.cs {st st' : State} (h : FStep w γ st γ' st') {vs : List Value} {cs : List C} (hc : RCs w (E.Sh γ w) γ vs cs) : RCs w (E.Sh γ' w) γ' vs cs := by
  have := (turns_id (E := E) h.nx h.less).cs hc
  rwa [mapCs_id] at this

theorem RAC.mono {S S' : Nat → Prop} (hS : ∀ b, S b → S' b) {g : Option Nat} {v : Value} {a : AC} {G : Gh} (h : RAC w S g v a G) : RAC w S' g v a G := by
  cases a with
  | no => exact h
  | self => exact h
  | op q => exact h
  | y c => exact ⟨h.1, h.2.mono hS fun _ _ => rfl⟩
  | own es xs =>
    rcases h with h | ⟨b, cap, n, h1, h2, h3⟩ | ⟨b, ys, h1, h2, h3, h4, cur, e, h5, h6⟩
    · exact .inl h
    · exact .inr (.inl ⟨b, cap, n, h1, h2, h3.mono' hS⟩)
    · exact .inr (.inr ⟨b, ys, h1, h2, h3, h4, cur, e, h5, h6.mono fun v y hr => hr.mono hS fun _ _ => rfl⟩)
theorem RACs.mono {S S' : Nat → Prop} (hS : ∀ b, S b → S' b) {g : Option Nat} : ∀ {vs : List Value} {as : List AC} {Gs : List Gh}, RACs w S g vs as Gs → RACs w S' g vs as Gs
  | [], [], [], _ => trivial
  | _ :: _, _ :: _, _ :: _, h => ⟨⟨h.1.1.mono hS, h.1.2⟩, RACs.mono hS h.2⟩
theorem RTup.mono {S S' : Nat → Prop} (hS : ∀ b, S b → S' b) : ∀ {vs : List Value} {l : List (Bool × List AC)} {Gs : List Gh}, RTup w S vs l Gs → RTup w S' vs l Gs
  | [], [], [], _ => trivial
  | v :: vs, q :: qs, Gs, h => by
    obtain ⟨G1, G2, h1, h2, h3⟩ := h
    refine ⟨G1, G2, h1, ?_, RTup.mono hS h3⟩
    cases hq : q.1 with
    | true =>
      rw [hq] at h2
      obtain ⟨us, h4, h5⟩ := h2
      exact ⟨us, h4, h5.mono hS⟩
    | false =>
      rw [hq] at h2
      obtain ⟨a, G, h4, h5, h6⟩ := h2
      exact ⟨a, G, h4, h5, h6.mono hS⟩
  | [], [], _ :: _, h => h.elim
  | [], _ :: _, _, h => by cases ‹List Gh› <;> exact h.elim
  | _ :: _, [], _, h => by cases ‹List Gh› <;> exact h.elim

theorem Rel.drop {st : State} (k : Nat) (h : Rel E γ (slot st.s) (look1 st.o) tm w) : Rel E γ (slot (st.drop k).s) (look1 (st.drop k).o) tm w :=
  h.weaken (fun i => .inl rfl) fun j b hb => by
    simp only [State.drop, look1_del1] at hb
    by_cases e : k = j
    · simp [e] at hb
    · simpa [e] using hb
theorem Fin.drop {st : State} {used : List Nat} (h : Fin E γ st tm w used) {k : Nat} {b : Ob} (hk : look1 st.o k = some b) : Fin E γ (st.drop k) tm w (used ++ [k]) ∧ FStep w γ st γ (st.drop k) := by
  have hne : k ∉ used := fun hu => by have := h.gone k hu; rw [this] at hk; cases hk
  have hd : ∀ j, look1 st.o j = none → look1 (st.drop k).o j = none := fun j hj => by
    simp only [State.drop, look1_del1]; split
    · rfl
    · exact hj
  refine ⟨⟨h.rel.drop k, fun j hj => ?_, ?_⟩, Nx.refl _ _, fun j hj => ⟨rfl, hd j hj⟩, fun j => .inl rfl⟩
  · rcases List.mem_append.1 hj with hj | hj
    · exact hd j (h.gone j hj)
    · rw [List.mem_singleton] at hj; subst hj
      simp [State.drop, look1_del1]
  · exact List.nodup_append.2 ⟨h.nd, by simp, fun a ha b hb => by rw [List.mem_singleton] at hb; subst hb; exact fun e => hne (e ▸ ha)⟩
theorem Fin.same {st : State} {used : List Nat} (h : Fin E γ st tm w used) : Fin E γ st tm w (used ++ []) := by rw [List.append_nil]; exact h

theorem outC_ok {st : State} {used : List Nat} (h : Fin E γ st tm w used) {v : Value} {c : C} (hc : RC w (E.Sh γ w) γ v c) {K : AC → State → Prop} (hq : outC prims st c K) :
    ∃ a st' γ' ks G, K a st' ∧ Fin E γ' st' tm w (used ++ ks) ∧ FStep w γ st γ' st' ∧ RAC w (E.Sh γ' w) none v a G ∧ blocks [G] = keyBlocks γ' ks := by
  cases c <;> simp only [outC] at hq <;> try exact hq.elim
  case y c => exact ⟨_, st, γ, [], .no, hq, h.same, FStep.refl _ _ _, ⟨rfl, hc⟩, rfl⟩
  case mt es => exact ⟨_, st, γ, [], .nil, hq, h.same, FStep.refl _ _ _, .inl ⟨rfl, rfl, hc⟩, rfl⟩
  case aw k =>
    simp only [rowAt_iff] at hq
    obtain ⟨es, xs, ho, hq⟩ := hq
    obtain ⟨h1, h2⟩ := h.drop ho
    simp only [RC] at hc
    rcases h.rel.objs k _ ho with ⟨hgk, rfl⟩ | ⟨gg, cap, n, hgk, hr⟩
    · rw [hgk] at hc
      exact ⟨_, _, γ, [k], .nil, hq, h1, h2, .inl ⟨rfl, rfl, hc⟩, by simp [blocks, keyBlocks, hgk, Gh.bs]⟩
    · rw [hgk] at hc
      exact ⟨_, _, γ, [k], .row gg es cap n, hq, h1, h2, .inr (.inl ⟨gg, cap, n, rfl, hc, hr⟩), by simp [blocks, keyBlocks, hgk, Gh.bs]⟩
  case pb k j =>
    cases j with
    | succ j => exact hq.elim
    | zero =>
      simp only [boxAt_iff] at hq
      obtain ⟨cs, ho, hq⟩ := hq
      obtain ⟨h1, h2⟩ := h.drop ho
      obtain ⟨gg, hgk, cur, e, hh, hcs⟩ := h.rel.objs k _ ho
      obtain ⟨ys, hk, hl, h1', hys⟩ := plainCs_ok hcs hq
      simp only [RC, hgk] at hc
      refine ⟨_, _, γ, [k], .bx gg, hk, h1, h2, .inr (.inr ⟨gg, ys, rfl, rfl, rfl, hc, cur, e, hh, ?_⟩), by simp [blocks, keyBlocks, hgk, Gh.bs]⟩
      have gen : ∀ (vs : List Value) (ys : List Y), ys.length = vs.length → (∀ (j : Nat) (y : Y), ys[j]? = some y → ∃ u, vs[j]? = some u ∧ Rep w (E.Sh γ w) u y) → RYs w (E.Sh γ w) vs ys := fun vs => by
        induction vs with
        | nil => intro ys hl _; cases ys with
          | nil => trivial
          | cons a b => simp at hl
        | cons v vs ih => intro ys hl hy; cases ys with
          | nil => simp at hl
          | cons y ys =>
            obtain ⟨u, h1, h2⟩ := hy 0 y rfl
            simp at h1; subst h1
            exact ⟨h2, ih ys (by simpa using hl) fun j y hj => by simpa using hy (j + 1) y (by simpa using hj)⟩
      exact gen _ _ hl hys
  case as k lo m =>
    simp only [rowAt_iff] at hq
    obtain ⟨es, xs, ho, hq⟩ := hq
    have hf := h.rel.freeze k
    have hn := Nx.drop γ w k
    have hsh : ∀ g, g ∈ (γ k).bs → E.Sh (fun j => if j = k then .no else γ j) w g := fun g hg =>
      ⟨.inr (h.rel.own k g hg), h.rel.lt k g hg, fun ⟨j, hj⟩ => by
        by_cases e : j = k <;> simp [e, Gh.bs] at hj
        exact e (h.rel.inj j k g hj hg)⟩
    have hlook : ∀ j, look1 st.o j = none → look1 (st.freeze prims k).o j = none := fun j hj => by
      simp only [State.freeze, ho, look1_mapO, look1_del1]
      split
      · rfl
      · rw [hj]; rfl
    have hgone : ∀ j, look1 st.o j = none → j ≠ k := fun j hj e => by subst e; rw [hj] at ho; cases ho
    refine ⟨_, _, _, [], .no, hq, ⟨hf, fun j hj => hlook j (h.gone j (by simpa using hj)), by simpa using h.nd⟩, ⟨hn, fun j hj => ⟨by simp [hgone j hj], hlook j hj⟩, fun j => by by_cases e : j = k <;> simp [e]⟩, ⟨rfl, ?_⟩, rfl⟩
    simp only [RC] at hc
    rcases h.rel.objs k _ ho with ⟨hgk, rfl⟩ | ⟨gg, cap, n, hgk, hr⟩
    · rw [hgk] at hc
      obtain ⟨rfl, a, c, rfl⟩ := hc
      simp only [prims, List.drop_nil, List.take_nil]
      exact Rep.sl0 a c es
    · rw [hgk] at hc
      obtain ⟨h1, h2, h3, c, h4, h5⟩ := hc
      rcases h5 with rfl | ⟨rfl, a, rfl⟩
      · exact hr.rep (S' := E.Sh (fun i => if i = k then .no else γ i) w) (fun b hb => hn.sh hb) (hsh gg (by rw [hgk]; first | rfl | exact Gh.in_bx | exact Gh.in_row)) lo.toNat m.toNat c (by omega) h4
      · simp only [prims, Int.toNat_zero, List.take_zero]
        exact Rep.sl0 a c es

theorem keyBlocks_congr {γ γ' : Ghs} : ∀ {ks : List Nat}, (∀ k ∈ ks, γ' k = γ k) → keyBlocks γ' ks = keyBlocks γ ks
  | [], _ => rfl
  | k :: r, h => by
    have := keyBlocks_congr (ks := r) fun j hj => h j (.tail _ hj)
    simp only [keyBlocks, List.flatMap_cons, h k (.head _)] at this ⊢
    rw [this]

theorem outCs_ok : ∀ {cs : List C} {vs : List Value} {st : State} {γ : Ghs} {used : List Nat} {K : List AC → State → Prop}, Fin E γ st tm w used → RCs w (E.Sh γ w) γ vs cs →
    outCs prims cs st K → ∃ as st' γ' ks Gs, K as st' ∧ Fin E γ' st' tm w (used ++ ks) ∧ FStep w γ st γ' st' ∧ RACs w (E.Sh γ' w) none vs as Gs ∧ blocks Gs = keyBlocks γ' ks
  | [], [], st, γ, used, K, h, _, hq => ⟨[], st, γ, [], [], hq, h.same, FStep.refl _ _ _, trivial, rfl⟩
  | c :: cs, v :: vs, st, γ, used, K, h, hc, hq => by
    obtain ⟨a, st1, γ1, ks1, G, h1, h2, h3, h4, h5⟩ := outC_ok h hc.1.1 hq
    obtain ⟨as, st2, γ2, ks2, Gs, h6, h7, h8, h9, h10⟩ := outCs_ok h2 (h3.cs hc.2) h1
    refine ⟨a :: as, st2, γ2, ks1 ++ ks2, G :: Gs, h6, by rw [← List.append_assoc]; exact h7, h3.trans h8, ⟨⟨h4.mono fun b hb => h8.nx.sh hb, hc.1.2⟩, h9⟩, ?_⟩
    rw [show G :: Gs = [G] ++ Gs from rfl, blocks_append, keyBlocks_append, h5, h10]
    congr 1
    refine (keyBlocks_congr fun k hk => (h8.keep k (h2.gone k (List.mem_append_right _ hk))).1).symm
  | [], _ :: _, _, _, _, _, _, hc, _ => hc.elim
  | _ :: _, [], _, _, _, _, _, hc, _ => hc.elim

def ROne (w : World) (S : Nat → Prop) (v : Value) (q : Bool × List AC) (G1 : List Gh) : Prop := match q.1 with
  | true => ∃ us : Array Value, v = .agg us ∧ RACs w S none us.toList q.2 G1
  | false => ∃ a G, q.2 = [a] ∧ G1 = [G] ∧ RAC w S none v a G
theorem ROne.mono {S S' : Nat → Prop} (hS : ∀ b, S b → S' b) {v : Value} {q : Bool × List AC} {G : List Gh} (h : ROne w S v q G) : ROne w S' v q G := by
  obtain ⟨b, l⟩ := q
  cases b with
  | true =>
    obtain ⟨us, h4, h5⟩ := h
    exact ⟨us, h4, h5.mono hS⟩
  | false =>
    obtain ⟨a, G, h4, h5, h6⟩ := h
    exact ⟨a, G, h4, h5, h6.mono hS⟩
theorem outX_ok {st : State} {used : List Nat} (h : Fin E γ st tm w used) {v : Value} {x : X} (hx : RX w (E.Sh γ w) γ v x) {K : Bool × List AC → State → Prop} (hq : outX prims st x K) :
    ∃ q st' γ' ks G, K q st' ∧ Fin E γ' st' tm w (used ++ ks) ∧ FStep w γ st γ' st' ∧ ROne w (E.Sh γ' w) v q G ∧ blocks G = keyBlocks γ' ks := by
  cases x with
  | tup l => exact hq.elim
  | c c =>
    obtain ⟨a, st', γ', ks, G, h1, h2, h3, h4, h5⟩ := outC_ok (K := fun a st => K (false, [a]) st) h hx.1 hq
    exact ⟨_, st', γ', ks, [G], h1, h2, h3, ⟨a, G, rfl, rfl, h4⟩, h5⟩
  | agg cs =>
    obtain ⟨us, rfl, hc⟩ := hx
    obtain ⟨as, st', γ', ks, G, h1, h2, h3, h4, h5⟩ := outCs_ok (K := fun l st => K (true, l) st) h hc hq
    exact ⟨_, st', γ', ks, G, h1, h2, h3, ⟨us, rfl, h4⟩, h5⟩
def ResOne (P : Program) (w : World) (tm : Array Value) (r : ResultVar) (v : Value) : Prop := match r with
  | .tmp t => v = tm.getD t undef
  | .cell a t => (do loadVar t (← asAddr (tm.getD a undef)) : Sem Value).run P w = .ok v w
def ResAll (P : Program) (w : World) (tm : Array Value) : List ResultVar → List Value → Prop
  | [], [] => True
  | r :: rs, v :: vs => ResOne P w tm r v ∧ ResAll P w tm rs vs
  | _, _ => False
theorem resVals_ok (hT : TabOk P T) : ∀ {rs : List ResultVar} {st : State} {γ : Ghs} {used : List Nat} {K : List (Bool × List AC) → State → Prop}, Fin E γ st tm w used → resVals prims T rs st K →
    ∃ l st' γ' ks Gs vs, K l st' ∧ Fin E γ' st' tm w (used ++ ks) ∧ FStep w γ st γ' st' ∧ RTup w (E.Sh γ' w) vs l Gs ∧ blocks Gs = keyBlocks γ' ks ∧ l.length = rs.length ∧ ResAll P w tm rs vs
  | [], st, γ, used, K, h, hq => ⟨[], st, γ, [], [], [], hq, h.same, FStep.refl _ _ _, trivial, rfl, rfl, trivial⟩
  | r :: rs, st, γ, used, K, h, hq => by
    have one : ∃ v x, ResOne P w tm r v ∧ RX w (E.Sh γ w) γ v x ∧ outX prims st x fun q st => resVals prims T rs st fun l st => K (q :: l) st := by
      cases r with
      | tmp t => exact ⟨_, _, rfl, h.rel.slots t, hq⟩
      | cell a t =>
        simp only [resVals, chk_iff, asC_iff] at hq
        obtain ⟨hi, c, hc, hq⟩ := hq
        have hs := h.rel.slots a
        rw [hc] at hs
        cases c <;> simp only at hq <;> try exact hq.elim
        rename_i k j
        simp only [boxAt_iff, takeN_iff, dropN_eq] at hq
        obtain ⟨cs, ho, hle, hq⟩ := hq
        obtain ⟨g, hg, cur, e, hh, hcs⟩ := h.rel.objs k _ ho
        have hv := hs.1
        simp only [RC, hg] at hv
        obtain ⟨v, x, h1, h2, h3⟩ := loadVar_ok (P := P) (w := w) (γ := γ) (hT.at hi) (S := E.Sh γ w) (b := g) (off := j) (vs := (cur.toList.drop j).take (T.at t).cells) (cs := (cs.drop j).take (T.at t).cells) ((hcs.drop j).take _) (by simp at hle ⊢; omega) (fun i v hi => by
          rw [List.getElem?_take] at hi
          split at hi
          · rw [List.getElem?_drop] at hi
            rw [cell_of_heap hh]; simpa using hi
          · cases hi) (K := fun x => outX prims st x fun q st => resVals prims T rs st fun l st => K (q :: l) st) (by
            revert hq
            generalize (cs.drop j).take (T.at t).cells = l
            cases (T.at t).agg with
            | true => exact id
            | false =>
              cases l with
              | nil => exact id
              | cons c r => cases r <;> exact id)
        refine ⟨v, x, ?_, h2, h3⟩
        show (do loadVar t (← asAddr (tm.getD a undef)) : Sem Value).run P w = .ok v w
        rw [hv]
        simpa [asAddr] using h1
    obtain ⟨v, x, hone, hx, hq⟩ := one
    obtain ⟨q, st1, γ1, ks1, G, h1, h2, h3, h4, h5⟩ := outX_ok h hx hq
    obtain ⟨l, st2, γ2, ks2, Gs, vs, h6, h7, h8, h9, h10, h11, h12⟩ := resVals_ok hT h2 h1
    refine ⟨q :: l, st2, γ2, ks1 ++ ks2, G ++ Gs, v :: vs, h6, by rw [← List.append_assoc]; exact h7, h3.trans h8, ⟨G, Gs, rfl, ?_, h9⟩, ?_, by simp [h11], hone, h12⟩
    · have := h4.mono fun b hb => h8.nx.sh (E := E) hb
      obtain ⟨b, l'⟩ := q
      cases b <;> exact this
    · rw [blocks_append, keyBlocks_append, h5, h10]
      congr 1
      exact (keyBlocks_congr fun k hk => (h8.keep k (h2.gone k (List.mem_append_right _ hk))).1).symm

theorem drops_none {k : Nat} : ∀ {ks : List Nat} {st : State}, k ∈ ks → look1 (drops ks st).o k = none
  | [], _, h => by simp at h
  | j :: r, st, h => by
    simp only [drops]
    by_cases hr : k ∈ r
    · exact drops_none hr
    · have : k = j := (List.mem_cons.1 h).resolve_right hr
      subst this
      have key : ∀ (r : List Nat) (st : State), look1 st.o k = none → look1 (drops r st).o k = none := fun r => by
        induction r with
        | nil => intro st h; exact h
        | cons a r ih =>
          intro st h
          refine ih _ ?_
          simp only [State.drop, look1_del1]
          split
          · rfl
          · exact h
      exact key r _ (by simp [State.drop, look1_del1])
theorem drops_keep {k : Nat} : ∀ {ks : List Nat} {st : State}, look1 st.o k = none → look1 (drops ks st).o k = none
  | [], _, h => h
  | a :: r, st, h => by
    refine drops_keep (ks := r) (st := st.drop a) ?_
    simp only [State.drop, look1_del1]
    split
    · rfl
    · exact h
theorem Rel.drops : ∀ (ks : List Nat) {st : State}, Rel E γ (slot st.s) (look1 st.o) tm w → Rel E γ (slot (Go.Proofs.YthaelohccopgjaaW.drops ks st).s) (look1 (Go.Proofs.YthaelohccopgjaaW.drops ks st).o) tm w
  | [], st, h => h
  | k :: r, st, h => Rel.drops r (h.drop k)
theorem Fin.drops {st : State} {used ks : List Nat} (h : Fin E γ st tm w used) (hn : ks.Nodup) (hk : ∀ k ∈ ks, ∃ b, look1 st.o k = some b) : Fin E γ (Go.Proofs.YthaelohccopgjaaW.drops ks st) tm w (used ++ ks) ∧ FStep w γ st γ (Go.Proofs.YthaelohccopgjaaW.drops ks st) := by
  refine ⟨⟨h.rel.drops ks, fun j hj => ?_, ?_⟩, Nx.refl _ _, fun j hj => ⟨rfl, drops_keep hj⟩, fun j => .inl rfl⟩
  · rcases List.mem_append.1 hj with hj | hj
    · exact drops_keep (h.gone j hj)
    · exact drops_none hj
  · refine List.nodup_append.2 ⟨h.nd, hn, fun a ha b hb e => ?_⟩
    subst e
    obtain ⟨b, hb⟩ := hk a hb
    rw [h.gone a ha] at hb; cases hb
end Go.Proofs.YthaelohccopgjaaW
/- Soundness, part 37: calls, from their code. -/
namespace Go.Proofs.YthaelohccopgjaaW
variable {P : Program} {T : Tab} {E : Env} {γ γ' : Ghs} {s s' : Nat → X} {o o' : Look} {tm : Array Value} {w w' : World}

/-! ### The arguments, as they come -/
def ghAt (Gs : List (List Gh)) (k : Nat) : Gh := match Gs[k / 1000]? with
  | some G => match G[k % 1000]? with
    | some x => x
    | none => .no
  | none => .no
theorem ghAt_key {Gs : List (List Gh)} {i j : Nat} (hj : j < 1000) {G : List Gh} (hi : Gs[i]? = some G) : ghAt Gs (key i j) = (G[j]?).getD .no := by
  simp only [ghAt, key]
  rw [show (i * 1000 + j) / 1000 = i by omega, show (i * 1000 + j) % 1000 = j by omega, hi]
  cases hj : G[j]? <;> simp [hj]
theorem ghAt_block {Gs : List (List Gh)} {k b : Nat} (h : b ∈ (ghAt Gs k).bs) : ∃ (G : List Gh) (x : Gh), Gs[k / 1000]? = some G ∧ G[k % 1000]? = some x ∧ b ∈ x.bs := by
  simp only [ghAt] at h
  cases hG : Gs[k / 1000]? with
  | none => rw [hG] at h; cases h
  | some G =>
    rw [hG] at h
    cases hx : G[k % 1000]? with
    | none => simp only [hx] at h; cases h
    | some x => simp only [hx] at h; exact ⟨G, x, rfl, hx, h⟩
theorem blocks_flatten_inj : ∀ {Gs : List (List Gh)}, (blocks Gs.flatten).Nodup → ∀ (i i' j j' b : Nat) (G G' : List Gh) (x x' : Gh), Gs[i]? = some G → Gs[i']? = some G' → G[j]? = some x → G'[j']? = some x' → b ∈ x.bs → b ∈ x'.bs → i = i' ∧ j = j'
  | [], _, i, i', j, j', b, G, G', x, x', h1, _, _, _, _, _ => by simp at h1
  | A :: r, hn, i, i', j, j', b, G, G', x, x', h1, h2, h3, h4, h5, h6 => by
    rw [List.flatten_cons, blocks_append] at hn
    obtain ⟨n1, n2, n3⟩ := List.nodup_append.1 hn
    have mem : ∀ (i : Nat) (G : List Gh) (j : Nat) (x : Gh), r[i]? = some G → G[j]? = some x → b ∈ x.bs → b ∈ blocks r.flatten := fun i G j x a1 a2 a3 => mem_blocks.2 ⟨x, List.mem_flatten.2 ⟨G, List.mem_of_getElem? a1, List.mem_of_getElem? a2⟩, a3⟩
    cases i with
    | zero =>
      simp at h1; subst h1
      cases i' with
      | zero => simp at h2; subst h2; exact ⟨rfl, blocks_inj n1 j j' x x' b h3 h4 h5 h6⟩
      | succ i' => exact absurd rfl (n3 b (mem_blocks.2 ⟨x, List.mem_of_getElem? h3, h5⟩) b (mem i' G' j' x' (by simpa using h2) h4 h6))
    | succ i =>
      cases i' with
      | zero => simp at h2; subst h2; exact absurd rfl (n3 b (mem_blocks.2 ⟨x', List.mem_of_getElem? h4, h6⟩) b (mem i G j x (by simpa using h1) h3 h5))
      | succ i' =>
        obtain ⟨e1, e2⟩ := blocks_flatten_inj n2 i i' j j' b G G' x x' (by simpa using h1) (by simpa using h2) h3 h4 h5 h6
        exact ⟨by omega, e2⟩

theorem initArgs_s : ∀ (as : List A) (r : Nat) (st : State) (i : Nat), slot (initArgs r as st).s i = if r ≤ i then (match as[i - r]? with | some a => (a.lay i).1 | none => slot st.s i) else slot st.s i
  | [], r, st, i => by simp [initArgs]
  | a :: as, r, st, i => by
    simp only [initArgs]
    rw [initArgs_s as (r + 1)]
    by_cases h : r ≤ i
    · by_cases h1 : r = i
      · subst h1
        simp only [Nat.le_refl, if_true, Nat.sub_self, List.getElem?_cons_zero]
        rw [if_neg (by omega), slot_put1]; simp
      · rw [if_pos (by omega), if_pos h, show i - r = (i - (r + 1)) + 1 by omega, List.getElem?_cons_succ]
        cases as[i - (r + 1)]? with
        | some a' => rfl
        | none => simp only [slot_put1]; rw [if_neg h1]
    · rw [if_neg (by omega), if_neg h, slot_put1, if_neg (by omega)]
theorem initArgs_o : ∀ (as : List A) (r : Nat) (st : State) (k : Nat) (b : Ob), look1 (initArgs r as st).o k = some b → (∃ (i : Nat) (a : A) (c : Nat), as[i]? = some a ∧ (c, b) ∈ (a.lay (r + i)).2 ∧ k = key (r + i) c) ∨ look1 st.o k = some b
  | [], r, st, k, b, h => .inr h
  | a :: as, r, st, k, b, h => by
    simp only [initArgs] at h
    rcases initArgs_o as (r + 1) _ k b h with ⟨i, a', c, h1, h2, h3⟩ | h
    · exact .inl ⟨i + 1, a', c, by simpa using h1, by rw [show r + (i + 1) = r + 1 + i by omega]; exact h2, by rw [show r + (i + 1) = r + 1 + i by omega]; exact h3⟩
    · rcases look1_putsO r _ _ k b h with ⟨c, h1, h2⟩ | ⟨_, h2⟩
      · exact .inl ⟨0, a, c, rfl, h1, h2⟩
      · exact .inr h2

theorem lay_ok {S S' : Nat → Prop} (hS : ∀ b, S b → S' b) {v : Value} {a : A} {G : List Gh} (h : RA w S v a G) {i : Nat} (hl : G.length ≤ 950) (hg : ∀ j, j < 1000 → γ (key i j) = (G[j]?).getD .no) :
    RX w S' γ v (a.lay i).1 ∧ ∀ c b, (c, b) ∈ (a.lay i).2 → RO w S' γ (key i c) b := by
  have hm : ∀ v y, Rep w S v y → Rep w S' v y := fun v y hr => hr.mono hS fun _ _ => rfl
  have hgs : ∀ {g0 : Gh} {Gs : List Gh}, G = g0 :: Gs → ∀ (j : Nat) (x : Gh), Gs[j]? = some x → γ (key i (1 + j)) = x := fun e j x hj => by
    subst e
    have := (List.getElem?_eq_some_iff.1 hj).1
    simp at hl
    rw [hg _ (by omega), show 1 + j = j + 1 by omega, List.getElem?_cons_succ, hj]; rfl
  have single : ∀ {a : AC} {G1 : Gh}, G = [.no, G1] → RAC w S none v a G1 → RX w S' γ v (layR i (.c a)).1 ∧ ∀ c b, (c, b) ∈ (layR i (.c a)).2 → RO w S' γ (key i c) b := fun e ha => by
    obtain ⟨l1, l2, _⟩ := layR_ok (γ' := γ) (S' := S') i (r := .c _) (Gs := [_]) ⟨_, rfl, ha⟩ (.inl hm) (fun j x hj _ => hgs e j x hj)
    exact ⟨l1, fun c b hb => (l2 c b hb).2.2.2⟩
  have many : ∀ {vs : Array Value} {cs : List AC} {Gs : List Gh}, G = .no :: Gs → v = .agg vs → RACs w S none vs.toList cs Gs → RX w S' γ v (layR i (.agg cs)).1 ∧ ∀ c b, (c, b) ∈ (layR i (.agg cs)).2 → RO w S' γ (key i c) b := fun e hv ha => by
    obtain ⟨l1, l2, _⟩ := layR_ok (γ' := γ) (S' := S') i (r := .agg _) ⟨_, hv, ha⟩ (.inl hm) (fun j x hj _ => hgs e j x hj)
    exact ⟨l1, fun c b hb => (l2 c b hb).2.2.2⟩
  cases a with
  | c a => obtain ⟨G1, rfl, h1⟩ := h; exact single rfl h1
  | iop q => exact ⟨⟨trivial, .inl rfl⟩, fun c b hb => by simp [A.lay] at hb⟩
  | agg cs => obtain ⟨vs, Gs, rfl, rfl, h1⟩ := h; exact many rfl rfl h1
  | ir b cs =>
    obtain ⟨Gs, rfl, h1⟩ := h
    cases b with
    | true => obtain ⟨vs, rfl, h1⟩ := h1; exact many rfl rfl h1
    | false =>
      match cs, Gs, h1 with
      | [a], [G1], h1 => exact single rfl h1.1.1
      | [], [], h1 => exact h1.elim
      | [], _ :: _, h1 => exact h1.elim
      | [_], [], h1 => exact h1.elim
      | [_], _ :: _ :: _, h1 => exact h1.2.elim
      | _ :: _ :: _, [], h1 => exact h1.elim
      | _ :: _ :: _, _ :: _, h1 => exact absurd h1.2 (by cases ‹List Gh› <;> exact fun h => h)
  | rp cs => exact ⟨⟨RP.mono hS (fun _ _ => rfl) h.2, .inr (by obtain ⟨b, off, rfl, _⟩ := h.2; rfl)⟩, fun c b hb => by simp [A.lay] at hb⟩
  | fv f l =>
    obtain ⟨rfl, vs, rfl, h2, h3⟩ := h
    exact ⟨⟨⟨vs, rfl, h2, fun i cs hi => let ⟨u, h4, h5⟩ := h3 i cs hi; ⟨u, h4, h5.mono hS fun _ _ => rfl⟩⟩, .inr rfl⟩, fun c b hb => by simp [A.lay] at hb⟩
  | io cs =>
    obtain ⟨b, Gs, rfl, rfl, cur, e, hh, hc⟩ := h
    have h0 : γ (key i 0) = .bx b := by rw [hg 0 (by omega)]; rfl
    obtain ⟨l1, l2⟩ := layA_ok (γ' := γ) (S' := S') (g := some b) i (fun b' hb => by cases hb; exact h0) (j := 1) hc (.inl hm) (fun j x hj _ => hgs rfl j x hj)
    refine ⟨⟨by simp only [RC, h0], .inr rfl⟩, fun c b' hb => ?_⟩
    simp only [A.lay, mem_appO] at hb
    rcases hb with hb | hb
    · exact (l2 c b' hb).2.2.2
    · cases hb; exact ⟨b, h0, cur, e, hh, l1⟩

theorem RAs.get {S : Nat → Prop} : ∀ {vs : List Value} {as : List A} {Gs : List (List Gh)} {i : Nat} {a : A}, RAs w S vs as Gs → as[i]? = some a → ∃ v G, vs[i]? = some v ∧ Gs[i]? = some G ∧ RA w S v a G
  | [], [], [], i, a, _, h => by simp at h
  | v :: vs, a :: as, G :: Gs, 0, a', h, hi => by simp at hi; subst hi; exact ⟨v, G, rfl, rfl, h.1⟩
  | v :: vs, a :: as, G :: Gs, i + 1, a', h, hi => by simpa using RAs.get h.2 (i := i) (by simpa using hi)
theorem RAs.lens {S : Nat → Prop} : ∀ {vs : List Value} {as : List A} {Gs : List (List Gh)}, RAs w S vs as Gs → vs.length = as.length ∧ Gs.length = as.length
  | [], [], [], _ => ⟨rfl, rfl⟩
  | _ :: _, _ :: _, _ :: _, h => by have := RAs.lens h.2; simp [this]

theorem init_rel {S : Nat → Prop} {vs : List Value} {as : List A} {Gs : List (List Gh)} (hra : RAs w S vs as Gs) (hS : ∀ b, S b → b < w.heap.size ∧ b ∉ blocks Gs.flatten) (hnd : (blocks Gs.flatten).Nodup) (hlt : ∀ b ∈ blocks Gs.flatten, b < w.heap.size) (hl : ∀ G ∈ Gs, G.length ≤ 950)
    {n : Nat} (arg : Nat → Option Value) (harg : ∀ r v, arg r = some v → vs[r]? = some v) :
    Rel ⟨w, S, fun b => b ∈ blocks Gs.flatten, arg⟩ (ghAt Gs) (slot (initArgs 0 as ⟨[], []⟩).s) (look1 (initArgs 0 as ⟨[], []⟩).o) (vs.toArray ++ Array.replicate n undef) w := by
  have hbl : ∀ k b, b ∈ (ghAt Gs k).bs → b ∈ blocks Gs.flatten := fun k b hb => by
    obtain ⟨G, x, h1, h2, h3⟩ := ghAt_block hb
    exact mem_blocks.2 ⟨x, List.mem_flatten.2 ⟨G, List.mem_of_getElem? h1, List.mem_of_getElem? h2⟩, h3⟩
  have hSh : ∀ b, S b → Env.Sh ⟨w, S, fun b => b ∈ blocks Gs.flatten, arg⟩ (ghAt Gs) w b := fun b hb => ⟨.inl hb, (hS b hb).1, fun ⟨k, hk⟩ => (hS b hb).2 (hbl k b hk)⟩
  have hlens := hra.lens
  have hget : ∀ i v, vs[i]? = some v → (vs.toArray ++ Array.replicate n undef).getD i undef = v := fun i v hv => by
    rw [Array.getD_eq_getD_getElem?, Array.getElem?_append_left (by simpa using (List.getElem?_eq_some_iff.1 hv).1)]
    simp [hv]
  have hlay : ∀ i a, as[i]? = some a → ∃ v, vs[i]? = some v ∧ RX w (Env.Sh ⟨w, S, fun b => b ∈ blocks Gs.flatten, arg⟩ (ghAt Gs) w) (ghAt Gs) v (a.lay i).1 ∧ ∀ c b, (c, b) ∈ (a.lay i).2 → RO w (Env.Sh ⟨w, S, fun b => b ∈ blocks Gs.flatten, arg⟩ (ghAt Gs) w) (ghAt Gs) (key i c) b := fun i a hi => by
    obtain ⟨v, G, h1, h2, h3⟩ := hra.get hi
    exact ⟨v, h1, lay_ok hSh h3 (hl G (List.mem_of_getElem? h2)) fun j hj => ghAt_key hj h2⟩
  refine ⟨fun i => ?_, fun k b hb => ?_, fun k k' b h1 h2 => ?_, fun k b hb => hlt b (hbl k b hb), fun k b hb => .inl (hbl k b hb), Fr.refl _ _, fun r v hr => hget r v (harg r v hr)⟩
  · rw [initArgs_s, if_pos (Nat.zero_le _), Nat.sub_zero]
    cases hi : as[i]? with
    | none => exact ⟨trivial, .inl rfl⟩
    | some a =>
      obtain ⟨v, h1, h2, _⟩ := hlay i a hi
      rw [hget i v h1]; exact h2
  · rcases initArgs_o as 0 _ k b hb with ⟨i, a, c, h1, h2, rfl⟩ | h
    · rw [Nat.zero_add] at h2 ⊢
      obtain ⟨v, _, _, h3⟩ := hlay i a h1
      exact h3 c b h2
    · simp [look1] at h
  · obtain ⟨G, x, a1, a2, a3⟩ := ghAt_block h1
    obtain ⟨G', x', b1, b2, b3⟩ := ghAt_block h2
    obtain ⟨e1, e2⟩ := blocks_flatten_inj hnd _ _ _ _ b G G' x x' a1 b1 a2 b2 a3 b3
    omega
end Go.Proofs.YthaelohccopgjaaW
/- Soundness, part 38: calls, from their code. -/
namespace Go.Proofs.YthaelohccopgjaaW
variable {P : Program} {T : Tab} {E : Env} {γ γ' : Ghs} {s s' : Nat → X} {o o' : Look} {tm : Array Value} {w w' : World}

def A.isIo : A → Bool
  | .io _ => true
  | .ir _ _ => true
  | .iop _ => true
  | _ => false
theorem mem_ioSlots {x : Nat} : ∀ {as : List A} {r : Nat}, x ∈ ioSlots r as ↔ ∃ i a, as[i]? = some a ∧ a.isIo = true ∧ x = r + i
  | [], r => by simp [ioSlots]
  | a :: as, r => by
    have ih := mem_ioSlots (x := x) (as := as) (r := r + 1)
    have key : x ∈ ioSlots r (a :: as) ↔ (a.isIo = true ∧ x = r) ∨ x ∈ ioSlots (r + 1) as := by cases a <;> simp [ioSlots, A.isIo]
    rw [key, ih]
    constructor
    · rintro (⟨h1, rfl⟩ | ⟨i, a', h1, h2, rfl⟩)
      · exact ⟨0, a, rfl, h1, rfl⟩
      · exact ⟨i + 1, a', by simpa using h1, h2, by omega⟩
    · rintro ⟨i, a', h1, h2, rfl⟩
      cases i with
      | zero => simp at h1; subst h1; exact .inl ⟨h2, rfl⟩
      | succ i => exact .inr ⟨i, a', by simpa using h1, h2, by omega⟩

theorem rowOuts_ok (h : Rel E γ s o tm w) {w0 : World} {S : Nat → Prop} {g : Option Nat} : ∀ {cs : List C} {as : List AC} {vs : List Value} {Gs : List Gh} {K : List AC → Prop}, RACs w0 S g vs as Gs → RCs w (E.Sh γ w) γ vs cs → rowOuts o cs as K →
    ∃ l, K l ∧ ROwn w (E.Sh γ w) Gs l ∧ blocks Gs = keyBlocks γ (irKeys cs as) ∧ ∀ k ∈ irKeys cs as, ∃ b, o k = some b
  | [], [], [], [], K, _, _, hq => ⟨[], hq, trivial, rfl, by simp [irKeys]⟩
  | c :: cs, a :: as, v :: vs, G :: Gs, K, hra, hrc, hq => by
    have other : (∀ es xs, a ≠ .own es xs) → rowOuts o cs as (fun l => K (.no :: l)) → G.bs = [] → ROw1 w (E.Sh γ w) G .no →
        ∃ l, K l ∧ ROwn w (E.Sh γ w) (G :: Gs) l ∧ blocks (G :: Gs) = keyBlocks γ (irKeys (c :: cs) (a :: as)) ∧ ∀ k ∈ irKeys (c :: cs) (a :: as), ∃ b, o k = some b := fun hne hq hb hG => by
      obtain ⟨l, h1, h2, h3, h4⟩ := rowOuts_ok h hra.2 hrc.2 hq
      have hir : irKeys (c :: cs) (a :: as) = irKeys cs as := by cases a <;> first | rfl | exact absurd rfl (hne _ _)
      refine ⟨_, h1, ⟨hG, h2⟩, ?_, by rw [hir]; exact h4⟩
      rw [hir, ← h3, show G :: Gs = [G] ++ Gs from rfl, blocks_append]
      simp [blocks, hb]
    cases a with
    | own es xs0 =>
      cases c <;> simp only [rowOuts] at hq <;> try exact hq.elim
      rename_i k
      simp only [rowAt_iff, chk_iff] at hq
      obtain ⟨es', xs, ho, he, hq⟩ := hq
      have he := eqN_t he
      subst he
      obtain ⟨l, h1, h2, h3, h4⟩ := rowOuts_ok h hra.2 hrc.2 hq
      have hc := hrc.1.1
      simp only [RC] at hc
      have fin : G = γ k → ROw1 w (E.Sh γ w) G (.own es xs) →
          ∃ l, K l ∧ ROwn w (E.Sh γ w) (G :: Gs) l ∧ blocks (G :: Gs) = keyBlocks γ (irKeys (.aw k :: cs) (.own es xs0 :: as)) ∧ ∀ k' ∈ irKeys (.aw k :: cs) (.own es xs0 :: as), ∃ b, o k' = some b := fun hG hro => by
        refine ⟨_, h1, ⟨hro, h2⟩, ?_, fun k' hk' => ?_⟩
        · simp only [irKeys]
          rw [show G :: Gs = [G] ++ Gs from rfl, blocks_append, show k :: irKeys cs as = [k] ++ irKeys cs as from rfl, keyBlocks_append, h3]
          congr 1
          simp only [blocks, keyBlocks, hG, List.flatMap_cons, List.flatMap_nil]
        · simp only [irKeys, List.mem_cons] at hk'
          rcases hk' with rfl | hk'
          · exact ⟨_, ho⟩
          · exact h4 k' hk'
      rcases h.objs k _ ho with ⟨hgk, rfl⟩ | ⟨gg, cap, n, hgk, hr⟩
      · rw [hgk] at hc
        obtain ⟨p, rfl⟩ := hc
        rcases hra.1.1 with ⟨rfl, _⟩ | ⟨b, cap, n, rfl, e2, hr'⟩ | ⟨b, ys, _, _, _, e2, _⟩
        · exact fin hgk.symm ⟨es, rfl⟩
        · cases e2; exact absurd hr'.cpos (by simp)
        · cases e2
      · rw [hgk] at hc
        subst hc
        rcases hra.1.1 with ⟨rfl, _, p, e2⟩ | ⟨b, cap', n', rfl, e2, hr'⟩ | ⟨b, ys, _, _, _, e2, _⟩
        · cases e2; exact absurd hr.cpos (by simp)
        · cases e2; exact fin hgk.symm ⟨xs, rfl, hr⟩
        · cases e2
    | no => have hG : G = .no := hra.1.1; subst hG; exact other (by simp) hq rfl trivial
    | self => have hG : G = .no := hra.1.1.1; subst hG; exact other (by simp) hq rfl trivial
    | op q => exact hra.1.1.elim
    | y c' => have hG : G = .no := hra.1.1.1; subst hG; exact other (by simp) hq rfl trivial
  | [], [], [], _ :: _, _, h', _, _ => h'.elim
  | [], [], _ :: _, _, _, _, h', _ => h'.elim
  | [], _ :: _, _, _, _, _, _, hq => hq.elim
  | _ :: _, [], _, _, _, _, _, hq => hq.elim
  | _ :: _, _ :: _, [], _, _, _, h', _ => h'.elim
  | _ :: _, _ :: _, _ :: _, [], _, h', _, _ => h'.elim

theorem nodup_move {used rows ks kh : List Nat} {k : List Nat} (h : ((used ++ (k ++ rows)) ++ (ks ++ kh)).Nodup) : (used ++ ((rows ++ ks) ++ (k ++ kh))).Nodup := by
  refine (List.Perm.nodup_iff ?_).1 h
  rw [List.append_assoc]
  refine List.Perm.append_left used ?_
  have : k ++ rows ++ (ks ++ kh) = k ++ ((rows ++ ks) ++ kh) := by simp [List.append_assoc]
  rw [this]
  have e1 : k ++ ((rows ++ ks) ++ kh) = (k ++ (rows ++ ks)) ++ kh := by simp [List.append_assoc]
  have e2 : (rows ++ ks) ++ (k ++ kh) = ((rows ++ ks) ++ k) ++ kh := by simp [List.append_assoc]
  rw [e1, e2]
  exact List.Perm.append_right kh List.perm_append_comm

theorem ioOuts_ok {w0 : World} {S : Nat → Prop} : ∀ {as : List A} {r : Nat} {vs : List Value} {Gs : List (List Gh)} {st : State} {used : List Nat} {K : List (List AC) → Prop}, RAs w0 S vs as Gs →
    (∀ i a v, as[i]? = some a → a.isIo = true → vs[i]? = some v → E.arg (r + i) = some v) → Fin E γ st tm w used → ioOuts r as st K →
    ∃ outs Go ks kh, K outs ∧ (used ++ (ks ++ kh)).Nodup ∧ ROuts w (E.Sh γ w) (ioG as Gs) outs Go ∧ blocks Go.flatten = keyBlocks γ ks ∧ ioB as Gs = keyBlocks γ kh
  | [], r, [], [], st, used, K, _, _, h, hq => ⟨[], [], [], [], hq, by simpa using h.nd, trivial, rfl, rfl⟩
  | a :: as, r, v :: vs, G :: Gs, st, used, K, hra, harg, h, hq => by
    have harg' : ∀ i a' v', as[i]? = some a' → a'.isIo = true → vs[i]? = some v' → E.arg (r + 1 + i) = some v' := fun i a' v' h1 h2 h3 => by
      have := harg (i + 1) a' v' (by simpa using h1) h2 (by simpa using h3)
      rwa [show r + (i + 1) = r + 1 + i by omega] at this
    have plain : a.isIo = false → ioOuts (r + 1) as st K → ∃ outs Go ks kh, K outs ∧ (used ++ (ks ++ kh)).Nodup ∧ ROuts w (E.Sh γ w) (ioG (a :: as) (G :: Gs)) outs Go ∧ blocks Go.flatten = keyBlocks γ ks ∧ ioB (a :: as) (G :: Gs) = keyBlocks γ kh := fun hio hq => by
      obtain ⟨outs, Go, ks, kh, h1, h2, h3, h4, h5⟩ := ioOuts_ok hra.2 harg' h hq
      have : ioG (a :: as) (G :: Gs) = ioG as Gs := by cases a <;> first | rfl | cases hio
      exact ⟨outs, Go, ks, kh, h1, h2, by rw [this]; exact h3, h4, by rw [ioB, this]; exact h5⟩
    -- rows that stay where they are
    have rows : ∀ {cells : List C} {cs0 : List AC} {G' : List Gh} {vs0 : List Value}, ioG (a :: as) (G :: Gs) = .rows G' :: ioG as Gs → RACs w0 S none vs0 cs0 G' → RCs w (E.Sh γ w) γ vs0 cells →
        (rowOuts (look1 st.o) cells cs0 fun l => chk (nodupN (irKeys cells cs0)) (ioOuts (r + 1) as (drops (irKeys cells cs0) st) fun t => K (l :: t))) →
        ∃ outs Go ks kh, K outs ∧ (used ++ (ks ++ kh)).Nodup ∧ ROuts w (E.Sh γ w) (ioG (a :: as) (G :: Gs)) outs Go ∧ blocks Go.flatten = keyBlocks γ ks ∧ ioB (a :: as) (G :: Gs) = keyBlocks γ kh := fun {cells cs0 G' vs0} hio h1 h2 hq => by
      obtain ⟨l, hk, h3, h4, h5⟩ := rowOuts_ok h.rel h1 h2 hq
      simp only [chk_iff] at hk
      obtain ⟨hn, hk⟩ := hk
      obtain ⟨h6, _⟩ := h.drops (nodupN_iff hn) h5
      obtain ⟨outs, Go, ks, kh, e1, e2, e3, e4, e5⟩ := ioOuts_ok hra.2 harg' h6 hk
      refine ⟨_, [] :: Go, ks, irKeys cells cs0 ++ kh, e1, ?_, ?_, by simpa using e4, ?_⟩
      · have := nodup_move (rows := []) (k := irKeys cells cs0) (by simpa using e2)
        simpa using this
      · rw [hio]; exact ⟨⟨rfl, h3⟩, e3⟩
      · rw [ioB, hio, List.flatMap_cons, blocks_append, keyBlocks_append]
        rw [show Ho.gs (.rows G') = G' from rfl, h4]
        congr 1
    cases a with
    | c a => exact plain rfl hq
    | iop q => exact hq.elim
    | agg cs => exact plain rfl hq
    | rp cs => exact plain rfl hq
    | fv f l => exact plain rfl hq
    | ir b cs0 =>
      have hv : tm.getD r undef = v := h.rel.args r v (harg 0 _ v rfl rfl rfl)
      have hslot := h.rel.slots r
      rw [hv] at hslot
      obtain ⟨G', rfl, hr⟩ := hra.1
      simp only [ioOuts] at hq
      cases hs : slot st.s r with
      | tup l => simp [hs] at hq
      | agg cells =>
        rw [hs] at hslot
        cases b with
        | false => simp [hs] at hq
        | true =>
          simp only [hs] at hq
          obtain ⟨us, rfl, hr⟩ := hr
          obtain ⟨us', e1, hc⟩ := hslot
          cases e1
          exact rows rfl hr hc hq
      | c c =>
        rw [hs] at hslot
        cases b with
        | true => simp [hs] at hq
        | false =>
          simp only [hs] at hq
          have hone : v.oneCell' = true := by
            match cs0, G', hr with
            | [a], [G1], hr => exact hr.1.2
            | [], [], hr => exact hr.elim
            | [], _ :: _, hr => exact hr.elim
            | _ :: _, [], hr => exact hr.elim
            | _ :: _, _ :: _, hr => exact hr.1.2
          exact rows (cells := [c]) rfl hr ⟨⟨hslot.1, hone⟩, trivial⟩ hq
    | io cs0 =>
      obtain ⟨b, G', rfl, rfl, _⟩ := hra.1
      have hv : tm.getD r undef = .pointer (some ⟨b, 0, none⟩) := h.rel.args r _ (harg 0 _ _ rfl rfl rfl)
      have hslot := h.rel.slots r
      rw [hv] at hslot
      simp only [ioOuts, asC_iff] at hq
      obtain ⟨c, hs, hq⟩ := hq
      rw [hs] at hslot
      cases c <;> simp only at hq <;> try exact hq.elim
      rename_i k j
      cases j with
      | succ j => exact hq.elim
      | zero =>
        simp only [boxAt_iff] at hq
        obtain ⟨cs, ho, hq⟩ := hq
        obtain ⟨gg, hgk, cur, e, hh, hcs⟩ := h.rel.objs k _ ho
        have hc := hslot.1
        simp only [RC, hgk] at hc
        cases hc
        obtain ⟨l, Gl, hk, h2, h3, _, h4⟩ := giveCs_ok (S0 := E.Sh γ w) (g := some b) (fun _ h => h) h.rel (b := some k) (fun k' e => by cases e; exact ⟨b, rfl, hgk⟩) hcs hq
        simp only [chk_iff] at hk
        obtain ⟨hn, hk⟩ := hk
        have hrowsok : ∀ k' ∈ k :: awKeys cs, ∃ b', look1 st.o k' = some b' := fun k' hk' => by
          rcases List.mem_cons.1 hk' with rfl | hk'
          · exact ⟨_, ho⟩
          · have gen : ∀ (cs : List C) (K : List AC → Prop), giveCs (look1 st.o) (some k) cs K → ∀ k' ∈ awKeys cs, ∃ b', look1 st.o k' = some b' := fun cs => by
              induction cs with
              | nil => intro K _ k' h; simp [awKeys] at h
              | cons c cs ih =>
                intro K hq k' hk'
                simp only [giveCs] at hq
                have hrest : ∃ K', giveCs (look1 st.o) (some k) cs K' := by
                  cases c <;> simp only [giveC] at hq <;> first | exact ⟨_, hq⟩ | skip
                  · simp only [rowAt_iff] at hq
                    obtain ⟨_, _, _, hq⟩ := hq
                    exact ⟨_, hq⟩
                  · rename_i k1 j1
                    cases hb : eqN k1 k <;> simp only [hb] at hq
                    · exact ⟨_, hq⟩
                    · cases j1 <;> exact ⟨_, hq⟩
                obtain ⟨K', hrest⟩ := hrest
                rw [awKeys_cons] at hk'
                rcases List.mem_append.1 hk' with hk' | hk'
                · cases c <;> simp [awKeys] at hk'
                  subst hk'
                  simp only [giveC, rowAt_iff] at hq
                  obtain ⟨_, _, ho', _⟩ := hq
                  exact ⟨_, ho'⟩
                · exact ih K' hrest k' hk'
            exact gen cs _ hq k' hk'
        obtain ⟨h6, _⟩ := h.drops (nodupN_iff hn) hrowsok
        obtain ⟨outs, Go, ks, kh, e1, e2, e3, e4, e5⟩ := ioOuts_ok hra.2 harg' h6 hk
        refine ⟨_, Gl :: Go, awKeys cs ++ ks, [k] ++ kh, e1, nodup_move (by simpa using e2), ⟨⟨cur, e, hh, h2⟩, e3⟩, ?_, ?_⟩
        · rw [List.flatten_cons, blocks_append, keyBlocks_append, h3, e4]
        · rw [ioB, show ioG (.io cs0 :: as) ((.bx b :: G') :: Gs) = .bx b :: ioG as Gs from rfl, List.flatMap_cons, blocks_append, keyBlocks_append]
          congr 1
          simp [blocks, keyBlocks, hgk, Ho.gs, Gh.bs]
  | [], _, [], _ :: _, _, _, _, h', _, _, _ => h'.elim
  | [], _, _ :: _, _, _, _, _, h', _, _, _ => h'.elim
  | _ :: _, _, [], _, _, _, _, h', _, _, _ => h'.elim
  | _ :: _, _, _ :: _, [], _, _, _, h', _, _, _ => h'.elim
end Go.Proofs.YthaelohccopgjaaW
/- Soundness, part 39: what the evaluator shows of a function's code holds of its calls. -/
namespace Go.Proofs.YthaelohccopgjaaW
variable {P : Program} {T : Tab} {E : Env} {γ γ' : Ghs} {s s' : Nat → X} {o o' : Look} {tm : Array Value} {w w' : World}

theorem opsDs_spec {n : Nat} {ps : List Nat} : ∀ {l : List Oper}, opsDs n ps l = true → ∀ oo ∈ l, ∀ d, oo.dst = some d → d < n ∧ d ∉ ps
  | [], _ => by simp
  | o :: r, h => by
    simp only [opsDs] at h
    intro oo ho d hd
    cases hdst : o.dst with
    | none =>
      simp only [hdst] at h
      rcases List.mem_cons.1 ho with rfl | ho
      · rw [hdst] at hd; cases hd
      · exact opsDs_spec h oo ho d hd
    | some d0 =>
      simp only [hdst] at h
      cases h1 : ltN d0 n with
      | false => rw [h1] at h; cases h
      | true =>
        rw [h1] at h
        cases h2 : memN d0 ps with
        | true => rw [h2] at h; cases h
        | false =>
          rw [h2] at h
          rcases List.mem_cons.1 ho with rfl | ho
          · rw [hdst] at hd; cases hd
            exact ⟨by simpa using h1, (memN_false _ _).1 h2⟩
          · exact opsDs_spec h oo ho d hd
theorem codeDs_spec {n : Nat} {ps : List Nat} {p : Oper → Prop} (hp : ∀ oo : Oper, (∀ d, oo.dst = some d → d < n ∧ d ∉ ps) → p oo) : ∀ {c : Code}, codeDs n ps c = true → codeOps p c
  | .region _ ops _, h => fun oo ho => hp oo fun d hd => opsDs_spec h oo (by simpa using ho) d hd
  | .seq a b, h => by
    simp only [codeDs] at h
    cases ha : codeDs n ps a with
    | false => rw [ha] at h; cases h
    | true => rw [ha] at h; exact ⟨codeDs_spec hp ha, codeDs_spec hp h⟩
  | .cond _ a b, h => by
    simp only [codeDs] at h
    cases ha : codeDs n ps a with
    | false => rw [ha] at h; cases h
    | true => rw [ha] at h; exact ⟨codeDs_spec hp ha, codeDs_spec hp h⟩
  | .block _ c, h => codeDs_spec (c := c) hp h
  | .loop c, h => codeDs_spec (c := c) hp h
  | .skip, _ => trivial
  | .rangeFunc _ _ _ _, _ => trivial
  | .exit _, _ => trivial
  | .scope _, _ => trivial
  | .label _, _ => trivial
  | .goto _, _ => trivial
  | .ret, _ => trivial
  | .refuse _, _ => trivial

def resAll : List Value → Value
  | [v] => v
  | l => .tuple l.toArray
theorem ResAll.length {tm : Array Value} : ∀ {rs : List ResultVar} {vs : List Value}, ResAll P w tm rs vs → vs.length = rs.length
  | [], [], _ => rfl
  | _ :: _, _ :: _, h => by simp [ResAll.length h.2]
theorem run_results {fn : Func} (tm : Array Value) {vs : List Value} (h : ResAll P w tm fn.results.toList vs) : (results fn tm).run P w = .ok (resAll vs) w := by
  have key : ∀ (F : ResultVar → Sem Value), (∀ t, F (.tmp t) = pure (tm.getD t undef)) → (∀ a t, F (.cell a t) = do loadVar t (← asAddr (tm.getD a undef))) → ∀ (l : List ResultVar) (vs : List Value), ResAll P w tm l vs → (l.mapM F).run P w = .ok vs w := fun F hF hF' l => by
    induction l with
    | nil => intro vs h; cases vs <;> first | (simp [List.mapM_nil, Sem.run_pure]; done) | exact h.elim
    | cons r l ih =>
      intro vs hl
      cases vs with
      | nil => exact hl.elim
      | cons v vs =>
        have h1 : (F r).run P w = .ok v w := by
          cases r with
          | tmp t => rw [hF, hl.1]; rfl
          | cell a t => rw [hF']; exact hl.1
        simp only [List.mapM_cons, Sem.run_bind, Sem.run_pure, Result.andThen_ok, h1, ih vs hl.2]
  unfold results
  simp only [Array.mapM_eq_mapM_toList, Sem.run_bind, map_eq_pure_bind, bind_assoc, pure_bind]
  rw [key _ (fun _ => rfl) (fun _ _ => rfl) fn.results.toList vs h]
  simp only [Result.andThen_ok, Sem.run_pure]
  congr 1
  match vs with
  | [] => rfl
  | [v] => rfl
  | v :: u :: l => simp [resAll]

theorem body_okQ (hT : TabOk P T) (hm : P.follows .mixedOrders = true) {g : Cfg} {f : FuncId} {fn : Func} {c : Code} {as : List A} {RR1 : Res → Prop} (hf : P.funcs[f]? = some fn) (hb : fn.body = some c) (hname : (fn.name == "runtime.NumGoroutine") = false)
    (hds : codeDs fn.ntmps (ioSlots 0 as) c = true) (hn : leN as.length fn.ntmps = true) (h : body prims T g (CallC P) f c fn.results.toList as RR1) : CallQ P f as RR1 where
  out w vs Gs S hra hS hnd hlt hl := by
    have hn := leN_t hn
    have hlens := hra.lens
    let arg : Nat → Option Value := fun i => if i ∈ ioSlots 0 as then vs[i]? else none
    have hrel := init_rel (n := fn.ntmps - vs.length) hra hS hnd hlt hl arg (fun i v hv => by
      by_cases e : i ∈ ioSlots 0 as
      · simpa [arg, e] using hv
      · simp [arg, e] at hv)
    refine .inl ⟨⟨fn, c, hf, hb, hname⟩, calls_of_wp hf hb ?_⟩
    have hsz : (vs.toArray ++ Array.replicate (fn.ntmps - vs.length) undef).size = fn.ntmps := by simp; omega
    refine run_ok hT hm (g := g) (fn := f) (N := fn.ntmps) (D := []) c (codeDs_spec (fun oo ho d hd => ⟨(ho d hd).1, by simp only [arg]; rw [if_neg (ho d hd).2]⟩) hds) (by simpa using hsz) rfl (by simpa using hrel) h fun e st' a' γ' w' hk h1 h2 h3 => ?_
    have fin : finish prims T fn.results.toList as st' RR1 → a'.defers = [] ∧ ∃ v, (results fn a'.tmps).run P w' = .ok v w' ∧ ∃ r, RR1 r ∧ ∃ (v' : Value) (Gr : List Gh) (Go : List (List Gh)), Ending.returned v = .returned v' ∧ Fr (fun b => b ∈ blocks Gs.flatten) w w' ∧
        (blocks (Gr ++ Go.flatten) ++ ioB as Gs).Nodup ∧ (∀ b ∈ blocks (Gr ++ Go.flatten), (b ∈ blocks Gs.flatten ∨ w.heap.size ≤ b) ∧ b < w'.heap.size) ∧
        RR w' (fun b => (S b ∨ b ∈ blocks Gs.flatten ∨ w.heap.size ≤ b) ∧ b < w'.heap.size ∧ b ∉ blocks (Gr ++ Go.flatten) ++ ioB as Gs) v' r.val Gr ∧
        ROuts w' (fun b => (S b ∨ b ∈ blocks Gs.flatten ∨ w.heap.size ≤ b) ∧ b < w'.heap.size ∧ b ∉ blocks (Gr ++ Go.flatten) ++ ioB as Gs) (ioG as Gs) r.outs Go := fun hq => by
      refine ⟨h2, ?_⟩
      obtain ⟨l, st1, γ1, ks1, Gr, vs1, hq, f1, f2, f3, f4, f5, f6⟩ := resVals_ok (P := P) hT (used := []) (⟨h3, by simp, List.nodup_nil⟩ : Fin _ γ' st' a'.tmps w' []) hq
      obtain ⟨outs, Go, ks, kh, hr, g2, g3, g4, g5⟩ := ioOuts_ok (r := 0) hra (fun i a v hi hio hv => by
        rw [Nat.zero_add]
        simp only [arg]
        rw [if_pos (mem_ioSlots.2 ⟨i, a, hi, hio, by omega⟩)]; exact hv) f1 hq
      rw [List.nil_append] at g2
      have hkeys : blocks (Gr ++ Go.flatten) ++ ioB as Gs = keyBlocks γ1 (ks1 ++ (ks ++ kh)) := by
        rw [blocks_append, f4, g4, g5, keyBlocks_append, keyBlocks_append, List.append_assoc]
      have hnd2 : (blocks (Gr ++ Go.flatten) ++ ioB as Gs).Nodup := by rw [hkeys]; exact keyBlocks_nodup f1.rel g2
      have hlv : ∀ b ∈ blocks (Gr ++ Go.flatten) ++ ioB as Gs, Lv γ1 b := fun b hb => by
        rw [hkeys] at hb
        simp only [keyBlocks, List.mem_flatMap] at hb
        obtain ⟨k, _, hk⟩ := hb
        exact ⟨k, hk⟩
      have hmono : ∀ b, Env.Sh ⟨w, S, fun b => b ∈ blocks Gs.flatten, arg⟩ γ1 w' b → (S b ∨ b ∈ blocks Gs.flatten ∨ w.heap.size ≤ b) ∧ b < w'.heap.size ∧ b ∉ blocks (Gr ++ Go.flatten) ++ ioB as Gs := fun b hb => ⟨hb.1, hb.2.1, fun hb' => hb.2.2 (hlv b hb')⟩
      have hres := run_results (P := P) (w := w') a'.tmps f6
      refine ⟨_, hres, ⟨resOf l, outs⟩, hr, _, Gr, Go, rfl, f1.rel.fr, hnd2, fun b hb => ?_, ?_, ?_⟩
      · obtain ⟨k, hk⟩ := hlv b (List.mem_append_left _ hb)
        exact ⟨f1.rel.own k b hk, f1.rel.lt k b hk⟩
      · have ht := f3.mono hmono
        match l, vs1, ht with
        | [], [], ht => exact ⟨#[], rfl, ht⟩
        | [q], [v], ht =>
          obtain ⟨G1, G2, rfl, e1, e2⟩ := ht
          have : G2 = [] := by cases G2 with
            | nil => rfl
            | cons x y => exact e2.elim
          subst this
          obtain ⟨b, cs⟩ := q
          simp only [List.append_nil] at *
          cases b with
          | true => exact e1
          | false =>
            obtain ⟨a, G, rfl, rfl, e3⟩ := e1
            exact ⟨G, rfl, e3⟩
        | q :: q' :: l', v :: v' :: vs', ht => exact ⟨_, rfl, ht⟩
        | [], _ :: _, ht => exact (by cases Gr <;> exact ht.elim)
        | _ :: _, [], ht => exact (by cases Gr <;> exact ht.elim)
        | [_], _ :: _ :: _, ht => obtain ⟨G1, G2, _, _, e2⟩ := ht; exact (by cases G2 <;> exact e2.elim)
        | _ :: _ :: _, [_], ht => obtain ⟨G1, G2, _, _, e2⟩ := ht; exact (by cases G2 <;> exact e2.elim)
      · have gen : ∀ (hos : List Ho) (outs : List (List AC)) (Go : List (List Gh)) (S1 S2 : Nat → Prop), (∀ b, S1 b → S2 b) → ROuts w' S1 hos outs Go → ROuts w' S2 hos outs Go := fun hos => by
          induction hos with
          | nil => intro outs Go S1 S2 hs h'; cases outs <;> cases Go <;> first | exact h' | exact h'.elim
          | cons ho hos ih =>
            intro outs Go S1 S2 hs h'
            cases outs with
            | nil => cases Go <;> exact h'.elim
            | cons cs outs => cases Go with
              | nil => exact h'.elim
              | cons G Go =>
                refine ⟨?_, ih _ _ _ _ hs h'.2⟩
                cases ho with
                | bx b => obtain ⟨cur, e, h4, h5⟩ := h'.1; exact ⟨cur, e, h4, h5.mono hs⟩
                | op v => exact h'.1
                | rows Gs =>
                  refine ⟨h'.1.1, ?_⟩
                  have own : ∀ (Gs : List Gh) (cs : List AC), ROwn w' S1 Gs cs → ROwn w' S2 Gs cs := fun Gs => by
                    induction Gs with
                    | nil => intro cs h'; cases cs <;> first | exact h' | exact h'.elim
                    | cons G Gs ih =>
                      intro cs h'
                      cases cs with
                      | nil => exact h'.elim
                      | cons a as =>
                        refine ⟨?_, ih as h'.2⟩
                        cases G with
                        | row b es cap n => obtain ⟨xs, e, hr⟩ := h'.1; exact ⟨xs, e, hr.mono' hs⟩
                        | nil => exact h'.1
                        | no => trivial
                        | tr v l nd => trivial
                        | bx b => trivial
                  exact own Gs cs h'.1.2
        exact gen _ _ _ _ _ hmono g3
    cases e with
    | normal => exact fin hk
    | ret => exact fin hk
    | exit i => exact hk.elim
theorem body_ok (hT : TabOk P T) (hm : P.follows .mixedOrders = true) {g : Cfg} {f : FuncId} {fn : Func} {c : Code} {as : List A} {r : Res} (hf : P.funcs[f]? = some fn) (hb : fn.body = some c) (hname : (fn.name == "runtime.NumGoroutine") = false)
    (hds : codeDs fn.ntmps (ioSlots 0 as) c = true) (hn : leN as.length fn.ntmps = true) (h : body prims T g (CallC P) f c fn.results.toList as (fun r' => r' = r)) : CallOK P f as r := (body_okQ hT hm hf hb hname hds hn h).one
end Go.Proofs.YthaelohccopgjaaW
/- Soundness, part 40: what a call's arguments are, as they are read. -/
namespace Go.Proofs.YthaelohccopgjaaW
variable {P : Program}

/-- What is read as t says of cells. -/
def Opens (P : Program) (n : Nat) (t : TypeId) (R : List Y → Prop) : Prop := ∀ {H : Type} (enc : TypeId × Value → H) (w : World) (base : Nat) (spare : Nat → Bool) (held : Bool) (cs : List Value) (x : DataW H × List MemPlace),
  DataW.trod enc P w base spare held n t cs = some x → ∃ ys, RYs w (fun b => b < w.heap.size) cs ys ∧ R ys
theorem opens_int {n : Nat} {t : TypeId} {k : IntKind} (ht : P.underlying t = some (.int k)) : Opens P n t (fun ys => ∃ a, (Lit.int k a).wf = true ∧ ys = [.sc (.int k a)]) := by
  intro H enc w base spare held cs x h
  obtain ⟨a, rfl, _, hw⟩ := DataW.trod_int ht h
  exact ⟨[.sc (.int k a)], ⟨.sc _ rfl, trivial⟩, a, hw, rfl⟩
theorem opens_bool {n : Nat} {t : TypeId} (ht : P.underlying t = some .bool) : Opens P n t (fun ys => ∃ a, ys = [.sc (.bool a)]) := by
  intro H enc w base spare held cs x h
  obtain ⟨a, rfl, _⟩ := DataW.trod_bool ht h
  exact ⟨[.sc (.bool a)], ⟨.sc _ rfl, trivial⟩, a, rfl⟩
theorem opens_string {n : Nat} {t : TypeId} (ht : P.underlying t = some .string) : Opens P n t (fun ys => ∃ a : ByteArray, a.size ≤ maxLen ∧ ys = [.sc (.string a)]) := by
  intro H enc w base spare held cs x h
  obtain ⟨a, rfl, _, hw⟩ := DataW.trod_string ht h
  exact ⟨[.sc (.string a)], ⟨.sc _ rfl, trivial⟩, a, hw, rfl⟩
theorem RYs.length {w : World} {S : Nat → Prop} : ∀ {vs : List Value} {ys : List Y}, RYs w S vs ys → ys.length = vs.length
  | [], [], _ => rfl
  | _ :: _, _ :: _, h => by simp [RYs.length h.2]
theorem RYs.get {w : World} {S : Nat → Prop} : ∀ {vs : List Value} {ys : List Y} {j : Nat} {y : Y}, RYs w S vs ys → ys[j]? = some y → ∃ v, vs[j]? = some v ∧ Rep w S v y
  | [], [], j, y, _, h => by simp at h
  | v :: vs, y :: ys, 0, y', h, hj => by simp at hj; subst hj; exact ⟨v, rfl, h.1⟩
  | v :: vs, y :: ys, j + 1, y', h, hj => by simpa using RYs.get h.2 (j := j) (by simpa using hj)
theorem opens_slice {n : Nat} {t e es : Nat} (ht : P.underlying t = some (.slice e)) (hc : P.cellsOf e = es) (hp : 0 < es) {R : List Y → Prop} (h : ∀ m, m < n → Opens P m e R) :
    Opens P n t (fun ys => ∃ xs, ys = [.sl es xs] ∧ xs.length ≤ maxLen ∧ ∀ x ∈ xs, x.length = es ∧ R x) := by
  intro H enc w base spare held cs x hx
  rcases DataW.trod_slice ht hx with ⟨rfl, _⟩ | ⟨a, len, cap, elems, rest, m, rfl, rfl, _, _, hl, hm, hel, hcell, _⟩
  · exact ⟨[.sl es []], ⟨.sl0 _ _ _, trivial⟩, [], rfl, by simp, by simp⟩
  · by_cases h0 : len = 0
    · subst h0
      exact ⟨[.sl es []], ⟨.sl0 _ _ _, trivial⟩, [], rfl, by simp, by simp⟩
    · have one : ∀ i, i < len → ∃ (cs' : List Value) (ys : List Y), (∀ j, j < es → ∃ v, cs'[j]? = some v ∧ w.cell? ((a.add (i * es)).add j) = some v) ∧ cs'.length = es ∧ RYs w (fun b => b < w.heap.size) cs' ys ∧ R ys := fun i hi => by
        have h1 := hcell i hi
        rw [List.getElem?_eq_getElem (by omega)] at h1
        obtain ⟨cs', h2, h3⟩ := Option.bind_eq_some_iff.1 h1
        obtain ⟨ys, h4, h5⟩ := h m (by omega) enc w base spare held cs' _ h3
        obtain ⟨_, h6, h7⟩ := World.cells?_some h2
        rw [hc] at h6 h7
        refine ⟨cs', ys, fun j hj => ?_, h6, h4, h5⟩
        have := h7 j hj
        rw [List.getElem?_eq_getElem (by omega)] at this
        exact ⟨cs'[j], List.getElem?_eq_getElem (by omega), this⟩
      have one' : ∀ i, ∃ p : List Value × List Y, i < len → (∀ j, j < es → ∃ v, p.1[j]? = some v ∧ w.cell? ((a.add (i * es)).add j) = some v) ∧ p.1.length = es ∧ RYs w (fun b => b < w.heap.size) p.1 p.2 ∧ R p.2 := fun i => by
        by_cases hi : i < len
        · obtain ⟨cs', ys, h1⟩ := one i hi
          exact ⟨(cs', ys), fun _ => h1⟩
        · exact ⟨([], []), fun h => absurd h hi⟩
      obtain ⟨F, hF⟩ : ∃ F : Nat → List Value × List Y, ∀ i, i < len → (∀ j, j < es → ∃ v, (F i).1[j]? = some v ∧ w.cell? ((a.add (i * es)).add j) = some v) ∧ (F i).1.length = es ∧ RYs w (fun b => b < w.heap.size) (F i).1 (F i).2 ∧ R (F i).2 :=
        ⟨fun i => (one' i).choose, fun i => (one' i).choose_spec⟩
      have hspot : a.spot = none ∧ a.block < w.heap.size := by
        obtain ⟨v, _, h2⟩ := (hF 0 (by omega)).1 0 hp
        have e0 : ∀ a : Addr, a.add 0 = a := fun a => by simp [Addr.add]
        rw [Nat.zero_mul, e0, e0] at h2
        have hb := World.block_lt_of_cell? w _ h2
        refine ⟨?_, hb⟩
        simp only [World.cell?] at h2
        split at h2
        · cases hs : a.spot with
          | none => rfl
          | some q => rw [hs] at h2; simp at h2
        · cases h2
      obtain ⟨b, off, sp⟩ := a
      obtain ⟨rfl, hb⟩ := hspot
      refine ⟨[.sl es ((List.range len).map fun i => (F i).2)], ⟨?_, trivial⟩, _, rfl, by simp; omega, fun x hx => ?_⟩
      · have hxs : ∀ (i : Nat) (x : List Y), ((List.range len).map fun i => (F i).2)[i]? = some x → i < len ∧ x = (F i).2 := fun i x hi => by
          rw [List.getElem?_map] at hi
          by_cases hlt : i < len
          · rw [List.getElem?_range hlt] at hi; simp at hi; exact ⟨hlt, hi.symm⟩
          · rw [List.getElem?_eq_none (by simp; omega)] at hi; cases hi
        have := @Rep.sl w (fun b => b < w.heap.size) b off cap es ((List.range len).map fun i => (F i).2) (fun i j => ((F i).1[j]?).getD undef) hb (by simp; exact hl) hp
          (fun i x hi => by obtain ⟨h1, rfl⟩ := hxs i x hi; rw [RYs.length (hF i h1).2.2.1, (hF i h1).2.1]) (fun i x j y hi hj => by
            obtain ⟨h1, rfl⟩ := hxs i x hi
            have hjl : j < es := by rw [← (hF i h1).2.1, ← RYs.length (hF i h1).2.2.1]; exact (List.getElem?_eq_some_iff.1 hj).1
            obtain ⟨v, h3, h4⟩ := (hF i h1).1 j hjl
            rw [h3]
            rw [add_lit, add_lit] at h4
            rw [show off + (i * es + j) = off + i * es + j by omega]; exact h4) (fun i x j y hi hj => by
            obtain ⟨h1, rfl⟩ := hxs i x hi
            obtain ⟨v, h3, h4⟩ := (hF i h1).2.2.1.get hj
            rw [h3]; exact h4)
        simpa using this
      · obtain ⟨i, hi, rfl⟩ := List.mem_map.1 hx
        have hi := List.mem_range.1 hi
        exact ⟨by rw [RYs.length (hF i hi).2.2.1, (hF i hi).2.1], (hF i hi).2.2.2⟩

/-- Parts, one behind the other. -/
def RParts : List (List Y → Prop) → List Y → Prop
  | [], ys => ys = []
  | R :: Rs, ys => ∃ a b, ys = a ++ b ∧ R a ∧ RParts Rs b
/-- Fields stand one behind the other from 'off' to 'n'. -/
def contig (P : Program) : Nat → List Field → Nat → Bool
  | off, [], n => off == n
  | off, f :: fs, n => f.offset == off && contig P (off + P.cellsOf f.type) fs n
def OpensAll (P : Program) (n : Nat) : List Field → List (List Y → Prop) → Prop
  | [], [] => True
  | f :: fs, R :: Rs => Opens P n f.type R ∧ OpensAll P n fs Rs
  | _, _ => False
theorem RYs.append {w : World} {S : Nat → Prop} : ∀ {vs us : List Value} {ys zs : List Y}, RYs w S vs ys → RYs w S us zs → RYs w S (vs ++ us) (ys ++ zs)
  | [], _, [], _, _, h => h
  | _ :: _, _, _ :: _, _, h, h' => ⟨h.1, RYs.append h.2 h'⟩
theorem opens_struct {n : Nat} {t : TypeId} {fs : Array Field} (ht : P.underlying t = some (.struct fs)) (hco : contig P 0 fs.toList (P.cellsOf t) = true) {Rs : List (List Y → Prop)} (h : ∀ m, m < n → OpensAll P m fs.toList Rs) : Opens P n t (RParts Rs) := by
  intro H enc w base spare held cs x hx
  obtain ⟨xs, m, rfl, _, hlen, hxl, hf⟩ := DataW.trod_struct ht hx
  have key : ∀ (fl : List Field) (Rs : List (List Y → Prop)) (off i : Nat), OpensAll P m fl Rs → contig P off fl cs.length = true → fs.toList.drop i = fl → off ≤ cs.length → ∃ ys, RYs w (fun b => b < w.heap.size) (cs.drop off) ys ∧ RParts Rs ys := by
    intro fl
    induction fl with
    | nil =>
      intro Rs off i ho hc _ _
      cases Rs with
      | cons R Rs => exact ho.elim
      | nil =>
        simp only [contig, beq_iff_eq] at hc
        rw [hc, List.drop_length]
        exact ⟨[], trivial, rfl⟩
    | cons f fl ih =>
      intro Rs off i ho hc hd hle
      cases Rs with
      | nil => exact ho.elim
      | cons R Rs =>
        simp only [contig, Bool.and_eq_true, beq_iff_eq] at hc
        have hfi : fs[i]? = some f := by
          have : (fs.toList.drop i)[0]? = some f := by rw [hd]; rfl
          simpa using this
        have hd' : fs.toList.drop (i + 1) = fl := by
          have := congrArg (List.drop 1) hd
          simpa [List.drop_drop] using this
        have h1 := hf i f hfi
        have hi := (Array.getElem?_eq_some_iff.1 hfi).1
        rw [List.getElem?_eq_getElem (by omega), hc.1] at h1
        obtain ⟨ys, h2, h3⟩ := ho.1 enc w base spare held _ _ h1
        have hle' : off + P.cellsOf f.type ≤ cs.length := by
          have gen : ∀ (fl : List Field) (off : Nat), contig P off fl cs.length = true → off ≤ cs.length := fun fl => by
            induction fl with
            | nil => intro off h; simp only [contig, beq_iff_eq] at h; omega
            | cons g fl ih => intro off h; simp only [contig, Bool.and_eq_true] at h; have := ih _ h.2; omega
          exact gen fl _ hc.2
        obtain ⟨zs, h4, h5⟩ := ih Rs (off + P.cellsOf f.type) (i + 1) ho.2 hc.2 hd' hle'
        refine ⟨ys ++ zs, ?_, ys, zs, rfl, h3, h5⟩
        have := h2.append h4
        rwa [← List.drop_drop, List.take_append_drop] at this
  have := key fs.toList Rs 0 0 (h m (by omega)) (by rw [hlen]; exact hco) (by simp) (Nat.zero_le _)
  simpa using this

/-! ### Arguments -/
def argOf (ys : List Y) (agg : Bool) : A := match agg with
  | true => .agg (viewA.mapAC ys)
  | false => match ys with
    | y :: _ => .c (.y y)
    | [] => .c .no
theorem RYs.racs {w : World} {S : Nat → Prop} : ∀ {vs : List Value} {ys : List Y}, RYs w S vs ys → RACs w S none vs (viewA.mapAC ys) (List.replicate ys.length .no)
  | [], [], _ => trivial
  | _ :: _, _ :: _, h => ⟨⟨⟨rfl, h.1⟩, h.1.one⟩, RYs.racs h.2⟩
theorem blocks_no : ∀ n, blocks (List.replicate n .no) = []
  | 0 => rfl
  | n + 1 => by simpa [blocks, List.replicate_succ, Gh.bs] using blocks_no n

/-- One argument, opened. -/
theorem arg_open {H : Type} {enc : TypeId × Value → H} {w : World} {base b0 : Nat} {spare : Nat → Bool} {held : Bool} {t : TypeId} {v : Value} {d : DataW H} {ps : List MemPlace} {R : List Y → Prop} (hR : ∀ n, Opens P n t R) {r : Reach}
    (hv : Value.okWide P w r b0 t v) (h : DataW.Trod enc P w base spare held t v d ps) {agg : Bool} (hagg : (match P.underlying t with | some (.struct _) => true | some (.array _ _) => true | _ => false) = agg) :
    ∃ ys G, R ys ∧ RA w (fun b => b < w.heap.size) v (argOf ys agg) G ∧ blocks G = [] ∧ G.length ≤ ys.length + 2 := by
  obtain ⟨n, hn⟩ := h
  obtain ⟨ys, h1, h2⟩ := hR n enc w base spare held _ _ hn
  cases agg with
  | true =>
    have : ∃ cs, v = .agg cs := by
      unfold Value.okWide at hv
      cases hu : P.underlying t with
      | none => rw [hu] at hagg; cases hagg
      | some u => rw [hu] at hagg hv; cases u <;> first | (cases hagg; done) | (obtain ⟨cs, hcs, _⟩ := hv; exact ⟨cs, hcs⟩)
    obtain ⟨cs, rfl⟩ := this
    exact ⟨ys, .no :: List.replicate ys.length .no, h2, ⟨cs, _, rfl, rfl, RYs.racs (by simpa [Value.cells] using h1)⟩, by simpa [blocks, Gh.bs] using blocks_no ys.length, by simp⟩
  | false =>
    have hone : v.oneCell' = true := by
      unfold Value.okWide at hv
      have hv' : Cell.okWide P w r b0 t v := by
        cases hu : P.underlying t with
        | none => rw [hu] at hv; exact hv
        | some u => rw [hu] at hagg hv; cases u <;> first | exact hv | cases hagg
      cases v <;> first | rfl | skip
      all_goals
        exfalso
        unfold Cell.okWide at hv'
        cases hu : P.underlying t with
        | none => rw [hu] at hv'; simp [Cell.ok, hu] at hv'
        | some u => rw [hu] at hv'; cases u <;> simp [Cell.ok, hu] at hv'
    have hc : v.cells = #[v] := Value.cells_one hone
    rw [hc] at h1
    cases ys with
    | nil => exact h1.elim
    | cons y ys => exact ⟨y :: ys, [.no, .no], h2, ⟨.no, rfl, rfl, h1.1⟩, rfl, by simp⟩
end Go.Proofs.YthaelohccopgjaaW
/- Soundness, part 41: a row, from a call. -/
namespace Go.Proofs.YthaelohccopgjaaW
open Go.ChangeShapes Go.WideShapes Go.ChangeAt Go.RowKit

/-- What is said of a parameter: its type, whether it is an aggregate, what its cells are. -/
structure Par where
  t : TypeId
  agg : Bool
  R : List Y → Prop
structure ParOk (P : Program) (p : Par) : Prop where
  opens : ∀ n, Opens P n p.t p.R
  agg : (match P.underlying p.t with | some (.struct _) => true | some (.array _ _) => true | _ => false) = p.agg
  len : ∀ ys, p.R ys → ys.length ≤ 900
def ParsR : List Par → List (List Y) → Prop
  | [], [] => True
  | p :: ps, ys :: yss => p.R ys ∧ ParsR ps yss
  | _, _ => False
def argsOf : List Par → List (List Y) → List A
  | p :: ps, ys :: yss => argOf ys p.agg :: argsOf ps yss
  | _, _ => []

theorem args_open {P : Program} {H : Type} {enc : TypeId × Value → H} {w : World} {base b0 : Nat} {spare : Nat → Bool} {held : Bool} {r : Reach} : ∀ {ps : List Par} {vs : List Value} {ds : List (DataW H)} {pl : List MemPlace}, (∀ p ∈ ps, ParOk P p) →
    (∀ (j : Nat) (t : TypeId) (v : Value), (ps.map Par.t)[j]? = some t → vs[j]? = some v → Value.okWide P w r b0 t v) → DataW.TrodAll enc P w base spare held (ps.map Par.t) vs ds pl →
    ∃ yss Gs, ParsR ps yss ∧ RAs w (fun b => b < w.heap.size) vs (argsOf ps yss) Gs ∧ blocks Gs.flatten = [] ∧ (∀ G ∈ Gs, G.length ≤ 950) ∧ ds.length = ps.length
  | [], [], [], pl, _, _, _ => ⟨[], [], trivial, trivial, rfl, by simp, rfl⟩
  | p :: ps, v :: vs, d :: ds, pl, hp, hv, h => by
    obtain ⟨q1, q2, h1, h2, _⟩ := h
    have hpo := hp p (.head _)
    obtain ⟨ys, G, h3, h4, h5, h6⟩ := arg_open hpo.opens (hv 0 p.t v rfl rfl) h1 hpo.agg
    obtain ⟨yss, Gs, h7, h8, h9, h10, h11⟩ := args_open (fun q hq => hp q (.tail _ hq)) (fun j t v h1 h2 => hv (j + 1) t v (by simpa using h1) (by simpa using h2)) h2
    refine ⟨ys :: yss, G :: Gs, ⟨h3, h7⟩, ⟨h4, h8⟩, ?_, fun G' hG => ?_, by simp [h11]⟩
    · rw [List.flatten_cons, blocks_append, h5, h9]; rfl
    · rcases List.mem_cons.1 hG with rfl | hG
      · have := hpo.len ys h3; omega
      · exact h10 G' hG
  | [], [], _ :: _, _, _, _, h => h.elim
  | [], _ :: _, _, _, _, _, h => h.elim
  | _ :: _, [], _, _, _, _, h => h.elim
  | _ :: _, _ :: _, [], _, _, _, h => h.elim

theorem row_of_call {C : Checked} {f : FuncId} {fn : Func} {s : ChangeSpec} {conds : List PathCond} {os : Os} {H : Type} {enc : TypeId × Value → H} (own : ownKnob C.prog.godebug = none) (started : os.Started) (hi : C.prog.inits.idxOf? f = none) (hf : C.prog.funcs[f]? = some fn)
    (hwit : ∃ (w : World) (tape : Tape) (i : Input), w.os = os ∧ World.Shaped C.prog (w.forCall tape i) ∧ i.vars = [] ∧ Input.okWide C.prog (w.forCall tape i) Reach.any w.heap.size f i ∧
      ChangeSpec.pre6 enc C.prog fn s conds false (w.forCall tape i).memory i.args ∧ ({} : Assume).holds C.prog (lone (Frame.enter C.prog f i.args CallKind.normal) [] (w.forCall tape i)))
    (hbody : fn.body.isSome = true) (hvars : s.vars = []) {tb : TypeId} (hres : fn.resultTypes = #[tb]) (htb : C.prog.underlying tb = some .bool) {ps : List Par} (hps : fn.params.toList = ps.map Par.t)
    (hspec : ∀ ds : List (DataW H), ds.length = ps.length → s.fn H ds = { results := [.lit (.bool true)], args := ds })
    (hl : laidOutB C.prog = true) (hm : mapsRowed C.prog = true) (hz : ((List.range C.prog.types.size).all fun t => match C.prog.underlying t with | some (.slice e) => decide (0 < C.prog.cellsOf e) | _ => true) = true)
    (hts : (ps.map Par.t).all (fun t => ltN t C.prog.types.size) = true) (hpo : ∀ p ∈ ps, ParOk C.prog p)
    (hcall : ∀ yss, ParsR ps yss → CallOK C.prog f (argsOf ps yss) ⟨.c (.y (.sc (.bool true))), []⟩) :
    ReturnsInHanded {} C os f .any (s.pre6 enc C.prog fn conds false) (s.post enc C.prog fn false true false false) := by
  refine returnsInHanded_of_change_sized (C := C) own started hi hf hwit ?_
  intro W base args ds gs before hval hW _ _ _
  have hW' := hW
  obtain ⟨p, q, hA, hV, rfl, hfz, hnd⟩ := hW
  rw [hps] at hA
  rw [hvars] at hV
  have hgs : gs = [] := by cases gs with
    | nil => rfl
    | cons a b => exact hV.elim
  subst hgs
  have hval' : ∀ (j : Nat) (t : TypeId) (v : Value), (ps.map Par.t)[j]? = some t → args.toList[j]? = some v → Value.okWide C.prog W Reach.any base t v := fun j t v h1 h2 => hval j t v (by rw [← hps] at h1; simpa using h1) (by simpa using h2)
  obtain ⟨yss, Gs, h1, h2, h3, h4, h5⟩ := args_open hpo hval' hA
  have hc := (hcall yss h1).out W args.toList Gs (fun b => b < W.heap.size) h2 (fun b hb => ⟨hb, by rw [h3]; simp⟩) (by rw [h3]; exact List.nodup_nil) (by rw [h3]; simp) h4
  rw [show args.toList.toArray = args from rfl] at hc
  have hc := hc.elim And.right fun ⟨⟨fn', h1, h2⟩, _⟩ => by rw [hf] at h1; cases h1; rw [h2] at hbody; cases hbody
  refine hc.mono fun e W' ⟨v, Gr, Go, he, hfr, _, _, hr, _⟩ => ?_
  subst he
  obtain ⟨G, _, _, hrep⟩ := hr
  have hv : v = .bool true := by cases hrep; rfl
  subst hv
  have hbel : Below W.heap.size W W' := ⟨hfr.os, hfr.tape, hfr.output, hfr.size, fun b hb => hfr.block b hb (by rw [h3]; simp)⟩
  have hsp := hspec ds h5
  have hres1 : Value.resultList fn.resultTypes.size (.bool true) = [.bool true] := by rw [hres]; rfl
  have hrt : fn.resultTypes.toList = [tb] := by rw [hres]
  have hAll : ∀ {ts : List TypeId} {vs : List Value} {ds : List (DataW H)} {pl : List MemPlace}, DataW.TrodAll enc C.prog W 0 (fun _ => true) true ts vs ds pl → (∀ t ∈ ts, t < C.prog.types.size) → DataW.TrodAll enc C.prog W' 0 (fun b => decide (b < W.heap.size)) true ts vs ds pl := fun {ts vs ds pl} h ht => by
    have h' : DataW.TrodAll enc C.prog W 0 (fun b => decide (b < W.heap.size)) true ts vs ds pl :=
      DataW.TrodAll.respare (T := (· < C.prog.types.size)) (kids_rows hl hm) (fun t e ht hu => slices_full_of C.prog hz t e ht hu) ht h (fun p hp => by simpa using h.lt p hp)
    have carry : ∀ {ts : List TypeId} {vs : List Value} {ds : List (DataW H)} {pl : List MemPlace}, DataW.TrodAll enc C.prog W 0 (fun b => decide (b < W.heap.size)) true ts vs ds pl → (∀ p ∈ pl, p.block < W.heap.size) → DataW.TrodAll enc C.prog W' 0 (fun b => decide (b < W.heap.size)) true ts vs ds pl := fun {ts} => by
      induction ts with
      | nil => intro vs ds pl h _; cases vs <;> cases ds <;> first | exact h | exact h.elim
      | cons t ts ih =>
        intro vs ds pl h hlt
        cases vs with
        | nil => exact h.elim
        | cons v vs => cases ds with
          | nil => exact h.elim
          | cons d ds =>
            obtain ⟨p, q, ⟨n, h1⟩, h2, rfl⟩ := h
            exact ⟨p, q, ⟨n, DataW.trod_carry _ _ _ _ h1 fun x hx => hbel.same (hlt x (List.mem_append_left _ hx))⟩, ih h2 fun x hx => hlt x (List.mem_append_right _ hx), rfl⟩
    exact carry h' fun p hp => h.lt p hp
  have hts' : ∀ t ∈ ps.map Par.t, t < C.prog.types.size := fun t ht => by have := List.all_eq_true.1 hts t ht; simpa using this
  refine ⟨_, rfl, ds, [], p ++ q, [], p, [], hW', ?_, ?_, ?_, hbel.frame _, fun h => by cases h⟩
  · rw [List.append_nil, hsp, hres1, hrt]
    exact trodAll_mk1 (shut_bool htb true)
  · rw [List.append_nil, hsp, hps]
    exact hAll hA hts'
  · rw [List.append_nil, hsp, hvars]; rfl
end Go.Proofs.YthaelohccopgjaaW
/- Soundness, part 42: the table of types, looked through; loops. -/
namespace Go.Proofs.YthaelohccopgjaaW

def zeroB : List Value → List C → Bool
  | [], [] => true
  | v :: vs, c :: cs => (match c with
    | .mt _ => (match v with
      | .slice a n m => a.isNone && n == 0 && m == 0
      | _ => false)
    | .y (.sc u) => u.oneCell' && (match v, u with
      | .int j a, .int k b => decide (j = k) && a == b
      | .bool a, .bool b => a == b
      | .string a, .string b => a.data.toList == b.data.toList
      | .pointer none, .pointer none => true
      | .nilFunc, .nilFunc => true
      | _, _ => false)
    | _ => false) && zeroB vs cs
  | _, _ => false
theorem zeroB_ok : ∀ {vs : List Value} {cs : List C}, zeroB vs cs = true → zeroC vs cs
  | [], [], _ => trivial
  | v :: vs, c :: cs, h => by
    simp only [zeroB, Bool.and_eq_true] at h
    refine ⟨?_, zeroB_ok h.2⟩
    have h1 := h.1
    cases c with
    | mt es =>
      cases v <;> simp at h1
      rename_i a n m
      obtain ⟨⟨h2, h3⟩, h4⟩ := h1
      subst h2 h3 h4
      rfl
    | y y =>
      cases y with
      | sl es xs => simp at h1
      | sc u =>
        simp only [Bool.and_eq_true] at h1
        refine ⟨?_, h1.1⟩
        have h2 := h1.2
        cases v <;> cases u <;> simp at h2 <;> first | (obtain ⟨rfl, rfl⟩ := h2; rfl) | (subst h2; rfl) | skip
        · rename_i a b
          cases a; cases b
          congr 1
          congr 1
          first | exact Array.ext' (by simpa using h2) | skip
        · rename_i a b
          cases a <;> cases b <;> simp at h2
          rfl
        first | rfl | skip
    | _ => simp at h1
  | [], _ :: _, h => by simp [zeroB] at h
  | _ :: _, [], h => by simp [zeroB] at h

def descB (P : Program) (t : TypeId) (f : TypeDesc → Bool) : Bool := match P.underlying t with
  | some d => f d
  | none => false
def isIntD (k : IntKind) : TypeDesc → Bool
  | .int j => decide (j = k)
  | _ => false
def isStrD : TypeDesc → Bool
  | .string => true
  | _ => false
def isBoolD : TypeDesc → Bool
  | .bool => true
  | _ => false
def isAnyInt : TypeDesc → Bool
  | .int _ => true
  | _ => false
def fldCmpB (P : Program) : Nat → List Field → List Nat → Bool
  | _, [], [] => true
  | j, f :: fs, k :: ks => (f.name != "_") && (f.offset == j) && (match k with
    | 1 => descB P f.type isAnyInt
    | 2 => descB P f.type isStrD
    | 3 => descB P f.type isBoolD
    | _ => true) && fldCmpB P (j + 1) fs ks
  | _, _, _ => false
theorem fldCmpB_ok {P : Program} : ∀ {fs : List Field} {ks : List Nat} {j : Nat}, fldCmpB P j fs ks = true → fldCmp P j fs ks
  | [], [], _, _ => trivial
  | f :: fs, k :: ks, j, h => by
    simp only [fldCmpB, Bool.and_eq_true, bne_iff_ne, beq_iff_eq] at h
    obtain ⟨⟨⟨h1, h2⟩, h3⟩, h4⟩ := h
    refine ⟨h1, h2, fun e => ?_, fun e => ?_, fun e => ?_, fldCmpB_ok h4⟩
    · subst e
      simp only [descB] at h3
      cases hu : P.underlying f.type with
      | none => rw [hu] at h3; cases h3
      | some d => rw [hu] at h3; cases d <;> simp [isAnyInt] at h3; exact ⟨_, rfl⟩
    · subst e
      simp only [descB] at h3
      cases hu : P.underlying f.type with
      | none => rw [hu] at h3; cases h3
      | some d => rw [hu] at h3; cases d <;> simp [isStrD] at h3; rfl
    · subst e
      simp only [descB] at h3
      cases hu : P.underlying f.type with
      | none => rw [hu] at h3; cases h3
      | some d => rw [hu] at h3; cases d <;> simp [isBoolD] at h3; rfl
  | [], _ :: _, _, h => by simp [fldCmpB] at h
  | _ :: _, [], _, h => by simp [fldCmpB] at h
def fldsB (P : Program) : List Field → List (Nat × Nat × Bool) → Bool
  | [], [] => true
  | f :: fs, x :: xs => f.offset == x.1 && P.cellsOf f.type == x.2.1 && (match P.info? f.type with
    | some i => i.size == x.2.1
    | none => false) && descB P f.type (fun d => x.2.2 == isAggD d) && fldsB P fs xs
  | _, _ => false
theorem fldsB_ok {P : Program} : ∀ {fs : List Field} {xs : List (Nat × Nat × Bool)}, fldsB P fs xs = true →
    (fs.mapM fun f => (P.info? f.type).map fun i => (f.offset, i.size)) = some (xs.map fun x => (x.1, x.2.1)) ∧ ∀ (j : Nat) (fl : Nat × Nat × Bool), xs[j]? = some fl → ∃ f : Field, fs[j]? = some f ∧ f.offset = fl.1 ∧ P.cellsOf f.type = fl.2.1 ∧
      (∃ ti, P.info? f.type = some ti) ∧ ∃ d, P.underlying f.type = some d ∧ fl.2.2 = isAggD d
  | [], [], _ => ⟨rfl, fun j fl h => by simp at h⟩
  | f :: fs, x :: xs, h => by
    simp only [fldsB, Bool.and_eq_true, beq_iff_eq] at h
    obtain ⟨⟨⟨⟨h1, h2⟩, h3⟩, h4⟩, h5⟩ := h
    obtain ⟨h6, h7⟩ := fldsB_ok h5
    cases hi : P.info? f.type with
    | none => rw [hi] at h3; cases h3
    | some ti =>
      rw [hi] at h3
      simp only [beq_iff_eq] at h3
      simp only [descB] at h4
      cases hu : P.underlying f.type with
      | none => rw [hu] at h4; cases h4
      | some d =>
        rw [hu] at h4
        simp only [beq_iff_eq] at h4
        refine ⟨?_, fun j fl hj => ?_⟩
        · rw [List.mapM_cons, hi, h6]; simp [h1, h3]
        · cases j with
          | zero => simp at hj; subst hj; exact ⟨f, rfl, h1, h2, ⟨ti, hi⟩, d, hu, h4⟩
          | succ j => simpa using h7 j fl (by simpa using hj)
  | [], _ :: _, h => by simp [fldsB] at h
  | _ :: _, [], h => by simp [fldsB] at h
def tyB (P : Program) (t : TypeId) (i : TyI) : Bool :=
  (match P.info? t with
    | some ti => ti.size == i.cells && ti.bytes == i.bytes && (match ti.zero with
      | some z => zeroB z.cells.toList i.zero
      | none => false)
    | none => false) &&
  descB P t (fun d => i.agg == isAggD d) &&
  (match i.el with
    | none => true
    | some e => descB P t (fun d => match d with | .slice e' => e' == e.1 | _ => false) && (match P.info? e.1 with
      | some ti => ti.size == e.2.1 && ti.bytes == e.2.2.1 && (match ti.zero with
        | some z => z.cells.size == e.2.1 && z.cells.toList.all Value.oneCell'
        | none => false)
      | none => false) && (!e.2.2.2 || descB P e.1 (isIntD .u8))) &&
  (!i.str || descB P t isStrD) && (!i.bool || descB P t isBoolD) &&
  (match i.cmp with
    | none => true
    | some ks => (match P.underlying t with
      | some (.struct fs) => !P.stoodInHeld t && !P.eqGuardType P.depth t && fldCmpB P 0 fs.toList ks
      | _ => false)) &&
  (!i.ptr || descB P t (fun d => match d with | .pointer _ => true | _ => false)) &&
  (match i.ik with
    | none => true
    | some k => descB P t (isIntD k)) &&
  (match i.flds with
    | [] => true
    | xs => (match P.underlying t with
      | some (.struct fs) => fldsB P fs.toList xs
      | _ => false))
theorem descB_int {P : Program} {t : TypeId} {k : IntKind} (h : descB P t (isIntD k) = true) : P.underlying t = some (.int k) := by
  simp only [descB] at h
  cases hu : P.underlying t with
  | none => rw [hu] at h; cases h
  | some d => rw [hu] at h; cases d <;> simp [isIntD] at h; subst h; rfl
theorem descB_str {P : Program} {t : TypeId} (h : descB P t isStrD = true) : P.underlying t = some .string := by
  simp only [descB] at h
  cases hu : P.underlying t with
  | none => rw [hu] at h; cases h
  | some d => rw [hu] at h; cases d <;> simp [isStrD] at h; rfl
theorem descB_bool {P : Program} {t : TypeId} (h : descB P t isBoolD = true) : P.underlying t = some .bool := by
  simp only [descB] at h
  cases hu : P.underlying t with
  | none => rw [hu] at h; cases h
  | some d => rw [hu] at h; cases d <;> simp [isBoolD] at h; rfl
theorem tyB_ok {P : Program} {t : TypeId} {i : TyI} (h : tyB P t i = true) : TyOk P t i := by
  simp only [tyB, Bool.and_eq_true] at h
  obtain ⟨⟨⟨⟨⟨⟨⟨⟨h1, h2⟩, h3⟩, h4⟩, h5⟩, h6⟩, h7⟩, h8⟩, h9⟩ := h
  refine ⟨?_, ?_, fun e he => ?_, fun hs => ?_, fun hs => ?_, fun ks hk => ?_, fun hs => ?_, fun k hk => ?_, fun hne => ?_⟩
  · cases hi : P.info? t with
    | none => rw [hi] at h1; cases h1
    | some ti =>
      rw [hi] at h1
      simp only [Bool.and_eq_true, beq_iff_eq] at h1
      obtain ⟨⟨a1, a2⟩, a3⟩ := h1
      cases hz : ti.zero with
      | none => rw [hz] at a3; cases a3
      | some z => rw [hz] at a3; exact ⟨ti, rfl, a1, a2, z, hz, zeroB_ok a3⟩
  · simp only [descB] at h2
    cases hu : P.underlying t with
    | none => rw [hu] at h2; cases h2
    | some d => rw [hu] at h2; exact ⟨d, rfl, by simpa using h2⟩
  · rw [he] at h3
    simp only [Bool.and_eq_true] at h3
    obtain ⟨⟨a1, a2⟩, a3⟩ := h3
    refine ⟨?_, ?_, fun hb => ?_⟩
    · simp only [descB] at a1
      cases hu : P.underlying t with
      | none => rw [hu] at a1; cases a1
      | some d => rw [hu] at a1; cases d <;> simp at a1; subst a1; rfl
    · cases hi : P.info? e.1 with
      | none => rw [hi] at a2; cases a2
      | some ti =>
        rw [hi] at a2
        simp only [Bool.and_eq_true, beq_iff_eq] at a2
        obtain ⟨⟨b1, b2⟩, b3⟩ := a2
        cases hz : ti.zero with
        | none => rw [hz] at b3; cases b3
        | some z =>
          rw [hz] at b3
          simp only [Bool.and_eq_true, beq_iff_eq, List.all_eq_true] at b3
          exact ⟨ti, rfl, b1, b2, z, hz, b3.1, b3.2⟩
    · rw [hb] at a3
      simp only [Bool.not_true, Bool.false_or] at a3
      exact descB_int a3
  · rw [hs] at h4; exact descB_str (by simpa using h4)
  · rw [hs] at h5; exact descB_bool (by simpa using h5)
  · rw [hk] at h6
    simp only at h6
    cases hu : P.underlying t with
    | none => rw [hu] at h6; cases h6
    | some d =>
      rw [hu] at h6
      cases d <;> simp at h6
      rename_i fs
      exact ⟨fs, rfl, h6.1.1, h6.1.2, fldCmpB_ok h6.2⟩
  · rw [hs] at h7
    simp only [Bool.not_true, Bool.false_or, descB] at h7
    cases hu : P.underlying t with
    | none => rw [hu] at h7; cases h7
    | some d => rw [hu] at h7; cases d <;> simp at h7; exact ⟨_, rfl⟩
  · rw [hk] at h8; exact descB_int h8
  · cases hf : i.flds with
    | nil => exact absurd hf hne
    | cons x xs =>
      rw [hf] at h9
      simp only at h9
      cases hu : P.underlying t with
      | none => rw [hu] at h9; cases h9
      | some d =>
        rw [hu] at h9
        cases d <;> simp at h9
        rename_i fs
        obtain ⟨a1, a2⟩ := fldsB_ok h9
        exact ⟨fs, rfl, a1, fun j fl hj => let ⟨f, e1, e2⟩ := a2 j fl hj; ⟨f, by simpa using e1, e2⟩⟩
theorem tabOk_of {P : Program} {l : List (Nat × TyI)} (h : (l.all fun p => tyB P p.1 p.2) = true) : TabOk P ⟨fun t => look1 l t⟩ := fun t i hi => tyB_ok (List.all_eq_true.1 h (t, i) (look1_mem hi))

/-- The table's row of a type (an aid; nothing rests on it). -/
def mkZero (v : Value) (el : Nat) : C := match v with
  | .slice _ _ _ => .mt el
  | v => .y (.sc v)
def elOf (P : Program) (t : TypeId) : Option (Nat × Nat × Nat × Bool) := match P.underlying t with
  | some (.slice e) => match P.info? e with
    | some ti => match ti.zero with
      | some z => if z.cells.size == ti.size && z.cells.toList.all Value.oneCell' then some (e, ti.size, ti.bytes, descB P e (isIntD .u8)) else none
      | none => none
    | none => none
  | _ => none
def zerosOf (P : Program) : Nat → TypeId → List Nat
  | 0, _ => []
  | n + 1, t => match P.underlying t with
    | some (.struct fs) => fs.toList.flatMap fun f => zerosOf P n f.type
    | some (.array m e) => (List.range m).flatMap fun _ => zerosOf P n e
    | _ => [match elOf P t with
      | some e => e.2.1
      | none => 0]
def isPtrD : TypeDesc → Bool
  | .pointer _ => true
  | _ => false
def ikOf : TypeDesc → Option IntKind
  | .int k => some k
  | _ => none
def fldsOf (P : Program) : TypeDesc → List (Nat × Nat × Bool)
  | .struct fs => fs.toList.map fun f => (f.offset, P.cellsOf f.type, (P.underlying f.type).any isAggD)
  | _ => []
def cmpKey (P : Program) (f : Field) : Nat := match P.underlying f.type with
  | some (.int _) => 1
  | some .string => 2
  | some .bool => 3
  | _ => 0
def cmpOf (P : Program) : TypeDesc → Option (List Nat)
  | .struct fs => if (fs.toList.map (cmpKey P)).all (· != 0) then some (fs.toList.map (cmpKey P)) else none
  | _ => none
def mkTy1 (P : Program) (t : TypeId) (c : Bool) : Option TyI := match P.info? t with
  | none => none
  | some ti => match ti.zero with
    | none => none
    | some z => match P.underlying t with
      | none => none
      | some d => some ⟨ti.size, true, isAggD d, ti.bytes, elOf P t, fldsOf P d, (z.cells.toList.zip (zerosOf P 20 t)).map fun p => mkZero p.1 p.2, ikOf d, isStrD d, isBoolD d, isPtrD d, if c then cmpOf P d else none, none⟩
def mkTy (P : Program) (t : TypeId) : Option TyI := match mkTy1 P t true with
  | none => none
  | some i => if tyB P t i then some i else match mkTy1 P t false with
    | none => none
    | some i => if tyB P t i then some i else none

/-! ### Loops -/
theorem loop_ind {body : State → Post → Prop} {K : Post} {α : Type} (st : α → State) (pre : α → Prop) (μ : α → Nat)
    (h : ∀ (I : State → Prop) (a : α), pre a → (∀ a', pre a' → μ a' < μ a → I (st a')) → body (st a) (fun e s' => match e with | .normal => I s' | .exit i => K (.exit i) s' | .ret => K .ret s')) (a : α) (h0 : pre a) : Loop body K (st a) where
  out I hI := by
    have key : ∀ n a, μ a = n → pre a → I (st a) := by
      intro n
      induction n using Nat.strongRecOn with
      | _ n ih => intro a hn hp; exact hI _ (h I a hp fun a' hp' hlt => ih (μ a') (hn ▸ hlt) a' rfl hp')
    exact key _ a rfl h0
end Go.Proofs.YthaelohccopgjaaW
/- Aids for functions: calls taken, numbers that need no turn. -/
namespace Go.Proofs.YthaelohccopgjaaW
variable {P : Program}

theorem callI {Ca : Contract} (hC : CallC P = Ca) {f : FuncId} {as : List A} {r : Res} {K : RQ → Prop} (h : CallOK P f as r) (k : K (.one r)) : ∃ q, Ca f as q ∧ K q := ⟨.one r, hC ▸ (show CallC P f as (.one r) from h), k⟩
/-- What holds of a call's result is known, not it. -/
theorem callQ {Ca : Contract} (hC : CallC P = Ca) {f : FuncId} {as : List A} {Q : Res → Prop} {K : RQ → Prop} (h : CallQ P f as Q) (k : K (.many Q)) : ∃ q, Ca f as q ∧ K q := ⟨.many Q, hC ▸ (show CallC P f as (.many Q) from h), k⟩
abbrev B (b : Bool) : Res := ⟨.c (.y (.sc (.bool b))), []⟩
abbrev N (n : Int) : Res := ⟨.c (.y (.sc (.int .i64 n))), []⟩
abbrev St (s : ByteArray) : Res := ⟨.c (.y (.sc (.string s))), []⟩
abbrev aN (n : Int) : A := .c (.y (.sc (.int .i64 n)))
abbrev aS (s : ByteArray) : A := .c (.y (.sc (.string s)))
abbrev aB (b : Bool) : A := .c (.y (.sc (.bool b)))
abbrev yN (n : Int) : Y := .sc (.int .i64 n)
abbrev yS (s : ByteArray) : Y := .sc (.string s)
abbrev yB (b : Bool) : Y := .sc (.bool b)
/-- A truth from a call: both ways. -/
theorem callB {Ca : Contract} (hC : CallC P = Ca) {f : FuncId} {as : List A} {b : Bool} {K : RQ → Prop} (h : CallOK P f as (B b)) (k1 : b = true → K (.one (B true))) (k2 : b = false → K (.one (B false))) : ∃ q, Ca f as q ∧ K q := by
  refine ⟨.one _, hC ▸ (show CallC P f as (.one (B b)) from h), ?_⟩
  cases b
  · exact k2 rfl
  · exact k1 rfl

theorem callN {Ca : Contract} (hC : CallC P = Ca) {f : FuncId} {as : List A} {n : Int} {K : RQ → Prop} (h : CallOK P f as (N n)) (k : ∀ m, m = n → K (.one (N m))) : ∃ q, Ca f as q ∧ K q := ⟨.one _, hC ▸ (show CallC P f as (.one _) from h), k _ rfl⟩
theorem callS {Ca : Contract} (hC : CallC P = Ca) {f : FuncId} {as : List A} {n : ByteArray} {K : RQ → Prop} (h : CallOK P f as (St n)) (k : ∀ m, m = n → K (.one (St m))) : ∃ q, Ca f as q ∧ K q := ⟨.one _, hC ▸ (show CallC P f as (.one _) from h), k _ rfl⟩
theorem wrap_i64 {n : Int} (h1 : -9223372036854775808 ≤ n) (h2 : n ≤ 9223372036854775807) : IntKind.i64.wrap n = n := by
  have e : IntKind.i64.wrap n = if n % 18446744073709551616 ≥ 9223372036854775808 then n % 18446744073709551616 - 18446744073709551616 else n % 18446744073709551616 := by
    unfold IntKind.wrap
    simp [IntKind.bits, IntKind.signed]
  rw [e]
  split <;> omega
theorem wrap_u {k : IntKind} (hk : k.signed = false) {n : Int} (h1 : 0 ≤ n) (h2 : n < 2 ^ k.bits) : k.wrap n = n := by
  unfold IntKind.wrap
  simp only [hk, Bool.false_and]
  exact Int.emod_eq_of_lt h1 h2

/-- A loop from a state: what turns in it is told. -/
theorem loop_at {body : State → Post → Prop} {K : Post} {α : Type} (st : α → State) (pre : α → Prop) (μ : α → Nat) (a0 : α) {s0 : State} (hs : st a0 = s0) (h0 : pre a0)
    (h : ∀ (I : State → Prop) (a : α), pre a → (∀ a', pre a' → μ a' < μ a → I (st a')) → body (st a) (fun e s' => match e with | .normal => I s' | .exit i => K (.exit i) s' | .ret => K .ret s')) : Loop body K s0 := by
  subst hs; exact loop_ind st pre μ h a0 h0
end Go.Proofs.YthaelohccopgjaaW
namespace Go.Proofs.YthaelohccopgjaaW
theorem opensNil {P : Program} {n : Nat} : OpensAll P n [] [] := trivial
theorem opensCons {P : Program} {n : Nat} {f : Field} {fs : List Field} {R : List Y → Prop} {Rs : List (List Y → Prop)} (h : Opens P n f.type R) (h' : OpensAll P n fs Rs) : OpensAll P n (f :: fs) (R :: Rs) := ⟨h, h'⟩
theorem pars1 {p : Par} {yss : List (List Y)} (h : ParsR [p] yss) : ∃ ys, yss = [ys] ∧ p.R ys := by
  match yss, h with
  | [ys], h => exact ⟨ys, rfl, h.1⟩
theorem pars2 {p q : Par} {yss : List (List Y)} (h : ParsR [p, q] yss) : ∃ ys zs, yss = [ys, zs] ∧ p.R ys ∧ q.R zs := by
  match yss, h with
  | [ys, zs], h => exact ⟨ys, zs, rfl, h.1, h.2.1⟩
theorem pars3 {p q r : Par} {yss : List (List Y)} (h : ParsR [p, q, r] yss) : ∃ ys zs us, yss = [ys, zs, us] ∧ p.R ys ∧ q.R zs ∧ r.R us := by
  match yss, h with
  | [ys, zs, us], h => exact ⟨ys, zs, us, rfl, h.1, h.2.1, h.2.2.1⟩
abbrev rI (k : IntKind) : List Y → Prop := fun ys => ∃ a, (Lit.int k a).wf = true ∧ ys = [.sc (.int k a)]
abbrev rS : List Y → Prop := fun ys => ∃ a : ByteArray, a.size ≤ maxLen ∧ ys = [.sc (.string a)]
abbrev rB : List Y → Prop := fun ys => ∃ a, ys = [.sc (.bool a)]
abbrev rL (es : Nat) (R : List Y → Prop) : List Y → Prop := fun ys => ∃ xs, ys = [.sl es xs] ∧ xs.length ≤ maxLen ∧ ∀ x ∈ xs, x.length = es ∧ R x
end Go.Proofs.YthaelohccopgjaaW
