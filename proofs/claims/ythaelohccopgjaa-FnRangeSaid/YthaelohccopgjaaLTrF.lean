/- Functions of the program, each with what it returns, run by the evaluator; the conditions stand in the theorems. -/
import Derived.Test.YthaelohccopgjaaLTr8
namespace Go.Proofs.Ythaelohccopgjaa
open Go Go.Proofs.YthaelohccopgjaaW Go.Proofs
set_option linter.unusedVariables false
set_option linter.unusedSimpArgs false
set_option maxRecDepth 100000
set_option maxHeartbeats 8000000
/-! the keys of a tree, with their values, in order -/
abbrev Pr := ByteArray × ByteArray
def weave {α : Type} : List (List α) → List α → List α
  | [], xs => xs
  | l :: ls, [] => l ++ weave ls []
  | l :: ls, x :: xs => l ++ x :: weave ls xs
def weft {α : Type} : List (List α) → List α → List α
  | l :: ls, x :: xs => l ++ x :: weft ls xs
  | _, _ => []
def wtl {α : Type} (ls : List (List α)) : List α → List α
  | [] => weave ls []
  | x :: xs => x :: weave ls xs
theorem weave_cons {α : Type} (l : List α) (ls : List (List α)) (xs : List α) : weave (l :: ls) xs = l ++ wtl ls xs := by
  cases xs <;> rfl
theorem weave_app {α : Type} : ∀ (A B : List (List α)) (X Y : List α), A.length = X.length → weave (A ++ B) (X ++ Y) = weft A X ++ weave B Y
  | [], B, [], Y, _ => rfl
  | [], B, x :: X, Y, h => by simp at h
  | l :: A, B, [], Y, h => by simp at h
  | l :: A, B, x :: X, Y, h => by
    simp only [List.cons_append, weave, weft, weave_app A B X Y (by simpa using h), List.append_assoc]
def Tr.prs (t : Tr) : List Pr := t.keys.zip t.vals
def flat : Nat → Tr → List Pr
  | 0, _ => []
  | d + 1, t => weave (t.kids.map (flat d)) t.prs
/-- A node of d levels, its keys lo or more. -/
def Nd : Nat → Nat → Tr → Prop
  | _, 0, _ => False
  | lo, d + 1, t => lo ≤ t.keys.length ∧ t.keys.length ≤ 3 ∧ t.vals.length = t.keys.length ∧ (t.kids = [] ∧ d = 0 ∨ t.kids.length = t.keys.length + 1 ∧ d ≠ 0 ∧ ∀ c ∈ t.kids, Nd 1 d c)
theorem Nd.low {lo lo' d : Nat} {t : Tr} (h : Nd lo d t) (hl : lo' ≤ t.keys.length) : Nd lo' d t := by
  cases d with
  | zero => exact h.elim
  | succ d => exact ⟨hl, h.2⟩
theorem Nd.ge {lo d : Nat} {t : Tr} (h : Nd lo d t) : lo ≤ t.keys.length := by
  cases d with
  | zero => exact h.elim
  | succ d => exact h.1
theorem Nd.le3 {lo d : Nat} {t : Tr} (h : Nd lo d t) : t.keys.length ≤ 3 := by
  cases d with
  | zero => exact h.elim
  | succ d => exact h.2.1
theorem cut_at {α : Type} : ∀ {l : List α} {k : Nat}, k < l.length → ∃ A c B, l = A ++ c :: B ∧ A.length = k
  | [], k, h => by simp at h
  | a :: l, 0, h => ⟨[], a, l, rfl, rfl⟩
  | a :: l, k + 1, h => by
    obtain ⟨A, c, B, e, hl⟩ := cut_at (l := l) (k := k) (by simpa using h)
    exact ⟨a :: A, c, B, by rw [e]; rfl, by simp [hl]⟩
theorem cut_to {α : Type} : ∀ {l : List α} {k : Nat}, k ≤ l.length → ∃ A B, l = A ++ B ∧ A.length = k
  | l, 0, h => ⟨[], l, rfl, rfl⟩
  | [], k + 1, h => by simp at h
  | a :: l, k + 1, h => by
    obtain ⟨A, B, e, hl⟩ := cut_to (l := l) (k := k) (by simpa using h)
    exact ⟨a :: A, B, by rw [e]; rfl, by simp [hl]⟩
/-- A node seen at one of its kids. -/
structure At (lo d k : Nat) (t : Tr) (X Y V W : List ByteArray) (A : List Tr) (c : Tr) (B : List Tr) : Prop where
  eq : t = ⟨X ++ Y, V ++ W, A ++ c :: B⟩
  hA : A.length = k
  hX : X.length = k
  hV : V.length = k
  hW : W.length = Y.length
  hB : B.length = Y.length
  lo : lo ≤ k + Y.length
  le : k + Y.length ≤ 3
  nA : ∀ a ∈ A, Nd 1 (d + 1) a
  nc : Nd 1 (d + 1) c
  nB : ∀ a ∈ B, Nd 1 (d + 1) a
theorem Nd.at {lo d k : Nat} {t : Tr} (h : Nd lo (d + 2) t) (hk : k ≤ t.keys.length) : ∃ X Y V W A c B, At lo d k t X Y V W A c B := by
  obtain ⟨h1, h2, h3, h4⟩ := h
  obtain ⟨h5, -, h6⟩ := h4.resolve_left (fun h => by omega)
  obtain ⟨X, Y, eX, hX⟩ := cut_to hk
  obtain ⟨V, W, eV, hV⟩ := cut_to (l := t.vals) (k := k) (by omega)
  obtain ⟨A, c, B, eA, hA⟩ := cut_at (l := t.kids) (k := k) (by omega)
  have l1 : t.keys.length = k + Y.length := by rw [eX, List.length_append, hX]
  have l2 : t.vals.length = k + W.length := by rw [eV, List.length_append, hV]
  have l3 : t.kids.length = k + (B.length + 1) := by rw [eA, List.length_append, hA, List.length_cons]
  refine ⟨X, Y, V, W, A, c, B, ?_, hA, hX, hV, by omega, by omega, by omega, by omega, fun a ha => ?_, ?_, fun a ha => ?_⟩
  · cases t; dsimp only at eX eV eA; rw [eX, eV, eA]
  · exact h6 a (by rw [eA]; exact List.mem_append_left _ ha)
  · exact h6 c (by rw [eA]; exact List.mem_append_right _ (.head _))
  · exact h6 a (by rw [eA]; exact List.mem_append_right _ (.tail _ ha))
theorem At.nd {lo d k : Nat} {t : Tr} {X Y V W A c B} (h : At lo d k t X Y V W A c B) : Nd lo (d + 2) t := by
  obtain ⟨rfl, h1, h2, h3, h4, h5, h6, h7, h8, h9, h10⟩ := h
  refine ⟨by simp; omega, by simp; omega, by simp; omega, .inr ⟨by simp; omega, by omega, fun a ha => ?_⟩⟩
  rcases List.mem_append.1 ha with ha | ha
  · exact h8 a ha
  · rcases List.mem_cons.1 ha with rfl | ha
    · exact h9
    · exact h10 a ha
theorem At.set {lo d k : Nat} {t : Tr} {X Y V W A c B} (h : At lo d k t X Y V W A c B) {c' : Tr} (hc : Nd 1 (d + 1) c') : At lo d k ⟨t.keys, t.vals, t.kids.set k c'⟩ X Y V W A c' B := by
  obtain ⟨rfl, h1, h2, h3, h4, h5, h6, h7, h8, h9, h10⟩ := h
  subst h1
  exact ⟨by simp, rfl, h2, h3, h4, h5, h6, h7, h8, hc, h10⟩
theorem At.kid {lo d k : Nat} {t : Tr} {X Y V W A c B} (h : At lo d k t X Y V W A c B) : t.kid k = c := by
  obtain ⟨rfl, h1, h2, h3, h4, h5, h6, h7, h8, h9, h10⟩ := h
  subst h1
  simp [Tr.kid]
theorem At.fl {lo d k : Nat} {t : Tr} {X Y V W A c B} (h : At lo d k t X Y V W A c B) : flat (d + 2) t = weft (A.map (flat (d + 1))) (X.zip V) ++ (flat (d + 1) c ++ wtl (B.map (flat (d + 1))) (Y.zip W)) := by
  obtain ⟨rfl, h1, h2, h3, h4, h5, h6, h7, h8, h9, h10⟩ := h
  show weave _ _ = _
  rw [Tr.prs, List.zip_append (by omega), List.map_append, weave_app _ _ _ _ (by simp; omega), List.map_cons, weave_cons]
/-! keys in order -/
def Srt (l : List Pr) : Prop := l.Pairwise fun a b => ltS a.1 b.1 = true
theorem lt_ne {a b : ByteArray} (h : ltS a b = true) : a ≠ b := fun e => by rw [e, ltS_irrefl] at h; cases h
theorem lt_not {a b : ByteArray} (h : ltS a b = true) : ltS b a = false := by
  cases h' : ltS b a with
  | false => rfl
  | true => have := ltS_trans h h'; rw [ltS_irrefl] at this; cases this
theorem lt_of_not {a b : ByteArray} (h : ltS a b = false) (hn : a ≠ b) : ltS b a = true := by
  cases h' : ltS b a with
  | true => rfl
  | false => exact absurd (ltS_total h h') hn
theorem lt_le_trans {a b c : ByteArray} (h : ltS a b = true) (h' : ltS c b = false) : ltS a c = true := by
  by_cases e : c = b
  · rw [e]; exact h
  · exact ltS_trans h (lt_of_not h' e)
theorem le_lt_trans {a b c : ByteArray} (h : ltS b a = false) (h' : ltS b c = true) : ltS a c = true := by
  by_cases e : b = a
  · rw [← e]; exact h'
  · exact ltS_trans (lt_of_not h e) h'
theorem srt_app {A B : List Pr} : Srt (A ++ B) ↔ Srt A ∧ Srt B ∧ ∀ a ∈ A, ∀ b ∈ B, ltS a.1 b.1 = true := List.pairwise_append
theorem srt_cons {a : Pr} {B : List Pr} : Srt (a :: B) ↔ (∀ b ∈ B, ltS a.1 b.1 = true) ∧ Srt B := List.pairwise_cons
theorem weft_lt {key : ByteArray} : ∀ {ls : List (List Pr)} {xs : List Pr}, Srt (weft ls xs) → ls.length = xs.length → (∀ x ∈ xs, ltS x.1 key = true) → ∀ p ∈ weft ls xs, ltS p.1 key = true
  | [], _, _, _, _ => fun p hp => by simp [weft] at hp
  | l :: ls, [], _, h, _ => by simp at h
  | l :: ls, x :: xs, h, hl, hx => fun p hp => by
    rw [weft] at h hp
    have hx0 := hx x (.head _)
    obtain ⟨h1, h2, h3⟩ := srt_app.1 h
    rcases List.mem_append.1 hp with hp | hp
    · exact ltS_trans (h3 p hp x (.head _)) hx0
    · rcases List.mem_cons.1 hp with rfl | hp
      · exact hx0
      · exact weft_lt (srt_cons.1 h2).2 (by simpa using hl) (fun x hx' => hx x (.tail _ hx')) p hp
theorem wtl_gt {key : ByteArray} {ls : List (List Pr)} {xs : List Pr} (h : Srt (wtl ls xs)) (hl : ls.length = xs.length) (hx : ∀ x xs', xs = x :: xs' → ltS key x.1 = true) : ∀ p ∈ wtl ls xs, ltS key p.1 = true := by
  cases xs with
  | nil =>
    have : ls = [] := List.eq_nil_of_length_eq_zero (by simpa using hl)
    subst this
    intro p hp
    simp [wtl, weave] at hp
  | cons x xs =>
    have h0 := hx x xs rfl
    intro p hp
    rw [wtl] at h hp
    rcases List.mem_cons.1 hp with rfl | hp
    · exact h0
    · exact ltS_trans h0 ((srt_cons.1 h).1 p hp)
theorem plc_lo {t : Tr} {key : ByteArray} : ∀ {m i : Nat} {j : Nat}, i ≤ j → j < plcF (fun i => ltS (t.key i) key) i m → ltS (t.key j) key = true
  | 0, i, j, h1, h2 => by rw [plcF] at h2; omega
  | m + 1, i, j, h1, h2 => by
    rw [plcF] at h2
    split at h2
    · rename_i h
      by_cases e : j = i
      · subst e; exact h
      · exact plc_lo (by omega) h2
    · omega
theorem plc_hi {t : Tr} {key : ByteArray} : ∀ {m i : Nat}, plcF (fun i => ltS (t.key i) key) i m < i + m → ltS (t.key (plcF (fun i => ltS (t.key i) key) i m)) key = false
  | 0, i, h => by rw [plcF] at h; omega
  | m + 1, i, h => by
    rw [plcF] at h ⊢
    split
    · rename_i h1
      rw [if_pos h1] at h
      exact plc_hi (by omega)
    · rename_i h1
      simpa using h1
theorem key_app_lo {X Y V : List ByteArray} {C : List Tr} {j : Nat} (h : j < X.length) : Tr.key ⟨X ++ Y, V, C⟩ j = X[j] := by
  simp [Tr.key, List.getD_eq_getElem?_getD, List.getElem?_append_left h, h]
theorem key_app_hi {X Y V : List ByteArray} {C : List Tr} {y : ByteArray} : Tr.key ⟨X ++ y :: Y, V, C⟩ X.length = y := by
  simp [Tr.key, List.getD_eq_getElem?_getD]
theorem val_app_hi {X V W : List ByteArray} {C : List Tr} {y : ByteArray} : Tr.val ⟨X, V ++ y :: W, C⟩ V.length = y := by
  simp [Tr.val, List.getD_eq_getElem?_getD]
theorem plc_at {X Y V : List ByteArray} {C : List Tr} {key : ByteArray} (h : Tr.plc ⟨X ++ Y, V, C⟩ key = X.length) : (∀ x ∈ X, ltS x key = true) ∧ ∀ y Y', Y = y :: Y' → ltS y key = false := by
  refine ⟨fun x hx => ?_, fun y Y' e => ?_⟩
  · obtain ⟨j, hj, rfl⟩ := List.getElem_of_mem hx
    have := plc_lo (t := ⟨X ++ Y, V, C⟩) (key := key) (m := (X ++ Y).length) (i := 0) (j := j) (by omega) (by rw [Tr.plc] at h; dsimp only at h; rw [h]; exact hj)
    rwa [key_app_lo hj] at this
  · subst e
    rw [Tr.plc] at h
    have := plc_hi (t := ⟨X ++ y :: Y', V, C⟩) (key := key) (m := (X ++ y :: Y').length) (i := 0) (by dsimp only at h; rw [h]; simp)
    dsimp only at h
    rw [h, key_app_hi] at this
    exact this
theorem plc_to {X Y V : List ByteArray} {C : List Tr} {key : ByteArray} (h1 : ∀ x ∈ X, ltS x key = true) (h2 : ∀ y Y', Y = y :: Y' → ltS y key = false) : Tr.plc ⟨X ++ Y, V, C⟩ key = X.length := by
  refine plcF_of (by omega) (by simp) (fun j _ hj => ?_) (fun h => ?_)
  · rw [key_app_lo hj]; exact h1 _ (List.getElem_mem hj)
  · cases Y with
    | nil => simp at h
    | cons y Y => rw [key_app_hi]; exact h2 y Y rfl
/-! what is put, and taken out, of a list in order -/
def insP (p : Pr) (l : List Pr) : List Pr := l.filter (fun q => ltS q.1 p.1) ++ p :: l.filter (fun q => ltS p.1 q.1)
def delP (key : ByteArray) (l : List Pr) : List Pr := l.filter fun q => decide (q.1 ≠ key)
def setP (p : Pr) (l : List Pr) : List Pr := l.map fun q => if q.1 = p.1 then p else q
theorem fil_all {α : Type} {f : α → Bool} {l : List α} (h : ∀ a ∈ l, f a = true) : l.filter f = l := List.filter_eq_self.2 h
theorem fil_no {α : Type} {f : α → Bool} {l : List α} (h : ∀ a ∈ l, f a = false) : l.filter f = [] := List.filter_eq_nil_iff.2 fun a ha e => by rw [h a ha] at e; cases e
theorem insP_mid {p : Pr} {P M R : List Pr} (h1 : ∀ q ∈ P, ltS q.1 p.1 = true) (h2 : ∀ q ∈ R, ltS p.1 q.1 = true) : insP p (P ++ (M ++ R)) = P ++ (insP p M ++ R) := by
  simp only [insP, List.filter_append]
  rw [fil_all h1, fil_all h2, fil_no (l := P) (fun q hq => lt_not (h1 q hq)), fil_no (l := R) (fun q hq => lt_not (h2 q hq))]
  simp
theorem insP_here {p : Pr} {P R : List Pr} (h1 : ∀ q ∈ P, ltS q.1 p.1 = true) (h2 : ∀ q ∈ R, ltS p.1 q.1 = true) : insP p (P ++ R) = P ++ p :: R := by
  simp only [insP, List.filter_append]
  rw [fil_all h1, fil_all h2, fil_no (l := P) (fun q hq => lt_not (h1 q hq)), fil_no (l := R) (fun q hq => lt_not (h2 q hq))]
  simp
theorem delP_no {key : ByteArray} {l : List Pr} (h : ∀ q ∈ l, q.1 ≠ key) : delP key l = l := fil_all fun q hq => decide_eq_true (h q hq)
theorem delP_app {key : ByteArray} (A B : List Pr) : delP key (A ++ B) = delP key A ++ delP key B := List.filter_append ..
theorem delP_cons_eq {p : Pr} (B : List Pr) : delP p.1 (p :: B) = delP p.1 B := by simp [delP]
theorem setP_no {p : Pr} {l : List Pr} (h : ∀ q ∈ l, q.1 ≠ p.1) : setP p l = l := by
  unfold setP
  conv => rhs; rw [← List.map_id l]
  exact List.map_congr_left fun q hq => by rw [if_neg (h q hq)]; rfl
theorem insP_len {p : Pr} {l : List Pr} (h : ∀ q ∈ l, q.1 ≠ p.1) : (insP p l).length = l.length + 1 := by
  induction l with
  | nil => rfl
  | cons a l ih =>
    have ih := ih fun q hq => h q (.tail _ hq)
    have ha := h a (.head _)
    simp only [insP, List.length_append, List.length_cons, List.filter_cons] at ih ⊢
    cases h1 : ltS a.1 p.1
    · have h2 := lt_of_not h1 ha
      simp [h2]; omega
    · have h2 := lt_not h1
      simp [h2]; omega
theorem mem_insP {p q : Pr} {l : List Pr} : q ∈ insP p l → q = p ∨ q ∈ l := by
  intro h
  simp only [insP, List.mem_append, List.mem_filter, List.mem_cons] at h
  rcases h with h | h | h
  · exact .inr h.1
  · exact .inl h
  · exact .inr h.1
theorem insP_srt {p : Pr} {l : List Pr} (h : Srt l) : Srt (insP p l) := by
  refine srt_app.2 ⟨List.Pairwise.filter _ h, srt_cons.2 ⟨fun b hb => (List.mem_filter.1 hb).2, List.Pairwise.filter _ h⟩, fun a ha b hb => ?_⟩
  have h1 := (List.mem_filter.1 ha).2
  rcases List.mem_cons.1 hb with rfl | hb
  · exact h1
  · exact ltS_trans h1 (List.mem_filter.1 hb).2
theorem delP_srt {key : ByteArray} {l : List Pr} (h : Srt l) : Srt (delP key l) := List.Pairwise.filter _ h
/-! a node is split -/
def insL {α : Type} (l : List α) (k : Nat) (x : α) : List α := l.take k ++ x :: l.drop k
def outL {α : Type} (l : List α) (k : Nat) : List α := l.take k ++ l.drop (k + 1)
theorem insL_app {α : Type} {A B : List α} {x : α} : insL (A ++ B) A.length x = A ++ x :: B := by simp [insL]
theorem outL_app {α : Type} {A B : List α} {x : α} : outL (A ++ x :: B) A.length = A ++ B := by
  simp [outL, List.drop_append]
def partT (t : Tr) (a b : Nat) : Tr := ⟨(t.keys.drop a).take (b - a), (t.vals.drop a).take (b - a), if t.kids = [] then [] else (t.kids.drop a).take (b + 1 - a)⟩
def splitT (t : Tr) (k : Nat) : Tr := ⟨insL t.keys k ((t.kid k).key 1), insL t.vals k ((t.kid k).val 1), t.kids.take k ++ partT (t.kid k) 0 1 :: partT (t.kid k) 2 3 :: t.kids.drop (k + 1)⟩
theorem len3 {α : Type} {l : List α} (h : l.length = 3) : ∃ a b c, l = [a, b, c] := by
  match l, h with
  | [a, b, c], _ => exact ⟨a, b, c, rfl⟩
theorem len4 {α : Type} {l : List α} (h : l.length = 4) : ∃ a b c d, l = [a, b, c, d] := by
  match l, h with
  | [a, b, c, d], _ => exact ⟨a, b, c, d, rfl⟩
theorem part_ok {d : Nat} {c : Tr} (h : Nd 1 (d + 1) c) (h3 : c.keys.length = 3) :
    Nd 1 (d + 1) (partT c 0 1) ∧ Nd 1 (d + 1) (partT c 2 3) ∧ (partT c 0 1).keys.length = 1 ∧ (partT c 2 3).keys.length = 1 ∧
    flat (d + 1) c = flat (d + 1) (partT c 0 1) ++ (c.key 1, c.val 1) :: flat (d + 1) (partT c 2 3) := by
  obtain ⟨ks, vs, cs⟩ := c
  obtain ⟨-, -, h1, h2⟩ := h
  dsimp only at h1 h2 h3
  rw [h3] at h1
  obtain ⟨a, b, e, rfl⟩ := len3 h3
  obtain ⟨p, q, r, rfl⟩ := len3 h1
  rcases h2 with ⟨rfl, rfl⟩ | ⟨h2, h4, h5⟩
  · simp [partT, Nd, flat, weave, Tr.prs, Tr.key, Tr.val]
  · obtain ⟨w, x, y, z, rfl⟩ := len4 (by simpa using h2)
    simp only [List.mem_cons, List.not_mem_nil, or_false, forall_eq_or_imp, forall_eq] at h5
    simp [partT, Nd, flat, weave, Tr.prs, Tr.key, Tr.val, h4, h5]
theorem At.split' {lo d k : Nat} {t : Tr} {X Y V W A c B} (h : At lo d k t X Y V W A c B) (h3 : c.keys.length = 3) (h2 : t.keys.length ≤ 2) :
    splitT t k = ⟨X ++ c.key 1 :: Y, V ++ c.val 1 :: W, A ++ partT c 0 1 :: partT c 2 3 :: B⟩ ∧ flat (d + 2) (splitT t k) = flat (d + 2) t ∧
    At lo d k (splitT t k) X (c.key 1 :: Y) V (c.val 1 :: W) A (partT c 0 1) (partT c 2 3 :: B) ∧
    At lo d (k + 1) (splitT t k) (X ++ [c.key 1]) Y (V ++ [c.val 1]) W (A ++ [partT c 0 1]) (partT c 2 3) B := by
  have hk := h.kid
  have hf := h.fl
  obtain ⟨rfl, h4, h5, h6, h7, h8, h9, h10, h11, h12, h13⟩ := h
  have e : splitT ⟨X ++ Y, V ++ W, A ++ c :: B⟩ k = ⟨X ++ c.key 1 :: Y, V ++ c.val 1 :: W, A ++ partT c 0 1 :: partT c 2 3 :: B⟩ := by
    rw [splitT, hk]
    have e1 : insL (X ++ Y) k (c.key 1) = X ++ c.key 1 :: Y := h5 ▸ insL_app
    have e2 : insL (V ++ W) k (c.val 1) = V ++ c.val 1 :: W := h6 ▸ insL_app
    dsimp only
    rw [e1, e2, ← h4]
    simp [List.drop_append]
  obtain ⟨p1, p2, p3, p4, p5⟩ := part_ok h12 h3
  have hl : k + Y.length ≤ 2 := by simpa [h5] using h2
  have a1 : At lo d k (splitT ⟨X ++ Y, V ++ W, A ++ c :: B⟩ k) X (c.key 1 :: Y) V (c.val 1 :: W) A (partT c 0 1) (partT c 2 3 :: B) :=
    ⟨e, h4, h5, h6, by simp [h7], by simp [h8], by simp; omega, by simp; omega, h11, p1, fun a ha => by
      rcases List.mem_cons.1 ha with rfl | ha
      · exact p2
      · exact h13 a ha⟩
  refine ⟨e, ?_, a1, ?_⟩
  · rw [a1.fl, hf, p5]
    simp [wtl, weave_cons]
  · refine ⟨by rw [e]; simp, by simp [h4], by simp [h5], by simp [h6], h7, h8, by omega, by omega, fun a ha => ?_, p2, h13⟩
    rcases List.mem_append.1 ha with ha | ha
    · exact h11 a ha
    · rw [List.mem_singleton.1 ha]; exact p1
/-! a key is put -/
def putN : Nat → Tr → ByteArray → ByteArray → Tr
  | 0, t, _, _ => t
  | d + 1, t, key, val =>
    if t.kids = [] then ⟨insL t.keys (t.plc key) key, insL t.vals (t.plc key) val, []⟩
    else
      let t := if (t.kid (t.plc key)).keys.length = 3 then splitT t (t.plc key) else t
      ⟨t.keys, t.vals, t.kids.set (t.plc key) (putN d (t.kid (t.plc key)) key val)⟩
def NoKey (key : ByteArray) (l : List Pr) : Prop := ∀ q ∈ l, q.1 ≠ key
/-- What lies ahead of a kid, and behind it. -/
theorem At.sides {lo d k : Nat} {t : Tr} {X Y V W A c B} {key : ByteArray} (h : At lo d k t X Y V W A c B) (hs : Srt (flat (d + 2) t)) (hp : t.plc key = k) (hn : NoKey key (flat (d + 2) t) ∨ t.has key = false) :
    (∀ q ∈ weft (A.map (flat (d + 1))) (X.zip V), ltS q.1 key = true) ∧ ∀ q ∈ wtl (B.map (flat (d + 1))) (Y.zip W), ltS key q.1 = true := by
  rw [h.fl] at hs
  obtain ⟨s1, s2, s3⟩ := srt_app.1 hs
  obtain ⟨s4, s5, s6⟩ := srt_app.1 s2
  have hfl := h.fl
  obtain ⟨rfl, h4, h5, h6, h7, h8, h9, h10, h11, h12, h13⟩ := h
  subst h5
  obtain ⟨g1, g2⟩ := plc_at hp
  refine ⟨weft_lt s1 (by simp; omega) fun x hx => ?_, wtl_gt s5 (by simp; omega) fun x xs' e => ?_⟩
  · exact g1 _ (List.of_mem_zip hx).1
  · cases Y with
    | nil => cases e
    | cons y Y =>
      cases W with
      | nil => cases e
      | cons w W =>
        injection e with e e'
        subst e
        refine lt_of_not (g2 y Y rfl) ?_
        rcases hn with hn | hn
        · refine hn (y, w) ?_
          rw [hfl]
          exact List.mem_append_right _ (List.mem_append_right _ (by simp [wtl]))
        · intro e
          simp only [Tr.has, hp, key_app_hi] at hn
          simp at hn
          exact hn e
theorem At.step {lo d k : Nat} {t : Tr} {X Y V W A c B} {key val : ByteArray} (h : At lo d k t X Y V W A c B) (hs : Srt (flat (d + 2) t)) (hp : t.plc key = k) (hn : NoKey key (flat (d + 2) t))
    (ih : ∀ c, Nd 1 (d + 1) c → c.keys.length ≤ 2 → Srt (flat (d + 1) c) → NoKey key (flat (d + 1) c) → Nd 1 (d + 1) (putN (d + 1) c key val) ∧ flat (d + 1) (putN (d + 1) c key val) = insP (key, val) (flat (d + 1) c)) (h2 : c.keys.length ≤ 2) :
    Nd lo (d + 2) ⟨t.keys, t.vals, t.kids.set k (putN (d + 1) (t.kid k) key val)⟩ ∧ flat (d + 2) ⟨t.keys, t.vals, t.kids.set k (putN (d + 1) (t.kid k) key val)⟩ = insP (key, val) (flat (d + 2) t) := by
  obtain ⟨g1, g2⟩ := h.sides hs hp (.inl hn)
  rw [h.kid]
  have hf := h.fl
  rw [hf] at hs hn
  have s2 := (srt_app.1 (srt_app.1 hs).2.1).1
  obtain ⟨n1, n2⟩ := ih c h.nc h2 s2 fun q hq => hn q (List.mem_append_right _ (List.mem_append_left _ hq))
  have h' := h.set n1
  refine ⟨h'.nd, ?_⟩
  rw [h'.fl, n2, hf, insP_mid (p := (key, val)) g1 g2]
theorem zip_app {α β : Type} {X Y : List α} {V W : List β} (h : X.length = V.length) : (X ++ Y).zip (V ++ W) = X.zip V ++ Y.zip W := List.zip_append h
theorem put_flat : ∀ {d lo : Nat} {t : Tr} {key val : ByteArray}, Nd lo d t → t.keys.length ≤ 2 → Srt (flat d t) → NoKey key (flat d t) →
    Nd lo d (putN d t key val) ∧ flat d (putN d t key val) = insP (key, val) (flat d t)
  | 0, _, _, _, _, h, _, _, _ => h.elim
  | 1, lo, t, key, val, h, h2, hs, hn => by
    obtain ⟨h3, h4, h5, h6⟩ := h
    obtain ⟨hk, -⟩ := h6.resolve_right (fun h => h.2.1 rfl)
    rw [putN, if_pos hk]
    obtain ⟨ks, vs, cs⟩ := t
    dsimp only at hk h2 h3 h4 h5
    subst hk
    obtain ⟨X, Y, rfl, hX⟩ := cut_to (Tr.plc_le ⟨ks, vs, []⟩ key)
    obtain ⟨V, W, rfl, hV⟩ := cut_to (l := vs) (k := X.length) (by rw [h5]; simp)
    have hW : W.length = Y.length := by simp at h5; omega
    rw [← hX]
    dsimp only
    rw [insL_app]
    rw [show insL (V ++ W) X.length val = V ++ val :: W from hV ▸ insL_app]
    refine ⟨⟨by simp at h3 ⊢; omega, by simp at h2 ⊢; omega, by simp; omega, .inl ⟨rfl, rfl⟩⟩, ?_⟩
    obtain ⟨g1, g2⟩ := plc_at hX.symm
    simp only [flat, List.map_nil, weave, Tr.prs] at hs hn ⊢
    rw [zip_app hV.symm, List.zip_cons_cons]
    rw [zip_app hV.symm] at hs hn ⊢
    obtain ⟨s1, s2, s3⟩ := srt_app.1 hs
    refine (insP_here (p := (key, val)) (fun q hq => g1 _ (List.of_mem_zip hq).1) ?_).symm
    cases Y with
    | nil => intro q hq; simp at hq
    | cons y Y =>
      cases W with
      | nil => simp at hW
      | cons w W =>
        rw [List.zip_cons_cons] at s2 hn ⊢
        have h0 := lt_of_not (g2 y Y rfl) (hn (y, w) (by simp))
        intro q hq
        rcases List.mem_cons.1 hq with rfl | hq
        · exact h0
        · exact ltS_trans h0 ((srt_cons.1 s2).1 q hq)
  | d + 2, lo, t, key, val, h, h2, hs, hn => by
    have ih := fun (c : Tr) (h : Nd 1 (d + 1) c) (h2 : c.keys.length ≤ 2) hs hn => put_flat (d := d + 1) (lo := 1) (t := c) (key := key) (val := val) h h2 hs hn
    obtain ⟨X, Y, V, W, A, c, B, ha⟩ := h.at (t.plc_le key)
    obtain ⟨k, hk⟩ : ∃ k, k = t.plc key := ⟨_, rfl⟩
    rw [← hk] at ha
    have hne : t.kids ≠ [] := by rw [ha.eq]; simp
    rw [putN, if_neg hne, ← hk, ha.kid]
    dsimp only
    by_cases h3 : c.keys.length = 3
    · rw [if_pos h3]
      obtain ⟨e, hf, a1, a2⟩ := ha.split' h3 h2
      obtain ⟨p1, p2, p3, p4, p5⟩ := part_ok ha.nc h3
      have hX := ha.hX
      have g := plc_at (X := X) (Y := Y) (V := V ++ W) (C := A ++ c :: B) (key := key) (by rw [← ha.eq, ← hk, hX])
      rw [← hf] at hs hn ⊢
      by_cases h4 : ltS (c.key 1) key = true
      · have hp : (splitT t k).plc key = k + 1 := by
          have := plc_to (X := X ++ [c.key 1]) (Y := Y) (V := V ++ c.val 1 :: W) (C := A ++ partT c 0 1 :: partT c 2 3 :: B) (key := key) (fun x hx => by
            rcases List.mem_append.1 hx with hx | hx
            · exact g.1 x hx
            · rw [List.mem_singleton.1 hx]; exact h4) g.2
          rw [e]
          simpa [hX] using this
        rw [hp]
        exact a2.step hs hp hn ih (by omega)
      · have hp : (splitT t k).plc key = k := by
          have := plc_to (X := X) (Y := c.key 1 :: Y) (V := V ++ c.val 1 :: W) (C := A ++ partT c 0 1 :: partT c 2 3 :: B) (key := key) g.1 (fun y Y' e => by
            injection e with e _; rw [← e]; simpa using h4)
          rw [e]
          simpa [hX] using this
        rw [hp]
        exact a1.step hs hp hn ih (by omega)
    · rw [if_neg h3, ← hk]
      exact ha.step hs hk.symm hn ih (by have := ha.nc.le3; omega)
/-! a value is laid to a key, and got -/
def setN : Nat → Tr → ByteArray → ByteArray → Tr
  | 0, t, _, _ => t
  | d + 1, t, key, val => if t.has key then ⟨t.keys, t.vals.set (t.plc key) val, t.kids⟩ else ⟨t.keys, t.vals, t.kids.set (t.plc key) (setN d (t.kid (t.plc key)) key val)⟩
def HasKey (key : ByteArray) (l : List Pr) : Prop := ∃ q ∈ l, q.1 = key
theorem hasKey_app {key : ByteArray} {A B : List Pr} : HasKey key (A ++ B) ↔ HasKey key A ∨ HasKey key B := by
  simp [HasKey, or_and_right, exists_or]
theorem hasKey_lt {key : ByteArray} {A : List Pr} (h : ∀ q ∈ A, ltS q.1 key = true) : ¬ HasKey key A := fun ⟨q, hq, e⟩ => lt_ne (h q hq) e
theorem hasKey_gt {key : ByteArray} {A : List Pr} (h : ∀ q ∈ A, ltS key q.1 = true) : ¬ HasKey key A := fun ⟨q, hq, e⟩ => lt_ne (h q hq) e.symm
/-- A node seen at one of its keys. -/
theorem has_at {t : Tr} {key : ByteArray} (h : t.has key = true) (hv : t.vals.length = t.keys.length) : ∃ X Y V w W, t = ⟨X ++ key :: Y, V ++ w :: W, t.kids⟩ ∧ X.length = t.plc key ∧ V.length = t.plc key ∧ W.length = Y.length := by
  obtain ⟨ks, vs, cs⟩ := t
  simp only [Tr.has, Bool.and_eq_true, decide_eq_true_eq] at h
  obtain ⟨h1, h2⟩ := h
  dsimp only at hv
  obtain ⟨p, hp⟩ : ∃ p, p = Tr.plc ⟨ks, vs, cs⟩ key := ⟨_, rfl⟩
  rw [← hp] at h1 h2 ⊢
  obtain ⟨X, y, Y, rfl, hX⟩ := cut_at h1
  obtain ⟨V, w, W, rfl, hV⟩ := cut_at (l := vs) (k := p) (by omega)
  rw [← hX, key_app_hi] at h2
  subst h2
  exact ⟨X, Y, V, w, W, rfl, hX, hV, by simp at hv; omega⟩
theorem not_has_leaf {d lo : Nat} {t : Tr} {key : ByteArray} (h : Nd lo (d + 1) t) (hk : t.kids = []) (hs : Srt (flat (d + 1) t)) (hh : t.has key = false) : ¬ HasKey key (flat (d + 1) t) := by
  obtain ⟨ks, vs, cs⟩ := t
  obtain ⟨h3, h4, h5, h6⟩ := h
  dsimp only at hk h5
  subst hk
  obtain ⟨X, Y, rfl, hX⟩ := cut_to (Tr.plc_le ⟨ks, vs, []⟩ key)
  obtain ⟨V, W, rfl, hV⟩ := cut_to (l := vs) (k := X.length) (by rw [h5]; simp)
  have hW : W.length = Y.length := by simp at h5; omega
  obtain ⟨g1, g2⟩ := plc_at hX.symm
  simp only [flat, List.map_nil, weave, Tr.prs] at hs ⊢
  rw [zip_app hV.symm] at hs ⊢
  obtain ⟨s1, s2, s3⟩ := srt_app.1 hs
  rw [hasKey_app]
  rintro (h | h)
  · exact hasKey_lt (fun q hq => g1 _ (List.of_mem_zip hq).1) h
  · cases Y with
    | nil => obtain ⟨q, hq, _⟩ := h; simp at hq
    | cons y Y =>
      cases W with
      | nil => simp at hW
      | cons w W =>
        have h0 := lt_of_not (g2 y Y rfl) (by
          intro e
          simp only [Tr.has, ← hX, key_app_hi] at hh
          simp at hh
          exact hh e)
        rw [List.zip_cons_cons] at s2 h
        refine hasKey_gt (fun q hq => ?_) h
        rcases List.mem_cons.1 hq with rfl | hq
        · exact h0
        · exact ltS_trans h0 ((srt_cons.1 s2).1 q hq)
/-- The key is below the kid at its place. -/
theorem At.below {lo d k : Nat} {t : Tr} {X Y V W A c B} {key : ByteArray} (h : At lo d k t X Y V W A c B) (hs : Srt (flat (d + 2) t)) (hp : t.plc key = k) (hh : t.has key = false) :
    HasKey key (flat (d + 2) t) ↔ HasKey key (flat (d + 1) c) := by
  obtain ⟨g1, g2⟩ := h.sides hs hp (.inr hh)
  rw [h.fl, hasKey_app, hasKey_app]
  exact ⟨fun h => (h.resolve_left (hasKey_lt g1)).resolve_right (hasKey_gt g2), fun h => .inr (.inl h)⟩
/-- A node is what lies ahead of a key, the key, what lies behind it. -/
theorem flat_has {d lo : Nat} {t : Tr} {X Y V W : List ByteArray} {key w : ByteArray} (h : Nd lo (d + 1) t) (e : t = ⟨X ++ key :: Y, V ++ w :: W, t.kids⟩) (hV : V.length = X.length) (hW : W.length = Y.length) :
    ∃ L R, flat (d + 1) t = L ++ (key, w) :: R ∧ ∀ w', flat (d + 1) ⟨t.keys, t.vals.set X.length w', t.kids⟩ = L ++ (key, w') :: R := by
  obtain ⟨ks, vs, cs⟩ := t
  injection e with e1 e2
  subst e1 e2
  have es : ∀ w', (V ++ w :: W).set X.length w' = V ++ w' :: W := fun w' => by rw [← hV]; simp
  obtain ⟨h3, h4, h5, h6⟩ := h
  simp only [es, flat, Tr.prs]
  rcases h6 with ⟨hk, -⟩ | ⟨hk, -⟩
  · dsimp only at hk
    subst hk
    refine ⟨X.zip V, Y.zip W, ?_, fun w' => ?_⟩ <;> simp only [List.map_nil, weave] <;> rw [zip_app hV.symm] <;> rfl
  · dsimp only at hk
    obtain ⟨A, c, B, rfl, hA⟩ := cut_at (l := cs) (k := X.length) (by rw [hk]; simp; omega)
    refine ⟨weft (A.map (flat d)) (X.zip V) ++ flat d c, weave (B.map (flat d)) (Y.zip W), ?_, fun w' => ?_⟩
    all_goals
      rw [zip_app hV.symm, List.map_append, weave_app _ _ _ _ (by simp; omega), List.map_cons, weave_cons, List.zip_cons_cons, wtl, List.append_assoc]
theorem set_flat : ∀ {d lo : Nat} {t : Tr} {key val : ByteArray}, Nd lo d t → Srt (flat d t) → HasKey key (flat d t) →
    Nd lo d (setN d t key val) ∧ (setN d t key val).keys = t.keys ∧ flat d (setN d t key val) = setP (key, val) (flat d t)
  | 0, _, _, _, _, h, _, _ => h.elim
  | d + 1, lo, t, key, val, h, hs, hn => by
    rw [setN]
    by_cases hh : t.has key = true
    · rw [if_pos hh]
      obtain ⟨X, Y, V, w, W, e, hX, hV, hW⟩ := has_at hh h.2.2.1
      obtain ⟨L, R, f1, f2⟩ := flat_has h e (by omega) hW
      rw [← hX]
      refine ⟨⟨h.1, h.2.1, by simpa using h.2.2.1, h.2.2.2⟩, rfl, ?_⟩
      rw [f2, f1]
      rw [f1] at hs
      obtain ⟨s1, s2, s3⟩ := srt_app.1 hs
      have hL : setP (key, val) L = L := setP_no fun q hq => lt_ne (s3 q hq (key, w) (.head _))
      have hR : setP (key, val) R = R := setP_no fun q hq => (lt_ne ((srt_cons.1 s2).1 q hq)).symm
      simp only [setP] at hL hR ⊢
      rw [List.map_append, List.map_cons, hL, hR, if_pos rfl]
    · rw [if_neg hh]
      have hh : t.has key = false := by simpa using hh
      cases d with
      | zero =>
        obtain ⟨hk, -⟩ := h.2.2.2.resolve_right (fun h => h.2.1 rfl)
        exact absurd hn (not_has_leaf h hk hs hh)
      | succ d =>
        obtain ⟨X, Y, V, W, A, c, B, ha⟩ := h.at (t.plc_le key)
        have hb := (ha.below hs rfl hh).1 hn
        obtain ⟨g1, g2⟩ := ha.sides hs rfl (.inr hh)
        have hs' := hs
        rw [ha.fl] at hs'
        have s2 := (srt_app.1 (srt_app.1 hs').2.1).1
        obtain ⟨i1, i2, i3⟩ := set_flat (val := val) ha.nc s2 hb
        rw [ha.kid]
        have ha' := ha.set i1
        refine ⟨ha'.nd, rfl, ?_⟩
        rw [ha'.fl, i3, ha.fl]
        have hL : setP (key, val) (weft (A.map (flat (d + 1))) (X.zip V)) = _ := setP_no fun q hq => lt_ne (g1 q hq)
        have hR : setP (key, val) (wtl (B.map (flat (d + 1))) (Y.zip W)) = _ := setP_no fun q hq => (lt_ne (g2 q hq)).symm
        simp only [setP] at hL hR ⊢
        rw [List.map_append, List.map_append, hL, hR]
theorem setP_srt {p : Pr} {l : List Pr} (h : Srt l) : Srt (setP p l) := by
  unfold Srt setP
  rw [List.pairwise_map]
  refine h.imp fun {a b} hab => ?_
  have e : ∀ q : Pr, (if q.1 = p.1 then p else q).1 = q.1 := fun q => by
    split
    · rename_i h; exact h.symm
    · rfl
  rw [e, e]; exact hab
theorem setP_len {p : Pr} {l : List Pr} : (setP p l).length = l.length := List.length_map ..
def lookP (key : ByteArray) (l : List Pr) : Option ByteArray := (l.find? fun q => decide (q.1 = key)).map Prod.snd
theorem lookP_app_no {key : ByteArray} {A B : List Pr} (h : ¬ HasKey key A) : lookP key (A ++ B) = lookP key B := by
  unfold lookP
  rw [List.find?_append, List.find?_eq_none.2 (fun q hq e => h ⟨q, hq, of_decide_eq_true e⟩)]
  rfl
theorem lookP_app_has {key : ByteArray} {A B : List Pr} (h : ¬ HasKey key B) : lookP key (A ++ B) = lookP key A := by
  unfold lookP
  rw [List.find?_append, List.find?_eq_none.2 (fun q hq e => h ⟨q, hq, of_decide_eq_true e⟩)]
  simp
theorem lookP_none {key : ByteArray} {l : List Pr} : lookP key l = none ↔ ¬ HasKey key l := by
  unfold lookP
  rw [Option.map_eq_none_iff, List.find?_eq_none]
  exact ⟨fun h ⟨q, hq, e⟩ => h q hq (decide_eq_true e), fun h q hq e => h ⟨q, hq, of_decide_eq_true e⟩⟩
theorem get_flat : ∀ {d lo : Nat} {t : Tr} {key : ByteArray}, Nd lo d t → Srt (flat d t) → getT d t key = lookP key (flat d t)
  | 0, _, _, _, h, _ => h.elim
  | d + 1, lo, t, key, h, hs => by
    rw [getT]
    by_cases hh : t.has key = true
    · rw [if_pos hh]
      obtain ⟨X, Y, V, w, W, e, hX, hV, hW⟩ := has_at hh h.2.2.1
      obtain ⟨L, R, f1, f2⟩ := flat_has h e (by omega) hW
      rw [f1] at hs ⊢
      obtain ⟨s1, s2, s3⟩ := srt_app.1 hs
      rw [lookP_app_no (hasKey_lt fun q hq => s3 q hq (key, w) (.head _)), e]
      have hp : Tr.plc ⟨X ++ key :: Y, V ++ w :: W, t.kids⟩ key = V.length := by rw [← e]; omega
      rw [hp, val_app_hi (X := X ++ key :: Y)]
      simp [lookP]
    · rw [if_neg hh]
      have hh : t.has key = false := by simpa using hh
      cases d with
      | zero =>
        obtain ⟨hk, -⟩ := h.2.2.2.resolve_right (fun h => h.2.1 rfl)
        rw [if_pos (by rw [hk]; rfl), eq_comm, lookP_none]
        exact not_has_leaf h hk hs hh
      | succ d =>
        obtain ⟨X, Y, V, W, A, c, B, ha⟩ := h.at (t.plc_le key)
        rw [if_neg (by rw [ha.eq]; simp)]
        obtain ⟨g1, g2⟩ := ha.sides hs rfl (.inr hh)
        have hs' := hs
        rw [ha.fl] at hs' ⊢
        have s2 := (srt_app.1 (srt_app.1 hs').2.1).1
        rw [ha.kid, get_flat ha.nc s2, lookP_app_no (hasKey_lt g1), lookP_app_has (hasKey_gt g2)]
/-! a key is taken out -/
def joinT (t : Tr) (k : Nat) : Tr := ⟨outL t.keys k, outL t.vals k, t.kids.take k ++ ⟨(t.kid k).keys ++ t.key k :: (t.kid (k + 1)).keys, (t.kid k).vals ++ t.val k :: (t.kid (k + 1)).vals, (t.kid k).kids ++ (t.kid (k + 1)).kids⟩ :: t.kids.drop (k + 2)⟩
def lendB (t : Tr) (k : Nat) : Tr :=
  let a := t.kid k
  let b := t.kid (k + 1)
  ⟨t.keys.set k (a.key (a.keys.length - 1)), t.vals.set k (a.val (a.keys.length - 1)), (t.kids.set k (partT a 0 (a.keys.length - 1))).set (k + 1) ⟨t.key k :: b.keys, t.val k :: b.vals, if b.kids = [] then [] else a.kid a.keys.length :: b.kids⟩⟩
def lendA (t : Tr) (k : Nat) : Tr :=
  let a := t.kid k
  let b := t.kid (k + 1)
  ⟨t.keys.set k (b.key 0), t.vals.set k (b.val 0), (t.kids.set k ⟨a.keys ++ [t.key k], a.vals ++ [t.val k], if a.kids = [] then [] else a.kids ++ [b.kid 0]⟩).set (k + 1) (partT b 1 b.keys.length)⟩
def fillT (t : Tr) (k : Nat) : Tr × Nat :=
  if 1 < (t.kid k).keys.length then (t, k)
  else if 0 < k ∧ 1 < (t.kid (k - 1)).keys.length then (lendB t (k - 1), k)
  else if k < t.keys.length ∧ 1 < (t.kid (k + 1)).keys.length then (lendA t k, k)
  else if 0 < k then (joinT t (k - 1), k - 1)
  else (joinT t k, k)
def endG : Nat → Tr → Pr
  | 0, _ => (noS, noS)
  | d + 1, t => if t.kids = [] then (t.key (t.keys.length - 1), t.val (t.keys.length - 1)) else endG d (t.kid (t.kids.length - 1))
def endL : Nat → Tr → Pr
  | 0, _ => (noS, noS)
  | d + 1, t => if t.kids = [] then (t.key 0, t.val 0) else endL d (t.kid 0)
def delN : Nat → Tr → ByteArray → Tr
  | 0, t, _ => t
  | d + 1, t, key =>
    let k := t.plc key
    if t.kids = [] then ⟨outL t.keys k, outL t.vals k, []⟩
    else if t.has key then
      if 1 < (t.kid k).keys.length then
        ⟨t.keys.set k (endG d (t.kid k)).1, t.vals.set k (endG d (t.kid k)).2, t.kids.set k (delN d (t.kid k) (endG d (t.kid k)).1)⟩
      else if 1 < (t.kid (k + 1)).keys.length then
        ⟨t.keys.set k (endL d (t.kid (k + 1))).1, t.vals.set k (endL d (t.kid (k + 1))).2, t.kids.set (k + 1) (delN d (t.kid (k + 1)) (endL d (t.kid (k + 1))).1)⟩
      else ⟨(joinT t k).keys, (joinT t k).vals, (joinT t k).kids.set k (delN d ((joinT t k).kid k) key)⟩
    else ⟨(fillT t k).1.keys, (fillT t k).1.vals, (fillT t k).1.kids.set (fillT t k).2 (delN d ((fillT t k).1.kid (fillT t k).2) key)⟩
/-- A node seen at two of its kids. -/
structure At2 (lo d k : Nat) (t : Tr) (X : List ByteArray) (y : ByteArray) (Y V : List ByteArray) (w : ByteArray) (W : List ByteArray) (A : List Tr) (a b : Tr) (B : List Tr) : Prop where
  eq : t = ⟨X ++ y :: Y, V ++ w :: W, A ++ a :: b :: B⟩
  hA : A.length = k
  hX : X.length = k
  hV : V.length = k
  hW : W.length = Y.length
  hB : B.length = Y.length
  lo : lo ≤ k + (Y.length + 1)
  le : k + (Y.length + 1) ≤ 3
  nA : ∀ a ∈ A, Nd 1 (d + 1) a
  na : Nd 1 (d + 1) a
  nb : Nd 1 (d + 1) b
  nB : ∀ a ∈ B, Nd 1 (d + 1) a
theorem At.two {lo d k : Nat} {t : Tr} {X Y V W A c B} (h : At lo d k t X Y V W A c B) (hk : k < t.keys.length) : ∃ y Y' w W' b B', Y = y :: Y' ∧ W = w :: W' ∧ B = b :: B' ∧ At2 lo d k t X y Y' V w W' A c b B' := by
  obtain ⟨rfl, h1, h2, h3, h4, h5, h6, h7, h8, h9, h10⟩ := h
  cases Y with
  | nil => simp [h2] at hk
  | cons y Y =>
    cases W with
    | nil => simp at h4
    | cons w W =>
      cases B with
      | nil => simp at h5
      | cons b B => exact ⟨y, Y, w, W, b, B, rfl, rfl, rfl, rfl, h1, h2, h3, by simpa using h4, by simpa using h5, h6, h7, h8, h9, h10 b (.head _), fun a ha => h10 a (.tail _ ha)⟩
theorem At2.left {lo d k : Nat} {t : Tr} {X y Y V w W A a b B} (h : At2 lo d k t X y Y V w W A a b B) : At lo d k t X (y :: Y) V (w :: W) A a (b :: B) := by
  obtain ⟨rfl, h1, h2, h3, h4, h5, h6, h7, h8, h9, h10, h11⟩ := h
  exact ⟨rfl, h1, h2, h3, by simp [h4], by simp [h5], h6, h7, h8, h9, fun c hc => by
    rcases List.mem_cons.1 hc with rfl | hc
    · exact h10
    · exact h11 c hc⟩
theorem At2.right {lo d k : Nat} {t : Tr} {X y Y V w W A a b B} (h : At2 lo d k t X y Y V w W A a b B) : At lo d (k + 1) t (X ++ [y]) Y (V ++ [w]) W (A ++ [a]) b B := by
  obtain ⟨rfl, h1, h2, h3, h4, h5, h6, h7, h8, h9, h10, h11⟩ := h
  exact ⟨by simp, by simp [h1], by simp [h2], by simp [h3], h4, h5, by omega, by omega, fun c hc => by
    rcases List.mem_append.1 hc with hc | hc
    · exact h8 c hc
    · rw [List.mem_singleton.1 hc]; exact h9, h10, h11⟩
theorem At2.fl {lo d k : Nat} {t : Tr} {X y Y V w W A a b B} (h : At2 lo d k t X y Y V w W A a b B) : flat (d + 2) t = weft (A.map (flat (d + 1))) (X.zip V) ++ ((flat (d + 1) a ++ (y, w) :: flat (d + 1) b) ++ wtl (B.map (flat (d + 1))) (Y.zip W)) := by
  rw [h.left.fl]
  simp [wtl, weave_cons]
theorem At2.turn {lo d k : Nat} {t : Tr} {X y Y V w W A a b B} (h : At2 lo d k t X y Y V w W A a b B) {y' w' : ByteArray} {a' b' : Tr} (ha : Nd 1 (d + 1) a') (hb : Nd 1 (d + 1) b') :
    At2 lo d k ⟨t.keys.set k y', t.vals.set k w', (t.kids.set k a').set (k + 1) b'⟩ X y' Y V w' W A a' b' B := by
  obtain ⟨rfl, h1, h2, h3, h4, h5, h6, h7, h8, h9, h10, h11⟩ := h
  refine ⟨?_, h1, h2, h3, h4, h5, h6, h7, h8, ha, hb, h11⟩
  have e1 : (X ++ y :: Y).set k y' = X ++ y' :: Y := by rw [← h2]; simp
  have e2 : (V ++ w :: W).set k w' = V ++ w' :: W := by rw [← h3]; simp
  have e3 : ((A ++ a :: b :: B).set k a').set (k + 1) b' = A ++ a' :: b' :: B := by rw [← h1]; simp
  dsimp only
  rw [e1, e2, e3]
theorem At2.facts {lo d k : Nat} {t : Tr} {X y Y V w W A a b B} (h : At2 lo d k t X y Y V w W A a b B) : t.kid k = a ∧ t.kid (k + 1) = b ∧ t.key k = y ∧ t.val k = w := by
  refine ⟨h.left.kid, h.right.kid, ?_, ?_⟩
  · rw [h.eq, ← h.hX, key_app_hi]
  · rw [h.eq, ← h.hV, val_app_hi]
theorem len1 {α : Type} {l : List α} (h : l.length = 1) : ∃ a, l = [a] := by
  match l, h with
  | [a], _ => exact ⟨a, rfl⟩
theorem len2 {α : Type} {l : List α} (h : l.length = 2) : ∃ a b, l = [a, b] := by
  match l, h with
  | [a, b], _ => exact ⟨a, b, rfl⟩
theorem join_ok {d : Nat} {a b : Tr} {y w : ByteArray} (ha : Nd 1 (d + 1) a) (hb : Nd 1 (d + 1) b) (h1 : a.keys.length = 1) (h2 : b.keys.length = 1) :
    Nd 1 (d + 1) ⟨a.keys ++ y :: b.keys, a.vals ++ w :: b.vals, a.kids ++ b.kids⟩ ∧ flat (d + 1) ⟨a.keys ++ y :: b.keys, a.vals ++ w :: b.vals, a.kids ++ b.kids⟩ = flat (d + 1) a ++ (y, w) :: flat (d + 1) b := by
  obtain ⟨ak, av, ac⟩ := a
  obtain ⟨bk, bv, bc⟩ := b
  obtain ⟨-, -, h3, h4⟩ := ha
  obtain ⟨-, -, h5, h6⟩ := hb
  dsimp only at h1 h2 h3 h4 h5 h6
  rw [h1] at h3
  rw [h2] at h5
  obtain ⟨p, rfl⟩ := len1 h1
  obtain ⟨q, rfl⟩ := len1 h2
  obtain ⟨r, rfl⟩ := len1 h3
  obtain ⟨s, rfl⟩ := len1 h5
  rcases h4 with ⟨rfl, rfl⟩ | ⟨h4, h7, h8⟩
  · obtain ⟨rfl, -⟩ := h6.resolve_right fun h => h.2.1 rfl
    simp [Nd, flat, weave, Tr.prs]
  · obtain ⟨h6, -, h9⟩ := h6.resolve_left fun h => h7 h.2
    obtain ⟨i, j, rfl⟩ := len2 (by simpa using h4)
    obtain ⟨m, n, rfl⟩ := len2 (by simpa using h6)
    simp only [List.mem_cons, List.not_mem_nil, or_false, forall_eq_or_imp, forall_eq] at h8 h9
    simp [Nd, flat, weave, Tr.prs, h7, h8, h9]
theorem lendB_ok {d : Nat} {a b : Tr} {y w : ByteArray} (ha : Nd 1 (d + 1) a) (hb : Nd 1 (d + 1) b) (h1 : 1 < a.keys.length) (h2 : b.keys.length = 1) {a' b' : Tr}
    (ea : a' = partT a 0 (a.keys.length - 1)) (eb : b' = ⟨y :: b.keys, w :: b.vals, if b.kids = [] then [] else a.kid a.keys.length :: b.kids⟩) :
    Nd 1 (d + 1) a' ∧ Nd 1 (d + 1) b' ∧ b'.keys.length = 2 ∧ flat (d + 1) a' ++ (a.key (a.keys.length - 1), a.val (a.keys.length - 1)) :: flat (d + 1) b' = flat (d + 1) a ++ (y, w) :: flat (d + 1) b ∧ ∃ L, flat (d + 1) b' = L ++ flat (d + 1) b := by
  subst ea eb
  obtain ⟨ak, av, ac⟩ := a
  obtain ⟨bk, bv, bc⟩ := b
  obtain ⟨-, h0, h3, h4⟩ := ha
  obtain ⟨-, -, h5, h6⟩ := hb
  dsimp only at h0 h1 h2 h3 h4 h5 h6
  rw [h2] at h5
  obtain ⟨q, rfl⟩ := len1 h2
  obtain ⟨s, rfl⟩ := len1 h5
  have hn : ak.length = 2 ∨ ak.length = 3 := by omega
  rcases hn with hn | hn
  · rw [hn] at h3
    obtain ⟨p1, p2, rfl⟩ := len2 hn
    obtain ⟨r1, r2, rfl⟩ := len2 h3
    rcases h4 with ⟨rfl, rfl⟩ | ⟨h4, h7, h8⟩
    · obtain ⟨rfl, -⟩ := h6.resolve_right fun h => h.2.1 rfl
      simp [Nd, flat, weave, Tr.prs, partT, Tr.key, Tr.val, Tr.kid]
      exact ⟨[_], rfl⟩
    · obtain ⟨h6, -, h9⟩ := h6.resolve_left fun h => h7 h.2
      obtain ⟨i, j, l, rfl⟩ := len3 (by simpa using h4)
      obtain ⟨m, n, rfl⟩ := len2 (by simpa using h6)
      simp only [List.mem_cons, List.not_mem_nil, or_false, forall_eq_or_imp, forall_eq] at h8 h9
      simp [Nd, flat, weave, Tr.prs, partT, Tr.key, Tr.val, Tr.kid, h7, h8, h9]
      exact ⟨flat d l ++ [(y, w)], by simp⟩
  · rw [hn] at h3
    obtain ⟨p1, p2, p3, rfl⟩ := len3 hn
    obtain ⟨r1, r2, r3, rfl⟩ := len3 h3
    rcases h4 with ⟨rfl, rfl⟩ | ⟨h4, h7, h8⟩
    · obtain ⟨rfl, -⟩ := h6.resolve_right fun h => h.2.1 rfl
      simp [Nd, flat, weave, Tr.prs, partT, Tr.key, Tr.val, Tr.kid]
      exact ⟨[_], rfl⟩
    · obtain ⟨h6, -, h9⟩ := h6.resolve_left fun h => h7 h.2
      obtain ⟨i, j, l, o, rfl⟩ := len4 (by simpa using h4)
      obtain ⟨m, n, rfl⟩ := len2 (by simpa using h6)
      simp only [List.mem_cons, List.not_mem_nil, or_false, forall_eq_or_imp, forall_eq] at h8 h9
      simp [Nd, flat, weave, Tr.prs, partT, Tr.key, Tr.val, Tr.kid, h7, h8, h9]
      exact ⟨flat d o ++ [(y, w)], by simp⟩
theorem lendA_ok {d : Nat} {a b : Tr} {y w : ByteArray} (ha : Nd 1 (d + 1) a) (hb : Nd 1 (d + 1) b) (h1 : 1 < b.keys.length) (h2 : a.keys.length = 1) {a' b' : Tr}
    (eb : b' = partT b 1 b.keys.length) (ea : a' = ⟨a.keys ++ [y], a.vals ++ [w], if a.kids = [] then [] else a.kids ++ [b.kid 0]⟩) :
    Nd 1 (d + 1) a' ∧ Nd 1 (d + 1) b' ∧ a'.keys.length = 2 ∧ flat (d + 1) a' ++ (b.key 0, b.val 0) :: flat (d + 1) b' = flat (d + 1) a ++ (y, w) :: flat (d + 1) b ∧ ∃ L, flat (d + 1) a' = flat (d + 1) a ++ L := by
  subst ea eb
  obtain ⟨bk, bv, bc⟩ := b
  obtain ⟨ak, av, ac⟩ := a
  obtain ⟨-, h0, h3, h4⟩ := hb
  obtain ⟨-, -, h5, h6⟩ := ha
  dsimp only at h0 h1 h2 h3 h4 h5 h6
  rw [h2] at h5
  obtain ⟨q, rfl⟩ := len1 h2
  obtain ⟨s, rfl⟩ := len1 h5
  have hn : bk.length = 2 ∨ bk.length = 3 := by omega
  rcases hn with hn | hn
  · rw [hn] at h3
    obtain ⟨p1, p2, rfl⟩ := len2 hn
    obtain ⟨r1, r2, rfl⟩ := len2 h3
    rcases h4 with ⟨rfl, rfl⟩ | ⟨h4, h7, h8⟩
    · obtain ⟨rfl, -⟩ := h6.resolve_right fun h => h.2.1 rfl
      simp [Nd, flat, weave, Tr.prs, partT, Tr.key, Tr.val, Tr.kid]
    · obtain ⟨h6, -, h9⟩ := h6.resolve_left fun h => h7 h.2
      obtain ⟨i, j, l, rfl⟩ := len3 (by simpa using h4)
      obtain ⟨m, n, rfl⟩ := len2 (by simpa using h6)
      simp only [List.mem_cons, List.not_mem_nil, or_false, forall_eq_or_imp, forall_eq] at h8 h9
      simp [Nd, flat, weave, Tr.prs, partT, Tr.key, Tr.val, Tr.kid, h7, h8, h9]
  · rw [hn] at h3
    obtain ⟨p1, p2, p3, rfl⟩ := len3 hn
    obtain ⟨r1, r2, r3, rfl⟩ := len3 h3
    rcases h4 with ⟨rfl, rfl⟩ | ⟨h4, h7, h8⟩
    · obtain ⟨rfl, -⟩ := h6.resolve_right fun h => h.2.1 rfl
      simp [Nd, flat, weave, Tr.prs, partT, Tr.key, Tr.val, Tr.kid]
    · obtain ⟨h6, -, h9⟩ := h6.resolve_left fun h => h7 h.2
      obtain ⟨i, j, l, o, rfl⟩ := len4 (by simpa using h4)
      obtain ⟨m, n, rfl⟩ := len2 (by simpa using h6)
      simp only [List.mem_cons, List.not_mem_nil, or_false, forall_eq_or_imp, forall_eq] at h8 h9
      simp [Nd, flat, weave, Tr.prs, partT, Tr.key, Tr.val, Tr.kid, h7, h8, h9]
theorem At2.lendB' {lo d k : Nat} {t : Tr} {X y Y V w W A a b B} (h : At2 lo d k t X y Y V w W A a b B) (h1 : 1 < a.keys.length) (h2 : b.keys.length = 1) :
    ∃ y' w' a' b', At2 lo d k (lendB t k) X y' Y V w' W A a' b' B ∧ b'.keys.length = 2 ∧ flat (d + 2) (lendB t k) = flat (d + 2) t ∧ ∃ L, flat (d + 1) b' = L ++ flat (d + 1) b := by
  obtain ⟨f1, f2, f3, f4⟩ := h.facts
  obtain ⟨g1, g2, g3, g4, g5⟩ := lendB_ok (y := y) (w := w) h.na h.nb h1 h2 rfl rfl
  have e : lendB t k = _ := rfl
  conv at e => rhs; rw [lendB, f1, f2, f3, f4]
  rw [e]
  have h' := h.turn (y' := a.key (a.keys.length - 1)) (w' := a.val (a.keys.length - 1)) g1 g2
  refine ⟨_, _, _, _, h', g3, ?_, g5⟩
  rw [h'.fl, g4, h.fl]
theorem At2.lendA' {lo d k : Nat} {t : Tr} {X y Y V w W A a b B} (h : At2 lo d k t X y Y V w W A a b B) (h1 : 1 < b.keys.length) (h2 : a.keys.length = 1) :
    ∃ y' w' a' b', At2 lo d k (lendA t k) X y' Y V w' W A a' b' B ∧ a'.keys.length = 2 ∧ flat (d + 2) (lendA t k) = flat (d + 2) t ∧ ∃ L, flat (d + 1) a' = flat (d + 1) a ++ L := by
  obtain ⟨f1, f2, f3, f4⟩ := h.facts
  obtain ⟨g1, g2, g3, g4, g5⟩ := lendA_ok (y := y) (w := w) h.na h.nb h1 h2 rfl rfl
  have e : lendA t k = _ := rfl
  conv at e => rhs; rw [lendA, f1, f2, f3, f4]
  rw [e]
  have h' := h.turn (y' := b.key 0) (w' := b.val 0) g1 g2
  refine ⟨_, _, _, _, h', g3, ?_, g5⟩
  rw [h'.fl, g4, h.fl]
theorem At2.join {lo d k : Nat} {t : Tr} {X y Y V w W A a b B} (h : At2 lo d k t X y Y V w W A a b B) (h1 : a.keys.length = 1) (h2 : b.keys.length = 1) (hl : lo + 1 ≤ t.keys.length) :
    ∃ c, At lo d k (joinT t k) X Y V W A c B ∧ c.keys.length = 3 ∧ flat (d + 2) (joinT t k) = flat (d + 2) t ∧ flat (d + 1) c = flat (d + 1) a ++ (y, w) :: flat (d + 1) b := by
  obtain ⟨f1, f2, f3, f4⟩ := h.facts
  obtain ⟨g1, g2⟩ := join_ok (y := y) (w := w) h.na h.nb h1 h2
  have hf := h.fl
  have e : joinT t k = _ := rfl
  conv at e => rhs; rw [joinT, f1, f2, f3, f4]
  rw [e]
  obtain ⟨rfl, h3, h4, h5, h6, h7, h8, h9, h10, h11, h12, h13⟩ := h
  have a1 : At lo d k ⟨outL (X ++ y :: Y) k, outL (V ++ w :: W) k, (A ++ a :: b :: B).take k ++ ⟨a.keys ++ y :: b.keys, a.vals ++ w :: b.vals, a.kids ++ b.kids⟩ :: (A ++ a :: b :: B).drop (k + 2)⟩ X Y V W A ⟨a.keys ++ y :: b.keys, a.vals ++ w :: b.vals, a.kids ++ b.kids⟩ B := by
    have e1 : outL (X ++ y :: Y) k = X ++ Y := h4 ▸ outL_app
    have e2 : outL (V ++ w :: W) k = V ++ W := h5 ▸ outL_app
    have e3 : (A ++ a :: b :: B).take k = A := by rw [← h3]; simp
    have e4 : (A ++ a :: b :: B).drop (k + 2) = B := by rw [← h3]; simp [List.drop_append]
    rw [e1, e2, e3, e4]
    exact ⟨rfl, h3, h4, h5, h6, h7, by simp [h4] at hl; omega, by omega, h10, g1, h13⟩
  refine ⟨_, a1, by simp [h1, h2], ?_, g2⟩
  rw [a1.fl, g2, hf]
theorem sub_app {α : Type} {l L R : List α} : ∀ q ∈ l, q ∈ L ++ l ++ R := fun q hq => List.mem_append_left _ (List.mem_append_right _ hq)
/-- A kid is filled. -/
theorem At.fill {lo d k : Nat} {t : Tr} {X Y V W A c B} (h : At lo d k t X Y V W A c B) (hl : lo + 1 ≤ t.keys.length) :
    ∃ X' Y' V' W' A' c' B', At lo d (fillT t k).2 (fillT t k).1 X' Y' V' W' A' c' B' ∧ 2 ≤ c'.keys.length ∧ flat (d + 2) (fillT t k).1 = flat (d + 2) t ∧ ∀ q ∈ flat (d + 1) c, q ∈ flat (d + 1) c' := by
  unfold fillT
  rw [h.kid]
  by_cases h1 : 1 < c.keys.length
  · rw [if_pos h1]
    exact ⟨_, _, _, _, _, _, _, h, h1, rfl, fun q hq => hq⟩
  rw [if_neg h1]
  have h1 : c.keys.length = 1 := by have := h.nc.ge; omega
  have hn : t.keys.length = k + Y.length := by rw [h.eq]; simp [h.hX]
  -- the kid ahead
  have left : 0 < k → ∃ X0 x0 V0 v0 A0 a0, At2 lo d (k - 1) t X0 x0 Y V0 v0 W A0 a0 c B := by
    intro hk
    obtain ⟨X1, Y1, V1, W1, A1, c1, B1, g⟩ := h.nd.at (k := k - 1) (by omega)
    obtain ⟨y, Y', w, W', b, B', rfl, rfl, rfl, g2⟩ := g.two (by omega)
    have e1 := h.eq
    have e2 := g2.right.eq
    rw [e1] at e2
    injection e2 with e3 e4 e5
    have l1 := g2.hX
    have l2 := g2.hV
    have l3 := g2.hA
    have l4 := h.hX
    have l5 := h.hV
    have l6 := h.hA
    obtain ⟨-, rfl⟩ := List.append_inj e3 (by simp; omega)
    obtain ⟨-, rfl⟩ := List.append_inj e4 (by simp; omega)
    obtain ⟨-, e6⟩ := List.append_inj e5 (by simp; omega)
    injection e6 with e6 e7
    subst e6 e7
    exact ⟨_, _, _, _, _, _, g2⟩
  by_cases h2 : 0 < k ∧ 1 < (t.kid (k - 1)).keys.length
  · rw [if_pos h2]
    obtain ⟨X0, x0, V0, v0, A0, a0, g⟩ := left h2.1
    rw [g.facts.1] at h2
    obtain ⟨y', w', a', b', g1, g2, g3, L, g4⟩ := g.lendB' h2.2 h1
    have g5 := g1.right
    rw [show k - 1 + 1 = k by omega] at g5
    exact ⟨_, _, _, _, _, _, _, g5, by omega, g3, fun q hq => by rw [g4]; exact List.mem_append_right _ hq⟩
  rw [if_neg h2]
  by_cases h3 : k < t.keys.length ∧ 1 < (t.kid (k + 1)).keys.length
  · rw [if_pos h3]
    obtain ⟨y, Y', w, W', b, B', rfl, rfl, rfl, g⟩ := h.two h3.1
    rw [g.facts.2.1] at h3
    obtain ⟨y', w', a', b', g1, g2, g3, L, g4⟩ := g.lendA' h3.2 h1
    exact ⟨_, _, _, _, _, _, _, g1.left, by omega, g3, fun q hq => by rw [g4]; exact List.mem_append_left _ hq⟩
  rw [if_neg h3]
  by_cases h4 : 0 < k
  · rw [if_pos h4]
    obtain ⟨X0, x0, V0, v0, A0, a0, g⟩ := left h4
    have h5 : a0.keys.length = 1 := by
      rw [g.facts.1] at h2
      have := g.na.ge
      omega
    obtain ⟨c', g1, g2, g3, g4⟩ := g.join h5 h1 hl
    exact ⟨_, _, _, _, _, _, _, g1, by omega, g3, fun q hq => by rw [g4]; exact List.mem_append_right _ (.tail _ hq)⟩
  · rw [if_neg h4]
    obtain ⟨y, Y', w, W', b, B', rfl, rfl, rfl, g⟩ := h.two (by omega)
    have h5 : b.keys.length = 1 := by
      rw [g.facts.2.1] at h3
      have := g.nb.ge
      omega
    obtain ⟨c', g1, g2, g3, g4⟩ := g.join h1 h5 hl
    exact ⟨_, _, _, _, _, _, _, g1, by omega, g3, fun q hq => by rw [g4]; exact List.mem_append_left _ hq⟩
theorem endG_ok : ∀ {d : Nat} {t : Tr}, Nd 1 d t → ∃ L, flat d t = L ++ [endG d t]
  | 0, _, h => h.elim
  | d + 1, t, h => by
    rw [endG]
    have h' := h
    obtain ⟨h1, h2, h3, h4⟩ := h
    rcases h4 with ⟨hk, rfl⟩ | ⟨hk, hd, hc⟩
    · rw [if_pos hk]
      obtain ⟨ks, vs, cs⟩ := t
      dsimp only at hk h1 h2 h3
      subst hk
      simp only [flat, List.map_nil, weave, Tr.prs]
      have hn : ks.length = 1 ∨ ks.length = 2 ∨ ks.length = 3 := by omega
      rcases hn with hn | hn | hn <;> rw [hn] at h3
      · obtain ⟨a, rfl⟩ := len1 hn
        obtain ⟨b, rfl⟩ := len1 h3
        exact ⟨[], rfl⟩
      · obtain ⟨a, a', rfl⟩ := len2 hn
        obtain ⟨b, b', rfl⟩ := len2 h3
        exact ⟨[(a, b)], rfl⟩
      · obtain ⟨a, a', a'', rfl⟩ := len3 hn
        obtain ⟨b, b', b'', rfl⟩ := len3 h3
        exact ⟨[(a, b), (a', b')], rfl⟩
    · rw [if_neg (by intro e; rw [e] at hk; simp at hk)]
      obtain ⟨d, rfl⟩ : ∃ d', d = d' + 1 := ⟨d - 1, by omega⟩
      obtain ⟨X, Y, V, W, A, c, B, ha⟩ := h'.at (k := t.keys.length) (Nat.le_refl _)
      have hY : Y = [] := List.eq_nil_of_length_eq_zero (by
        have e := congrArg (fun t => t.keys.length) ha.eq
        rw [List.length_append, ha.hX] at e
        omega)
      have hB : B = [] := List.eq_nil_of_length_eq_zero (by rw [ha.hB, hY]; rfl)
      rw [show t.kids.length - 1 = t.keys.length by omega, ha.kid]
      obtain ⟨L, hL⟩ := endG_ok ha.nc
      rw [ha.fl, hY, hB, hL]
      exact ⟨weft (A.map (flat (d + 1))) (X.zip V) ++ L, by simp [wtl, weave]⟩
theorem endL_ok : ∀ {d : Nat} {t : Tr}, Nd 1 d t → ∃ L, flat d t = endL d t :: L
  | 0, _, h => h.elim
  | d + 1, t, h => by
    rw [endL]
    have h' := h
    obtain ⟨h1, h2, h3, h4⟩ := h
    rcases h4 with ⟨hk, rfl⟩ | ⟨hk, hd, hc⟩
    · rw [if_pos hk]
      obtain ⟨ks, vs, cs⟩ := t
      dsimp only at hk h1 h2 h3
      subst hk
      simp only [flat, List.map_nil, weave, Tr.prs]
      cases ks with
      | nil => simp at h1
      | cons a ks =>
        cases vs with
        | nil => simp at h3
        | cons b vs => exact ⟨_, rfl⟩
    · rw [if_neg (by intro e; rw [e] at hk; simp at hk)]
      obtain ⟨d, rfl⟩ : ∃ d', d = d' + 1 := ⟨d - 1, by omega⟩
      obtain ⟨X, Y, V, W, A, c, B, ha⟩ := h'.at (k := 0) (Nat.zero_le _)
      have hA : A = [] := List.eq_nil_of_length_eq_zero ha.hA
      obtain ⟨L, hL⟩ := endL_ok ha.nc
      rw [ha.kid, ha.fl, hA, hL]
      exact ⟨_, rfl⟩
/-- A key is taken out below a kid. -/
theorem At.del {lo d k : Nat} {t : Tr} {X Y V W A c B} {key : ByteArray} (h : At lo d k t X Y V W A c B) (hs : Srt (flat (d + 2) t)) (hn : HasKey key (flat (d + 1) c)) (h2 : 2 ≤ c.keys.length)
    (ih : Nd 1 (d + 1) c → 1 + 1 ≤ c.keys.length → Srt (flat (d + 1) c) → HasKey key (flat (d + 1) c) → Nd 1 (d + 1) (delN (d + 1) c key) ∧ flat (d + 1) (delN (d + 1) c key) = delP key (flat (d + 1) c)) :
    At lo d k ⟨t.keys, t.vals, t.kids.set k (delN (d + 1) c key)⟩ X Y V W A (delN (d + 1) c key) B ∧ flat (d + 2) ⟨t.keys, t.vals, t.kids.set k (delN (d + 1) c key)⟩ = delP key (flat (d + 2) t) := by
  rw [h.fl] at hs
  obtain ⟨s1, s2, s3⟩ := srt_app.1 hs
  obtain ⟨s4, s5, s6⟩ := srt_app.1 s2
  obtain ⟨n1, n2⟩ := ih h.nc h2 s4 hn
  have h' := h.set n1
  refine ⟨h', ?_⟩
  rw [h'.fl, n2, h.fl, delP_app, delP_app]
  obtain ⟨q, hq, rfl⟩ := hn
  rw [delP_no (l := weft _ _) fun p hp => lt_ne (s3 p hp q (List.mem_append_left _ hq)), delP_no (l := wtl _ _) fun p hp => (lt_ne (s6 q hq p hp)).symm]
theorem At.down {lo d k : Nat} {t : Tr} {X Y V W A c B} (h : At lo d k t X Y V W A c B) {lo' : Nat} (hl : lo' ≤ t.keys.length) : At lo' d k t X Y V W A c B := by
  obtain ⟨rfl, h1, h2, h3, h4, h5, h6, h7, h8, h9, h10⟩ := h
  exact ⟨rfl, h1, h2, h3, h4, h5, by simp [h2] at hl; omega, h7, h8, h9, h10⟩
theorem At2.keyset {lo d k : Nat} {t : Tr} {X y Y V w W A a b B} (h : At2 lo d k t X y Y V w W A a b B) {y' w' : ByteArray} {a' b' : Tr} (ha : Nd 1 (d + 1) a') (hb : Nd 1 (d + 1) b') :
    At2 lo d k ⟨X ++ y' :: Y, V ++ w' :: W, A ++ a' :: b' :: B⟩ X y' Y V w' W A a' b' B := by
  obtain ⟨rfl, h1, h2, h3, h4, h5, h6, h7, h8, h9, h10, h11⟩ := h
  exact ⟨rfl, h1, h2, h3, h4, h5, h6, h7, h8, ha, hb, h11⟩
theorem del_flat : ∀ {d lo : Nat} {t : Tr} {key : ByteArray}, Nd lo d t → lo + 1 ≤ t.keys.length → Srt (flat d t) → HasKey key (flat d t) →
    Nd lo d (delN d t key) ∧ flat d (delN d t key) = delP key (flat d t)
  | 0, _, _, _, h, _, _, _ => h.elim
  | 1, lo, t, key, h, hl, hs, hn => by
    obtain ⟨hk, -⟩ := h.2.2.2.resolve_right (fun h => h.2.1 rfl)
    by_cases hh : t.has key = true
    · rw [delN, if_pos hk]
      obtain ⟨X, Y, V, w, W, e, hX, hV, hW⟩ := has_at hh h.2.2.1
      rw [← hX]
      obtain ⟨ks, vs, cs⟩ := t
      dsimp only at hk
      subst hk
      injection e with e1 e2
      subst e1 e2
      have e1 : outL (X ++ key :: Y) X.length = X ++ Y := outL_app
      have e2 : outL (V ++ w :: W) X.length = V ++ W := (by omega : V.length = X.length) ▸ outL_app
      dsimp only
      rw [e1, e2]
      simp only [flat, List.map_nil, weave, Tr.prs] at hs ⊢
      rw [zip_app (by omega), List.zip_cons_cons] at hs
      rw [zip_app (by omega), zip_app (V := V) (W := w :: W) (by omega), List.zip_cons_cons]
      obtain ⟨s1, s2, s3⟩ := srt_app.1 hs
      refine ⟨⟨?_, ?_, ?_, .inl ⟨rfl, rfl⟩⟩, ?_⟩
      · simp at hl ⊢; omega
      · have := h.2.1; simp at this ⊢; omega
      · simp; omega
      · rw [delP_app, delP_no (l := X.zip V) fun q hq => lt_ne (s3 q hq (key, w) (.head _))]
        have : delP key ((key, w) :: Y.zip W) = delP key (Y.zip W) := delP_cons_eq (p := (key, w)) _
        rw [this, delP_no fun q hq => (lt_ne ((srt_cons.1 s2).1 q hq)).symm]
    · exact absurd hn (not_has_leaf h hk hs (by simpa using hh))
  | d + 2, lo, t, key, h, hl, hs, hn => by
    have ih := fun {c : Tr} {key : ByteArray} (h : Nd 1 (d + 1) c) (h2 : 1 + 1 ≤ c.keys.length) hs hn => del_flat (d := d + 1) (lo := 1) (t := c) (key := key) h h2 hs hn
    obtain ⟨X, Y, V, W, A, c, B, ha⟩ := h.at (t.plc_le key)
    obtain ⟨k, hk⟩ : ∃ k, k = t.plc key := ⟨_, rfl⟩
    rw [← hk] at ha
    have hne : t.kids ≠ [] := by rw [ha.eq]; simp
    rw [delN, if_neg hne, ← hk]
    by_cases hh : t.has key = true
    · rw [if_pos hh]
      have hkn : k < t.keys.length := by
        simp only [Tr.has, Bool.and_eq_true, decide_eq_true_eq] at hh
        omega
      obtain ⟨y, Y', w, W', b, B', rfl, rfl, rfl, g⟩ := ha.two hkn
      have hy : y = key := by
        simp only [Tr.has, Bool.and_eq_true, decide_eq_true_eq, ← hk] at hh
        exact g.facts.2.2.1.symm.trans hh.2
      subst hy
      rw [g.facts.1, g.facts.2.1]
      have hf := g.fl
      have hs' := hs
      rw [hf] at hs'
      obtain ⟨s1, s2, s3⟩ := srt_app.1 hs'
      obtain ⟨s4, s5, s6⟩ := srt_app.1 s2
      obtain ⟨s7, s8, s9⟩ := srt_app.1 s4
      have nP := delP_no (key := y) (l := weft (A.map (flat (d + 1))) (X.zip V)) fun q hq => lt_ne (s3 q hq (y, w) (List.mem_append_left _ (List.mem_append_right _ (.head _))))
      have nR := delP_no (key := y) (l := wtl (B'.map (flat (d + 1))) (Y'.zip W')) fun q hq => (lt_ne (s6 (y, w) (List.mem_append_right _ (.head _)) q hq)).symm
      have na := delP_no (key := y) (l := flat (d + 1) c) fun q hq => lt_ne (s9 q hq (y, w) (.head _))
      have nb := delP_no (key := y) (l := flat (d + 1) b) fun q hq => (lt_ne ((srt_cons.1 s8).1 q hq)).symm
      have hdel : delP y (flat (d + 2) t) = weft (A.map (flat (d + 1))) (X.zip V) ++ ((flat (d + 1) c ++ flat (d + 1) b) ++ wtl (B'.map (flat (d + 1))) (Y'.zip W')) := by
        rw [hf, delP_app, delP_app, delP_app, nP, nR, na]
        have : delP y ((y, w) :: flat (d + 1) b) = delP y (flat (d + 1) b) := delP_cons_eq (p := (y, w)) _
        rw [this, nb]
      have hsets : ∀ (y' w' : ByteArray), t.keys.set k y' = X ++ y' :: Y' ∧ t.vals.set k w' = V ++ w' :: W' := fun y' w' => by
        rw [g.eq]
        exact ⟨by rw [← g.hX]; simp, by rw [← g.hV]; simp⟩
      by_cases h1 : 1 < c.keys.length
      · rw [if_pos h1]
        obtain ⟨L, hL⟩ := endG_ok g.na
        obtain ⟨x, hx⟩ : ∃ x, x = endG (d + 1) c := ⟨_, rfl⟩
        rw [← hx] at hL ⊢
        rw [hL] at s7
        have s10 := srt_app.1 s7
        obtain ⟨n1, n2⟩ := ih (key := x.1) g.na h1 (hL ▸ s7) (by rw [hL]; exact ⟨x, by simp, rfl⟩)
        have e1 : delP x.1 (flat (d + 1) c) = L := by
          rw [hL, delP_app, delP_no fun q hq => lt_ne (s10.2.2 q hq x (.head _)), delP_cons_eq]
          simp [delP]
        rw [e1] at n2
        have g' := g.keyset (y' := x.1) (w' := x.2) n1 g.nb
        have ek : t.kids.set k (delN (d + 1) c x.1) = A ++ delN (d + 1) c x.1 :: b :: B' := by rw [g.eq, ← g.hA]; simp
        rw [(hsets x.1 x.2).1, (hsets x.1 x.2).2, ek]
        refine ⟨g'.left.nd, ?_⟩
        rw [g'.fl, hdel, n2, hL]
        simp
      · rw [if_neg h1]
        by_cases h2 : 1 < b.keys.length
        · rw [if_pos h2]
          obtain ⟨L, hL⟩ := endL_ok g.nb
          obtain ⟨x, hx⟩ : ∃ x, x = endL (d + 1) b := ⟨_, rfl⟩
          rw [← hx] at hL ⊢
          have s11 := (srt_cons.1 s8).2
          rw [hL] at s11
          obtain ⟨n1, n2⟩ := ih (key := x.1) g.nb h2 (hL ▸ s11) (by rw [hL]; exact ⟨x, by simp, rfl⟩)
          have e1 : delP x.1 (flat (d + 1) b) = L := by
            rw [hL, delP_cons_eq, delP_no fun q hq => (lt_ne ((srt_cons.1 s11).1 q hq)).symm]
          rw [e1] at n2
          have g' := g.keyset (y' := x.1) (w' := x.2) g.na n1
          have ek : t.kids.set (k + 1) (delN (d + 1) b x.1) = A ++ c :: delN (d + 1) b x.1 :: B' := by rw [g.eq, ← g.hA]; simp
          rw [(hsets x.1 x.2).1, (hsets x.1 x.2).2, ek]
          refine ⟨g'.left.nd, ?_⟩
          rw [g'.fl, hdel, n2, hL]
        · rw [if_neg h2]
          have h1 : c.keys.length = 1 := by have := g.na.ge; omega
          have h2 : b.keys.length = 1 := by have := g.nb.ge; omega
          obtain ⟨c', g1, g2, g3, g4⟩ := g.join h1 h2 hl
          rw [g1.kid]
          rw [← g3] at hs ⊢
          obtain ⟨n1, n2⟩ := g1.del hs (key := y) (by rw [g4]; exact ⟨(y, w), by simp, rfl⟩) (by omega) (ih (key := y))
          exact ⟨n1.nd, n2⟩
    · rw [if_neg hh]
      have hh : t.has key = false := by simpa using hh
      have hb := (ha.below hs hk.symm hh).1 hn
      obtain ⟨X', Y', V', W', A', c', B', g1, g2, g3, g4⟩ := ha.fill hl
      rw [g1.kid]
      rw [← g3] at hs ⊢
      obtain ⟨q, hq, e⟩ := hb
      obtain ⟨n1, n2⟩ := g1.del hs (key := key) ⟨q, g4 q hq, e⟩ g2 (ih (key := key))
      exact ⟨n1.nd, n2⟩
end Go.Proofs.Ythaelohccopgjaa
