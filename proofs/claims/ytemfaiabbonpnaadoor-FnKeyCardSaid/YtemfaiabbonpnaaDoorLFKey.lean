/- Functions of the program, each with what it returns, run by the evaluator; the conditions stand in the theorems. -/
import Derived.Test.YtemfaiabbonpnaaDoorLDrV5
namespace Go.Proofs.YtemfaiabbonpnaaDoor
open Go Go.Proofs.YtemfaiabbonpnaaDoorW Go.Proofs
set_option linter.unusedVariables false
set_option linter.unusedSimpArgs false
set_option maxRecDepth 100000
set_option maxHeartbeats 1600000
theorem two4 {xs : List (List Y)} (h : IsCode xs) : CallQ Tryd.prog 5 [.c (.y (.sl 1 xs))] (fun r => ∃ (ys zs : List (List Y)) (l1 l2 : List Val), ((ys = l1.map Val.row ∧ l1.length ≤ 20 ∧ ∀ v ∈ l1, VOk v) ∧ (zs = l2.map Val.row ∧ l2.length ≤ 20 ∧ ∀ v ∈ l2, VOk v)) ∧ r = ⟨.tup [(false, [.own 3 ys]), (false, [.own 3 zs])], []⟩) :=
  CallQ.mono (drawCompare_q h) fun r ⟨l1, l2, ⟨h1, h2, h3, h4⟩, h5⟩ => ⟨_, _, l1, l2, ⟨⟨rfl, h1, h3⟩, ⟨rfl, h2, h4⟩⟩, h5⟩
theorem flat_vals (l : List Val) (c : Int) : FlatR ⟨.agg [.own 3 (l.map Val.row), .y (yN c)], []⟩ := by
  refine ⟨fun a ha => ?_, fun a ha => absurd ha (by simp)⟩
  simp only [RV.cells, List.mem_cons, List.not_mem_nil, or_false] at ha
  rcases ha with rfl | rfl
  · intro x hx y hy
    obtain ⟨v, _, rfl⟩ := List.mem_map.1 hx
    simp only [Val.row, List.mem_cons, List.not_mem_nil, or_false] at hy
    rcases hy with rfl | rfl | rfl <;> exact ⟨_, rfl⟩
  · trivial
/-- What the law asks of two lists of values. -/
structure Pair (ys zs : List (List Y)) (x y : ByteArray) (r1 r2 : Bool) (c : Int) : Prop where
  ik1 : CallOK Tryd.prog 6 [.c (.y (.sl 3 ys))] (St x)
  ik2 : CallOK Tryd.prog 6 [.c (.y (.sl 3 zs))] (St y)
  sk1 : CallOK Tryd.prog 7 [.c (.y (.sl 3 ys))] (St x)
  sk2 : CallOK Tryd.prog 7 [.c (.y (.sl 3 zs))] (St y)
  ic12 : CallOK Tryd.prog 8 [.c (.y (.sl 3 ys)), .c (.y (.sl 3 zs))] (N c)
  sc12 : CallOK Tryd.prog 9 [.c (.y (.sl 3 ys)), .c (.y (.sl 3 zs))] (N c)
  ic21 : CallOK Tryd.prog 8 [.c (.y (.sl 3 zs)), .c (.y (.sl 3 ys))] (N (-c))
  vr1 : CallOK Tryd.prog 10 [.c (.y (.sl 3 ys))] (B r1)
  vr2 : CallOK Tryd.prog 10 [.c (.y (.sl 3 zs))] (B r2)
  rng : -1 ≤ c ∧ c ≤ 1
  lt : r1 = true → r2 = true → prims.slt x y = true → c = -1
  gt : r1 = true → r2 = true → prims.sle x y = false → c = 1
  eq : r1 = true → r2 = true → prims.slt x y = false → prims.sle x y = true → c = 0
  no : prims.slt x y = true → prims.sle x y = true
  back : r1 = true → ∃ us c0, FlatR (VOut us c0) ∧ CallOK Tryd.prog 12 [aS x] (VOut us c0) ∧ CallOK Tryd.prog 11 [.c (.y (.sl 3 us)), .c (.y (.sl 3 ys))] (B true)
theorem pair_ok {ys zs : List (List Y)} {l1 l2 : List Val} (hy : ys = l1.map Val.row ∧ l1.length ≤ 20 ∧ ∀ v ∈ l1, VOk v) (hz : zs = l2.map Val.row ∧ l2.length ≤ 20 ∧ ∀ v ∈ l2, VOk v) :
    ∃ x y r1 r2 c, Pair ys zs x y r1 r2 c := by
  obtain ⟨rfl, n1, v1⟩ := hy
  obtain ⟨rfl, n2, v2⟩ := hz
  have i1 : Ints l1 := fun v hv => (v1 v hv).n
  have i2 : Ints l2 := fun v hv => (v2 v hv).n
  have m1 : l1.length ≤ maxLen := by rw [maxLen_is]; omega
  have m2 : l2.length ≤ maxLen := by rw [maxLen_is]; omega
  have ord : valsRight l1 = true → valsRight l2 = true → compare l1 l2 = cmpS (keyBytes l1) (keyBytes l2) := fun h1 h2 => by
    rw [compare, h1, h2, bytes_order h1 h2 i1 i2]; rfl
  have e1 : ∀ a b : ByteArray, prims.slt a b = Op.bytesLess a.toList b.toList := fun _ _ => rfl
  have e2 : ∀ a b : ByteArray, prims.sle a b = (Op.bytesLess a.toList b.toList || a.toList == b.toList) := fun _ _ => rfl
  refine ⟨keyBytes l1, keyBytes l2, valsRight l1, valsRight l2, compare l1 l2, ⟨iKeyBytes_ok l1 m1 i1, iKeyBytes_ok l2 m2 i2, sKeyBytes_ok l1 m1 i1, sKeyBytes_ok l2 m2 i2, iCompare_ok l1 l2 m1 m2, sCompare_ok l1 l2 m1, ?_, sValuesRight_ok l1, sValuesRight_ok l2, ?_, fun h1 h2 h => ?_, fun h1 h2 h => ?_, fun h1 h2 h h' => ?_, fun h => ?_, fun h => ?_⟩⟩
  · have := iCompare_ok l2 l1 m2 m1
    rw [compare_anti i1 i2] at this
    exact this
  · rw [compare]
    cases h1 : valsRight l1
    · simp
    cases h2 : valsRight l2
    · simp
    show -1 ≤ cmpLs l1 l2 ∧ cmpLs l1 l2 ≤ 1
    rw [← bytes_order h1 h2 i1 i2, cmpS_is]
    split
    · decide
    · split <;> decide
  · rw [ord h1 h2, cmpS_is, if_pos (by rw [← e1]; exact h)]
  · rw [e2, Bool.or_eq_false_iff] at h
    rw [ord h1 h2, cmpS_is, if_neg (by rw [h.1]; decide), if_neg (fun e => by rw [e] at h; simp at h)]
  · rw [e1] at h
    rw [e2, h, Bool.false_or, beq_iff_eq, toList_inj] at h'
    rw [ord h1 h2, cmpS_is, if_neg (by rw [h]; decide), if_pos h']
  · rw [e1] at h; rw [e2, h]; rfl
  · have hk := key_back h i1 (by have := keyBytes_size l1; omega)
    refine ⟨l1.map Val.row, 0, flat_vals l1 0, ?_, ?_⟩
    · have := iKeyRead_ok (keyBytes l1) (by have := keyBytes_size l1; rw [maxLen_is]; omega)
      rw [hk] at this
      exact this
    · have := lwValues_ok l1 l1 m1
      rw [(lwEq_iff l1 l1).2 rfl] at this
      exact this
/-- What the law asks of a text. -/
structure Text (u : ByteArray) (us : List (List Y)) (c : Int) : Prop where
  ir : CallOK Tryd.prog 12 [aS u] (VOut us c)
  sr : CallOK Tryd.prog 14 [aS u] (VOut us c)
  fl : FlatR (VOut us c)
  kb : ∃ t, CallOK Tryd.prog 6 [.c (.y (.sl 3 us))] (St t) ∧ (c = 0 → t = u)
theorem text_ok (u : ByteArray) (hu : u.size ≤ 5000) : ∃ us c, Text u us c := by
  have hi : Ints (keyRead u).1 := by
    by_cases hl : 20000 < u.size
    · omega
    cases hr : readR u 0 [] with
    | mk l b =>
      cases b with
      | false => rw [keyRead_bad hl hr]; exact fun v hv => absurd hv (by simp)
      | true =>
        rw [keyRead_ok hl hr]
        obtain ⟨rest, e1, e2, e3, e4⟩ := readR_of u.size 0 [] (by omega) hr
        rw [List.nil_append] at e1
        subst e1
        exact fun v hv => (e2 v hv).i64
  have hn : (keyRead u).1.length ≤ 12 := by
    by_cases hl : 20000 < u.size
    · omega
    cases hr : readR u 0 [] with
    | mk l b =>
      cases b with
      | false => rw [keyRead_bad hl hr]; show 0 ≤ 12; decide
      | true =>
        rw [keyRead_ok hl hr]
        obtain ⟨rest, e1, e2, e3, e4⟩ := readR_of u.size 0 [] (by omega) hr
        exact e4 (by simp)
  exact ⟨_, _, iKeyRead_ok u (by rw [maxLen_is]; omega), sKeyRead_ok u, flat_vals _ _, _, iKeyBytes_ok _ (by rw [maxLen_is]; omega) hi, read_bytes⟩
end Go.Proofs.YtemfaiabbonpnaaDoor
