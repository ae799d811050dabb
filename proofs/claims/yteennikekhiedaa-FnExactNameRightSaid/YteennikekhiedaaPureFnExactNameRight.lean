/- The program's NameRight and the reference's tell the same of every text; no condition. -/
import Derived.Test.YteennikekhiedaaPFnExactNameRightx1
namespace Go.Proofs.Yteennikekhiedaa.Pure
open Go.RowKit Go.Proofs.Yteennikekhiedaa.PFnExactNameRight Go.Proofs.YteennikekhiedaaW.PrintWords Go.Proofs.YteennikekhiedaaW.PrintLast

theorem nr_wrap {i : Int} {n : Nat} (h0 : 0 ≤ i) (h : i < (n : Int)) (hn : n ≤ 140737488351232) : wrap64 (i + 1) = i + 1 := by
  unfold wrap64
  omega

theorem nr_loops (s : ByteArray) (hn : s.size ≤ 140737488351232) (d : Nat) : ∀ (k : Nat) (i : Int), 0 ≤ i → i ≤ s.size → (s.size : Int) - i = d → d < k →
    ∃ b, spec_NameRight.l0 k s i = some b ∧ impl_NameRight.l0 k s (s.size : Int) i = some (b && decide (1 ≤ s.size ∧ s.size ≤ 20)) := by
  induction d with
  | zero =>
    intro k i h0 h1 hd hk
    obtain ⟨k, rfl⟩ : ∃ m, k = m + 1 := ⟨k - 1, by omega⟩
    have hge : ¬ i < (s.size : Int) := by omega
    refine ⟨true, ?_, ?_⟩
    · simp only [spec_NameRight.l0]; rw [if_neg hge]
    · simp only [impl_NameRight.l0, impl_within.f]; rw [if_neg hge]
      by_cases h : (1 : Int) ≤ (s.size : Int)
      · rw [if_pos h]; simp only [Option.bind_some, Option.some.injEq, Bool.true_and, decide_eq_decide]; omega
      · rw [if_neg h]; simp only [Option.bind_some, Option.some.injEq, Bool.true_and]; exact (decide_eq_false (by omega)).symm
  | succ d ih =>
    intro k i h0 h1 hd hk
    obtain ⟨k, rfl⟩ : ∃ m, k = m + 1 := ⟨k - 1, by omega⟩
    have hlt : i < (s.size : Int) := by omega
    obtain ⟨b, hb1, hb2⟩ := ih k (i + 1) (by omega) (by omega) (by omega) (by omega)
    simp only [spec_NameRight.l0, impl_NameRight.l0]
    rw [if_pos hlt, if_pos h0, if_pos hlt, if_pos h0, if_pos hlt, nr_wrap h0 hlt hn, hb1, hb2]
    generalize bt s i = c
    by_cases hok : (97 ≤ c ∧ c ≤ 122) ∨ (0 < i ∧ ((48 ≤ c ∧ c ≤ 57) ∨ c = 95))
    · refine ⟨b, ?_, ?_⟩
      · repeat' split
        all_goals first | rfl | (exfalso; omega)
      · repeat' split
        all_goals first | rfl | (exfalso; omega)
    · refine ⟨false, ?_, ?_⟩
      · repeat' split
        all_goals first | rfl | (exfalso; omega)
      · repeat' split
        all_goals first | rfl | (exfalso; omega)

theorem FnExactNameRight : laws_FnExactNameRight.Pure := by
  intro s hn
  obtain ⟨b, h1, h2⟩ := nr_loops s hn s.size (s.size + 1) 0 (by omega) (by omega) (by omega) (by omega)
  obtain ⟨b', h1', h2'⟩ := nr_loops s hn s.size (s.size + 2) 0 (by omega) (by omega) (by omega) (by omega)
  refine ⟨s.size + 2, ?_⟩
  unfold laws_FnExactNameRight.f spec_NameRight.f impl_NameRight.f
  by_cases hbig : (s.size : Int) > 1048576
  · rw [if_pos hbig]
  · rw [if_neg hbig, h2']
    have hbb : b' = b := by
      have := spec_NameRight.mono_l (s.size + 1)
      have := this.2 s 0 b h1
      rw [h1'] at this; exact Option.some.inj this
    subst hbb
    simp only [spec_NameRight.j0, Option.bind_some]
    by_cases hs : (s.size : Int) < 1
    · rw [if_pos hs]
      have : ¬ (1 ≤ s.size ∧ s.size ≤ 20) := by omega
      simp [this]
    · rw [if_neg hs, h1]
      by_cases hs2 : (s.size : Int) > 20
      · have : ¬ (1 ≤ s.size ∧ s.size ≤ 20) := by omega
        simp [hs2, this]
      · have : (1 ≤ s.size ∧ s.size ≤ 20) := by omega
        simp [hs2, this]

end Go.Proofs.Yteennikekhiedaa.Pure
