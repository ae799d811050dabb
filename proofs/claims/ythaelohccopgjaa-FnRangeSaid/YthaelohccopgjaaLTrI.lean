/- Functions of the program, each with what it returns, run by the evaluator; the conditions stand in the theorems. -/
import Derived.Test.YthaelohccopgjaaLTrG
namespace Go.Proofs.Ythaelohccopgjaa
open Go Go.Proofs.YthaelohccopgjaaW Go.Proofs
set_option linter.unusedVariables false
set_option linter.unusedSimpArgs false
theorem At.srtC {lo d k : Nat} {t : Tr} {X Y V W A c B} (h : At lo d k t X Y V W A c B) (hs : Srt (flat (d + 2) t)) : Srt (flat (d + 1) c) := by
  rw [h.fl] at hs
  exact (srt_app.1 (srt_app.1 hs).2.1).1
theorem sDel_ok : ∀ (d lo : Nat) (t : Tr) (key : ByteArray), Nd lo d t → lo + 1 ≤ t.keys.length → Srt (flat d t) → HasKey key (flat d t) → CallOK Try.prog 61 [.agg [.y (.sl 1 (t.keys.map rowS)), .y (.sl 1 (t.vals.map rowS)), .y (.sl 3 (t.kids.map Tr.row))], aS key] ⟨.agg ((delN d t key).row.map AC.y), []⟩
  | 0, _, _, _, h, _, _, _ => h.elim
  | 1, lo, t, key, h, hl, hs, hn => by
    obtain ⟨hk, -⟩ := h.2.2.2.resolve_right (fun h => h.2.1 rfl)
    have l := h.lens'
    by_cases hh : t.has key = true
    · rw [delN, if_pos hk]
      exact sDel_leaf t key (by omega) l.2.2.1 hk hh
    · exact absurd hn (not_has_leaf h hk hs (by simpa using hh))
  | d + 2, lo, t, key, h, hl, hs, hn => by
    have ih := fun {c : Tr} {key : ByteArray} (h : Nd 1 (d + 1) c) (h2 : 1 + 1 ≤ c.keys.length) hs hn => sDel_ok (d + 1) 1 c key h h2 hs hn
    have l := h.lens'
    have hkin := h.kin
    obtain ⟨X, Y, V, W, A, c, B, ha⟩ := h.at (t.plc_le key)
    have hkp := t.plc_le key
    obtain ⟨k, hk⟩ : ∃ k, k = t.plc key := ⟨_, rfl⟩
    rw [← hk] at ha hkp
    have hne : t.kids ≠ [] := by rw [ha.eq]; simp
    rw [delN, if_neg hne, ← hk]
    by_cases hh : t.has key = true
    · rw [if_pos hh]
      have hkn : k < t.keys.length := by
        simp only [Tr.has, Bool.and_eq_true, decide_eq_true_eq] at hh
        omega
      obtain ⟨y, Y', w, W', b, B', rfl, rfl, rfl, g⟩ := ha.two hkn
      have hy : y = key := by
        simp only [Tr.has, Bool.and_eq_true, decide_eq_true_eq, ← hk] at hh
        exact g.facts.2.2.1.symm.trans hh.2
      subst hy
      have f1 := g.facts.1
      have f2 := g.facts.2.1
      have q1 : t.kid (t.plc y) = c := by rw [← hk]; exact f1
      have q2 : t.kid (t.plc y + 1) = b := by rw [← hk]; exact f2
      rw [f1, f2]
      have hs' := hs
      rw [g.fl] at hs'
      obtain ⟨s1, s2, s3⟩ := srt_app.1 hs'
      obtain ⟨s4, s5, s6⟩ := srt_app.1 s2
      obtain ⟨s7, s8, s9⟩ := srt_app.1 s4
      by_cases h1 : 1 < c.keys.length
      · rw [if_pos h1]
        obtain ⟨L, hL⟩ := endG_ok g.na
        have cR := ih (key := (endG (d + 1) c).1) g.na h1 s7 (by rw [hL]; exact ⟨_, List.mem_append_right _ (.head _), rfl⟩)
        have cE := sEndG_ok (d + 1) c g.na
        have := sDel_G t (delN (d + 1) c (endG (d + 1) c).1) y (endG (d + 1) c).1 (endG (d + 1) c).2 (by omega) l.2.2.1 hkin hh (by rw [q1]; exact h1) (by rw [q1]; exact cE) (by rw [q1]; exact cR)
        rw [← hk] at this
        exact this
      · rw [if_neg h1]
        by_cases h2 : 1 < b.keys.length
        · rw [if_pos h2]
          obtain ⟨L, hL⟩ := endL_ok g.nb
          have s11 := (srt_cons.1 s8).2
          have cR := ih (key := (endL (d + 1) b).1) g.nb h2 s11 (by rw [hL]; exact ⟨_, .head _, rfl⟩)
          have cE := sEndL_ok (d + 1) b g.nb
          have := sDel_L t (delN (d + 1) b (endL (d + 1) b).1) y (endL (d + 1) b).1 (endL (d + 1) b).2 (by omega) l.2.2.1 hkin hh (by rw [q1]; omega) (by rw [q2]; exact h2) (by rw [q2]; exact cE) (by rw [q2]; exact cR)
          rw [← hk] at this
          exact this
        · rw [if_neg h2]
          have h1' : c.keys.length = 1 := by have := g.na.ge; omega
          have h2' : b.keys.length = 1 := by have := g.nb.ge; omega
          obtain ⟨c', g1, g2, g3, g4⟩ := g.join h1' h2' hl
          have cF := sJoin_nd h hkn
          rw [← g3] at hs
          have hu := g1.nd.lens'
          have hukin := g1.nd.kin
          have huk : k < (joinT t k).kids.length := by
            have : k ≤ (joinT t k).keys.length := by rw [g1.eq, ← g1.hX]; simp
            omega
          have cR := ih (key := y) g1.nc (by omega) (g1.srtC hs) (by rw [g4]; exact ⟨(y, w), by simp, rfl⟩)
          rw [g1.kid]
          have := sDel_join t (joinT t k) (delN (d + 1) c' y) y (by omega) hkin hh (by rw [q1]; omega) (by rw [q2]; omega) (by rw [← hk]; exact cF) (by omega) (by omega) (by omega) (by rw [← hk]; exact huk) (by rw [← hk, g1.kid]; exact cR)
          rw [← hk] at this
          exact this
    · rw [if_neg hh]
      have hh : t.has key = false := by simpa using hh
      have hb := (ha.below hs hk.symm hh).1 hn
      obtain ⟨X', Y', V', W', A', c', B', g1, g2, g3, g4⟩ := ha.fill hl
      have cF := sFill_ok lo d k t h hkp (by omega)
      rw [← g3] at hs
      obtain ⟨q, hq, e⟩ := hb
      have cR := ih (key := key) g1.nc g2 (g1.srtC hs) ⟨q, g4 q hq, e⟩
      have hu := g1.nd.lens'
      have hukin := g1.nd.kin
      have huk : (fillT t k).2 < (fillT t k).1.kids.length := by
        have : (fillT t k).2 ≤ (fillT t k).1.keys.length := by rw [g1.eq, ← g1.hX]; simp
        omega
      rw [g1.kid]
      have := sDel_fill t (fillT t k).1 (delN (d + 1) c' key) key (fillT t k).2 (by omega) hkin hh (by rw [← hk]; exact cF) (by omega) (by omega) (by omega) huk (by rw [g1.kid]; exact cR)
      exact this
end Go.Proofs.Ythaelohccopgjaa
