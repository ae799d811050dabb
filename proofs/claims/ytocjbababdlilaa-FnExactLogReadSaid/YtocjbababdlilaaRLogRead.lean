/- The program's LogRead returns what the reference's returns, for all arguments: the row. -/
import Derived.Test.YtocjbababdlilaaRows
import Derived.Test.YtocjbababdlilaaLKLogRead
import Derived.WalkKit
import Derived.ProofKit
import Derived.OpenShut
import Derived.ShutString
import Derived.ChangeOld
import Derived.Below
import Derived.SizedLaws
namespace Go.Proofs.Ytocjbababdlilaa.fnExactLogRead
open Go Go.Proofs.YtocjbababdlilaaW
set_option maxRecDepth 100000
def pars : List Par := [⟨25, true, Dsk.RP⟩, ⟨2, false, rI .i64⟩, ⟨2, false, rI .i64⟩]
theorem parsOk : ∀ p ∈ pars, ParOk Try.prog p := by
  intro p hp
  simp only [pars, List.mem_cons, List.not_mem_nil, or_false] at hp
  rcases hp with rfl | rfl | rfl
  · exact ⟨fun n => opens_struct Try.underlying25 (by kernel_rfl) fun m _ => opensCons (opens_slice Try.underlying22 (by kernel_rfl) (by decide) fun m _ => opens_string Try.underlying9) (opensCons (opens_slice Try.underlying23 (by kernel_rfl) (by decide) fun m _ => opens_struct Try.underlying121 (by kernel_rfl) fun m _ => opensCons (opens_int Try.underlying2) (opensCons (opens_string Try.underlying9) (opensNil))) (opensNil)), rfl, fun ys h => let ⟨v, e, _⟩ := Dsk.lift h; e ▸ Nat.le_of_ble_eq_true rfl⟩
  · exact ⟨fun n => opens_int Try.underlying2, rfl, fun ys h => let ⟨_, _, e⟩ := h; e ▸ Nat.le_of_ble_eq_true rfl⟩
  · exact ⟨fun n => opens_int Try.underlying2, rfl, fun ys h => let ⟨_, _, e⟩ := h; e ▸ Nat.le_of_ble_eq_true rfl⟩
theorem called : ∀ yss, ParsR pars yss → CallOK Try.prog 12 (argsOf pars yss) ⟨.c (.y (.sc (.bool true))), []⟩ := by
  intro yss h
  obtain ⟨y0, y1, y2, rfl, h0, h1, h2⟩ := pars3 h
  obtain ⟨d, rfl, d_b, d_r⟩ := Dsk.lift h0
  obtain ⟨a, a_r, rfl⟩ := h1
  obtain ⟨m, m_r, rfl⟩ := h2
  exact lawLogRead_ok d d_b d_r a (I64_of a_r) m (I64_of m_r)
end Go.Proofs.Ytocjbababdlilaa.fnExactLogRead
namespace Go.Proofs.Ytocjbababdlilaa.fnExactLogRead
open Go Go.Proofs.YtocjbababdlilaaW Go.ChangeShapes Go.WideShapes Go.ChangeAt Go.RowKit
set_option maxRecDepth 100000
set_option maxHeartbeats 8000000
theorem own : ownKnob Try.prog.godebug = none := by kernel_rfl
theorem lifted (os : Os) (started : os.Started) (H : Type) (enc : TypeId × Value → H) :
    ReturnsInHanded {} Try.checked os 12 .any (Rows.fnExactLogReadSpec.pre6 enc Try.prog Try.f12 Rows.fnExactLogReadRow.domain false) (Rows.fnExactLogReadSpec.post enc Try.prog Try.f12 false true false false) :=
  row_of_call (C := Try.checked) own started (by kernel_rfl) Try.func12
    (ChangeSpec.witness6 (enc := enc) (C := Try.checked) false ⟨#[], #[.agg #[.slice none 0 0, .slice none 0 0], .int .i64 0, .int .i64 0], []⟩ 9 (by kernel_rfl) (by kernel_rfl) (by kernel_rfl) (by kernel_rfl))
    (by kernel_rfl) rfl (tb := 4) rfl Try.underlying4 (ps := pars) rfl
    (fun ds h => by match ds, h with
      | [d0, d1, d2], _ => rfl) (by kernel_rfl) (by kernel_rfl) (by kernel_rfl) (by kernel_rfl) parsOk called
theorem over : Rows.fnExactLogReadRow.holds Try.pinned (OpenSpec.ofChange Rows.fnExactLogReadSpec) :=
  OpenClaim.holds_of_wide 12 Try.f12 rfl rfl rfl rfl rfl rfl rfl ⟨rfl, rfl, rfl, rfl, rfl⟩ rfl rfl rfl rfl rfl (by kernel_rfl) Try.func12 (by kernel_rfl)
    (of_decide_eq_true (by kernel_rfl)) (by unfold Func.isWrapper; first | (rw [if_pos (by decide +kernel)]; kernel_rfl) | (rw [if_neg (by decide +kernel)]; exact ⟨rfl, rfl⟩))
    (fun os started H enc _ => lifted os started H enc)
theorem proved : Rows.FnExactLogReadSaid := over
#print axioms proved
end Go.Proofs.Ytocjbababdlilaa.fnExactLogRead
namespace Go.Proofs.Ytocjbababdlilaa
/-- The row, under a short name, for the claim. -/
theorem fnExactLogRead_holds : Rows.FnExactLogReadSaid := fnExactLogRead.proved
end Go.Proofs.Ytocjbababdlilaa
