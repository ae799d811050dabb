/- The program's LogAppend returns what the reference's returns, for all arguments: the row. -/
import Derived.Test.YtocjbababdlilaaRows
import Derived.Test.YtocjbababdlilaaLKLogAppend
import Derived.WalkKit
import Derived.ProofKit
import Derived.OpenShut
import Derived.ShutString
import Derived.ChangeOld
import Derived.Below
import Derived.SizedLaws
namespace Go.Proofs.Ytocjbababdlilaa.fnExactLogAppend
open Go Go.Proofs.YtocjbababdlilaaW
set_option maxRecDepth 100000
def pars : List Par := [⟨25, true, Dsk.RP⟩, ⟨2, false, rI .i64⟩, ⟨53, true, Rcd.RP⟩]
theorem parsOk : ∀ p ∈ pars, ParOk Try.prog p := by
  intro p hp
  simp only [pars, List.mem_cons, List.not_mem_nil, or_false] at hp
  rcases hp with rfl | rfl | rfl
  · exact ⟨fun n => opens_struct Try.underlying25 (by kernel_rfl) fun m _ => opensCons (opens_slice Try.underlying22 (by kernel_rfl) (by decide) fun m _ => opens_string Try.underlying9) (opensCons (opens_slice Try.underlying23 (by kernel_rfl) (by decide) fun m _ => opens_struct Try.underlying121 (by kernel_rfl) fun m _ => opensCons (opens_int Try.underlying2) (opensCons (opens_string Try.underlying9) (opensNil))) (opensNil)), rfl, fun ys h => let ⟨v, e, _⟩ := Dsk.lift h; e ▸ Nat.le_of_ble_eq_true rfl⟩
  · exact ⟨fun n => opens_int Try.underlying2, rfl, fun ys h => let ⟨_, _, e⟩ := h; e ▸ Nat.le_of_ble_eq_true rfl⟩
  · exact ⟨fun n => opens_struct Try.underlying53 (by kernel_rfl) fun m _ => opensCons (opens_int Try.underlying2) (opensCons (opens_string Try.underlying9) (opensNil)), rfl, fun ys h => let ⟨v, e, _⟩ := Rcd.lift h; e ▸ Nat.le_of_ble_eq_true rfl⟩
theorem called : ∀ yss, ParsR pars yss → CallOK Try.prog 13 (argsOf pars yss) ⟨.c (.y (.sc (.bool true))), []⟩ := by
  intro yss h
  obtain ⟨y0, y1, y2, rfl, h0, h1, h2⟩ := pars3 h
  obtain ⟨d, rfl, d_b, d_r⟩ := Dsk.lift h0
  obtain ⟨a, a_r, rfl⟩ := h1
  obtain ⟨rc, rfl, rc_b, rc_r⟩ := Rcd.lift h2
  exact lawLogAppend_ok d d_b d_r a (I64_of a_r) rc rc_b rc_r
end Go.Proofs.Ytocjbababdlilaa.fnExactLogAppend
namespace Go.Proofs.Ytocjbababdlilaa.fnExactLogAppend
open Go Go.Proofs.YtocjbababdlilaaW Go.ChangeShapes Go.WideShapes Go.ChangeAt Go.RowKit
set_option maxRecDepth 100000
set_option maxHeartbeats 8000000
theorem own : ownKnob Try.prog.godebug = none := by kernel_rfl
theorem lifted (os : Os) (started : os.Started) (H : Type) (enc : TypeId × Value → H) :
    ReturnsInHanded {} Try.checked os 13 .any (Rows.fnExactLogAppendSpec.pre6 enc Try.prog Try.f13 Rows.fnExactLogAppendRow.domain false) (Rows.fnExactLogAppendSpec.post enc Try.prog Try.f13 false true false false) :=
  row_of_call (C := Try.checked) own started (by kernel_rfl) Try.func13
    (ChangeSpec.witness6 (enc := enc) (C := Try.checked) false ⟨#[], #[.agg #[.slice none 0 0, .slice none 0 0], .int .i64 0, .agg #[.int .i64 0, .string ⟨#[]⟩]], []⟩ 9 (by kernel_rfl) (by kernel_rfl) (by kernel_rfl) (by kernel_rfl))
    (by kernel_rfl) rfl (tb := 4) rfl Try.underlying4 (ps := pars) rfl
    (fun ds h => by match ds, h with
      | [d0, d1, d2], _ => rfl) (by kernel_rfl) (by kernel_rfl) (by kernel_rfl) (by kernel_rfl) parsOk called
theorem over : Rows.fnExactLogAppendRow.holds Try.pinned (OpenSpec.ofChange Rows.fnExactLogAppendSpec) :=
  OpenClaim.holds_of_wide 13 Try.f13 rfl rfl rfl rfl rfl rfl rfl ⟨rfl, rfl, rfl, rfl, rfl⟩ rfl rfl rfl rfl rfl (by kernel_rfl) Try.func13 (by kernel_rfl)
    (of_decide_eq_true (by kernel_rfl)) (by unfold Func.isWrapper; first | (rw [if_pos (by decide +kernel)]; kernel_rfl) | (rw [if_neg (by decide +kernel)]; exact ⟨rfl, rfl⟩))
    (fun os started H enc _ => lifted os started H enc)
theorem proved : Rows.FnExactLogAppendSaid := over
#print axioms proved
end Go.Proofs.Ytocjbababdlilaa.fnExactLogAppend
namespace Go.Proofs.Ytocjbababdlilaa
/-- The row, under a short name, for the claim. -/
theorem fnExactLogAppend_holds : Rows.FnExactLogAppendSaid := fnExactLogAppend.proved
end Go.Proofs.Ytocjbababdlilaa
