/- The program's SchemaBytes returns what the reference's returns, for all arguments: the row. -/
import Derived.Test.YtemfaiabbonpnaaRows
import Derived.Test.YtemfaiabbonpnaaLKSchemaBytes
import Derived.WalkKit
import Derived.ProofKit
import Derived.OpenShut
import Derived.ShutString
import Derived.ChangeOld
import Derived.Below
import Derived.SizedLaws
namespace Go.Proofs.Ytemfaiabbonpnaa.fnExactSchemaBytes
open Go Go.Proofs.YtemfaiabbonpnaaW
set_option maxRecDepth 100000
def pars : List Par := [⟨38, true, Sch.RP⟩]
theorem parsOk : ∀ p ∈ pars, ParOk Try.prog p := by
  intro p hp
  simp only [pars, List.mem_cons, List.not_mem_nil, or_false] at hp
  rcases hp with rfl
  · exact ⟨fun n => opens_struct Try.underlying38 (by kernel_rfl) fun m _ => opensCons (opens_string Try.underlying9) (opensCons (opens_slice Try.underlying34 (by kernel_rfl) (by decide) fun m _ => opens_struct Try.underlying88 (by kernel_rfl) fun m _ => opensCons (opens_string Try.underlying9) (opensCons (opens_int Try.underlying2) (opensCons (opens_bool Try.underlying4) (opensNil)))) (opensCons (opens_slice Try.underlying35 (by kernel_rfl) (by decide) fun m _ => opens_int Try.underlying2) (opensCons (opens_slice Try.underlying36 (by kernel_rfl) (by decide) fun m _ => opens_struct Try.underlying90 (by kernel_rfl) fun m _ => opensCons (opens_slice Try.underlying35 (by kernel_rfl) (by decide) fun m _ => opens_int Try.underlying2) (opensCons (opens_bool Try.underlying4) (opensNil))) (opensNil)))), rfl, fun ys h => let ⟨v, e, _⟩ := Sch.lift h; e ▸ Nat.le_of_ble_eq_true rfl⟩
theorem called : ∀ yss, ParsR pars yss → CallOK Try.prog 4 (argsOf pars yss) ⟨.c (.y (.sc (.bool true))), []⟩ := by
  intro yss h
  obtain ⟨y0, rfl, h0⟩ := pars1 h
  obtain ⟨s, rfl, s_b, s_r⟩ := Sch.lift h0
  exact lawSchemaBytes_ok s s_b s_r
end Go.Proofs.Ytemfaiabbonpnaa.fnExactSchemaBytes
namespace Go.Proofs.Ytemfaiabbonpnaa.fnExactSchemaBytes
open Go Go.Proofs.YtemfaiabbonpnaaW Go.ChangeShapes Go.WideShapes Go.ChangeAt Go.RowKit
set_option maxRecDepth 100000
set_option maxHeartbeats 8000000
theorem own : ownKnob Try.prog.godebug = none := by kernel_rfl
theorem lifted (os : Os) (started : os.Started) (H : Type) (enc : TypeId × Value → H) :
    ReturnsInHanded {} Try.checked os 4 .any (Rows.fnExactSchemaBytesSpec.pre6 enc Try.prog Try.f4 Rows.fnExactSchemaBytesRow.domain false) (Rows.fnExactSchemaBytesSpec.post enc Try.prog Try.f4 false true false false) :=
  row_of_call (C := Try.checked) own started (by kernel_rfl) Try.func4
    (ChangeSpec.witness6 (enc := enc) (C := Try.checked) false ⟨#[], #[.agg #[.string ⟨#[]⟩, .slice none 0 0, .slice none 0 0, .slice none 0 0]], []⟩ 9 (by kernel_rfl) (by kernel_rfl) (by kernel_rfl) (by kernel_rfl))
    (by kernel_rfl) rfl (tb := 4) rfl Try.underlying4 (ps := pars) rfl
    (fun ds h => by match ds, h with
      | [d0], _ => rfl) (by kernel_rfl) (by kernel_rfl) (by kernel_rfl) (by kernel_rfl) parsOk called
theorem over : Rows.fnExactSchemaBytesRow.holds Try.pinned (OpenSpec.ofChange Rows.fnExactSchemaBytesSpec) :=
  OpenClaim.holds_of_wide 4 Try.f4 rfl rfl rfl rfl rfl rfl rfl ⟨rfl, rfl, rfl, rfl, rfl⟩ rfl rfl rfl rfl rfl (by kernel_rfl) Try.func4 (by kernel_rfl)
    (of_decide_eq_true (by kernel_rfl)) (by unfold Func.isWrapper; first | (rw [if_pos (by decide +kernel)]; kernel_rfl) | (rw [if_neg (by decide +kernel)]; exact ⟨rfl, rfl⟩))
    (fun os started H enc _ => lifted os started H enc)
theorem proved : Rows.FnExactSchemaBytesSaid := over
#print axioms proved
end Go.Proofs.Ytemfaiabbonpnaa.fnExactSchemaBytes
namespace Go.Proofs.Ytemfaiabbonpnaa
/-- The row, under a short name, for the claim. -/
theorem fnExactSchemaBytes_holds : Rows.FnExactSchemaBytesSaid := fnExactSchemaBytes.proved
end Go.Proofs.Ytemfaiabbonpnaa
