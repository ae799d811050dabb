/- The program's StoreRight returns what the reference's returns, for all arguments: the row. -/
import Derived.Test.YtnieabocheadpaaGreatRows
import Derived.Test.YtnieabocheadpaaGreatLKStoreRight
import Derived.WalkKit
import Derived.ProofKit
import Derived.OpenShut
import Derived.ShutString
import Derived.ChangeOld
import Derived.Below
import Derived.SizedLaws
namespace Go.Proofs.YtnieabocheadpaaGreat.fnExactStoreRight
open Go Go.Proofs.YtnieabocheadpaaGreatW
set_option maxRecDepth 100000
def pars : List Par := [⟨61, true, Sto.RP⟩]
theorem parsOk : ∀ p ∈ pars, ParOk Tryz.prog p := by
  intro p hp
  simp only [pars, List.mem_cons, List.not_mem_nil, or_false] at hp
  rcases hp with rfl
  · exact ⟨fun n => opens_struct Tryz.underlying61 (by kernel_rfl) fun m _ => opensCons (opens_struct Tryz.underlying56 (by kernel_rfl) fun m _ => opensCons (opens_slice Tryz.underlying53 (by kernel_rfl) (by decide) fun m _ => opens_string Tryz.underlying9) (opensCons (opens_slice Tryz.underlying54 (by kernel_rfl) (by decide) fun m _ => opens_struct Tryz.underlying171 (by kernel_rfl) fun m _ => opensCons (opens_int Tryz.underlying2) (opensCons (opens_string Tryz.underlying9) (opensNil))) (opensNil))) (opensCons (opens_struct Tryz.underlying59 (by kernel_rfl) fun m _ => opensCons (opens_slice Tryz.underlying57 (by kernel_rfl) (by decide) fun m _ => opens_struct Tryz.underlying29 (by kernel_rfl) fun m _ => opensCons (opens_struct Tryz.underlying26 (by kernel_rfl) fun m _ => opensCons (opens_string Tryz.underlying9) (opensCons (opens_slice Tryz.underlying22 (by kernel_rfl) (by decide) fun m _ => opens_struct Tryz.underlying151 (by kernel_rfl) fun m _ => opensCons (opens_string Tryz.underlying9) (opensCons (opens_int Tryz.underlying2) (opensCons (opens_bool Tryz.underlying4) (opensNil)))) (opensCons (opens_slice Tryz.underlying23 (by kernel_rfl) (by decide) fun m _ => opens_int Tryz.underlying2) (opensCons (opens_slice Tryz.underlying24 (by kernel_rfl) (by decide) fun m _ => opens_struct Tryz.underlying154 (by kernel_rfl) fun m _ => opensCons (opens_slice Tryz.underlying23 (by kernel_rfl) (by decide) fun m _ => opens_int Tryz.underlying2) (opensCons (opens_bool Tryz.underlying4) (opensNil))) (opensNil))))) (opensCons (opens_slice Tryz.underlying27 (by kernel_rfl) (by decide) fun m _ => opens_slice Tryz.underlying30 (by kernel_rfl) (by decide) fun m _ => opens_struct Tryz.underlying79 (by kernel_rfl) fun m _ => opensCons (opens_int Tryz.underlying2) (opensCons (opens_int Tryz.underlying2) (opensCons (opens_string Tryz.underlying9) (opensNil)))) (opensNil))) (opensNil)) (opensCons (opens_int Tryz.underlying2) (opensCons (opens_int Tryz.underlying2) (opensNil)))), rfl, fun ys h => let ⟨v, e, _⟩ := Sto.lift h; e ▸ Nat.le_of_ble_eq_true rfl⟩
theorem called : ∀ yss, ParsR pars yss → CallOK Tryz.prog 5 (argsOf pars yss) ⟨.c (.y (.sc (.bool true))), []⟩ := by
  intro yss h
  obtain ⟨y0, rfl, h0⟩ := pars1 h
  obtain ⟨s, rfl, s_b, s_r⟩ := Sto.lift h0
  exact lawStoreRight_ok s s_b s_r
end Go.Proofs.YtnieabocheadpaaGreat.fnExactStoreRight
namespace Go.Proofs.YtnieabocheadpaaGreat.fnExactStoreRight
open Go Go.Proofs.YtnieabocheadpaaGreatW Go.ChangeShapes Go.WideShapes Go.ChangeAt Go.RowKit
set_option maxRecDepth 100000
set_option maxHeartbeats 8000000
theorem own : ownKnob Tryz.prog.godebug = none := by kernel_rfl
theorem lifted (os : Os) (started : os.Started) (H : Type) (enc : TypeId × Value → H) :
    ReturnsInHanded {} Tryz.checked os 5 .any (Rows.fnExactStoreRightSpec.pre6 enc Tryz.prog Tryz.f5 Rows.fnExactStoreRightRow.domain false) (Rows.fnExactStoreRightSpec.post enc Tryz.prog Tryz.f5 false true false false) :=
  row_of_call (C := Tryz.checked) own started (by kernel_rfl) Tryz.func5
    (ChangeSpec.witness6 (enc := enc) (C := Tryz.checked) false ⟨#[], #[.agg #[.slice none 0 0, .slice none 0 0, .slice none 0 0, .int .i64 0, .int .i64 0]], []⟩ 9 (by kernel_rfl) (by kernel_rfl) (by kernel_rfl) (by kernel_rfl))
    (by kernel_rfl) rfl (tb := 4) rfl Tryz.underlying4 (ps := pars) rfl
    (fun ds h => by match ds, h with
      | [d0], _ => rfl) (by kernel_rfl) (by kernel_rfl) (by kernel_rfl) (by kernel_rfl) parsOk called
theorem over : Rows.fnExactStoreRightRow.holds Tryz.pinned (OpenSpec.ofChange Rows.fnExactStoreRightSpec) :=
  OpenClaim.holds_of_wide 5 Tryz.f5 rfl rfl rfl rfl rfl rfl rfl ⟨rfl, rfl, rfl, rfl, rfl⟩ rfl rfl rfl rfl rfl (by kernel_rfl) Tryz.func5 (by kernel_rfl)
    (of_decide_eq_true (by kernel_rfl)) (by unfold Func.isWrapper; first | (rw [if_pos (by decide +kernel)]; kernel_rfl) | (rw [if_neg (by decide +kernel)]; exact ⟨rfl, rfl⟩))
    (fun os started H enc _ => lifted os started H enc)
theorem proved : Rows.FnExactStoreRightSaid := over
#print axioms proved
end Go.Proofs.YtnieabocheadpaaGreat.fnExactStoreRight
namespace Go.Proofs.YtnieabocheadpaaGreat
/-- The row, under a short name, for the claim. -/
theorem fnExactStoreRight_holds : Rows.FnExactStoreRightSaid := fnExactStoreRight.proved
end Go.Proofs.YtnieabocheadpaaGreat
