/- The program's OpsBytes returns what the reference's returns, for all arguments: the row. -/
import Derived.Test.YtemfaiabbonpnaaGreatDoorRows
import Derived.Test.YtemfaiabbonpnaaGreatDoorCards
import Derived.Test.YtemfaiabbonpnaaGreatDoorTie
import Derived.Test.YtemfaiabbonpnaaGreatDoorV6
import Derived.SevenTiedAt
import Derived.Test.YtemfaiabbonpnaaGreatDoorLKOpsBytes
import Derived.WalkKit
import Derived.ProofKit
import Derived.OpenShut
import Derived.ShutString
import Derived.ChangeOld
import Derived.Below
import Derived.SizedLaws
namespace Go.Proofs.YtemfaiabbonpnaaGreatDoor.fnExactOpsBytes
open Go Go.Proofs.YtemfaiabbonpnaaGreatDoorW
set_option maxRecDepth 100000
def pars : List Par := [⟨22, false, rL 7 Opn.RP⟩]
theorem parsOk : ∀ p ∈ pars, ParOk Tryz.prog p := by
  intro p hp
  simp only [pars, List.mem_cons, List.not_mem_nil, or_false] at hp
  rcases hp with rfl
  · exact ⟨fun n => opens_slice Tryz.underlying22 (by kernel_rfl) (by decide) fun m _ => opens_struct Tryz.underlying48 (by kernel_rfl) fun m _ => opensCons (opens_int Tryz.underlying2) (opensCons (opens_string Tryz.underlying9) (opensCons (opens_struct Tryz.underlying45 (by kernel_rfl) fun m _ => opensCons (opens_string Tryz.underlying9) (opensCons (opens_slice Tryz.underlying41 (by kernel_rfl) (by decide) fun m _ => opens_struct Tryz.underlying148 (by kernel_rfl) fun m _ => opensCons (opens_string Tryz.underlying9) (opensCons (opens_int Tryz.underlying2) (opensCons (opens_bool Tryz.underlying4) (opensNil)))) (opensCons (opens_slice Tryz.underlying42 (by kernel_rfl) (by decide) fun m _ => opens_int Tryz.underlying2) (opensCons (opens_slice Tryz.underlying43 (by kernel_rfl) (by decide) fun m _ => opens_struct Tryz.underlying150 (by kernel_rfl) fun m _ => opensCons (opens_slice Tryz.underlying42 (by kernel_rfl) (by decide) fun m _ => opens_int Tryz.underlying2) (opensCons (opens_bool Tryz.underlying4) (opensNil))) (opensNil))))) (opensCons (opens_slice Tryz.underlying46 (by kernel_rfl) (by decide) fun m _ => opens_struct Tryz.underlying116 (by kernel_rfl) fun m _ => opensCons (opens_int Tryz.underlying2) (opensCons (opens_int Tryz.underlying2) (opensCons (opens_string Tryz.underlying9) (opensNil)))) (opensNil)))), rfl, fun ys h => let ⟨_, e, _⟩ := h; e ▸ Nat.le_of_ble_eq_true rfl⟩
theorem called : ∀ yss, ParsR pars yss → CallOK Tryz.prog 3 (argsOf pars yss) ⟨.c (.y (.sc (.bool true))), []⟩ := by
  intro yss h
  obtain ⟨y0, rfl, h0⟩ := pars1 h
  obtain ⟨l, rfl, l_b, l_r⟩ := liftL (row := Opn.row) (B := fun v => Opn.Bd maxLen v ∧ Opn.Rg v) (fun ys h => Opn.lift h) h0
  exact lawOpsBytes_ok l l_b (fun v hv => (l_r v hv).1) (fun v hv => (l_r v hv).2)
end Go.Proofs.YtemfaiabbonpnaaGreatDoor.fnExactOpsBytes
namespace Go.Proofs.YtemfaiabbonpnaaGreatDoor.fnExactOpsBytes
open Go Go.Proofs.YtemfaiabbonpnaaGreatDoorW Go.ChangeShapes Go.WideShapes Go.ChangeAt Go.RowKit
set_option maxRecDepth 100000
set_option maxHeartbeats 8000000
theorem own : ownKnob Tryz.prog.godebug = none := by kernel_rfl
theorem lifted (os : Os) (started : os.Started) (H : Type) (enc : TypeId × Value → H) :
    ReturnsInHanded {} Tryz.checked os 3 .any (fun w args => (Rows.fnExactOpsBytesSpec.pre enc Tryz.prog Tryz.f3 Rows.fnExactOpsBytesRow.domain false w args ∧ laidMetH Tryz.prog Rows.fnExactOpsBytesRow.laid w) ∧ sizedMet enc Tryz.prog Tryz.f3 (OpenSpec.ofChange Rows.fnExactOpsBytesSpec) false w args) (Rows.fnExactOpsBytesSpec.post enc Tryz.prog Tryz.f3 false true false false) :=
  row_of_call_and (C := Tryz.checked) (X := fun w _ => laidMetH Tryz.prog Rows.fnExactOpsBytesRow.laid w) (fun _ _ _ hh h => h.of_heap hh) own started (by kernel_rfl) Tryz.func3
    (ChangeSpec.witness_shaped (enc := enc) (C := Tryz.checked) (os := os) (X := fun w _ => laidMetH Tryz.prog Rows.fnExactOpsBytesRow.laid w) false (World.laidAll Tryz.prog os Rows.fnExactOpsBytesRow.laid) #[.slice none 0 0] 9 (World.laidAll_os _ _ _)
      (World.shaped_of_ZipB (by kernel_rfl) (by kernel_rfl)) (by kernel_rfl) (by kernel_rfl) (by kernel_rfl)
      (by rw [MakeChecks.laidMetH_plain _ _ _ (by kernel_rfl)]; exact laidMet_laidAll _ (by kernel_rfl) (by kernel_rfl)))
    (by kernel_rfl) rfl (tb := 4) rfl Tryz.underlying4 (ps := pars) rfl
    (fun ds h => by match ds, h with
      | [d0], _ => rfl) (by kernel_rfl) (by kernel_rfl) (by kernel_rfl) (by kernel_rfl) parsOk called
theorem over : Rows.fnExactOpsBytesRow.holds Tryz.pinned (OpenSpec.ofChange Rows.fnExactOpsBytesSpec) :=
  OpenClaim.holds_of_wide 3 Tryz.f3 rfl rfl rfl rfl rfl rfl rfl ⟨rfl, rfl, rfl, rfl, rfl⟩ rfl rfl rfl rfl rfl (by kernel_rfl) Tryz.func3 (by kernel_rfl)
    (of_decide_eq_true (by kernel_rfl)) (by unfold Func.isWrapper; first | (rw [if_pos (by decide +kernel)]; kernel_rfl) | (rw [if_neg (by decide +kernel)]; exact ⟨rfl, rfl⟩))
    (fun os started H enc _ => lifted os started H enc)
theorem proved : Rows.FnExactOpsBytesCardSaid :=
  Claim7.holds_tied_plain_at .later [] Rows.fnExactOpsBytesCard.laidKinds true Rows.fnExactOpsBytesCard.stood.harness false
    over (fun _ h => by cases h) (by kernel_rfl) (fun _ h => by cases h) fnExactOpsBytes_row_tie rfl ⟨rfl, rfl⟩ (by kernel_rfl) rfl
    (fun f fn hf hfn => by
      obtain rfl : f = 3 := Option.some.inj ((show Tryz.prog.funcNamed "loop.example/g00271/laws.FnExactOpsBytes" = some 3 by kernel_rfl).symm.trans hf) |>.symm
      obtain rfl : fn = Tryz.f3 := (Option.some.inj (Tryz.func3.symm.trans hfn)).symm
      exact ⟨by kernel_rfl, fun j t ht => by
        have hm : t ∈ Tryz.f3.params.toList := by simpa using Array.mem_of_getElem? ht
        have hall : (Tryz.f3.params.toList.all fun u => !Tryz.prog.wantsStandIn u) = true := by kernel_rfl
        exact (show Tryz.prog.wantsStandIn t = false by simpa using List.all_eq_true.1 hall t hm)⟩)
    (by kernel_rfl)
#print axioms proved
end Go.Proofs.YtemfaiabbonpnaaGreatDoor.fnExactOpsBytes
namespace Go.Proofs.YtemfaiabbonpnaaGreatDoor
/-- The card, under a short name, for the claim. -/
theorem fnExactOpsBytes_holds : Rows.FnExactOpsBytesCardSaid := fnExactOpsBytes.proved
end Go.Proofs.YtemfaiabbonpnaaGreatDoor
