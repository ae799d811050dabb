/- The program's DbBytes returns what the reference's returns, for all arguments: the row. -/
import Derived.Test.YtemfaiabbonpnaaGreatDoorRows
import Derived.Test.YtemfaiabbonpnaaGreatDoorCards
import Derived.Test.YtemfaiabbonpnaaGreatDoorTie
import Derived.Test.YtemfaiabbonpnaaGreatDoorV6
import Derived.SevenTiedAt
import Derived.Test.YtemfaiabbonpnaaGreatDoorLKDbBytes
import Derived.WalkKit
import Derived.ProofKit
import Derived.OpenShut
import Derived.ShutString
import Derived.ChangeOld
import Derived.Below
import Derived.SizedLaws
namespace Go.Proofs.YtemfaiabbonpnaaGreatDoor.fnExactDbBytes
open Go Go.Proofs.YtemfaiabbonpnaaGreatDoorW
set_option maxRecDepth 100000
def pars : List Par := [⟨31, true, Dbs.RP⟩]
theorem parsOk : ∀ p ∈ pars, ParOk Tryz.prog p := by
  intro p hp
  simp only [pars, List.mem_cons, List.not_mem_nil, or_false] at hp
  rcases hp with rfl
  · exact ⟨fun n => opens_struct Tryz.underlying31 (by kernel_rfl) fun m _ => opensCons (opens_slice Tryz.underlying29 (by kernel_rfl) (by decide) fun m _ => opens_struct Tryz.underlying105 (by kernel_rfl) fun m _ => opensCons (opens_struct Tryz.underlying45 (by kernel_rfl) fun m _ => opensCons (opens_string Tryz.underlying9) (opensCons (opens_slice Tryz.underlying41 (by kernel_rfl) (by decide) fun m _ => opens_struct Tryz.underlying148 (by kernel_rfl) fun m _ => opensCons (opens_string Tryz.underlying9) (opensCons (opens_int Tryz.underlying2) (opensCons (opens_bool Tryz.underlying4) (opensNil)))) (opensCons (opens_slice Tryz.underlying42 (by kernel_rfl) (by decide) fun m _ => opens_int Tryz.underlying2) (opensCons (opens_slice Tryz.underlying43 (by kernel_rfl) (by decide) fun m _ => opens_struct Tryz.underlying150 (by kernel_rfl) fun m _ => opensCons (opens_slice Tryz.underlying42 (by kernel_rfl) (by decide) fun m _ => opens_int Tryz.underlying2) (opensCons (opens_bool Tryz.underlying4) (opensNil))) (opensNil))))) (opensCons (opens_slice Tryz.underlying103 (by kernel_rfl) (by decide) fun m _ => opens_slice Tryz.underlying46 (by kernel_rfl) (by decide) fun m _ => opens_struct Tryz.underlying116 (by kernel_rfl) fun m _ => opensCons (opens_int Tryz.underlying2) (opensCons (opens_int Tryz.underlying2) (opensCons (opens_string Tryz.underlying9) (opensNil)))) (opensNil))) (opensNil), rfl, fun ys h => let ⟨v, e, _⟩ := Dbs.lift h; e ▸ Nat.le_of_ble_eq_true rfl⟩
theorem called : ∀ yss, ParsR pars yss → CallOK Tryz.prog 4 (argsOf pars yss) ⟨.c (.y (.sc (.bool true))), []⟩ := by
  intro yss h
  obtain ⟨y0, rfl, h0⟩ := pars1 h
  obtain ⟨d, rfl, d_b, d_r⟩ := Dbs.lift h0
  exact lawDbBytes_ok d d_b d_r
end Go.Proofs.YtemfaiabbonpnaaGreatDoor.fnExactDbBytes
namespace Go.Proofs.YtemfaiabbonpnaaGreatDoor.fnExactDbBytes
open Go Go.Proofs.YtemfaiabbonpnaaGreatDoorW Go.ChangeShapes Go.WideShapes Go.ChangeAt Go.RowKit
set_option maxRecDepth 100000
set_option maxHeartbeats 8000000
theorem own : ownKnob Tryz.prog.godebug = none := by kernel_rfl
theorem lifted (os : Os) (started : os.Started) (H : Type) (enc : TypeId × Value → H) :
    ReturnsInHanded {} Tryz.checked os 4 .any (fun w args => (Rows.fnExactDbBytesSpec.pre enc Tryz.prog Tryz.f4 Rows.fnExactDbBytesRow.domain false w args ∧ laidMetH Tryz.prog Rows.fnExactDbBytesRow.laid w) ∧ sizedMet enc Tryz.prog Tryz.f4 (OpenSpec.ofChange Rows.fnExactDbBytesSpec) false w args) (Rows.fnExactDbBytesSpec.post enc Tryz.prog Tryz.f4 false true false false) :=
  row_of_call_and (C := Tryz.checked) (X := fun w _ => laidMetH Tryz.prog Rows.fnExactDbBytesRow.laid w) (fun _ _ _ hh h => h.of_heap hh) own started (by kernel_rfl) Tryz.func4
    (ChangeSpec.witness_shaped (enc := enc) (C := Tryz.checked) (os := os) (X := fun w _ => laidMetH Tryz.prog Rows.fnExactDbBytesRow.laid w) false (World.laidAll Tryz.prog os Rows.fnExactDbBytesRow.laid) #[.agg #[.slice none 0 0]] 9 (World.laidAll_os _ _ _)
      (World.shaped_of_ZipB (by kernel_rfl) (by kernel_rfl)) (by kernel_rfl) (by kernel_rfl) (by kernel_rfl)
      (by rw [MakeChecks.laidMetH_plain _ _ _ (by kernel_rfl)]; exact laidMet_laidAll _ (by kernel_rfl) (by kernel_rfl)))
    (by kernel_rfl) rfl (tb := 4) rfl Tryz.underlying4 (ps := pars) rfl
    (fun ds h => by match ds, h with
      | [d0], _ => rfl) (by kernel_rfl) (by kernel_rfl) (by kernel_rfl) (by kernel_rfl) parsOk called
theorem over : Rows.fnExactDbBytesRow.holds Tryz.pinned (OpenSpec.ofChange Rows.fnExactDbBytesSpec) :=
  OpenClaim.holds_of_wide 4 Tryz.f4 rfl rfl rfl rfl rfl rfl rfl ⟨rfl, rfl, rfl, rfl, rfl⟩ rfl rfl rfl rfl rfl (by kernel_rfl) Tryz.func4 (by kernel_rfl)
    (of_decide_eq_true (by kernel_rfl)) (by unfold Func.isWrapper; first | (rw [if_pos (by decide +kernel)]; kernel_rfl) | (rw [if_neg (by decide +kernel)]; exact ⟨rfl, rfl⟩))
    (fun os started H enc _ => lifted os started H enc)
theorem proved : Rows.FnExactDbBytesCardSaid :=
  Claim7.holds_tied_plain_at .later [] Rows.fnExactDbBytesCard.laidKinds true Rows.fnExactDbBytesCard.stood.harness false
    over (fun _ h => by cases h) (by kernel_rfl) (fun _ h => by cases h) fnExactDbBytes_row_tie rfl ⟨rfl, rfl⟩ (by kernel_rfl) rfl
    (fun f fn hf hfn => by
      obtain rfl : f = 4 := Option.some.inj ((show Tryz.prog.funcNamed "loop.example/g00271/laws.FnExactDbBytes" = some 4 by kernel_rfl).symm.trans hf) |>.symm
      obtain rfl : fn = Tryz.f4 := (Option.some.inj (Tryz.func4.symm.trans hfn)).symm
      exact ⟨by kernel_rfl, fun j t ht => by
        have hm : t ∈ Tryz.f4.params.toList := by simpa using Array.mem_of_getElem? ht
        have hall : (Tryz.f4.params.toList.all fun u => !Tryz.prog.wantsStandIn u) = true := by kernel_rfl
        exact (show Tryz.prog.wantsStandIn t = false by simpa using List.all_eq_true.1 hall t hm)⟩)
    (by kernel_rfl)
#print axioms proved
end Go.Proofs.YtemfaiabbonpnaaGreatDoor.fnExactDbBytes
namespace Go.Proofs.YtemfaiabbonpnaaGreatDoor
/-- The card, under a short name, for the claim. -/
theorem fnExactDbBytes_holds : Rows.FnExactDbBytesCardSaid := fnExactDbBytes.proved
end Go.Proofs.YtemfaiabbonpnaaGreatDoor
