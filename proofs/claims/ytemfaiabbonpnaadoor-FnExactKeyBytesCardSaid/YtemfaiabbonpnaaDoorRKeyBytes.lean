/- The program's KeyBytes returns what the reference's returns, for all arguments: the row. -/
import Derived.Test.YtemfaiabbonpnaaDoorRows
import Derived.Test.YtemfaiabbonpnaaDoorCards
import Derived.Test.YtemfaiabbonpnaaDoorTie
import Derived.Test.YtemfaiabbonpnaaDoorV6
import Derived.SevenTiedAt
import Derived.Test.YtemfaiabbonpnaaDoorLKKeyBytes
import Derived.WalkKit
import Derived.ProofKit
import Derived.OpenShut
import Derived.ShutString
import Derived.ChangeOld
import Derived.Below
import Derived.SizedLaws
namespace Go.Proofs.YtemfaiabbonpnaaDoor.fnExactKeyBytes
open Go Go.Proofs.YtemfaiabbonpnaaDoorW
set_option maxRecDepth 100000
def pars : List Par := [⟨35, false, rL 3 Val.RP⟩]
theorem parsOk : ∀ p ∈ pars, ParOk Tryd.prog p := by
  intro p hp
  simp only [pars, List.mem_cons, List.not_mem_nil, or_false] at hp
  rcases hp with rfl
  · exact ⟨fun n => opens_slice Tryd.underlying35 (by kernel_rfl) (by decide) fun m _ => opens_struct Tryd.underlying58 (by kernel_rfl) fun m _ => opensCons (opens_int Tryd.underlying2) (opensCons (opens_int Tryd.underlying2) (opensCons (opens_string Tryd.underlying9) (opensNil))), rfl, fun ys h => let ⟨_, e, _⟩ := h; e ▸ Nat.le_of_ble_eq_true rfl⟩
theorem called : ∀ yss, ParsR pars yss → CallOK Tryd.prog 4 (argsOf pars yss) ⟨.c (.y (.sc (.bool true))), []⟩ := by
  intro yss h
  obtain ⟨y0, rfl, h0⟩ := pars1 h
  obtain ⟨l, rfl, l_b, l_r⟩ := liftL (row := Val.row) (B := fun v => Val.Bd maxLen v ∧ Val.Rg v) (fun ys h => Val.lift h) h0
  exact lawKeyBytes_ok l l_b (fun v hv => (l_r v hv).1) (fun v hv => (l_r v hv).2)
end Go.Proofs.YtemfaiabbonpnaaDoor.fnExactKeyBytes
namespace Go.Proofs.YtemfaiabbonpnaaDoor.fnExactKeyBytes
open Go Go.Proofs.YtemfaiabbonpnaaDoorW Go.ChangeShapes Go.WideShapes Go.ChangeAt Go.RowKit
set_option maxRecDepth 100000
set_option maxHeartbeats 8000000
theorem own : ownKnob Tryd.prog.godebug = none := by kernel_rfl
theorem lifted (os : Os) (started : os.Started) (H : Type) (enc : TypeId × Value → H) :
    ReturnsInHanded {} Tryd.checked os 4 .any (fun w args => (Rows.fnExactKeyBytesSpec.pre enc Tryd.prog Tryd.f4 Rows.fnExactKeyBytesRow.domain false w args ∧ laidMetH Tryd.prog Rows.fnExactKeyBytesRow.laid w) ∧ sizedMet enc Tryd.prog Tryd.f4 (OpenSpec.ofChange Rows.fnExactKeyBytesSpec) false w args) (Rows.fnExactKeyBytesSpec.post enc Tryd.prog Tryd.f4 false true false false) :=
  row_of_call_and (C := Tryd.checked) (X := fun w _ => laidMetH Tryd.prog Rows.fnExactKeyBytesRow.laid w) (fun _ _ _ hh h => h.of_heap hh) own started (by kernel_rfl) Tryd.func4
    (ChangeSpec.witness_shaped (enc := enc) (C := Tryd.checked) (os := os) (X := fun w _ => laidMetH Tryd.prog Rows.fnExactKeyBytesRow.laid w) false (World.laidAll Tryd.prog os Rows.fnExactKeyBytesRow.laid) #[.slice none 0 0] 9 (World.laidAll_os _ _ _)
      (World.shaped_of_ZipB (by kernel_rfl) (by kernel_rfl)) (by kernel_rfl) (by kernel_rfl) (by kernel_rfl)
      (by rw [MakeChecks.laidMetH_plain _ _ _ (by kernel_rfl)]; exact laidMet_laidAll _ (by kernel_rfl) (by kernel_rfl)))
    (by kernel_rfl) rfl (tb := 4) rfl Tryd.underlying4 (ps := pars) rfl
    (fun ds h => by match ds, h with
      | [d0], _ => rfl) (by kernel_rfl) (by kernel_rfl) (by kernel_rfl) (by kernel_rfl) parsOk called
theorem over : Rows.fnExactKeyBytesRow.holds Tryd.pinned (OpenSpec.ofChange Rows.fnExactKeyBytesSpec) :=
  OpenClaim.holds_of_wide 4 Tryd.f4 rfl rfl rfl rfl rfl rfl rfl ⟨rfl, rfl, rfl, rfl, rfl⟩ rfl rfl rfl rfl rfl (by kernel_rfl) Tryd.func4 (by kernel_rfl)
    (of_decide_eq_true (by kernel_rfl)) (by unfold Func.isWrapper; first | (rw [if_pos (by decide +kernel)]; kernel_rfl) | (rw [if_neg (by decide +kernel)]; exact ⟨rfl, rfl⟩))
    (fun os started H enc _ => lifted os started H enc)
theorem proved : Rows.FnExactKeyBytesCardSaid :=
  Claim7.holds_tied_plain_at .later [] Rows.fnExactKeyBytesCard.laidKinds true Rows.fnExactKeyBytesCard.stood.harness false
    over (fun _ h => by cases h) (by kernel_rfl) (fun _ h => by cases h) fnExactKeyBytes_row_tie rfl ⟨rfl, rfl⟩ (by kernel_rfl) rfl
    (fun f fn hf hfn => by
      obtain rfl : f = 4 := Option.some.inj ((show Tryd.prog.funcNamed "loop.example/g00271/laws.FnExactKeyBytes" = some 4 by kernel_rfl).symm.trans hf) |>.symm
      obtain rfl : fn = Tryd.f4 := (Option.some.inj (Tryd.func4.symm.trans hfn)).symm
      exact ⟨by kernel_rfl, fun j t ht => by
        have hm : t ∈ Tryd.f4.params.toList := by simpa using Array.mem_of_getElem? ht
        have hall : (Tryd.f4.params.toList.all fun u => !Tryd.prog.wantsStandIn u) = true := by kernel_rfl
        exact (show Tryd.prog.wantsStandIn t = false by simpa using List.all_eq_true.1 hall t hm)⟩)
    (by kernel_rfl)
#print axioms proved
end Go.Proofs.YtemfaiabbonpnaaDoor.fnExactKeyBytes
namespace Go.Proofs.YtemfaiabbonpnaaDoor
/-- The card, under a short name, for the claim. -/
theorem fnExactKeyBytes_holds : Rows.FnExactKeyBytesCardSaid := fnExactKeyBytes.proved
end Go.Proofs.YtemfaiabbonpnaaDoor
