/- drawn right values are read back from their bytes, in order: the row. -/
import Derived.Test.YtemfaiabbonpnaaDoorRows
import Derived.Test.YtemfaiabbonpnaaDoorCards
import Derived.Test.YtemfaiabbonpnaaDoorTie
import Derived.Test.YtemfaiabbonpnaaDoorV6
import Derived.SevenTiedAt
import Derived.Test.YtemfaiabbonpnaaDoorLFKey2
import Derived.WalkKit
import Derived.ProofKit
import Derived.OpenShut
import Derived.ShutString
import Derived.ChangeOld
import Derived.Below
import Derived.SizedLaws
namespace Go.Proofs.YtemfaiabbonpnaaDoor.fnKey
open Go Go.Proofs.YtemfaiabbonpnaaDoorW
set_option maxRecDepth 100000
def pars : List Par := [⟨22, false, rL 1 (rI .u8)⟩, ⟨22, false, rL 1 (rI .u8)⟩]
theorem parsOk : ∀ p ∈ pars, ParOk Tryd.prog p := by
  intro p hp
  simp only [pars, List.mem_cons, List.not_mem_nil, or_false] at hp
  rcases hp with rfl | rfl
  · exact ⟨fun n => opens_slice Tryd.underlying22 (by kernel_rfl) (by decide) fun m _ => opens_int Tryd.underlying5, rfl, fun ys h => let ⟨_, e, _⟩ := h; e ▸ Nat.le_of_ble_eq_true rfl⟩
  · exact ⟨fun n => opens_slice Tryd.underlying22 (by kernel_rfl) (by decide) fun m _ => opens_int Tryd.underlying5, rfl, fun ys h => let ⟨_, e, _⟩ := h; e ▸ Nat.le_of_ble_eq_true rfl⟩
theorem byteLift : ∀ ys, rI .u8 ys → ∃ b : UInt8, ys = [.sc (.int .u8 (b.toNat : Int))] ∧ True := fun ys ⟨n, h, e⟩ => by
  simp only [Go.Lit.wf, Bool.and_eq_true, decide_eq_true_eq] at h
  have h1 : IntKind.u8.min = 0 := rfl
  have h2 : IntKind.u8.max = 255 := rfl
  have h3 : 0 ≤ n ∧ n ≤ 255 := by constructor <;> omega
  refine ⟨UInt8.ofNat n.toNat, ?_, trivial⟩
  rw [e]
  have : ((UInt8.ofNat n.toNat).toNat : Int) = n := by
    have : (UInt8.ofNat n.toNat).toNat = n.toNat := by simp [UInt8.toNat_ofNat']; omega
    rw [this]; omega
  rw [this]
theorem called : ∀ yss, ParsR pars yss → CallOK Tryd.prog 3 (argsOf pars yss) ⟨.c (.y (.sc (.bool true))), []⟩ := by
  intro yss h
  obtain ⟨y0, y1, rfl, h0, h1⟩ := pars2 h
  obtain ⟨code, rfl, _, _⟩ := liftL (row := fun b : UInt8 => [Y.sc (.int .u8 (b.toNat : Int))]) (B := fun _ => True) byteLift h0
  obtain ⟨more, rfl, _, _⟩ := liftL (row := fun b : UInt8 => [Y.sc (.int .u8 (b.toNat : Int))]) (B := fun _ => True) byteLift h1
  exact lawKey_ok code more
end Go.Proofs.YtemfaiabbonpnaaDoor.fnKey
namespace Go.Proofs.YtemfaiabbonpnaaDoor.fnKey
open Go Go.Proofs.YtemfaiabbonpnaaDoorW Go.ChangeShapes Go.WideShapes Go.ChangeAt Go.RowKit
set_option maxRecDepth 100000
set_option maxHeartbeats 8000000
theorem own : ownKnob Tryd.prog.godebug = none := by kernel_rfl
theorem lifted (os : Os) (started : os.Started) (H : Type) (enc : TypeId × Value → H) :
    ReturnsInHanded {} Tryd.checked os 3 .any (fun w args => (Rows.fnKeySpec.pre enc Tryd.prog Tryd.f3 Rows.fnKeyRow.domain false w args ∧ laidMetH Tryd.prog Rows.fnKeyRow.laid w) ∧ sizedMet enc Tryd.prog Tryd.f3 (OpenSpec.ofChange Rows.fnKeySpec) false w args) (Rows.fnKeySpec.post enc Tryd.prog Tryd.f3 false true false false) :=
  row_of_call_and (C := Tryd.checked) (X := fun w _ => laidMetH Tryd.prog Rows.fnKeyRow.laid w) (fun _ _ _ hh h => h.of_heap hh) own started (by kernel_rfl) Tryd.func3
    (ChangeSpec.witness_shaped (enc := enc) (C := Tryd.checked) (os := os) (X := fun w _ => laidMetH Tryd.prog Rows.fnKeyRow.laid w) false (World.laidAll Tryd.prog os Rows.fnKeyRow.laid) #[.slice none 0 0, .slice none 0 0] 9 (World.laidAll_os _ _ _)
      (World.shaped_of_ZipB (by kernel_rfl) (by kernel_rfl)) (by kernel_rfl) (by kernel_rfl) (by kernel_rfl)
      (by rw [MakeChecks.laidMetH_plain _ _ _ (by kernel_rfl)]; exact laidMet_laidAll _ (by kernel_rfl) (by kernel_rfl)))
    (by kernel_rfl) rfl (tb := 4) rfl Tryd.underlying4 (ps := pars) rfl
    (fun ds h => by match ds, h with
      | [d0, d1], _ => rfl) (by kernel_rfl) (by kernel_rfl) (by kernel_rfl) (by kernel_rfl) parsOk called
theorem over : Rows.fnKeyRow.holds Tryd.pinned (OpenSpec.ofChange Rows.fnKeySpec) :=
  OpenClaim.holds_of_wide 3 Tryd.f3 rfl rfl rfl rfl rfl rfl rfl ⟨rfl, rfl, rfl, rfl, rfl⟩ rfl rfl rfl rfl rfl (by kernel_rfl) Tryd.func3 (by kernel_rfl)
    (of_decide_eq_true (by kernel_rfl)) (by unfold Func.isWrapper; first | (rw [if_pos (by decide +kernel)]; kernel_rfl) | (rw [if_neg (by decide +kernel)]; exact ⟨rfl, rfl⟩))
    (fun os started H enc _ => lifted os started H enc)
theorem proved : Rows.FnKeyCardSaid :=
  Claim7.holds_tied_plain_at .later [] Rows.fnKeyCard.laidKinds true Rows.fnKeyCard.stood.harness false
    over (fun _ h => by cases h) (by kernel_rfl) (fun _ h => by cases h) fnKey_row_tie rfl ⟨rfl, rfl⟩ (by kernel_rfl) rfl
    (fun f fn hf hfn => by
      obtain rfl : f = 3 := Option.some.inj ((show Tryd.prog.funcNamed "loop.example/g00271/laws.FnKey" = some 3 by kernel_rfl).symm.trans hf) |>.symm
      obtain rfl : fn = Tryd.f3 := (Option.some.inj (Tryd.func3.symm.trans hfn)).symm
      exact ⟨by kernel_rfl, fun j t ht => by
        have hm : t ∈ Tryd.f3.params.toList := by simpa using Array.mem_of_getElem? ht
        have hall : (Tryd.f3.params.toList.all fun u => !Tryd.prog.wantsStandIn u) = true := by kernel_rfl
        exact (show Tryd.prog.wantsStandIn t = false by simpa using List.all_eq_true.1 hall t hm)⟩)
    (by kernel_rfl)
#print axioms proved
end Go.Proofs.YtemfaiabbonpnaaDoor.fnKey
namespace Go.Proofs.YtemfaiabbonpnaaDoor
/-- The card, under a short name, for the claim. -/
theorem fnKey_holds : Rows.FnKeyCardSaid := fnKey.proved
end Go.Proofs.YtemfaiabbonpnaaDoor
