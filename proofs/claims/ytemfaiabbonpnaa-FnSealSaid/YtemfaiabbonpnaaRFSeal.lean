/- a drawn text is got back from its seal: the row. -/
import Derived.Test.YtemfaiabbonpnaaRows
import Derived.Test.YtemfaiabbonpnaaLFSeal2
import Derived.WalkKit
import Derived.ProofKit
import Derived.OpenShut
import Derived.ShutString
import Derived.ChangeOld
import Derived.Below
import Derived.SizedLaws
namespace Go.Proofs.Ytemfaiabbonpnaa.fnSeal
open Go Go.Proofs.YtemfaiabbonpnaaW
set_option maxRecDepth 100000
def pars : List Par := [⟨22, false, rL 1 (rI .u8)⟩, ⟨22, false, rL 1 (rI .u8)⟩]
theorem parsOk : ∀ p ∈ pars, ParOk Try.prog p := by
  intro p hp
  simp only [pars, List.mem_cons, List.not_mem_nil, or_false] at hp
  rcases hp with rfl | rfl
  · exact ⟨fun n => opens_slice Try.underlying22 (by kernel_rfl) (by decide) fun m _ => opens_int Try.underlying5, rfl, fun ys h => let ⟨_, e, _⟩ := h; e ▸ Nat.le_of_ble_eq_true rfl⟩
  · exact ⟨fun n => opens_slice Try.underlying22 (by kernel_rfl) (by decide) fun m _ => opens_int Try.underlying5, rfl, fun ys h => let ⟨_, e, _⟩ := h; e ▸ Nat.le_of_ble_eq_true rfl⟩
theorem byteLift : ∀ ys, rI .u8 ys → ∃ b : UInt8, ys = [.sc (.int .u8 (b.toNat : Int))] ∧ True := fun ys ⟨n, h, e⟩ => by
  simp only [Go.Lit.wf, Bool.and_eq_true, decide_eq_true_eq] at h
  have h1 : IntKind.u8.min = 0 := rfl
  have h2 : IntKind.u8.max = 255 := rfl
  have h3 : 0 ≤ n ∧ n ≤ 255 := by constructor <;> omega
  refine ⟨UInt8.ofNat n.toNat, ?_, trivial⟩
  rw [e]
  have : ((UInt8.ofNat n.toNat).toNat : Int) = n := by
    have : (UInt8.ofNat n.toNat).toNat = n.toNat := by simp [UInt8.toNat_ofNat']; omega
    rw [this]; omega
  rw [this]
theorem called : ∀ yss, ParsR pars yss → CallOK Try.prog 3 (argsOf pars yss) ⟨.c (.y (.sc (.bool true))), []⟩ := by
  intro yss h
  obtain ⟨y0, y1, rfl, h0, h1⟩ := pars2 h
  obtain ⟨code, rfl, _, _⟩ := liftL (row := fun b : UInt8 => [Y.sc (.int .u8 (b.toNat : Int))]) (B := fun _ => True) byteLift h0
  obtain ⟨more, rfl, _, _⟩ := liftL (row := fun b : UInt8 => [Y.sc (.int .u8 (b.toNat : Int))]) (B := fun _ => True) byteLift h1
  exact lawSeal2_ok code more
end Go.Proofs.Ytemfaiabbonpnaa.fnSeal
namespace Go.Proofs.Ytemfaiabbonpnaa.fnSeal
open Go Go.Proofs.YtemfaiabbonpnaaW Go.ChangeShapes Go.WideShapes Go.ChangeAt Go.RowKit
set_option maxRecDepth 100000
set_option maxHeartbeats 8000000
theorem own : ownKnob Try.prog.godebug = none := by kernel_rfl
theorem lifted (os : Os) (started : os.Started) (H : Type) (enc : TypeId × Value → H) :
    ReturnsInHanded {} Try.checked os 3 .any (Rows.fnSealSpec.pre6 enc Try.prog Try.f3 Rows.fnSealRow.domain false) (Rows.fnSealSpec.post enc Try.prog Try.f3 false true false false) :=
  row_of_call (C := Try.checked) own started (by kernel_rfl) Try.func3
    (ChangeSpec.witness6 (enc := enc) (C := Try.checked) false ⟨#[], #[.slice none 0 0, .slice none 0 0], []⟩ 9 (by kernel_rfl) (by kernel_rfl) (by kernel_rfl) (by kernel_rfl))
    (by kernel_rfl) rfl (tb := 4) rfl Try.underlying4 (ps := pars) rfl
    (fun ds h => by match ds, h with
      | [d0, d1], _ => rfl) (by kernel_rfl) (by kernel_rfl) (by kernel_rfl) (by kernel_rfl) parsOk called
theorem over : Rows.fnSealRow.holds Try.pinned (OpenSpec.ofChange Rows.fnSealSpec) :=
  OpenClaim.holds_of_wide 3 Try.f3 rfl rfl rfl rfl rfl rfl rfl ⟨rfl, rfl, rfl, rfl, rfl⟩ rfl rfl rfl rfl rfl (by kernel_rfl) Try.func3 (by kernel_rfl)
    (of_decide_eq_true (by kernel_rfl)) (by unfold Func.isWrapper; first | (rw [if_pos (by decide +kernel)]; kernel_rfl) | (rw [if_neg (by decide +kernel)]; exact ⟨rfl, rfl⟩))
    (fun os started H enc _ => lifted os started H enc)
theorem proved : Rows.FnSealSaid := over
#print axioms proved
end Go.Proofs.Ytemfaiabbonpnaa.fnSeal
namespace Go.Proofs.Ytemfaiabbonpnaa
/-- The row, under a short name, for the claim. -/
theorem fnSeal_holds : Rows.FnSealSaid := fnSeal.proved
end Go.Proofs.Ytemfaiabbonpnaa
