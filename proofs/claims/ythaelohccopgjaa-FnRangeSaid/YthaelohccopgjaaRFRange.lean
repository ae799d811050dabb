/- the keys of a drawn tree between two drawn ones are those that are got, rising; a right tree of n levels has 2^n - 1 keys or more: the row. -/
import Derived.Test.YthaelohccopgjaaRows
import Derived.Test.YthaelohccopgjaaLFRng
import Derived.WalkKit
import Derived.ProofKit
import Derived.OpenShut
import Derived.ShutString
import Derived.ChangeOld
import Derived.Below
import Derived.SizedLaws
namespace Go.Proofs.Ythaelohccopgjaa.fnRange
open Go Go.Proofs.YthaelohccopgjaaW
set_option maxRecDepth 100000
def pars : List Par := [⟨22, false, rL 1 (rI .u8)⟩]
theorem parsOk : ∀ p ∈ pars, ParOk Try.prog p := by
  intro p hp
  simp only [pars, List.mem_cons, List.not_mem_nil, or_false] at hp
  subst hp
  exact ⟨fun n => opens_slice Try.underlying22 (by kernel_rfl) (by decide) fun m _ => opens_int Try.underlying5, rfl, fun ys h => let ⟨_, e, _⟩ := h; e ▸ Nat.le_of_ble_eq_true rfl⟩
theorem byteLift : ∀ ys, rI .u8 ys → ∃ b : UInt8, ys = [.sc (.int .u8 (b.toNat : Int))] ∧ True := fun ys ⟨n, h, e⟩ => by
  simp only [Go.Lit.wf, Bool.and_eq_true, decide_eq_true_eq] at h
  have h1 : IntKind.u8.min = 0 := rfl
  have h2 : IntKind.u8.max = 255 := rfl
  have h3 : 0 ≤ n ∧ n ≤ 255 := by constructor <;> omega
  refine ⟨UInt8.ofNat n.toNat, ?_, trivial⟩
  rw [e]
  have : ((UInt8.ofNat n.toNat).toNat : Int) = n := by
    have : (UInt8.ofNat n.toNat).toNat = n.toNat := by simp [UInt8.toNat_ofNat']; omega
    rw [this]; omega
  rw [this]
theorem called : ∀ yss, ParsR pars yss → CallOK Try.prog 5 (argsOf pars yss) ⟨.c (.y (.sc (.bool true))), []⟩ := by
  intro yss h
  obtain ⟨y0, rfl, h0⟩ := pars1 h
  obtain ⟨code, rfl, _, _⟩ := liftL (row := fun b : UInt8 => [Y.sc (.int .u8 (b.toNat : Int))]) (B := fun _ => True) byteLift h0
  exact lawRange_ok code
end Go.Proofs.Ythaelohccopgjaa.fnRange
namespace Go.Proofs.Ythaelohccopgjaa.fnRange
open Go Go.Proofs.YthaelohccopgjaaW Go.ChangeShapes Go.WideShapes Go.ChangeAt Go.RowKit
set_option maxRecDepth 100000
set_option maxHeartbeats 8000000
theorem own : ownKnob Try.prog.godebug = none := by kernel_rfl
theorem lifted (os : Os) (started : os.Started) (H : Type) (enc : TypeId × Value → H) :
    ReturnsInHanded {} Try.checked os 5 .any (Rows.fnRangeSpec.pre6 enc Try.prog Try.f5 Rows.fnRangeRow.domain false) (Rows.fnRangeSpec.post enc Try.prog Try.f5 false true false false) :=
  row_of_call (C := Try.checked) own started (by kernel_rfl) Try.func5
    (ChangeSpec.witness6 (enc := enc) (C := Try.checked) false ⟨#[], #[.slice none 0 0], []⟩ 9 (by kernel_rfl) (by kernel_rfl) (by kernel_rfl) (by kernel_rfl))
    (by kernel_rfl) rfl (tb := 4) rfl Try.underlying4 (ps := pars) rfl
    (fun ds h => by match ds, h with
      | [d0], _ => rfl) (by kernel_rfl) (by kernel_rfl) (by kernel_rfl) (by kernel_rfl) parsOk called
theorem over : Rows.fnRangeRow.holds Try.pinned (OpenSpec.ofChange Rows.fnRangeSpec) :=
  OpenClaim.holds_of_wide 5 Try.f5 rfl rfl rfl rfl rfl rfl rfl ⟨rfl, rfl, rfl, rfl, rfl⟩ rfl rfl rfl rfl rfl (by kernel_rfl) Try.func5 (by kernel_rfl)
    (of_decide_eq_true (by kernel_rfl)) (by unfold Func.isWrapper; first | (rw [if_pos (by decide +kernel)]; kernel_rfl) | (rw [if_neg (by decide +kernel)]; exact ⟨rfl, rfl⟩))
    (fun os started H enc _ => lifted os started H enc)
theorem proved : Rows.FnRangeSaid := over
#print axioms proved
end Go.Proofs.Ythaelohccopgjaa.fnRange
namespace Go.Proofs.Ythaelohccopgjaa
/-- The row, under a short name, for the claim. -/
theorem fnRange_holds : Rows.FnRangeSaid := fnRange.proved
end Go.Proofs.Ythaelohccopgjaa
