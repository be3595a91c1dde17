/- Proved here: what the opening of a slice of bytes says. Conditions: none. -/
import Derived.Test.YtojbkakdhfmjmaaDoorVr3
import Derived.Test.YtojbkakdhfmjmaaDoorVp3
set_option linter.unusedVariables false
set_option linter.unusedSimpArgs false
namespace Go.Proofs.YtojbkakdhfmjmaaDoor.Vm
open Go.ChangeShapes Go.WideShapes Go.ChangeAt Go.RowKit Go.Proofs
section
variable {H : Type} {enc : TypeId × Value → H}
def gB (l : List Int) : Prop := l.length ≤ reachBytes ∧ ∀ b ∈ l, (Lit.int .u8 b).wf = true
theorem opBytes : OpV enc Tryd.prog 26 (fun (l : List Int) => V.list 5 (bv l) 0) gB :=
  opV_slice Tryd.underlying26 (opV_int Tryd.underlying5) (s := 1) (by kernel_rfl) (by kernel_rfl) (fun _ => rfl) (of_decide_eq_true (by kernel_rfl))
end
theorem gB_ok {l : List Int} (h : gB l) : bOK l := fun b hb => by
  have h0 := h.2 b hb
  have h1 : IntKind.u8.min = 0 := rfl
  have h2 : IntKind.u8.max = 255 := rfl
  simp only [Lit.wf, Bool.and_eq_true, decide_eq_true_eq] at h0
  omega
theorem gB_len {l : List Int} (h : gB l) : l.length < 4611686018427387904 := by
  have hr : reachBytes = 140737488351232 := rfl
  have := h.1
  omega
end Go.Proofs.YtojbkakdhfmjmaaDoor.Vm
