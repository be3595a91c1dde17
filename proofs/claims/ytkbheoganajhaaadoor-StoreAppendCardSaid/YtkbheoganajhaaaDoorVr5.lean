/- Proved here: what the opening of a list of entries says. Conditions: none. -/
import Derived.Test.YtkbheoganajhaaaDoorVr3
set_option linter.unusedVariables false
set_option linter.unusedSimpArgs false
namespace Go.Proofs.YtkbheoganajhaaaDoor.Vm
open Go.ChangeShapes Go.WideShapes Go.ChangeAt Go.RowKit Go.Proofs
section
variable {H : Type} {enc : TypeId × Value → H}
def gEs (l : List Entry) : Prop := l.length ≤ reachBytes ∧ ∀ e ∈ l, gE e
theorem opEntries : OpV enc Tryd.prog 22 (fun (l : List Entry) => V.list 31 (l.map encE) 0) gEs :=
  opV_slice Tryd.underlying22 opEntry (s := 9) (by kernel_rfl) (by kernel_rfl) (fun _ => rfl) (of_decide_eq_true (by kernel_rfl))
end
theorem gEs_len {l : List Entry} (h : gEs l) : l.length < 4611686018427387904 := by
  have hr : reachBytes = 140737488351232 := rfl
  have := h.1
  omega
end Go.Proofs.YtkbheoganajhaaaDoor.Vm
