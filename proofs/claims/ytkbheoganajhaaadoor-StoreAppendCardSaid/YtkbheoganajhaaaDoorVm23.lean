/- Proved here: a loop is one round of it and the rest. Conditions: none. -/
import Derived.Test.YtkbheoganajhaaaDoorVm22
set_option linter.unusedVariables false
namespace Go.Proofs.YtkbheoganajhaaaDoor.Vm
open Go.RowKit
/-- A loop, one round of it. -/
def cunr (P : Program) (E : Env) (b : Y) (Q : Ex → Fr → Prop) (e : Ex) (fr : Fr) : Prop := e.cs (wc P E (.loop b) Q fr) (Q e fr)
theorem cunr_n {P : Program} {E : Env} {Q : Ex → Fr → Prop} {fr : Fr} (b : Y) : cunr P E b Q .norm fr = wc P E (.loop b) Q fr := rfl
theorem cunr_x {P : Program} {E : Env} {Q : Ex → Fr → Prop} {fr : Fr} (b : Y) (id : Nat) : cunr P E b Q (.exit id) fr = Q (.exit id) fr := rfl
theorem cunr_r {P : Program} {E : Env} {Q : Ex → Fr → Prop} {fr : Fr} (b : Y) : cunr P E b Q .ret fr = Q .ret fr := rfl
theorem cunr_p {P : Program} {E : Env} {Q : Ex → Fr → Prop} {fr : Fr} (b : Y) (v : V) : cunr P E b Q (.pan v) fr = Q (.pan v) fr := rfl
theorem loop_u {P : Program} {E : Env} {Q : Ex → Fr → Prop} {fr : Fr} {b b' : Y} (hb : b = b') (h : wc P E b' (cunr P E b Q) fr) : wc P E (.loop b) Q fr := by
  subst hb
  obtain ⟨e, fr', h1, h2⟩ := wc_ok h
  show WX (loopL (zcode P E b) fr) Q
  rw [loopL_eq, h1]
  cases e with
  | norm => exact h2
  | «exit» j => exact ⟨_, _, rfl, h2⟩
  | ret => exact ⟨_, _, rfl, h2⟩
  | pan v => exact ⟨_, _, rfl, h2⟩
end Go.Proofs.YtkbheoganajhaaaDoor.Vm
