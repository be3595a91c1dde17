/- Proved: accounting/accountinglaw14.ChainOneByte returns true for every input, and its arguments read behind the call as they read before. Conditions: none. (The row's text is written by row2.py, a program of this session's.) -/
import Derived.Test.YtinhoindkpaibaaRows
import Derived.Test.YtinhoindkpaibaaYSt
import Derived.Test.YtinhoindkpaibaaChc
import Derived.WalkKit
import Derived.ProofKit
import Derived.OpenShut
import Derived.ShutString
import Derived.ChangeOld
import Derived.Below
import Derived.SizedLaws
namespace Go.Proofs.Ytinhoindkpaibaa.chainOneByte
open Go.ChangeShapes Go.WideShapes Go.ChangeAt Go.RowKit Go.Proofs.YtinhoindkpaibaaW.PrintWords Go.Proofs.Ytinhoindkpaibaa.Y
open Go.ChangeMaps (open_string shut_string)
set_option linter.unusedVariables false
theorem own : ownKnob Try.prog.godebug = none := by kernel_rfl
theorem laidOut : laidOutB Try.prog = true := by kernel_rfl
set_option maxRecDepth 100000 in
theorem lifted (os : Os) (started : os.Started) (H : Type) (enc : TypeId × Value → H) :
    ReturnsInHanded {} Try.checked os 7 .any (Rows.chainOneByteSpec.pre6 enc Try.prog Try.f7 Rows.chainOneByteRow.domain false) (Rows.chainOneByteSpec.post enc Try.prog Try.f7 false true false false) := by
  refine returnsInHanded_of_change_sized (C := Try.checked) own started (by kernel_rfl) Try.func7
    (ChangeSpec.witness6 (enc := enc) (C := Try.checked) false ⟨#[], #[.agg #[.slice none 0 0, .int .i64 0, .int .i64 0, .int .u8 0]], []⟩ 8 (by kernel_rfl) (by kernel_rfl) (by kernel_rfl) (by kernel_rfl)) ?_
  intro W base args ds gs before hval0 hW hcnd hsz0 _
  have hval : ∀ (j : Nat) t v, Try.f7.params[j]? = some t → args[j]? = some v → Value.okWide Try.prog W .any base t v := hval0
  have hW' := hW
  obtain ⟨p, q, hA0, hV, rfl, hfz, hnd⟩ := hW
  have hA : DataW.TrodAll enc Try.prog W 0 (fun _ => true) true Try.f7.params.toList args.toList ds p := hA0
  rw [Try.params7] at hA hval
  obtain ⟨v0, vs0, d0, ds0, p0, q0, hargs, rfl, rfl, h0, r0⟩ := trodAll_cons hA
  obtain ⟨rfl, rfl, rfl⟩ := trodAll_nil r0
  obtain rfl : args = #[v0] := by cases args; simp_all
  obtain ⟨rfl, rfl⟩ := trodVars_none hV
  have k0 := h0
  have lt0 : ∀ x ∈ p0, x.block < W.heap.size := by obtain ⟨m, hm⟩ := k0; exact DataW.trod_lt m _ _ _ hm
  obtain ⟨cs0, rfl, hsz0⟩ := okWide_struct Try.underlying36 (hval 0 36 v0 rfl rfl)
  obtain ⟨fuel0, hf0⟩ := h0
  obtain ⟨x0, K0, g0⟩ := opn36 hf0
  obtain ⟨A0_0, c0_0, hcs0, hc0_0, hr0_0⟩ := k36_open K0
  obtain ⟨cl0⟩ := cs0
  simp only [Value.cells] at hcs0
  subst hcs0
  obtain ⟨k, hk⟩ := Pure.ChainOneByte x0 g0
  refine (accountinglaw14_ChainOneByte.calls k (fun _ => True) _ _ x0.f0 x0.f1 x0.f2 x0.f3 true W ⟨_, _, rfl, hc0_0, fun W' hW' => by have z_ := Kd.C_below hr0_0 (below_heap hW'); exact z_⟩ hk).mono fun e W' ⟨he, bel0⟩ => ?_
  have bel : Below W.heap.size W W' := bel0
  subst he
  exact ⟨_, rfl, _, _, _, [], _, [], hW', trodAll_mk1 (shut_bool Try.underlying4 _), (trodAll_cons_mk (Below.trod laidOut (by kernel_rfl) (of_decide_eq_true (by kernel_rfl)) k0 bel lt0) trodAll_mk0), rfl, bel.frame _, fun h => by cases h⟩
theorem over : Rows.chainOneByteRow.holds Try.pinned (OpenSpec.ofChange Rows.chainOneByteSpec) :=
  OpenClaim.holds_of_wide 7 Try.f7 rfl rfl rfl rfl rfl rfl rfl ⟨rfl, rfl, rfl, rfl, rfl⟩ rfl rfl rfl rfl rfl (by kernel_rfl) Try.func7 (by kernel_rfl)
    (of_decide_eq_true (by kernel_rfl)) (by unfold Func.isWrapper; first | (rw [if_pos (by decide +kernel)]; kernel_rfl) | (rw [if_neg (by decide +kernel)]; exact ⟨rfl, rfl⟩))
    (fun os started H enc _ => lifted os started H enc)
theorem proved : Rows.ChainOneByteSaid := over
end Go.Proofs.Ytinhoindkpaibaa.chainOneByte
namespace Go.Proofs.Ytinhoindkpaibaa
/-- The row, under a short name, for the claim. -/
theorem chainOneByte_holds : Rows.ChainOneByteSaid := chainOneByte.proved
end Go.Proofs.Ytinhoindkpaibaa
