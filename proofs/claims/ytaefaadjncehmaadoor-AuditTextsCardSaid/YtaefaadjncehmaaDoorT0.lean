-- written by xprint.py (a program of this session's, over the kit's print.py). Lean checks it.
import Derived.Test.YtaefaadjncehmaaDoorProg
import Derived.Below
import Derived.Deep.Draws
import Derived.Deep.AppendLies
import Derived.Maps.AppendAt
import Derived.OwnWalk
import Derived.Laws.BytesArg
import Derived.Laws.MakeOwn
import Derived.Laws.OwnMore
import Derived.Deep.OwnRows
import Derived.Tactics
import Derived.Lib.ConvBytes
import Derived.Laws.Slices
import Derived.WalkKit
import Derived.KernelRfl
import Derived.RowKit3
import Derived.Deep.LoopGhost
import Derived.Deep.QuietTactic
import Derived.BigQuiet
import Derived.WideLaws
import Derived.Deep.DeepCutAuto
import Derived.Deep.CutBlock
import Derived.Deep.RegionHeld3
import Derived.Laws.Rows
import Derived.Lib.AppendStr
import Derived.ArgAppend
import Derived.Laws.IdiomCopy
import Derived.OrdersHeld
import Derived.Laws.BitsLemmas
import Derived.RowKit
import Derived.Test.YtaefaadjncehmaaDoorWWords
import Derived.Test.YtaefaadjncehmaaDoorWLast
import Derived.Test.YtaefaadjncehmaaDoorWTab
import Derived.Test.YtaefaadjncehmaaDoorWFour
import Derived.Test.YtaefaadjncehmaaDoorWQPut
import Derived.Test.YtaefaadjncehmaaDoorWApart
import Derived.Test.YtaefaadjncehmaaDoorWArr
import Derived.Test.YtaefaadjncehmaaDoorWZeros
import Derived.Test.YtaefaadjncehmaaDoorWFoot
import Derived.Test.YtaefaadjncehmaaDoorWKept
import Derived.Test.YtaefaadjncehmaaDoorWShare
import Derived.Test.YtaefaadjncehmaaDoorWN
import Derived.Test.YtaefaadjncehmaaDoorWFootNe
import Derived.Test.YtaefaadjncehmaaDoorWAt
import Derived.Test.YtaefaadjncehmaaDoorWEqStruct
import Derived.Test.YtaefaadjncehmaaDoorWRepsOne
import Derived.Test.YtaefaadjncehmaaDoorWInv
import Derived.Test.YtaefaadjncehmaaDoorWInvWords
import Derived.Test.YtaefaadjncehmaaDoorWGuard
import Derived.Test.YtaefaadjncehmaaDoorWNEv
import Derived.Test.YtaefaadjncehmaaDoorWMore
namespace Go.Proofs.YtaefaadjncehmaaDoor.T
open Go.RowKit Go.Proofs.YtaefaadjncehmaaDoorW.PrintWords Go.Proofs.YtaefaadjncehmaaDoorW.PrintLast Go.Proofs.YtaefaadjncehmaaDoorW.PrintMore
attribute [local go_sem] max2_int min2_int max_two min_two max_three min_three max_four min_four   -- for this text's walks alone
set_option linter.unusedVariables false
set_option linter.unusedSimpArgs false



def errW : Option Int → Value
  | none => .nilIface
  | some c => .iface 0 (.int .i64 c)
theorem errW_none : errW none = .nilIface := rfl
theorem errW_some (c : Int) : errW (some c) = .iface 0 (.int .i64 c) := rfl

theorem info26 : (Tryd.prog.info? 26).map (fun i => (i.zero, i.size, i.bytes)) = some (some (.agg #[(.int .i64 0), (.int .i64 0), (.string ⟨#[]⟩)]), 3, 32) := by kernel_rfl
-- the values' own types
/-! #### struct type 26 -/
structure S26 where
  f0 : Int
  f1 : Int
  f2 : ByteArray
def z26 : S26 := ⟨(0 : Int), (0 : Int), (⟨#[]⟩ : ByteArray)⟩
def k26 : Kd S26 := Kd.iso (Kd.pair (Kd.int .i64) (Kd.pair (Kd.int .i64) Kd.string)) (fun x : S26 => (x.f0, x.f1, x.f2))
theorem k26_open {w : World} {x : S26} {cs : List Value} (h : k26.K w x cs) : cs = [.int .i64 x.f0, .int .i64 x.f1, .string x.f2] := by
  obtain ⟨_, _, rfl, rfl, ⟨_, _, rfl, rfl, rfl⟩⟩ := h
  exact rfl
theorem k26_openM {w : World} {base : Nat} {ok : Nat → Prop} {x : S26} {cs : List Value} (h : k26.M w base ok x cs) : cs = [.int .i64 x.f0, .int .i64 x.f1, .string x.f2] := by
  obtain ⟨_, _, rfl, rfl, ⟨_, _, rfl, rfl, rfl⟩⟩ := h
  exact rfl
theorem k26_mk (w : World) (x : S26)  : k26.K w x [.int .i64 x.f0, .int .i64 x.f1, .string x.f2] := ⟨[.int .i64 x.f0], [.int .i64 x.f1, .string x.f2], rfl, rfl, ⟨[.int .i64 x.f1], [.string x.f2], rfl, rfl, rfl⟩⟩
theorem k26_mkM (w : World) (base : Nat) (ok : Nat → Prop) (x : S26)  : k26.M w base ok x [.int .i64 x.f0, .int .i64 x.f1, .string x.f2] := ⟨[.int .i64 x.f0], [.int .i64 x.f1, .string x.f2], rfl, rfl, ⟨[.int .i64 x.f1], [.string x.f2], rfl, rfl, rfl⟩⟩
theorem k26_mkF (W : World) (ok : Nat → Prop) (x : S26) : Kd.FK k26 W ok x [.int .i64 x.f0, .int .i64 x.f1, .string x.f2] := fun W2 _ => k26_mk W2 x
def rd_T26 (xs : List S26) (i : Int) : S26 := xs.getD i.toNat z26
theorem at_T26 {w : World} {A : Option Addr} {n : Nat} {xs : List S26} (h : Kd.C k26 w A n xs) (i : Int) (h0 : 0 ≤ i) (h1 : i < n) : ∃ ad , A = some ad ∧ w.cell? (ad.add (i.toNat * 3)) = some (.int .i64 (rd_T26 xs i).f0) ∧ w.cell? ⟨(ad.add (i.toNat * 3)).block, (ad.add (i.toNat * 3)).off + 1, none⟩ = some (.int .i64 (rd_T26 xs i).f1) ∧ w.cell? ⟨(ad.add (i.toNat * 3)).block, (ad.add (i.toNat * 3)).off + 2, none⟩ = some (.string (rd_T26 xs i).f2) := by
  obtain ⟨ad, c, e, _, hK, hc0⟩ := Kd.C_get h z26 i h0 h1
  have hc : ∀ j u, c[j]? = some u → w.cell? (ad.add (i.toNat * 3 + j)) = some u := hc0
  obtain rfl := k26_open hK
  exact ⟨ad, e, hc 0 _ rfl, by rw [← add_field _ _ 1 (by omega)]; exact hc 1 _ rfl, by rw [← add_field _ _ 2 (by omega)]; exact hc 2 _ rfl⟩

def rd_L3 (xs : List (List S26)) (i : Int) : (List S26) := xs.getD i.toNat ([] : List S26)
theorem at_L3 {w : World} {A : Option Addr} {n : Nat} {xs : List (List S26)} (h : Kd.C (Kd.slice 26 k26) w A n xs) (i : Int) (h0 : 0 ≤ i) (h1 : i < n) : ∃ ad A0 c0, A = some ad ∧ w.cell? (ad.add i.toNat) = some (.slice A0 (rd_L3 xs i).length c0) ∧ (rd_L3 xs i).length ≤ c0 ∧ k26.C w A0 (rd_L3 xs i).length (rd_L3 xs i) := by
  obtain ⟨ad, c, e, _, hK, hc0⟩ := Kd.C_get h ([] : List S26) i h0 h1
  have hc : ∀ j u, c[j]? = some u → w.cell? (ad.add (i.toNat * 1 + j)) = some u := hc0
  obtain ⟨A0, c0, rfl, l0, g0⟩ := hK
  exact ⟨ad, A0, c0, e, by have hq := hc 0 _ rfl; rwa [Nat.mul_one, Nat.add_zero] at hq, l0, g0⟩

/-! ### the listed package variables: the cells of their blocks, as the statement lays them -/
def notesT : List ByteArray := [⟨#[]⟩, ⟨#[101, 110, 116, 114, 121]⟩, ⟨#[111, 114, 100, 101, 114]⟩, ⟨#[114, 101, 118, 101, 114, 115, 101]⟩, ⟨#[112, 101, 114, 105, 111, 100]⟩, ⟨#[98, 97, 108, 97, 110, 99, 101]⟩, ⟨#[99, 111, 110, 116, 114, 111, 108]⟩, ⟨#[115, 116, 111, 99, 107]⟩, ⟨#[97, 115, 115, 101, 116]⟩, ⟨#[108, 111, 103]⟩]
def Gl (w : World) : Prop := ∀ (i : Nat) (s : ByteArray), notesT[i]? = some s → w.cell? ⟨0, i, none⟩ = some (.string s)
theorem Gl.below {w w' : World} (h : Gl w) (hb : Below w.heap.size w w') : Gl w' := fun i s hi => by
  have h1 := h i s hi
  have h2 := hb.block 0 (block_lt_of_cell h1)
  rw [← h1]
  simp only [World.cell?, h2]
theorem Gl.dn {w : World} (h : Gl w) (n : Nat) : Gl (w.drewN n) := h
theorem Gl.below2 {w w' : World} (h : Gl w) (hb : Below w.heap.size w w') (n : Nat) : Gl (w'.drewN n) := (h.below hb).dn n

end Go.Proofs.YtaefaadjncehmaaDoor.T
