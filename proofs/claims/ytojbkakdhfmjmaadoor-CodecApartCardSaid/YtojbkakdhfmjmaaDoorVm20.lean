/- Proved here: text whose types are looked up beforehand (K) answers what the machine over pure data answers. Conditions: none. -/
import Derived.Test.YtojbkakdhfmjmaaDoorVm19
set_option linter.unusedVariables false
set_option linter.unusedSimpArgs false
namespace Go.Proofs.YtojbkakdhfmjmaaDoor.Vm
open Go.RowKit
/-! ### Operations whose types are looked up -/
inductive A where
  | t (n : Nat)
  | v (x : V)
def av (tm : Nat → V) : A → V
  | .t n => tm n
  | .v x => x
inductive K where
  | mov (a : A)
  | pick (c a b : A)
  | new (cs : List V)
  | box (a : A)
  | build (pl : List (Nat × Nat)) (zc : List V) (ps : List (Nat × A))
  | mk (e s : Nat) (as : List A)
  | ld (s : Option Nat) (a : A)
  | sto (n : Nat) (a b : A)
  | nilc (a : A)
  | bin (b : Bool) (op : BinOp) (x y : A)
  | un (op : UnOp) (x : A)
  | fa (off : Nat) (a : A)
  | fld (s : Option Nat) (off : Nat) (a : A)
  | ixl (el : Nat) (a i : A)
  | ixa (n s : Nat) (a i : A)
  | ixs (a i : A)
  | b2s (e : Nat) (a : A)
  | s2b (e : Nat) (a : A)
  | i2i (k : IntKind) (a : A)
  | len (a : A)
  | lenS (a : A)
  | app (el by_ : Nat) (i : Bool) (a b : A)
  | sll (el : Nat) (a : A) (lo hi : Option A)
  | sls (a : A) (lo hi : Option A)
  | ext (a : A) (i : Nat)
  | min (a b : A)


  | no (f : FuncId) (as : List A)
  | pl (f : FuncId) (as : List A)
  | hp (f : FuncId) (as : List A)
  | dyn (f : A) (as : List A)
  | eqs (neg : Bool) (offs : List (Nat × Nat)) (a b : A)
  | isn (neg : Bool) (a : A)
  | rng (a : A)
  | nxt (a : A)
  | mkf (f : Fn) (as bs : List A)
  | mkm
  | lku (kd : Nat) (z : V) (ok : Bool) (a k : A)
  | mup (kd : Nat) (a k y : A)
  | ifc (t : TypeId) (a : A)
  | pan (a : A)
  | gen (op : Op) (ty : TypeId)
structure KO where
  d : Option Nat
  g : Option (Nat × Bool)
  k : K
def kbin (op : BinOp) (x y : Value) : Option Value :=
  match op, x, y with
  | .shl, .int k a, .int _ b => if b < 0 then none else some (.int k (k.wrap (a * 2 ^ (Nat.min b.toNat k.bits))))
  | .shr, .int k a, .int _ b => if b < 0 then none else some (.int k (a.fdiv (2 ^ (Nat.min b.toNat k.bits))))
  | op, .int k a, .int k' b =>
    if k ≠ k' then none else
    match op with
    | .add => some (.int k (k.wrap (a + b)))
    | .sub => some (.int k (k.wrap (a - b)))
    | .mul => some (.int k (k.wrap (a * b)))
    | .quo => if b = 0 then none else some (.int k (k.wrap (a.tdiv b)))
    | .rem => if b = 0 then none else some (.int k (a.tmod b))
    | .and => some (.int k (k.wrap (BitVec.ofInt k.bits a &&& BitVec.ofInt k.bits b).toNat))
    | .or => some (.int k (k.wrap (BitVec.ofInt k.bits a ||| BitVec.ofInt k.bits b).toNat))
    | .xor => some (.int k (k.wrap (BitVec.ofInt k.bits a ^^^ BitVec.ofInt k.bits b).toNat))
    | .eql => some (.bool (decide (a = b)))
    | .neq => some (.bool (!decide (a = b)))
    | .lss => some (.bool (decide (a < b)))
    | .leq => some (.bool (decide (a ≤ b)))
    | .gtr => some (.bool (decide (b < a)))
    | .geq => some (.bool (decide (b ≤ a)))
    | _ => none
  | .eql, .string a, .string b => some (.bool (decide (a = b)))
  | .neq, .string a, .string b => some (.bool (!decide (a = b)))
  | .lss, .string a, .string b => some (.bool (Op.bytesLess a.data.toList b.data.toList))
  | .leq, .string a, .string b => some (.bool (Op.bytesLess a.data.toList b.data.toList || decide (a = b)))
  | .gtr, .string a, .string b => some (.bool !(Op.bytesLess a.data.toList b.data.toList || decide (a = b)))
  | .geq, .string a, .string b => some (.bool !(Op.bytesLess a.data.toList b.data.toList))
  | .add, .string a, .string b => if a.size + b.size ≤ 9223372036854775807 then some (.string (a ++ b)) else none
  | .eql, .bool a, .bool b => some (.bool (a == b))
  | .neq, .bool a, .bool b => some (.bool !(a == b))
  | _, _, _ => none
def isBool (P : Program) (t : TypeId) : Bool := match P.underlying t with | some .bool => true | _ => false
/-- Two truth values are compared at the type bool only; all else of K.bin asks no type. -/
def boolOk (P : Program) (op : BinOp) (t : TypeId) : Bool := isBool P t
theorem ba_inj {a b : ByteArray} (h : a.data.toList = b.data.toList) : a = b := by
  cases a with | mk a => cases b with | mk b => exact congrArg ByteArray.mk (Array.toList_inj.mp h)
theorem ba_tl (a b : ByteArray) : (a.toList == b.toList) = decide (a = b) := by
  rw [ByteArray.toList_eq, ByteArray.toList_eq]
  by_cases h : a = b
  · subst h; simp
  · have h2 : ¬ a.data.toList = b.data.toList := fun e => h (ba_inj e)
    rw [decide_eq_false h]; exact beq_eq_false_iff_ne.mpr h2
def plainV : Value → Bool
  | .int .. | .string _ | .bool _ => true
  | _ => false
theorem eqGuard_plain {op : BinOp} {t : TypeId} {x y : Operand} {u v : Value} (h : plainV u = true) : eqGuard op t x y u v = pure () := by
  cases op <;> cases u <;> simp [plainV] at h <;> rfl
theorem kbin_plain {op : BinOp} {u v z : Value} (h : kbin op u v = some z) : plainV u = true := by
  cases u <;> first | rfl | (exfalso; revert h; cases op <;> simp [kbin])
theorem reck_bind {P : Program} {α β : Type} {f : α → Sem β} : ∀ (s : Sem α) {a : α}, reck P s = some a → reck P (s >>= f) = reck P (f a)
  | .pure a, b, h => by simp only [reck, Option.some.injEq] at h; subst h; rfl
  | .program k, b, h => by simp only [reck] at h; show reck P (k P >>= f) = _; exact reck_bind _ h
  | .mark m k, b, h => by simp only [reck] at h; show reck P (k >>= f) = _; exact reck_bind _ h
  | .load .., _, h => by simp [reck] at h
  | .store .., _, h => by simp [reck] at h
  | .new .., _, h => by simp [reck] at h
  | .shape .., _, h => by simp [reck] at h
  | .freeze .., _, h => by simp [reck] at h
  | .frozen .., _, h => by simp [reck] at h
  | .getObj .., _, h => by simp [reck] at h
  | .setObj .., _, h => by simp [reck] at h
  | .choose .., _, h => by simp [reck] at h
  | .sys .., _, h => by simp [reck] at h
  | .halt .., _, h => by simp [reck] at h
theorem reck_underlying {P : Program} {t : TypeId} {d : TypeDesc} (hu : P.underlying t = some d) : reck P (underlying t) = some d := by
  show reck P (match P.underlying t with | some d => pure d | none => stuck "no such type") = _
  rw [hu]; rfl
theorem reck_eqIn (P : Program) {t : TypeId} (d : Nat) (hu : P.underlying t = some .bool) (a b : Bool) : reck P (Op.equalIn (d + 1) t (.bool a) (.bool b)) = some (a == b) := by
  simp only [Op.equalIn]
  rw [reck_bind _ (reck_underlying hu)]
  rfl
theorem reck_eqb {P : Program} {t : TypeId} (hu : P.underlying t = some .bool) {a b : Bool} : reck P (binOp .eql t (.bool a) (.bool b)) = some (.bool (a == b)) := by
  show reck P (Op.equal t (.bool a) (.bool b) >>= fun r => (pure (Value.bool r) : Sem Value)) = _
  rw [reck_bind _ (show reck P (Op.equal t (.bool a) (.bool b)) = some (a == b) from reck_eqIn P 9999 hu a b)]; rfl
theorem reck_neb {P : Program} {t : TypeId} (hu : P.underlying t = some .bool) {a b : Bool} : reck P (binOp .neq t (.bool a) (.bool b)) = some (.bool !(a == b)) := by
  show reck P (Op.equal t (.bool a) (.bool b) >>= fun r => (pure (Value.bool !r) : Sem Value)) = _
  rw [reck_bind _ (show reck P (Op.equal t (.bool a) (.bool b)) = some (a == b) from reck_eqIn P 9999 hu a b)]; rfl
theorem kbin_binOp (P : Program) {op : BinOp} {t : TypeId} {u v z : Value} (hb : (∀ b, u ≠ .bool b) ∨ isBool P t = true) (h : kbin op u v = some z) : reck P (binOp op t u v) = some z := by
  have hp := kbin_plain h
  cases u <;> simp only [plainV, Bool.false_eq_true] at hp
  · rename_i b
    rcases hb with hb | hb
    · exact absurd rfl (hb b)
    · unfold isBool at hb
      split at hb
      · rename_i hu
        cases op <;> cases v <;> simp only [kbin, reduceCtorEq, Option.some.injEq] at h <;> subst h
        · exact reck_eqb hu
        · exact reck_neb hu
      · cases hb
  · rename_i k a
    cases v with
    | int k' b =>
      cases op <;> simp only [kbin] at h <;> first
        | (cases h; done)
        | (split at h <;> first
            | (cases h; done)
            | (rename_i hk; simp only [Option.some.injEq] at h; subst h; simp [binOp, Op.shift, hk]; rfl)
            | (rename_i hk; have hk := Classical.not_not.mp hk; subst hk; simp only [Option.some.injEq] at h; subst h; simp [binOp, Op.intArith, Op.intBits, Op.intCmp]; rfl)
            | (rename_i hk; have hk := Classical.not_not.mp hk; subst hk; cases h; done)
            | (rename_i hk; have hk := Classical.not_not.mp hk; subst hk; split at h <;> first | (cases h; done) | (rename_i hz; simp only [Option.some.injEq] at h; subst h; simp [binOp, Op.intDiv, hz]; rfl)))
    | _ => cases op <;> simp [kbin] at h
  · rename_i a
    cases v with
    | string b =>
      cases op <;> simp only [kbin, reduceCtorEq, Option.some.injEq] at h <;> first
        | (subst h; rw [← ba_tl]; rfl)
        | (subst h; rw [← ba_tl, ← ByteArray.toList_eq, ← ByteArray.toList_eq]; rfl)
        | (subst h; rw [← ByteArray.toList_eq, ← ByteArray.toList_eq]; rfl)
        | (split at h
           · rename_i hz
             simp only [Option.some.injEq] at h; subst h
             have h3 : ¬ ((a.size + b.size : Nat) : Int) > IntKind.i64.max := fun e => by
               have h4 : IntKind.i64.max = 9223372036854775807 := rfl
               rw [h4] at e; omega
             simp only [binOp, Op.stringOp, h3, if_false]; rfl
           · cases h)
    | _ => cases op <;> simp [kbin] at h
theorem kbin_eq (P : Program) {op : BinOp} {t : TypeId} {x y : Operand} {u v z : Value} (hb : (∀ b, u ≠ .bool b) ∨ isBool P t = true) (h : kbin op u v = some z) : reck P (do eqGuard op t x y u v; binOp op t u v) = some z := by
  rw [eqGuard_plain (kbin_plain h)]
  exact kbin_binOp P hb h
end Go.Proofs.YtojbkakdhfmjmaaDoor.Vm
