/- Proved here: nothing; a machine over pure data is defined: Go's text is run on values without addresses. Conditions: none. -/
import Derived.Below
import Derived.Deep.Draws
import Derived.Maps.AppendAt
import Derived.OwnWalk
import Derived.Tactics
import Derived.Orders
import Derived.LoopN
import Derived.Lib.ConvBytes
import Derived.WalkKit
import Derived.KernelRfl
import Derived.Laws.Externs
import Derived.Laws.MakeOwn
set_option linter.unusedVariables false
set_option linter.unusedSimpArgs false
namespace Go.Proofs.YtkbheoganajhaaaDoor.Vm
open Go.RowKit

/-! ### What reads nothing and writes nothing is reckoned without a world -/
/-- The value of a computation that asks for the program alone. -/
def reck (P : Program) {α : Type} : Sem α → Option α
  | .pure a => some a
  | .program k => reck P (k P)
  | .mark _ k => reck P k
  | _ => none
theorem reck_run {P : Program} {α : Type} : ∀ (s : Sem α) {a : α}, reck P s = some a → ∀ w, s.run P w = .ok a w
  | .pure _, a, h, w => by simp only [reck, Option.some.injEq] at h; subst h; rfl
  | .program k, a, h, w => by simp only [reck] at h; simp only [Sem.run]; exact reck_run (k P) h w
  | .load .., _, h, _ => by simp [reck] at h
  | .store .., _, h, _ => by simp [reck] at h
  | .new .., _, h, _ => by simp [reck] at h
  | .shape .., _, h, _ => by simp [reck] at h
  | .freeze .., _, h, _ => by simp [reck] at h
  | .frozen .., _, h, _ => by simp [reck] at h
  | .getObj .., _, h, _ => by simp [reck] at h
  | .setObj .., _, h, _ => by simp [reck] at h
  | .choose .., _, h, _ => by simp [reck] at h
  | .sys .., _, h, _ => by simp [reck] at h
  | .mark _ k, a, h, w => by simp only [reck] at h; simp only [Sem.run]; exact reck_run k h w
  | .halt .., _, h, _ => by simp [reck] at h

/-! ### Values -/
inductive V where
  | sc (v : Value)
  | list (e : TypeId) (xs : List V) (r : Nat)
  | agg (cs : List V)
  | tup (vs : List V)
  | ptr (id off : Nat)
  | cp (cs : List V)
  | map (id : Nat)
  | fn (f : Fn) (first cap : List V)
  | ifc (t : TypeId) (v : V)
  | sl (e : TypeId) (g : Bool) (s id off n : Nat)
  | emp (e : TypeId)
instance : Inhabited V := ⟨.sc undef⟩
namespace V
abbrev i64 (n : Int) : V := .sc (.int .i64 n)
abbrev bool (b : Bool) : V := .sc (.bool b)
abbrev str (s : ByteArray) : V := .sc (.string s)
def one : V → Bool
  | .sc v => v.oneCell'
  | .agg _ | .tup _ => false
  | _ => true
def cells : V → List V
  | .agg cs => cs
  | v => [v]
def of1 : Value → V
  | .slice none 0 0 => .list 0 [] 1
  | v => .sc v
def ofV : Value → V
  | .agg cs => .agg (cs.toList.map of1)
  | v => of1 v
def val1? : V → Option Value
  | .sc v => some v
  | _ => none
def val? : V → Option Value
  | .sc v => some v
  | .agg cs => (cs.mapM val1?).map fun l => .agg l.toArray
  | _ => none
/-- A value that leads to no memory that may turn; the right to append is struck. -/
def pur1? : V → Option V
  | .sc v => some (.sc v)
  | .list e xs r => some (.list e xs (if r = 1 then 1 else 0))
  | .cp cs => some (.cp cs)
  | .fn f [] [] => some (.fn f [] [])
  | _ => none
def pur? : V → Option V
  | .agg cs => (cs.mapM pur1?).map .agg
  | v => pur1? v
end V

/-- What lies in memory: a variable's cells; a map; an iterator over a string; the right to append to a list of n elements of type e. -/
inductive Ob where
  | cells (cs : List V)
  | map (es : List (V × V))
  | iter (s : ByteArray) (pos : Nat)
  | tok (n : Nat) (e : TypeId)
  | row (e s n : Nat) (cs : List V)
  | frz (ds : List V)
abbrev St := Nat → Option Ob
def upd {α : Type} (f : Nat → α) (k : Nat) (v : α) : Nat → α := fun i => if i = k then v else f i
def upds {α : Type} (δ : List (Nat × α)) (f : Nat → α) : Nat → α := δ.foldl (fun f p => upd f p.1 p.2) f

/-- What an operation comes to: a value, what turns in memory, which places it looks at. -/
inductive R where
  | val (v : V) (δ : List (Nat × Option Ob)) (rd : List Nat)
  | pan (v : V)
  | big (v : V) (st : St) (nx : Nat)
  | bpan (v : V) (st : St) (nx : Nat)
inductive CR where
  | ret (v : V)
  | pan (v : V)
inductive HR where
  | ret (v : V) (st : St) (nx : Nat)
  | pan (v : V) (st : St) (nx : Nat)
structure Env where
  pl : FuncId → List V → Option CR
  hp : FuncId → List V → St → Nat → Option HR
  hm : FuncId → Nat
  gl : Nat → Option V
  md : Nat := 0
/-- The way of a function: odd: on memory; from 2 on: with rows that may turn. -/
def isM (n : Nat) : Bool := n % 2 == 1
def Env.at (E : Env) (m : Nat) : Env := ⟨E.pl, E.hp, E.hm, E.gl, m⟩
theorem Env.at_pl (E : Env) (m : Nat) : (E.at m).pl = E.pl := rfl
theorem Env.at_hp (E : Env) (m : Nat) : (E.at m).hp = E.hp := rfl
theorem Env.at_hm (E : Env) (m : Nat) : (E.at m).hm = E.hm := rfl

section
variable (P : Program)
def usz (t : TypeId) : Option Nat := (P.info? t).map (·.size)
def uagg (t : TypeId) : Option Bool :=
  match P.underlying t with
  | some (.struct _) | some (.array _ _) => some true
  | some _ => some false
  | none => none
def uzero (t : TypeId) : Option Value := (P.info? t).bind (·.zero)
def isU8 (e : TypeId) : Bool := match P.underlying e with | some (.int .u8) => true | _ => false
def isStr (e : TypeId) : Bool := match P.underlying e with | some .string => true | _ => false
def uel (t : TypeId) : Option TypeId := match P.underlying t with | some (.slice e) => some e | _ => none

/-- The variable of type t that lies in cs from off on. -/
def ld (t : TypeId) (cs : List V) (off : Nat) : Option V :=
  match usz P t, uagg P t with
  | some s, some true => if off + s ≤ cs.length then some (.agg ((cs.drop off).take s)) else none
  | some _, some false => cs[off]?
  | _, _ => none
def ones (cs : List V) : Bool := cs.all V.one
def vint : V → Option Int
  | .sc (.int _ n) => some n
  | _ => none
def keyEq : Value → Value → Option Bool
  | .int k a, .int k' b => if k = k' then some (a == b) else none
  | .string a, .string b => some (a == b)
  | .bool a, .bool b => some (a == b)
  | _, _ => none
def kindOk : Option TypeDesc → Value → Bool
  | some (.int _), .int _ _ | some .string, .string _ | some .bool, .bool _ => true
  | _, _ => false
/-- An entry's place and value. -/
def mfind (k : Value) : List (V × V) → Nat → Option (Option (Nat × V))
  | [], _ => some none
  | (.sc k', v) :: es, i =>
    match keyEq k k' with
    | some true => some (some (i, v))
    | some false => mfind k es (i + 1)
    | none => none
  | _ :: _, _ => none
def bytesV (s : ByteArray) : List V := s.data.toList.map fun b => .sc (.int .u8 b.toNat)
def bytesOfV : List V → Option (List UInt8)
  | [] => some []
  | .sc (.int .u8 n) :: r => (bytesOfV r).map (UInt8.ofNat n.toNat :: ·)
  | _ => none

/-- What an append takes its new elements from. -/
def src (el : TypeId) : V → Option (List V)
  | .list e' ys _ => if e' = el ∨ ys.isEmpty = true then some ys else none
  | .sc (.string s) => if isU8 P el && (usz P el == some 1) then some (bytesV s) else none
  | _ => none
def srcTy (t t' : TypeId) : V → Bool
  | .list .. => t' == t
  | _ => isStr P t'
/-- append(x, y) at the slice type t: i0 is the name of a new right. -/
def xappend (i0 : Nat) (t : TypeId) (x y : V) : Option R :=
  match x, uel P t with
  | .list e xs r, some el =>
    match src P el y, (P.info? el).map (fun i => (i.size, i.bytes, i.zero.map (fun z => z.cells.size))) with
    | some ys, some (s, by_, some zs) =>
      if zs = s ∧ 0 < s ∧ (xs.length + ys.length) * by_ ≤ 140737488355328 ∧ xs.length + ys.length ≤ maxLen then
        if r = 1 then (if xs.isEmpty then some (.val (.list el ys i0) [(i0, some (.tok ys.length el))] []) else none)
        else if r = 0 then none
        else if e = el then some (.val (.list el (xs ++ ys) r) [(r, some (.tok (xs.length + ys.length) el))] [r])
        else none
      else none
    | _, _ => none
  | _, _ => none
/-- The same, the right at hand being asked for. -/
def xappend1 (st : St) (i0 : Nat) (t : TypeId) (x y : V) : Option R :=
  match x with
  | .list e xs r =>
    if r = 1 then xappend P i0 t x y
    else match st r with
      | some (.tok n e') => if n = xs.length ∧ e' = e then xappend P i0 t x y else none
      | _ => none
  | _ => none

def xfill (place : Nat → Option (Nat × Nat)) (cells : List V) : List (Nat × V) → Option (List V)
  | [] => some cells
  | (i, v) :: rest =>
    match place i with
    | none => none
    | some (off, size) =>
      if v.cells.length ≠ size ∨ off + v.cells.length > cells.length then none
      else xfill place (cells.take off ++ v.cells ++ cells.drop (off + v.cells.length)) rest

def xbuiltin (st : St) (i0 : Nat) (b : Builtin) (ts : Array TypeId) (ty : TypeId) (args : List V) : Option R :=
  match b, args with
  | .append, [x, y] => match ts.toList with | [t, t'] => (if srcTy P t t' y = true then xappend1 P st i0 t x y else none) | _ => none
  | .len, [.list _ xs _] => (match ts.toList with | [t] => (match P.underlying t with | some (.slice _) => some (.val (.i64 xs.length) [] []) | _ => none) | _ => none)
  | .len, [.map id] => (match ts.toList with | [t] => (match P.underlying t with | some (.map _ _) => (match st id with | some (.map es) => some (.val (.i64 es.length) [] [id]) | _ => none) | _ => none) | _ => none)
  | .len, [.sc v] => (reck P (Builtin.len_ ts ty #[v])).map fun v => .val (.sc v) [] []
  | .min, l => (l.mapM V.val1?).bind fun vs => (reck P (Builtin.min_ ts ty vs.toArray)).map fun v => .val (.sc v) [] []
  | .max, l => (l.mapM V.val1?).bind fun vs => (reck P (Builtin.max_ ts ty vs.toArray)).map fun v => .val (.sc v) [] []
  | _, _ => none

/-- A right that a result brings is given a name of the caller's. -/
def own1 (i0 : Nat) : V → V × List (Nat × Option Ob)
  | .list e xs r => if 8 ≤ r then (.list e xs i0, [(i0, some (.tok xs.length (r - 8)))]) else (.list e xs r, [])
  | v => (v, [])
def owns (i0 : Nat) : Nat → List V → List V × List (Nat × Option Ob)
  | _, [] => ([], [])
  | j, v :: vs => let a := own1 (i0 + j) v; let b := owns i0 (j + 1) vs; (a.1 :: b.1, a.2 ++ b.2)
def own (i0 : Nat) : V → V × List (Nat × Option Ob)
  | .tup vs => let a := owns i0 0 vs; (.tup a.1, a.2)
  | v => own1 i0 v
/-- The other way: a result's right is told by the mark 8 + e; what else leads to memory is no result. -/
def fin1 (st : St) (used : List Nat) : V → Option (V × List Nat)
  | .list e xs r =>
    if r = 1 then some (.list e xs 1, used) else if r < 8 then some (.list e xs 0, used) else
    match st r with
    | some (.tok n e') => if n = xs.length ∧ e' = e ∧ !used.contains r then some (.list e xs (8 + e), r :: used) else some (.list e xs 0, used)
    | _ => some (.list e xs 0, used)
  | v => v.pur?.map (·, used)
def fins (st : St) : List Nat → List V → Option (List V)
  | _, [] => some []
  | used, v :: vs => (fin1 st used v).bind fun a => (fins st a.2 vs).map (a.1 :: ·)
def fin (st : St) : V → Option V
  | .tup vs => if vs.length ≤ 8 then (fins st [] vs).map .tup else none
  | v => (fin1 st [] v).map (·.1)

/-- A result of the model's own, told by value. -/
def ofRes : Value → V
  | .tuple vs => .tup (vs.toList.map .sc)
  | v => .sc v
def nobody (f : FuncId) : Bool := match P.funcs[f]? with | some fn => fn.body.isNone | none => true
def xcall (E : Env) (i0 nx' : Nat) (st : St) (f : FuncId) (args : List V) : Option R :=
  if nobody P f then
    (args.mapM V.val1?).bind fun vs => match reck P (callFunc f vs.toArray) with | some (.value v) => some (.val (ofRes v) [] []) | _ => none
  else if isM (E.hm f) then
    match E.hp f args st nx' with
    | some (.ret v st' n) => some (.big v st' n)
    | some (.pan v st' n) => some (.bpan v st' n)
    | none => none
  else
    (args.mapM V.pur?).bind fun as =>
    match E.pl f as with
    | some (.ret y) => some (.val (own i0 y).1 (own i0 y).2 [])
    | some (.pan y) => some (.pan y)
    | none => none

def ev (E : Env) (tm : Nat → V) : Operand → Option V
  | .tmp t => some (tm t)
  | .const v => if ones (V.ofV v).cells then some (.ofV v) else none
  | .global g => E.gl g
  | .func f => some (.fn (.func f) [] [])
def pint (o : Option (Option V)) (d : Int) : Option Int :=
  match o with
  | none => some d
  | some none => none
  | some (some v) => vint v
def xslice (t : TypeId) (x : V) (lo hi mx : Option (Option V)) : Option R :=
  match x, P.underlying t with
  | .list e xs r, some (.slice el) =>
    (pint lo 0).bind fun l => (pint hi xs.length).bind fun h => (pint mx h).bind fun m =>
    if 0 ≤ l ∧ l ≤ h ∧ h ≤ xs.length ∧ m = h ∧ (e = el ∨ xs.isEmpty = true) ∧ (usz P el).isSome = true ∧ (mx.isSome = true → hi.isSome = true) then some (.val (.list e ((xs.take h.toNat).drop l.toNat) 0) [] []) else none
  | .sc (.string s), some .string =>
    match mx, lo, hi with
    | none, none, none => some (.val (.sc (.string (s.extract 0 s.size))) [] [])
    | none, some (some (.sc l)), none => (reck P (Instr.slice t (.string s) (some l) none none)).map fun v => .val (.sc v) [] []
    | none, none, some (some (.sc h)) => (reck P (Instr.slice t (.string s) none (some h) none)).map fun v => .val (.sc v) [] []
    | none, some (some (.sc l)), some (some (.sc h)) => (reck P (Instr.slice t (.string s) (some l) (some h) none)).map fun v => .val (.sc v) [] []
    | _, _, _ => none
  | _, _ => none

/-- One operation. i0: the first of eight names that are its own. -/
def xop0 (E : Env) (tm : Nat → V) (st : St) (i0 nx' : Nat) (o : Oper) : Option R :=
  let ρ := ev E tm
  match o.op with
  | .move x | .assign x => (ρ x).map fun v => .val v [] []
  | .pick c a b => (ρ c).bind fun c => (ρ a).bind fun a => (ρ b).bind fun b => match c with | .sc (.bool t) => some (.val (if t then a else b) [] []) | _ => none
  | .alloc e => (uzero P e).bind fun z => if ones (V.ofV z).cells then some (.val (.ptr i0 0) [(i0, some (.cells (V.ofV z).cells))] []) else none
  | .box e x => (ρ x).bind fun v => if ones v.cells then some (.val (.ptr i0 0) [(i0, some (.cells v.cells))] []) else none
  | .build t ps =>
    (ps.toList.mapM fun (p : Nat × Operand) => (ρ p.2).map fun v => (p.1, v)).bind fun (vs : List (Nat × V)) =>
    match uzero P t, P.underlying t with
    | some z, some (.struct fs) =>
      (xfill (fun i => (fs[i]?).bind fun f => (usz P f.type).map fun s => (f.offset, s)) (V.ofV z).cells vs).bind fun cs =>
        if fs.all (fun f => (usz P f.type).isSome) && ones (V.ofV z).cells && vs.all (fun p => ones p.2.cells) && ones cs then some (.val (.agg cs) [] []) else none
    | _, _ => none
  | .buildSlice t n ps =>
    (ps.toList.mapM fun (p : Nat × Operand) => (ρ p.2).map fun v => (p.1, v)).bind fun (vs : List (Nat × V)) =>
    match uel P t with
    | some e => (usz P e).bind fun s =>
      if vs.map (·.1) = List.range n ∧ n ≤ 1000 ∧ s ≤ 1000 ∧ 0 < s ∧ (uzero P e).isSome = true then
        if vs.all (fun p => p.2.cells.length == s && ones p.2.cells && ((p.2).pur?).isSome) then
          (vs.mapM fun (p : Nat × V) => (p.2).pur?).bind fun xs => some (.val (.list e xs i0) [(i0, some (.tok n e))] [])
        else none
      else none
    | none => none
  | .load t x => (ρ x).bind fun a => match a with
    | .ptr id off => match st id with | some (.cells cs) => (ld P t cs off).map fun v => .val v [] [id] | _ => none
    | .cp cs => (ld P t cs 0).map fun v => .val v [] []
    | _ => none
  | .store t x y => (ρ x).bind fun a => (ρ y).bind fun v => match a with
    | .ptr id off => match st id with
      | some (.cells cs) => if usz P t = some v.cells.length ∧ off + v.cells.length ≤ cs.length ∧ ones v.cells = true then some (.val (.sc undef) [(id, some (.cells (cs.take off ++ v.cells ++ cs.drop (off + v.cells.length))))] [id]) else none
      | _ => none
    | _ => none
  | .nilCheck x => (ρ x).bind fun v => match v with
    | .ptr .. | .cp _ => some (.val v [] [])
    | .fn (.func f) a b => some (.val (.fn (.func f) a b) [] [])
    | _ => none
  | .binOp op t x y _ => (ρ x).bind fun a => (ρ y).bind fun b => match a, b with
    | .ptr .., .sc (.pointer none) => match op, P.underlying t with | .eql, some (.pointer _) => some (.val (.bool false) [] []) | .neq, some (.pointer _) => some (.val (.bool true) [] []) | _, _ => none
    | _, _ => a.val?.bind fun u => b.val?.bind fun v => (reck P (do eqGuard op t x y u v; binOp op t u v)).map fun v => .val (.sc v) [] []
  | .unOp op _ x => (ρ x).bind fun a => a.val1?.bind fun u => (reck P (Op.unary op u)).map fun v => .val (.sc v) [] []
  | .convert s d x => (ρ x).bind fun a => match a with
    | .list e xs _ => match P.underlying s, P.underlying d with
      | some (.slice e'), some .string => if isU8 P e' = true ∧ (e = e' ∨ xs.isEmpty = true) ∧ usz P e' = some 1 then (bytesOfV xs).map fun l => .val (.sc (.string ⟨l.toArray⟩)) [] [] else none
      | _, _ => none
    | .sc u => match u, P.underlying s, uel P d with
      | .string t, some _, some e => if isU8 P e && (usz P e == some 1) then some (.val (.list e (bytesV t) 0) [] []) else none
      | _, _, _ => (reck P (convert s d u)).map fun v => .val (.sc v) [] []
    | _ => none
  | .makeFunc f a b => (a.toList.mapM ρ).bind fun a => (b.toList.mapM ρ).bind fun b => some (.val (.fn f a b) [] [])
  | .makeMap t none => some (.val (.map i0) [(i0, some (.map []))] [])
  | .slice t x lo hi mx => (ρ x).bind fun v => xslice P t v (lo.map ρ) (hi.map ρ) (mx.map ρ)
  | .fieldAddr s x f => (ρ x).bind fun a => match P.underlying s with
    | some (.struct fs) => (fs[f]?).bind fun fd => match usz P fd.type with
      | some (n + 1) => match a with
        | .ptr id off => some (.val (.ptr id (off + fd.offset)) [] [])
        | .cp cs => if fd.offset < cs.length then some (.val (.cp (cs.drop fd.offset)) [] []) else none
        | _ => none
      | _ => none
    | _ => none
  | .field t x f => (ρ x).bind fun a => match a, P.underlying t with
    | .agg cs, some (.struct fs) => (fs[f]?).bind fun fd => (ld P fd.type cs fd.offset).map fun v => .val v [] []
    | _, _ => none
  | .indexAddr t x i => (ρ x).bind fun a => (ρ i).bind fun i => (vint i).bind fun i => match a, P.underlying t with
    | .list e xs _, some (.slice el) =>
      if 0 ≤ i ∧ e = el then (xs[i.toNat]?).bind fun x => (usz P el).bind fun s => if 0 < s then some (.val (.cp x.cells) [] []) else none else none
    | .cp cs, some (.array n el) => if 0 ≤ i ∧ i < n then (usz P el).bind fun s => if 0 < s ∧ i.toNat * s < cs.length then some (.val (.cp (cs.drop (i.toNat * s))) [] []) else none else none
    | .ptr id off, some (.array n el) => if 0 ≤ i ∧ i < n then (usz P el).bind fun s => if 0 < s then some (.val (.ptr id (off + i.toNat * s)) [] []) else none else none
    | _, _ => none
  | .index t x i => (ρ x).bind fun a => (ρ i).bind fun i => match a, i with
    | .sc (.string s), .sc j => (reck P (Instr.index t (.string s) j)).map fun v => .val (.sc v) [] []
    | _, _ => none
  | .lookup t x k ok => (ρ x).bind fun a => (ρ k).bind fun k => match a, k, P.underlying t with
    | .map id, .sc k, some (.map kt et) =>
      if kindOk (P.underlying kt) k then
        (uzero P et).bind fun z => match st id with
        | some (.map es) => (mfind k es 0).bind fun r => match r with
          | some (_, v) => some (.val (if ok then .tup [v, .bool true] else v) [] [id])
          | none => if ones (V.ofV z).cells then some (.val (if ok then .tup [V.ofV z, .bool false] else V.ofV z) [] [id]) else none
        | _ => none
      else none
    | _, _, _ => none
  | .mapUpdate t x k y => (ρ x).bind fun a => (ρ k).bind fun k => (ρ y).bind fun y => match a, k, P.underlying t with
    | .map id, .sc k, some (.map kt et) =>
      if kindOk (P.underlying kt) k then
        match st id with
        | some (.map es) => (mfind k es 0).bind fun r => match r with
          | some (i, _) => some (.val (.sc undef) [(id, some (.map (es.set i (.sc k, y))))] [id])
          | none => some (.val (.sc undef) [(id, some (.map (es ++ [(.sc k, y)])))] [id])
        | _ => none
      else none
    | _, _, _ => none
  | .range t x => (ρ x).bind fun a => match a, P.underlying t with
    | .sc (.string s), some .string => some (.val (.ptr i0 0) [(i0, some (.iter s 0))] [])
    | _, _ => none
  | .next x true => (ρ x).bind fun a => match a with
    | .ptr id 0 => match st id with
      | some (.iter s pos) => if pos < s.size then some (.val (.tup [.bool true, .i64 pos, .sc (.int .i32 (Utf8.decode s pos).1)]) [(id, some (.iter s (pos + (Utf8.decode s pos).2)))] [id]) else some (.val (.tup [.bool false]) [] [id])
      | _ => none
    | _ => none
  | .extract x i => (ρ x).bind fun a => match a with
    | .tup vs => (vs[i]?).map fun v => .val v [] []
    | _ => none
  | .makeInterface t x => (ρ x).bind fun v => match P.underlying t with
    | some (.interface _) | none => none
    | _ => some (.val (.ifc t v) [] [])
  | .panic x => (ρ x).bind fun v => match v with | .ifc .. => some (.pan v) | _ => none
  | .call c =>
    (c.args.toList.mapM ρ).bind fun args => match c.callee with
    | .builtin b => xbuiltin P st i0 b c.argTypes o.type args
    | .value f => (ρ f).bind fun fv => match fv with
      | .fn (.func g) first cap => xcall P E i0 nx' st g (first ++ args ++ cap)
      | _ => none
    | _ => none
  | _ => none

end
/-! ### Rows that may turn -/
inductive A where
  | t (n : Nat)
  | v (x : V)
def av (tm : Nat → V) : A → V
  | .t n => tm n
  | .v x => x
inductive KX where
  | mks (e : Nat) (g : Bool) (s by_ : Nat) (z : List V) (n c : A)
  | app (e : Nat) (g : Bool) (s by_ : Nat) (l : Bool) (a b : A)
  | lit (e : Nat) (g : Bool) (s : Nat) (as : List A)
  | ix (e : Nat) (a i : A)
  | sll (e : Nat) (a : A) (lo hi : Option A)
  | sl0 (e : Nat) (a : A)
  | asl (e : Nat) (g : Bool) (s n : Nat) (a : A)
  | len (a : A)
  | b2s (e : Nat) (a : A)
  | cpy (e s : Nat) (l : Bool) (a b : A)
  | ld (so : Option Nat) (a : A)
  | sto (n : Nat) (a b : A)
  | pl (f : FuncId) (as : List A)
def kld : Option Nat → List V → Nat → Option V
  | none, cs, off => cs[off]?
  | some s, cs, off => if off + s ≤ cs.length then some (.agg ((cs.drop off).take s)) else none
def kint (tm : Nat → V) : Option A → Int → Option Int
  | none, d => some d
  | some a, _ => vint (av tm a)
/-- The cells of an object that a slice may lie over. -/
def obCells : Option Ob → Option (List V)
  | some (.cells cs) => some cs
  | some (.row _ _ _ cs) => some cs
  | some (.frz cs) => some cs
  | _ => none
/-- The same object with other cells. -/
def obSet : Option Ob → List V → Option Ob
  | some (.cells _), cs => some (.cells cs)
  | some (.row e s n _), cs => some (.row e s n cs)
  | _, _ => none
/-- The elements of flat cells. -/
def chunk (g : Bool) (s : Nat) : Nat → List V → List V
  | 0, _ => []
  | n + 1, cs => (if g then .agg (cs.take s) else cs.headD default) :: chunk g s n (cs.drop s)
/-- What new cells are taken from: the cells, how many elements, which objects are looked at. -/
def srcX (st : St) (e : Nat) (l : Bool) : V → Option (List V × Nat × List Nat)
  | .list e' ys _ => if l = true ∧ (e' = e ∨ ys.isEmpty = true) then some (ys.flatMap V.cells, ys.length, []) else none
  | .sl e' _ s id off n => if l = true ∧ e' = e then (obCells (st id)).bind fun cs => if (off + n) * s ≤ cs.length then some ((cs.drop (off * s)).take (n * s), n, [id]) else none else none
  | .emp e' => if l = true ∧ e' = e then some ([], 0, []) else none
  | .sc (.string t) => if l then none else some (bytesV t, t.size, [])
  | _ => none
def frz1 (st : St) : V → Option (V × List (Nat × Option Ob))
  | .sl e g s id off n => (match st id with
    | some (.row _ _ _ cs) => (cs.mapM V.pur1?).map fun ds => (ds, [(id, some (Ob.frz ds))])
    | some (.cells cs) => (cs.mapM V.pur1?).map fun ds => (ds, [(id, some (Ob.frz ds))])
    | some (.frz ds) => some (ds, [])
    | _ => none).bind fun p => if (off + n) * s ≤ p.1.length then some (.list e (chunk g s n (p.1.drop (off * s))) 0, p.2) else none
  | .emp e => some (.list e [] 0, [])
  | v => v.pur1?.map fun u => (u, [])
/-- A value that leads to rows is made pure: the rows never turn from here on. -/
def frzs : St → List V → Option (List V × List (Nat × Option Ob))
  | _, [] => some ([], [])
  | st, v :: vs => (frz1 st v).bind fun p => (frzs (upds p.2 st) vs).map fun q => (p.1 :: q.1, p.2 ++ q.2)
def frzV (st : St) : V → Option (V × List (Nat × Option Ob))
  | .agg cs => (frzs st cs).map fun p => (.agg p.1, p.2)
  | v => frz1 st v
def frzA : St → List V → Option (List V × List (Nat × Option Ob))
  | _, [] => some ([], [])
  | st, v :: vs => (frzV st v).bind fun p => (frzA (upds p.2 st) vs).map fun q => (p.1 :: q.1, p.2 ++ q.2)
def frzT (st : St) : V → Option (V × List (Nat × Option Ob))
  | .tup vs => (frzA st vs).map fun p => (.tup p.1, p.2)
  | v => frzV st v
/-- Whether a value leads to a row by its head or by a part. -/
def slish1 : V → Bool
  | .sl .. | .emp _ => true
  | _ => false
def slish : V → Bool
  | .agg cs => cs.any slish1
  | v => slish1 v
/-- Arguments are made pure where they lead to rows. -/
def frzH : St → List V → Option (List V × List (Nat × Option Ob))
  | _, [] => some ([], [])
  | st, v :: vs => if slish v = true then (frzV st v).bind fun p => (frzH (upds p.2 st) vs).map fun q => (p.1 :: q.1, p.2 ++ q.2) else (frzH st vs).map fun q => (v :: q.1, q.2)
def slIds1 : V → List Nat
  | .sl _ _ _ id _ _ => [id]
  | _ => []
def slIds : V → List Nat
  | .agg cs => cs.flatMap slIds1
  | v => slIds1 v
section
variable (E : Env) (tm : Nat → V) (st : St) (i0 : Nat)
def kopx : KX → Option (Option R)
  | .mks e g s by_ z n c => match av tm n, av tm c with
    | .sc (.int _ n), .sc (.int _ c) => some (if n = c ∧ 0 ≤ n ∧ n * by_ ≤ 140737488355328 ∧ n ≤ 9223372036854775807 then some (.val (.sl e g s i0 0 n.toNat) [(i0, some (.row e s n.toNat (List.replicate n.toNat z).flatten))] []) else none)
    | _, _ => none
  | .app e g s by_ l a b => match av tm a with
    | .sl e' g' s' id off n => some (if e' = e ∧ off = 0 then (match st id with
        | some (.row e2 _ n2 cs) => if e2 = e ∧ n2 = n then (srcX st e l (av tm b)).bind fun p => if (n + p.2.1) * by_ ≤ 140737488355328 ∧ n + p.2.1 ≤ 9223372036854775807 then some (.val (.sl e g s i0 0 (n + p.2.1)) [(id, none), (i0, some (.row e s (n + p.2.1) (cs ++ p.1)))] (id :: p.2.2)) else none else none
        | _ => none) else none)
    | .list e' [] 1 => some ((srcX st e l (av tm b)).bind fun p => if p.2.1 * by_ ≤ 140737488355328 ∧ p.2.1 ≤ 9223372036854775807 then (if p.2.1 = 0 then some (.val (.list e' [] 1) [] p.2.2) else some (.val (.sl e g s i0 0 p.2.1) [(i0, some (.row e s p.2.1 p.1))] p.2.2)) else none)
    | .emp e' => some ((srcX st e l (av tm b)).bind fun p => if p.2.1 * by_ ≤ 140737488355328 ∧ p.2.1 ≤ 9223372036854775807 then (if p.2.1 = 0 then some (.val (.emp e') [] p.2.2) else some (.val (.sl e g s i0 0 p.2.1) [(i0, some (.row e s p.2.1 p.1))] p.2.2)) else none)
    | _ => none
  | .lit e g s as => some (if (as.all fun a => (av tm a).cells.length == s && ones (av tm a).cells) then some (.val (.sl e g s i0 0 as.length) [(i0, some (.row e s as.length (as.flatMap fun a => (av tm a).cells)))] []) else none)
  | .ix el a i => match av tm a with
    | .sl e g s id off n => some (match av tm i with
      | .sc (.int _ k) => if e = el ∧ 0 ≤ k ∧ k < n then some (.val (.ptr id ((off + k.toNat) * s)) [] []) else none
      | _ => none)
    | _ => none
  | .sll el a lo hi => match av tm a with
    | .sl e g s id off n => some ((kint tm lo 0).bind fun l => (kint tm hi n).bind fun h => if e = el ∧ 0 ≤ l ∧ l ≤ h ∧ h ≤ n then some (.val (.sl e g s id (off + l.toNat) (h.toNat - l.toNat)) [] []) else none)
    | _ => none
  | .sl0 el a => match av tm a with
    | .sl e _ _ _ _ _ => some (if e = el then some (.val (.emp el) [] []) else none)
    | .emp e => some (if e = el then some (.val (.emp el) [] []) else none)
    | .list e xs _ => some (if e = el ∨ xs.isEmpty = true then some (.val (.emp el) [] []) else none)
    | _ => none
  | .asl e g s n a => match av tm a with
    | .ptr id off => some (match st id with
      | some (.cells cs) => if off = 0 ∧ cs.length = n * s ∧ n ≤ 9223372036854775807 then some (.val (.sl e g s i0 0 n) [(id, none), (i0, some (.cells cs))] [id]) else none
      | _ => none)
    | _ => none
  | .len a => match av tm a with
    | .sl _ _ _ _ _ n => some (some (.val (.i64 n) [] []))
    | .emp _ => some (some (.val (.i64 0) [] []))
    | _ => none
  | .b2s el a => match av tm a with
    | .sl e _ s id off n => some (if e = el then (obCells (st id)).bind fun cs => if (off + n) * s ≤ cs.length then (bytesOfV ((cs.drop (off * s)).take (n * s))).map fun l => .val (.sc (.string ⟨l.toArray⟩)) [] [id] else none else none)
    | .emp e => some (if e = el then some (.val (.sc (.string ⟨#[]⟩)) [] []) else none)
    | _ => none
  | .cpy e s l a b => match av tm a with
    | .sl e' _ _ id off n => some (if e' = e then (srcX st e l (av tm b)).bind fun p => (obCells (st id)).bind fun cs =>
        if (off + n) * s ≤ cs.length then (obSet (st id) (cs.take (off * s) ++ p.1.take (min p.2.1 n * s) ++ cs.drop ((off + min p.2.1 n) * s))).map fun ob => .val (.i64 (min p.2.1 n : Nat)) [(id, some ob)] (id :: p.2.2) else none
        else none)
    | _ => none
  | .ld so a => match av tm a with
    | .ptr id off => match st id with
      | some (.row _ _ _ cs) => some ((kld so cs off).map fun v => .val v [] [id])
      | some (.frz cs) => some ((kld so cs off).map fun v => .val v [] [id])
      | _ => none
    | _ => none
  | .sto n a b => match av tm a with
    | .ptr id off => match st id with
      | some (.row e s m cs) => some (if n = (av tm b).cells.length ∧ off + (av tm b).cells.length ≤ cs.length ∧ ones (av tm b).cells = true then some (.val (.sc undef) [(id, some (.row e s m (cs.take off ++ (av tm b).cells ++ cs.drop (off + (av tm b).cells.length))))] [id]) else none)
      | _ => none
    | _ => none
  | .pl f as => if (as.any fun a => slish (av tm a)) = true then some ((frzA st (as.map (av tm))).bind fun p => match E.pl f p.1 with
      | some (.ret y) => some (.val (own i0 y).1 (p.2 ++ (own i0 y).2) (as.flatMap fun a => slIds (av tm a)))
      | _ => none) else none
end
/-! ### The types of these operations looked up -/
section
variable (P : Program) (hm : FuncId → Nat) (gl : Nat → Option V)
def ca : Operand → Option A
  | .tmp t => some (.t t)
  | .const v => if ones (V.ofV v).cells then some (.v (.ofV v)) else none
  | .global g => (gl g).map .v
  | .func f => some (.v (.fn (.func f) [] []))
def kty (t : TypeId) : Option (Option Nat) :=
  match usz P t, uagg P t with
  | some s, some true => some (some s)
  | some _, some false => some none
  | _, _ => none
def cao : Option Operand → Option (Option A)
  | none => some none
  | some x => (ca gl x).map some
def zeroC : Operand → Bool
  | .const (.int _ n) => n == 0
  | _ => false
def ckx (op : Op) : Option KX :=
  match op with
  | .makeSlice t n c => (ca gl n).bind fun n => (ca gl c).bind fun c => (uel P t).bind fun e => (usz P e).bind fun s => (uagg P e).bind fun g => (P.info? e).bind fun i => (uzero P e).bind fun z =>
    if 0 < s ∧ (g = false → s = 1) ∧ ones (V.ofV z).cells = true ∧ (V.ofV z).cells.length = s then some (.mks e g s i.bytes (V.ofV z).cells n c) else none
  | .buildSlice t n ps => (ps.toList.mapM fun (p : Nat × Operand) => (ca gl p.2).map fun a => (p.1, a)).bind fun ps => (uel P t).bind fun e => (usz P e).bind fun s => (uagg P e).bind fun g =>
    if ps.map (·.1) = List.range n ∧ n ≤ 1000 ∧ s ≤ 1000 ∧ 0 < s ∧ (g = false → s = 1) ∧ (uzero P e).isSome = true then some (.lit e g s (ps.map (·.2))) else none
  | .indexAddr t x i => (ca gl x).bind fun a => (ca gl i).bind fun i => (uel P t).map fun el => .ix el a i
  | .slice t x lo hi mx => (ca gl x).bind fun a => match P.underlying t with
    | some (.slice el) => match mx with
      | none => (cao gl lo).bind fun lo => (cao gl hi).map fun hi => .sll el a lo hi
      | some mx => match lo, hi with
        | none, some hi => if zeroC hi && zeroC mx && (usz P el).isSome then some (.sl0 el a) else none
        | _, _ => none
    | some (.array n el) => match lo, hi, mx with
      | none, none, none => (usz P el).bind fun s => (uagg P el).bind fun g => if 0 < s ∧ (g = false → s = 1) then some (.asl el g s n a) else none
      | _, _, _ => none
    | _ => none
  | .convert s d x => (ca gl x).bind fun a => match P.underlying s, P.underlying d with
    | some (.slice e), some .string => if isU8 P e && (usz P e == some 1) then some (.b2s e a) else none
    | _, _ => none
  | .load t x => (ca gl x).bind fun a => (kty P t).map fun so => .ld so a
  | .store t x y => (ca gl x).bind fun a => (ca gl y).bind fun b => (usz P t).map fun n => .sto n a b
  | .call c => (c.args.toList.mapM (ca gl)).bind fun as => match c.callee with
    | .builtin .append => match as, c.argTypes.toList with
      | [a, b], [t, t'] => (uel P t).bind fun e => (uagg P e).bind fun g => (P.info? e).bind fun i => (i.zero).bind fun z =>
        if z.cells.size = i.size ∧ 0 < i.size ∧ (g = false → i.size = 1) then (if t' == t then some (.app e g i.size i.bytes true a b) else if isStr P t' && isU8 P e && (usz P e == some 1) then some (.app e g i.size i.bytes false a b) else none) else none
      | _, _ => none
    | .builtin .len => match as, c.argTypes.toList with
      | [a], [t] => (uel P t).map fun _ => .len a
      | _, _ => none
    | .builtin .copy => match as, c.argTypes.toList with
      | [a, b], [t, t'] => (uel P t).bind fun e => (usz P e).bind fun s => if 0 < s then (if t' == t then some (.cpy e s true a b) else if isStr P t' && isU8 P e && (usz P e == some 1) then some (.cpy e s false a b) else none) else none
      | _, _ => none
    | .value (.func f) => if nobody P f || isM (hm f) then none else some (.pl f as)
    | _ => none
  | _ => none
/-- One operation on rows that may turn, if it is one. -/
def yop (E : Env) (tm : Nat → V) (st : St) (i0 : Nat) (o : Oper) : Option (Option R) :=
  if E.md < 1 then none else (ckx P E.hm E.gl o.op).bind (kopx E tm st i0)
def xop (E : Env) (tm : Nat → V) (st : St) (i0 nx' : Nat) (o : Oper) : Option R :=
  match yop P E tm st i0 o with
  | some r => r
  | none => xop0 P E tm st i0 nx' o
end
section
variable (P : Program)
def xwant (ops : Array Oper) (tm : Nat → V) (o : Oper) : Option Bool :=
  match o.guard with
  | none => some true
  | some (j, w) =>
    match (ops[j]?).bind (·.dst) with
    | some d => match tm d with
      | .sc (.bool b) => some (b == w)
      | .sc _ => some false
      | _ => none
    | none => none

def putT (tm : Nat → V) (dst : Option Tmp) (v : V) : Nat → V :=
  match dst with
  | some d => upd tm d v
  | none => tm
def dstOk (N : Nat) (dst : Option Tmp) : Bool := match dst with | some d => decide (d < N) | none => true

/-- What each operation of a region did. -/
structure Rec where
  v : V
  δ : List (Nat × Option Ob)
  rd : List Nat
  big : Option (St × Nat)

inductive RR where
  | ok (tm : Nat → V) (st : St) (nx : Nat) (recs : List Rec)
  | pan (tm : Nat → V) (v : V) (st : St) (nx : Nat)

def xops (E : Env) (ops : Array Oper) (N : Nat) (n0 : Nat) : Nat → List Oper → (Nat → V) → St → Nat → Option RR
  | _, [], tm, st, nx => some (.ok tm st nx [])
  | i, o :: rest, tm, st, nx =>
    if dstOk N o.dst then
      match xwant ops tm o with
      | some true =>
        match xop P E tm st (n0 + 8 * i) nx o with
        | some (.val v δ rd) =>
          match xops E ops N n0 (i + 1) rest (putT tm o.dst v) (upds δ st) nx with
          | some (.ok tm' st' nx' recs) => some (.ok tm' st' nx' (⟨v, δ, rd, none⟩ :: recs))
          | r => r
        | some (.big v st1 nx1) =>
          match xops E ops N n0 (i + 1) rest (putT tm o.dst v) st1 nx1 with
          | some (.ok tm' st' nx' recs) => some (.ok tm' st' nx' (⟨v, [], [], some (st1, nx1)⟩ :: recs))
          | r => r
        | some (.pan v) => some (.pan tm v st nx)
        | some (.bpan v st1 nx1) => some (.pan tm v st1 nx1)
        | none => none
      | some false =>
        match xops E ops N n0 (i + 1) rest (putT tm o.dst (.sc undef)) st nx with
        | some (.ok tm' st' nx' recs) => some (.ok tm' st' nx' (⟨.sc undef, [], [], none⟩ :: recs))
        | r => r
      | none => none
    else none
end

/-! ### An order that is drawn -/
def edges (o : Oper) : List Nat := (o.after.toList.filter (Region.binds .any)).map (·.on)
def mask1 (B : List Nat) (es : List Nat) : Nat := es.foldl (fun s e => s ||| 2 ^ e ||| B.getD e 0) 0
def masks : List Oper → List Nat → List Nat
  | [], B => B
  | o :: r, B => masks r (B ++ [mask1 B (edges o)])
def masksOk (ops : List Oper) (B : List Nat) : Bool :=
  (List.range ops.length).all fun d => match ops[d]? with
    | some o => (edges o).all (fun e => decide (e < d)) && B.getD d 0 == mask1 B (edges o)
    | none => true
def ordB (B : List Nat) (i j : Nat) : Bool := (B.getD j 0).testBit i
def noSel (o : Oper) : Bool := match o.op with | .select .. => false | _ => true
/-- Two operations that may change places touch no slot of each other's. -/
def slotsOk (ops : Array Oper) (B : List Nat) : Bool :=
  ops.toList.all noSel && (List.range ops.size).all fun j => (List.range j).all fun i => ordB B i j || match ops[i]?, ops[j]? with
    | some x, some y => x.apart ops y
    | _, _ => true
def disj (a b : List Nat) : Bool := a.all fun x => !b.contains x
def Rec.wr (r : Rec) : List Nat := r.δ.map (·.1)
def Rec.free (x y : Rec) : Bool := disj x.wr (y.rd ++ y.wr) && disj x.rd y.wr
def recsOk (B : List Nat) (recs : List Rec) : Bool :=
  recs.all (fun r => r.big.isNone) && (List.range recs.length).all fun j => match recs[j]? with
    | some y => (y.rd.isEmpty && y.δ.isEmpty) || (List.range j).all fun i => ordB B i j || match recs[i]? with
      | some x => x.free y
      | none => true
    | none => true

/-! ### An order that is drawn, with calls on memory in it -/
def dF (ops : Array Oper) (j : Nat) : Option Tmp := (ops[j]?).bind (·.dst)
def vF (recs : List Rec) (j : Nat) : V := ((recs[j]?).map (·.v)).getD default
def δF (recs : List Rec) (j : Nat) : List (Nat × Option Ob) := ((recs[j]?).map (·.δ)).getD []
def rF (recs : List Rec) (j : Nat) : List Nat := ((recs[j]?).map (·.rd)).getD []
def bigF (recs : List Rec) (j : Nat) : Option (St × Nat) := (recs[j]?).bind (·.big)
/-- The state ahead of operation j. -/
def seqSt (st0 : St) (recs : List Rec) : Nat → St
  | 0 => st0
  | j + 1 => match bigF recs j with
    | some p => p.1
    | none => upds (δF recs j) (seqSt st0 recs j)
/-- Two operations that may change places, one of them a call on memory at most: the other looks at what the call lets be. -/
def pairOk (st0 : St) (recs : List Rec) (i j : Nat) : Prop := match bigF recs i, bigF recs j with
  | none, none => (disj ((δF recs i).map (·.1)) (rF recs j ++ (δF recs j).map (·.1)) && disj (rF recs i) ((δF recs j).map (·.1))) = true
  | none, some p => δF recs i = [] ∧ ∀ k ∈ rF recs i, p.1 k = seqSt st0 recs j k
  | some p, none => δF recs j = [] ∧ ∀ k ∈ rF recs j, p.1 k = seqSt st0 recs i k
  | some _, some _ => False
def recsOk2 (st0 : St) (B : List Nat) (recs : List Rec) : Prop := ∀ j ∈ List.range recs.length, ∀ i ∈ List.range j, ordB B i j = true ∨ pairOk st0 recs i j
/-! ### The same, to be reckoned out -/
def vlit : Value → Value → Bool
  | .int k a, .int l b => decide (k = l) && decide (a = b)
  | .string a, .string b => decide (a = b)
  | .bool a, .bool b => a == b
  | .nilIface, .nilIface => true
  | _, _ => false
mutual
def veq : V → V → Bool
  | .sc a, .sc b => vlit a b
  | .list e xs r, .list f ys s => decide (e = f) && decide (r = s) && veqs xs ys
  | .agg a, .agg b => veqs a b
  | .tup a, .tup b => veqs a b
  | .ptr i o, .ptr j p => decide (i = j) && decide (o = p)
  | .sl e g s i o n, .sl f h t j p m => decide (e = f) && g == h && decide (s = t) && decide (i = j) && decide (o = p) && decide (n = m)
  | .cp a, .cp b => veqs a b
  | .map i, .map j => decide (i = j)
  | .ifc t v, .ifc u w => decide (t = u) && veq v w
  | _, _ => false
def veqs : List V → List V → Bool
  | [], [] => true
  | a :: as', b :: bs => veq a b && veqs as' bs
  | _, _ => false
end
def obEq : Option Ob → Option Ob → Bool
  | none, none => true
  | some (.cells a), some (.cells b) => veqs a b
  | some (.tok n e), some (.tok m f) => decide (n = m) && decide (e = f)
  | some (.iter s i), some (.iter t j) => decide (s = t) && decide (i = j)
  | _, _ => false
def pairOkB (st0 : St) (recs : List Rec) (i j : Nat) : Bool := match bigF recs i, bigF recs j with
  | none, none => disj ((δF recs i).map (·.1)) (rF recs j ++ (δF recs j).map (·.1)) && disj (rF recs i) ((δF recs j).map (·.1))
  | none, some p => (δF recs i).isEmpty && (rF recs i).all fun k => obEq (p.1 k) (seqSt st0 recs j k)
  | some p, none => (δF recs j).isEmpty && (rF recs j).all fun k => obEq (p.1 k) (seqSt st0 recs i k)
  | some _, some _ => false
def recsOk3 (st0 : St) (B : List Nat) (recs : List Rec) : Bool := (List.range recs.length).all fun j => (List.range j).all fun i => ordB B i j || pairOkB st0 recs i j
inductive Ex where
  | norm
  | exit (id : Nat)
  | ret
  | pan (v : V)
structure Fr where
  tm : Nat → V
  st : St
  nx : Nat
def iter (f : Fr → Option (Ex × Fr)) : Nat → Fr → Option (Ex × Fr)
  | 0, _ => none
  | k + 1, fr => match f fr with
    | some (.norm, fr') => iter f k fr'
    | r => r
section
variable (P : Program)
/-- What stands unordered beside the operation behind recs writes nothing; all behind it waits for it. -/
def pansOk (B : List Nat) (recs : List Rec) (m : Nat) : Bool :=
  ((List.range m).all fun j => decide (j ≤ recs.length) || ordB B recs.length j) &&
  (List.range recs.length).all fun j => ordB B j recs.length || ((δF recs j).isEmpty && (bigF recs j).isNone)
/-- A drawn region in which one operation panics. -/
def PanAt (P : Program) (E : Env) (N : Nat) (ops : Array Oper) (fr : Fr) (v : V) (st : St) (nx : Nat) : Prop :=
  ∃ i o tm s n recs, ops[i]? = some o ∧ recs.length = i ∧ xops P E ops N fr.nx 0 (ops.toList.take i) fr.tm fr.st (fr.nx + 8 * ops.size) = some (.ok tm s n recs) ∧ xwant ops tm o = some true ∧
    (xop P E tm s (fr.nx + 8 * i) n o = some (.bpan v st nx) ∨ (xop P E tm s (fr.nx + 8 * i) n o = some (.pan v) ∧ st = s ∧ nx = n)) ∧
    masksOk ops.toList (masks ops.toList []) = true ∧ slotsOk ops (masks ops.toList []) = true ∧ recsOk2 fr.st (masks ops.toList []) recs ∧ pansOk (masks ops.toList []) recs ops.size = true
open Classical in
noncomputable def xregion (E : Env) (N : Nat) (ops : Array Oper) (draw : Bool) (fr : Fr) : Option (Ex × Fr) :=
  match xops P E ops N fr.nx 0 ops.toList fr.tm fr.st (fr.nx + 8 * ops.size) with
  | some (.ok tm st nx recs) =>
    if draw then
      if masksOk ops.toList (masks ops.toList []) && slotsOk ops (masks ops.toList []) && recsOk (masks ops.toList []) recs then some (.norm, ⟨tm, st, nx⟩)
      else if masksOk ops.toList (masks ops.toList []) && slotsOk ops (masks ops.toList []) && recsOk3 fr.st (masks ops.toList []) recs then some (.norm, ⟨tm, st, nx⟩)
      else if masksOk ops.toList (masks ops.toList []) && slotsOk ops (masks ops.toList []) then (if recsOk2 fr.st (masks ops.toList []) recs then some (.norm, ⟨tm, st, nx⟩) else none) else none
    else some (.norm, ⟨tm, st, nx⟩)
  | some (.pan tm v st nx) => if draw then (if PanAt P E N ops fr v st nx then some (.pan v, ⟨fr.tm, st, nx⟩) else none) else some (.pan v, ⟨tm, st, nx⟩)
  | none => none
noncomputable def xcode (E : Env) (N k : Nat) : Code → Fr → Option (Ex × Fr)
  | .skip, fr => some (.norm, fr)
  | .region _ ops draw, fr => xregion P E N ops draw fr
  | .seq a b, fr => match xcode E N k a fr with
    | some (.norm, fr') => xcode E N k b fr'
    | r => r
  | .cond c x y, fr => match ev E fr.tm c with
    | some (.sc (.bool b)) => bif b then xcode E N k x fr else xcode E N k y fr
    | _ => none
  | .block id b, fr => match xcode E N k b fr with
    | some (.exit j, fr') => if j = id then some (.norm, fr') else some (.exit j, fr')
    | r => r
  | .loop b, fr => iter (xcode E N k b) k fr
  | .exit id, fr => some (.exit id, fr)
  | .ret, fr => some (.ret, fr)
  | .label _, fr => some (.norm, fr)
  | _, _ => none
def xres1 (fr : Fr) : ResultVar → Option V
  | .tmp t => some (fr.tm t)
  | .cell a t => match fr.tm a with
    | .ptr id off => match fr.st id with
      | some (.cells cs) => ld P t cs off
      | _ => none
    | _ => none
def xres (fr : Fr) (rs : List ResultVar) : Option V :=
  (rs.mapM (xres1 P fr)).map fun vs => match vs with
    | [v] => v
    | vs => .tup vs
noncomputable def xrun0 (E : Env) (k : Nat) (fn : Func) (args : List V) (st : St) (nx : Nat) : Option HR :=
  match fn.body with
  | none => none
  | some c => match xcode P E (args.length + (fn.ntmps - args.length)) k c ⟨fun t => args.getD t (.sc undef), st, nx⟩ with
    | some (.norm, fr) => (xres P fr fn.results.toList).map fun v => .ret v fr.st fr.nx
    | some (.ret, fr) => (xres P fr fn.results.toList).map fun v => .ret v fr.st fr.nx
    | some (.pan v, fr) => some (.pan v fr.st fr.nx)
    | _ => none
/-! ### A function that at its start defers one closure; the closure's first two operations recover and look at what was thrown -/
def dsplit : Code → Option (Code × FuncId × List Operand × Tmp × Oper × Oper × Array Oper × Code)
  | .seq r1 (.seq (.region _ ops false) rest) => match ops.toList with
    | [o1, o2] => match o1.op, o1.dst, o1.guard, o2.op, o2.dst, o2.guard with
      | .makeFunc (.func g) first caps, some d, none, .defer ⟨.value (.tmp d'), args, _⟩, none, none =>
        if d' = d ∧ first.isEmpty = true ∧ args.isEmpty = true then some (r1, g, caps.toList, d, o1, o2, ops, rest) else none
      | _, _, _, _, _, _ => none
    | _ => none
  | _ => none
def csplit : Code → Option (Tmp × Tmp × TypeId × Array Oper × Code)
  | .seq (.region _ ops false) c => match ops.toList with
    | o0 :: o1 :: _ => match o0.op, o0.dst, o0.guard, o1.op, o1.dst, o1.guard with
      | .call ⟨.builtin .recover, _, _⟩, some t0, none, .typeAssert (.tmp t) _ to true, some t1, none => if t = t0 then some (t0, t1, to, ops, c) else none
      | _, _, _, _, _, _ => none
    | _ => none
  | _ => none
/-- The temporaries that a text writes. -/
def wrs : Code → List Nat
  | .region _ ops _ => ops.toList.filterMap (·.dst)
  | .seq a b => wrs a ++ wrs b
  | .cond _ a b => wrs a ++ wrs b
  | .block _ b => wrs b
  | .loop b => wrs b
  | _ => []
def resT : ResultVar → Nat
  | .tmp t => t
  | .cell a _ => a
def safeD (fn : Func) (c : Code) : Bool := fn.results.toList.all fun r => !(wrs c).contains (resT r)
def tasrt (to : TypeId) (rv : V) : Option V :=
  match P.underlying to with
  | some (.interface _) | none => none
  | some _ => match rv with
    | .ifc t v => if t = to then some (.tup [v, .bool true]) else (uzero P to).bind fun z => if ones (V.ofV z).cells then some (.tup [V.ofV z, .bool false]) else none
    | .sc .nilIface => (uzero P to).bind fun z => if ones (V.ofV z).cells then some (.tup [V.ofV z, .bool false]) else none
    | _ => none
noncomputable def xclos (E : Env) (k : Nat) (g : FuncId) (cs : List V) (rv : V) (st : St) (nx : Nat) : Option Fr :=
  if nobody P g = false then
  (P.funcs[g]?).bind fun fn => (fn.body.bind csplit).bind fun q =>
    if fn.results = #[] ∧ q.1 < cs.length + (fn.ntmps - cs.length) ∧ q.2.1 < cs.length + (fn.ntmps - cs.length) then
      (tasrt P q.2.2.1 rv).bind fun tv =>
      match xops P E q.2.2.2.1 (cs.length + (fn.ntmps - cs.length)) nx 2 (q.2.2.2.1.toList.drop 2) (upd (upd (fun t => cs.getD t (.sc undef)) q.1 rv) q.2.1 tv) st (nx + 8 * q.2.2.2.1.size) with
      | some (.ok tm st' nx' _) => match xcode P E (cs.length + (fn.ntmps - cs.length)) k q.2.2.2.2 ⟨tm, st', nx'⟩ with
        | some (.norm, fr) => some fr
        | some (.ret, fr) => some fr
        | _ => none
      | _ => none
    else none
  else none
noncomputable def xrunD (E : Env) (k : Nat) (fn : Func) (q : Code × FuncId × List Operand × Tmp × Oper × Oper × Array Oper × Code) (args : List V) (st : St) (nx : Nat) : Option HR :=
  match xcode P E (args.length + (fn.ntmps - args.length)) k q.1 ⟨fun t => args.getD t (.sc undef), st, nx⟩ with
  | some (.norm, fr1) => if q.2.2.2.1 < args.length + (fn.ntmps - args.length) ∧ safeD fn q.2.2.2.2.2.2.2 = true then (q.2.2.1.mapM (ev E fr1.tm)).bind fun cs =>
    match xcode P E (args.length + (fn.ntmps - args.length)) k q.2.2.2.2.2.2.2 ⟨upd fr1.tm q.2.2.2.1 (.fn (.func q.2.1) [] cs), fr1.st, fr1.nx + 16⟩ with
    | some (.norm, fr) => (xclos P E k q.2.1 cs (.sc .nilIface) fr.st fr.nx).bind fun fr' => (xres P ⟨fr.tm, fr'.st, fr'.nx⟩ fn.results.toList).map fun v => .ret v fr'.st fr'.nx
    | some (.ret, fr) => (xclos P E k q.2.1 cs (.sc .nilIface) fr.st fr.nx).bind fun fr' => (xres P ⟨fr.tm, fr'.st, fr'.nx⟩ fn.results.toList).map fun v => .ret v fr'.st fr'.nx
    | some (.pan v, fr) => match v with
      | .ifc .. => (xclos P E k q.2.1 cs v fr.st fr.nx).bind fun fr' => (xres P ⟨fr.tm, fr'.st, fr'.nx⟩ fn.results.toList).map fun v => .ret v fr'.st fr'.nx
      | _ => none
    | _ => none
    else none
  | _ => none
noncomputable def xrun (E : Env) (k : Nat) (fn : Func) (args : List V) (st : St) (nx : Nat) : Option HR :=
  match fn.body.bind dsplit with
  | none => xrun0 P E k fn args st nx
  | some q => xrunD P E k fn q args st nx
def finP : V → Option V
  | .ifc t v => v.pur?.map (.ifc t)
  | _ => none
/-- What a result is told as: rows that may turn never turn behind the return. -/
def finE (E : Env) (st : St) (v : V) : Option V := if E.md < 1 then fin st v else (frzT st v).bind fun p => fin (upds p.2 st) p.1
noncomputable def xplain (E : Env) (k : Nat) (fn : Func) (args : List V) : Option CR :=
  match xrun P E k fn args (fun _ => none) 8 with
  | some (.ret v st _) => (finE E st v).map .ret
  | some (.pan v st _) => (finP v).map .pan
  | none => none
/-- Functions that are known otherwise. -/
structure Exts where
  pl : FuncId → Option (List V → Option V)
  hp : FuncId → Option (List V → St → Nat → Option HR)
def noExt : Exts := ⟨fun _ => none, fun _ => none⟩
/-- What a call comes to, n rounds and n calls deep. ext: functions that are known otherwise. -/
noncomputable def env (ext : Exts) (hm : FuncId → Nat) (gl : Nat → Option V) : Nat → Env
  | 0 => ⟨fun f as => (ext.pl f).bind fun g => (g as).map .ret, fun f as st nx => (ext.hp f).bind fun g => g as st nx, hm, gl, 0⟩
  | n + 1 =>
    ⟨fun f as => match ext.pl f with
      | some g => (g as).map .ret
      | none => (P.funcs[f]?).bind fun fn => xplain P ((env ext hm gl n).at (hm f / 2)) n fn as,
     fun f as st nx => match ext.hp f with
      | some g => g as st nx
      | none => (P.funcs[f]?).bind fun fn => if hm f = 5 then (frzH st as).bind fun p => xrun P ((env ext hm gl n).at 0) n fn p.1 (upds p.2 st) nx else xrun P ((env ext hm gl n).at (hm f / 2)) n fn as st nx, hm, gl, 0⟩
end
end Go.Proofs.YtkbheoganajhaaaDoor.Vm
