/- Proved here: the law, on a machine over pure data, and what it needs, part 1. Conditions: none. -/
import Derived.Below
import Derived.Deep.Draws
import Derived.Maps.AppendAt
import Derived.OwnWalk
import Derived.Tactics
import Derived.Orders
import Derived.LoopN
import Derived.Lib.ConvBytes
import Derived.WalkKit
import Derived.KernelRfl
import Derived.Laws.Externs
import Derived.Laws.MakeOwn
set_option linter.unusedVariables false
set_option linter.unusedSimpArgs false
namespace Go.Proofs.YthgmhlpjbednpaaDoor.Vm
open Go.RowKit
def reck (P : Program) {α : Type} : Sem α → Option α
  | .pure a => some a
  | .program k => reck P (k P)
  | .mark _ k => reck P k
  | _ => none
theorem reck_run {P : Program} {α : Type} : ∀ (s : Sem α) {a : α}, reck P s = some a → ∀ w, s.run P w = .ok a w
  | .pure _, a, h, w => by simp only [reck, Option.some.injEq] at h; subst h; rfl
  | .program k, a, h, w => by simp only [reck] at h; simp only [Sem.run]; exact reck_run (k P) h w
  | .load .., _, h, _ => by simp [reck] at h
  | .store .., _, h, _ => by simp [reck] at h
  | .new .., _, h, _ => by simp [reck] at h
  | .shape .., _, h, _ => by simp [reck] at h
  | .freeze .., _, h, _ => by simp [reck] at h
  | .frozen .., _, h, _ => by simp [reck] at h
  | .getObj .., _, h, _ => by simp [reck] at h
  | .setObj .., _, h, _ => by simp [reck] at h
  | .choose .., _, h, _ => by simp [reck] at h
  | .sys .., _, h, _ => by simp [reck] at h
  | .mark _ k, a, h, w => by simp only [reck] at h; simp only [Sem.run]; exact reck_run k h w
  | .halt .., _, h, _ => by simp [reck] at h
inductive V where
  | sc (v : Value)
  | list (e : TypeId) (xs : List V) (r : Nat)
  | agg (cs : List V)
  | tup (vs : List V)
  | ptr (id off : Nat)
  | cp (cs : List V)
  | map (id : Nat)
  | fn (f : Fn) (first cap : List V)
  | ifc (t : TypeId) (v : V)
  | sl (e : TypeId) (g : Bool) (s id off n : Nat)
  | emp (e : TypeId)
instance : Inhabited V := ⟨.sc undef⟩
namespace V
abbrev i64 (n : Int) : V := .sc (.int .i64 n)
abbrev bool (b : Bool) : V := .sc (.bool b)
abbrev str (s : ByteArray) : V := .sc (.string s)
def one : V → Bool
  | .sc v => v.oneCell'
  | .agg _ | .tup _ => false
  | _ => true
def cells : V → List V
  | .agg cs => cs
  | v => [v]
def of1 : Value → V
  | .slice none 0 0 => .list 0 [] 1
  | v => .sc v
def ofV : Value → V
  | .agg cs => .agg (cs.toList.map of1)
  | v => of1 v
def val1? : V → Option Value
  | .sc v => some v
  | _ => none
def val? : V → Option Value
  | .sc v => some v
  | .agg cs => (cs.mapM val1?).map fun l => .agg l.toArray
  | _ => none
def pur1? : V → Option V
  | .sc v => some (.sc v)
  | .list e xs r => some (.list e xs (if r = 1 then 1 else 0))
  | .cp cs => some (.cp cs)
  | .fn f [] [] => some (.fn f [] [])
  | _ => none
def pur? : V → Option V
  | .agg cs => (cs.mapM pur1?).map .agg
  | v => pur1? v
end V
inductive Ob where
  | cells (cs : List V)
  | map (es : List (V × V)) (d : Bool)
  | miter (m n : Nat) (rem : List Nat)
  | iter (s : ByteArray) (pos : Nat)
  | tok (n : Nat) (e : TypeId)
  | row (e s n : Nat) (cs : List V)
  | frz (ds : List V)
abbrev St := Nat → Option Ob
def upd {α : Type} (f : Nat → α) (k : Nat) (v : α) : Nat → α := fun i => if i = k then v else f i
def upds {α : Type} (δ : List (Nat × α)) (f : Nat → α) : Nat → α := δ.foldl (fun f p => upd f p.1 p.2) f
inductive R where
  | val (v : V) (δ : List (Nat × Option Ob)) (rd : List Nat)
  | pan (v : V)
  | big (v : V) (st : St) (nx : Nat)
  | bpan (v : V) (st : St) (nx : Nat)
inductive CR where
  | ret (v : V)
  | pan (v : V)
inductive HR where
  | ret (v : V) (st : St) (nx : Nat)
  | pan (v : V) (st : St) (nx : Nat)
structure Env where
  pl : FuncId → List V → Option CR
  hp : FuncId → List V → St → Nat → Option HR
  hm : FuncId → Nat
  gl : Nat → Option V
  md : Nat := 0
def isM (n : Nat) : Bool := n % 2 == 1
def Env.at (E : Env) (m : Nat) : Env := ⟨E.pl, E.hp, E.hm, E.gl, m⟩
theorem Env.at_pl (E : Env) (m : Nat) : (E.at m).pl = E.pl := rfl
theorem Env.at_hp (E : Env) (m : Nat) : (E.at m).hp = E.hp := rfl
theorem Env.at_hm (E : Env) (m : Nat) : (E.at m).hm = E.hm := rfl
section
variable (P : Program)
def usz (t : TypeId) : Option Nat := (P.info? t).map (·.size)
def uagg (t : TypeId) : Option Bool :=
  match P.underlying t with
  | some (.struct _) | some (.array _ _) => some true
  | some _ => some false
  | none => none
def uzero (t : TypeId) : Option Value := (P.info? t).bind (·.zero)
def isU8 (e : TypeId) : Bool := match P.underlying e with | some (.int .u8) => true | _ => false
def isStr (e : TypeId) : Bool := match P.underlying e with | some .string => true | _ => false
def uel (t : TypeId) : Option TypeId := match P.underlying t with | some (.slice e) => some e | _ => none
def ld (t : TypeId) (cs : List V) (off : Nat) : Option V :=
  match usz P t, uagg P t with
  | some s, some true => if off + s ≤ cs.length then some (.agg ((cs.drop off).take s)) else none
  | some _, some false => cs[off]?
  | _, _ => none
def ones (cs : List V) : Bool := cs.all V.one
def vint : V → Option Int
  | .sc (.int _ n) => some n
  | _ => none
def keyEq : Value → Value → Option Bool
  | .int k a, .int k' b => if k = k' then some (a == b) else none
  | .string a, .string b => some (a == b)
  | .bool a, .bool b => some (a == b)
  | _, _ => none
def kindOk : Option TypeDesc → Value → Bool
  | some (.int _), .int _ _ | some .string, .string _ | some .bool, .bool _ => true
  | _, _ => false
def mfind (k : Value) : List (V × V) → Nat → Option (Option (Nat × V))
  | [], _ => some none
  | (.sc k', v) :: es, i =>
    match keyEq k k' with
    | some true => some (some (i, v))
    | some false => mfind k es (i + 1)
    | none => none
  | _ :: _, _ => none
def bytesV (s : ByteArray) : List V := s.data.toList.map fun b => .sc (.int .u8 b.toNat)
def bytesOfV : List V → Option (List UInt8)
  | [] => some []
  | .sc (.int .u8 n) :: r => (bytesOfV r).map (UInt8.ofNat n.toNat :: ·)
  | _ => none
def src (el : TypeId) : V → Option (List V)
  | .list e' ys _ => if e' = el ∨ ys.isEmpty = true then some ys else none
  | .sc (.string s) => if isU8 P el && (usz P el == some 1) then some (bytesV s) else none
  | _ => none
def srcTy (t t' : TypeId) : V → Bool
  | .list .. => t' == t
  | _ => isStr P t'
def xappend (i0 : Nat) (t : TypeId) (x y : V) : Option R :=
  match x, uel P t with
  | .list e xs r, some el =>
    match src P el y, (P.info? el).map (fun i => (i.size, i.bytes, i.zero.map (fun z => z.cells.size))) with
    | some ys, some (s, by_, some zs) =>
      if zs = s ∧ 0 < s ∧ (xs.length + ys.length) * by_ ≤ 140737488355328 ∧ xs.length + ys.length ≤ maxLen then
        if r = 1 then (if xs.isEmpty then some (.val (.list el ys i0) [(i0, some (.tok ys.length el))] []) else none)
        else if r = 0 then none
        else if e = el then some (.val (.list el (xs ++ ys) r) [(r, some (.tok (xs.length + ys.length) el))] [r])
        else none
      else none
    | _, _ => none
  | _, _ => none
def xappend1 (st : St) (i0 : Nat) (t : TypeId) (x y : V) : Option R :=
  match x with
  | .list e xs r =>
    if r = 1 then xappend P i0 t x y
    else match st r with
      | some (.tok n e') => if n = xs.length ∧ e' = e then xappend P i0 t x y else none
      | _ => none
  | _ => none
def xfill (place : Nat → Option (Nat × Nat)) (cells : List V) : List (Nat × V) → Option (List V)
  | [] => some cells
  | (i, v) :: rest =>
    match place i with
    | none => none
    | some (off, size) =>
      if v.cells.length ≠ size ∨ off + v.cells.length > cells.length then none
      else xfill place (cells.take off ++ v.cells ++ cells.drop (off + v.cells.length)) rest
def xbuiltin (st : St) (i0 : Nat) (b : Builtin) (ts : Array TypeId) (ty : TypeId) (args : List V) : Option R :=
  match b, args with
  | .append, [x, y] => match ts.toList with | [t, t'] => (if srcTy P t t' y = true then xappend1 P st i0 t x y else none) | _ => none
  | .len, [.list _ xs _] => (match ts.toList with | [t] => (match P.underlying t with | some (.slice _) => some (.val (.i64 xs.length) [] []) | _ => none) | _ => none)
  | .len, [.map id] => (match ts.toList with | [t] => (match P.underlying t with | some (.map _ _) => (match st id with | some (.map es _) => some (.val (.i64 es.length) [] [id]) | _ => none) | _ => none) | _ => none)
  | .len, [.sc v] => (reck P (Builtin.len_ ts ty #[v])).map fun v => .val (.sc v) [] []
  | .min, l => (l.mapM V.val1?).bind fun vs => (reck P (Builtin.min_ ts ty vs.toArray)).map fun v => .val (.sc v) [] []
  | .max, l => (l.mapM V.val1?).bind fun vs => (reck P (Builtin.max_ ts ty vs.toArray)).map fun v => .val (.sc v) [] []
  | .delete, [.map id, .sc k] => (match ts.toList with | t :: _ => (match P.underlying t with | some (.map kt _) => (if kindOk (P.underlying kt) k then (match st id with | some (.map es d) => (mfind k es 0).bind fun r => (match r with | some (i, _) => some (.val (.tup []) [(id, some (.map (es.eraseIdx i) false))] [id]) | none => some (.val (.tup []) [(id, some (.map es d))] [id])) | _ => none) else none) | _ => none) | _ => none)
  | _, _ => none
def own1 (i0 : Nat) : V → V × List (Nat × Option Ob)
  | .list e xs r => if 8 ≤ r then (.list e xs i0, [(i0, some (.tok xs.length (r - 8)))]) else (.list e xs r, [])
  | v => (v, [])
def owns (i0 : Nat) : Nat → List V → List V × List (Nat × Option Ob)
  | _, [] => ([], [])
  | j, v :: vs => let a := own1 (i0 + j) v; let b := owns i0 (j + 1) vs; (a.1 :: b.1, a.2 ++ b.2)
def own (i0 : Nat) : V → V × List (Nat × Option Ob)
  | .tup vs => let a := owns i0 0 vs; (.tup a.1, a.2)
  | v => own1 i0 v
def fin1 (st : St) (used : List Nat) : V → Option (V × List Nat)
  | .list e xs r =>
    if r = 1 then some (.list e xs 1, used) else if r < 8 then some (.list e xs 0, used) else
    match st r with
    | some (.tok n e') => if n = xs.length ∧ e' = e ∧ !used.contains r then some (.list e xs (8 + e), r :: used) else some (.list e xs 0, used)
    | _ => some (.list e xs 0, used)
  | v => v.pur?.map (·, used)
def fins (st : St) : List Nat → List V → Option (List V)
  | _, [] => some []
  | used, v :: vs => (fin1 st used v).bind fun a => (fins st a.2 vs).map (a.1 :: ·)
def fin (st : St) : V → Option V
  | .tup vs => if vs.length ≤ 8 then (fins st [] vs).map .tup else none
  | v => (fin1 st [] v).map (·.1)
def ofRes : Value → V
  | .tuple vs => .tup (vs.toList.map .sc)
  | v => .sc v
def nobody (f : FuncId) : Bool := match P.funcs[f]? with | some fn => fn.body.isNone | none => true
def xcall (E : Env) (i0 nx' : Nat) (st : St) (f : FuncId) (args : List V) : Option R :=
  if nobody P f then
    (args.mapM V.val1?).bind fun vs => match reck P (callFunc f vs.toArray) with | some (.value v) => some (.val (ofRes v) [] []) | _ => none
  else if isM (E.hm f) then
    match E.hp f args st nx' with
    | some (.ret v st' n) => some (.big v st' n)
    | some (.pan v st' n) => some (.bpan v st' n)
    | none => none
  else
    (args.mapM V.pur?).bind fun zas =>
    match E.pl f zas with
    | some (.ret y) => some (.val (own i0 y).1 (own i0 y).2 [])
    | some (.pan y) => some (.pan y)
    | none => none
def ev (E : Env) (tm : Nat → V) : Operand → Option V
  | .tmp t => some (tm t)
  | .const v => if ones (V.ofV v).cells then some (.ofV v) else none
  | .global g => E.gl g
  | .func f => some (.fn (.func f) [] [])
def pint (o : Option (Option V)) (d : Int) : Option Int :=
  match o with
  | none => some d
  | some none => none
  | some (some v) => vint v
def niln : V → Option Bool
  | .list _ [] 1 => some true
  | .list _ (x :: _) _ => if x.cells.isEmpty = true then none else some false
  | .sl _ _ _ _ _ (_ + 1) => some false
  | _ => none
def xslice (t : TypeId) (x : V) (lo hi mx : Option (Option V)) : Option R :=
  match x, P.underlying t with
  | .list e xs r, some (.slice el) =>
    (pint lo 0).bind fun l => (pint hi xs.length).bind fun h => (pint mx h).bind fun m =>
    if 0 ≤ l ∧ l ≤ h ∧ h ≤ xs.length ∧ m = h ∧ (e = el ∨ xs.isEmpty = true) ∧ (usz P el).isSome = true ∧ (mx.isSome = true → hi.isSome = true) then some (.val (.list e ((xs.take h.toNat).drop l.toNat) 0) [] []) else none
  | .sc (.string s), some .string =>
    match mx, lo, hi with
    | none, none, none => some (.val (.sc (.string (s.extract 0 s.size))) [] [])
    | none, some (some (.sc l)), none => (reck P (Instr.slice t (.string s) (some l) none none)).map fun v => .val (.sc v) [] []
    | none, none, some (some (.sc h)) => (reck P (Instr.slice t (.string s) none (some h) none)).map fun v => .val (.sc v) [] []
    | none, some (some (.sc l)), some (some (.sc h)) => (reck P (Instr.slice t (.string s) (some l) (some h) none)).map fun v => .val (.sc v) [] []
    | _, _, _ => none
  | _, _ => none
def xop0 (E : Env) (tm : Nat → V) (st : St) (i0 nx' : Nat) (o : Oper) : Option R :=
  let ρ := ev E tm
  match o.op with
  | .move x | .assign x => (ρ x).map fun v => .val v [] []
  | .pick c a b => (ρ c).bind fun c => (ρ a).bind fun a => (ρ b).bind fun b => match c with | .sc (.bool t) => some (.val (if t then a else b) [] []) | _ => none
  | .alloc e => (uzero P e).bind fun z => if ones (V.ofV z).cells then some (.val (.ptr i0 0) [(i0, some (.cells (V.ofV z).cells))] []) else none
  | .box e x => (ρ x).bind fun v => if ones v.cells then some (.val (.ptr i0 0) [(i0, some (.cells v.cells))] []) else none
  | .build t ps =>
    (ps.toList.mapM fun (p : Nat × Operand) => (ρ p.2).map fun v => (p.1, v)).bind fun (vs : List (Nat × V)) =>
    match uzero P t, P.underlying t with
    | some z, some (.struct fs) =>
      (xfill (fun i => (fs[i]?).bind fun f => (usz P f.type).map fun s => (f.offset, s)) (V.ofV z).cells vs).bind fun cs =>
        if fs.all (fun f => (usz P f.type).isSome) && ones (V.ofV z).cells && vs.all (fun p => ones p.2.cells) && ones cs then some (.val (.agg cs) [] []) else none
    | some z, some (.array n el) => (usz P el).bind fun s =>
      (xfill (fun i => if i < n then some (i * s, s) else none) (V.ofV z).cells vs).bind fun cs =>
        if ones (V.ofV z).cells && vs.all (fun p => ones p.2.cells) && ones cs then some (.val (.agg cs) [] []) else none
    | _, _ => none
  | .buildSlice t n ps =>
    (ps.toList.mapM fun (p : Nat × Operand) => (ρ p.2).map fun v => (p.1, v)).bind fun (vs : List (Nat × V)) =>
    match uel P t with
    | some e => (usz P e).bind fun s =>
      if vs.map (·.1) = List.range n ∧ n ≤ 1000 ∧ s ≤ 1000 ∧ 0 < s ∧ (uzero P e).isSome = true then
        if vs.all (fun p => p.2.cells.length == s && ones p.2.cells && ((p.2).pur?).isSome) then
          (vs.mapM fun (p : Nat × V) => (p.2).pur?).bind fun xs => some (.val (.list e xs i0) [(i0, some (.tok n e))] [])
        else none
      else none
    | none => none
  | .load t x => (ρ x).bind fun a => match a with
    | .ptr id off => match st id with | some (.cells cs) => (ld P t cs off).map fun v => .val v [] [id] | _ => none
    | .cp cs => (ld P t cs 0).map fun v => .val v [] []
    | _ => none
  | .store t x y => (ρ x).bind fun a => (ρ y).bind fun v => match a with
    | .ptr id off => match st id with
      | some (.cells cs) => if usz P t = some v.cells.length ∧ off + v.cells.length ≤ cs.length ∧ ones v.cells = true then some (.val (.sc undef) [(id, some (.cells (cs.take off ++ v.cells ++ cs.drop (off + v.cells.length))))] [id]) else none
      | _ => none
    | _ => none
  | .nilCheck x => (ρ x).bind fun v => match v with
    | .ptr .. | .cp _ => some (.val v [] [])
    | .fn (.func f) a b => some (.val (.fn (.func f) a b) [] [])
    | _ => none
  | .binOp op t x y _ => (ρ x).bind fun a => (ρ y).bind fun b => match a, b with
    | .ptr .., .sc (.pointer none) => match op, P.underlying t with | .eql, some (.pointer _) => some (.val (.bool false) [] []) | .neq, some (.pointer _) => some (.val (.bool true) [] []) | _, _ => none
    | a, .list _ [] 1 => match op, P.underlying t with | .eql, some (.slice _) => (niln a).map fun q => .val (.bool q) [] [] | .neq, some (.slice _) => (niln a).map fun q => .val (.bool !q) [] [] | _, _ => none
    | _, _ => a.val?.bind fun u => b.val?.bind fun v => (reck P (do eqGuard op t x y u v; binOp op t u v)).map fun v => .val (.sc v) [] []
  | .unOp op _ x => (ρ x).bind fun a => a.val1?.bind fun u => (reck P (Op.unary op u)).map fun v => .val (.sc v) [] []
  | .convert s d x => (ρ x).bind fun a => match a with
    | .list e xs _ => match P.underlying s, P.underlying d with
      | some (.slice e'), some .string => if isU8 P e' = true ∧ (e = e' ∨ xs.isEmpty = true) ∧ usz P e' = some 1 then (bytesOfV xs).map fun l => .val (.sc (.string ⟨l.toArray⟩)) [] [] else none
      | _, _ => none
    | .sc u => match u, P.underlying s, uel P d with
      | .string t, some _, some e => if isU8 P e && (usz P e == some 1) then some (.val (.list e (bytesV t) 0) [] []) else none
      | _, _, _ => (reck P (convert s d u)).map fun v => .val (.sc v) [] []
    | _ => none
  | .makeFunc f a b => (a.toList.mapM ρ).bind fun a => (b.toList.mapM ρ).bind fun b => some (.val (.fn f a b) [] [])
  | .makeMap t none => some (.val (.map i0) [(i0, some (.map [] true))] [])
  | .slice t x lo hi mx => (ρ x).bind fun v => xslice P t v (lo.map ρ) (hi.map ρ) (mx.map ρ)
  | .fieldAddr s x f => (ρ x).bind fun a => match P.underlying s with
    | some (.struct fs) => (fs[f]?).bind fun fd => match usz P fd.type with
      | some (n + 1) => match a with
        | .ptr id off => some (.val (.ptr id (off + fd.offset)) [] [])
        | .cp cs => if fd.offset < cs.length then some (.val (.cp (cs.drop fd.offset)) [] []) else none
        | _ => none
      | _ => none
    | _ => none
  | .field t x f => (ρ x).bind fun a => match a, P.underlying t with
    | .agg cs, some (.struct fs) => (fs[f]?).bind fun fd => (ld P fd.type cs fd.offset).map fun v => .val v [] []
    | _, _ => none
  | .indexAddr t x i => (ρ x).bind fun a => (ρ i).bind fun i => (vint i).bind fun i => match a, P.underlying t with
    | .list e xs _, some (.slice el) =>
      if 0 ≤ i ∧ e = el then (xs[i.toNat]?).bind fun x => (usz P el).bind fun s => if 0 < s then some (.val (.cp x.cells) [] []) else none else none
    | .cp cs, some (.array n el) => if 0 ≤ i ∧ i < n then (usz P el).bind fun s => if 0 < s ∧ i.toNat * s < cs.length then some (.val (.cp (cs.drop (i.toNat * s))) [] []) else none else none
    | .ptr id off, some (.array n el) => if 0 ≤ i ∧ i < n then (usz P el).bind fun s => if 0 < s then some (.val (.ptr id (off + i.toNat * s)) [] []) else none else none
    | _, _ => none
  | .index t x i => (ρ x).bind fun a => (ρ i).bind fun i => match a, i with
    | .sc (.string s), .sc j => (reck P (Instr.index t (.string s) j)).map fun v => .val (.sc v) [] []
    | _, _ => none
  | .lookup t x k ok => (ρ x).bind fun a => (ρ k).bind fun k => match a, k, P.underlying t with
    | .map id, .sc k, some (.map kt et) =>
      if kindOk (P.underlying kt) k then
        (uzero P et).bind fun z => match st id with
        | some (.map es _) => (mfind k es 0).bind fun r => match r with
          | some (_, v) => some (.val (if ok then .tup [v, .bool true] else v) [] [id])
          | none => if ones (V.ofV z).cells then some (.val (if ok then .tup [V.ofV z, .bool false] else V.ofV z) [] [id]) else none
        | _ => none
      else none
    | _, _, _ => none
  | .mapUpdate t x k y => (ρ x).bind fun a => (ρ k).bind fun k => (ρ y).bind fun y => match a, k, P.underlying t with
    | .map id, .sc k, some (.map kt et) =>
      if kindOk (P.underlying kt) k then
        match st id with
        | some (.map es d) => (mfind k es 0).bind fun r => match r with
          | some (i, _) => some (.val (.sc undef) [(id, some (.map (es.set i (.sc k, y)) d))] [id])
          | none => some (.val (.sc undef) [(id, some (.map (es ++ [(.sc k, y)]) d))] [id])
        | _ => none
      else none
    | _, _, _ => none
  | .range t x => (ρ x).bind fun a => match a, P.underlying t with
    | .sc (.string s), some .string => some (.val (.ptr i0 0) [(i0, some (.iter s 0))] [])
    | .map id, some (.map _ _) => match st id with
      | some (.map es true) => some (.val (.ptr i0 0) [(i0, some (.miter id es.length (List.range es.length)))] [id])
      | _ => none
    | _, _ => none
  | .next x true => (ρ x).bind fun a => match a with
    | .ptr id 0 => match st id with
      | some (.iter s pos) => if pos < s.size then some (.val (.tup [.bool true, .i64 pos, .sc (.int .i32 (Utf8.decode s pos).1)]) [(id, some (.iter s (pos + (Utf8.decode s pos).2)))] [id]) else some (.val (.tup [.bool false]) [] [id])
      | _ => none
    | _ => none
  | .next x false => (ρ x).bind fun a => match a with
    | .ptr id 0 => match st id with
      | some (.miter m n rem) => match st m with
        | some (.map es true) => if es.length = n ∧ rem.isEmpty = true then some (.val (.tup [.bool false]) [] [id, m]) else none
        | _ => none
      | _ => none
    | _ => none
  | .extract x i => (ρ x).bind fun a => match a with
    | .tup vs => (vs[i]?).map fun v => .val v [] []
    | _ => none
  | .makeInterface t x => (ρ x).bind fun v => match P.underlying t with
    | some (.interface _) | none => none
    | _ => some (.val (.ifc t v) [] [])
  | .panic x => (ρ x).bind fun v => match v with | .ifc .. => some (.pan v) | _ => none
  | .call c =>
    (c.args.toList.mapM ρ).bind fun args => match c.callee with
    | .builtin b => xbuiltin P st i0 b c.argTypes o.type args
    | .value f => (ρ f).bind fun fv => match fv with
      | .fn (.func g) first cap => xcall P E i0 nx' st g (first ++ args ++ cap)
      | _ => none
    | _ => none
  | _ => none
end
inductive A where
  | t (n : Nat)
  | v (x : V)
def av (tm : Nat → V) : A → V
  | .t n => tm n
  | .v x => x
inductive KX where
  | mks (e : Nat) (g : Bool) (s by_ : Nat) (z : List V) (n c : A)
  | app (e : Nat) (g : Bool) (s by_ : Nat) (l : Bool) (a b : A)
  | lit (e : Nat) (g : Bool) (s : Nat) (zas : List A)
  | ix (e : Nat) (a i : A)
  | sll (e : Nat) (a : A) (lo hi : Option A)
  | sl0 (e : Nat) (a : A)
  | asl (e : Nat) (g : Bool) (s n : Nat) (a : A)
  | asx (e : Nat) (g : Bool) (s n : Nat) (a lo : A)
  | len (a : A)
  | b2s (e : Nat) (a : A)
  | cpy (e s : Nat) (l : Bool) (a b : A)
  | ld (so : Option Nat) (a : A)
  | sto (n : Nat) (a b : A)
  | pl (f : FuncId) (zas : List A)
def kld : Option Nat → List V → Nat → Option V
  | none, cs, off => cs[off]?
  | some s, cs, off => if off + s ≤ cs.length then some (.agg ((cs.drop off).take s)) else none
def kint (tm : Nat → V) : Option A → Int → Option Int
  | none, d => some d
  | some a, _ => vint (av tm a)
def obCells : Option Ob → Option (List V)
  | some (.cells cs) => some cs
  | some (.row _ _ _ cs) => some cs
  | some (.frz cs) => some cs
  | _ => none
def obSet : Option Ob → List V → Option Ob
  | some (.cells _), cs => some (.cells cs)
  | some (.row e s n _), cs => some (.row e s n cs)
  | _, _ => none
def chunk (g : Bool) (s : Nat) : Nat → List V → List V
  | 0, _ => []
  | n + 1, cs => (if g then .agg (cs.take s) else cs.headD default) :: chunk g s n (cs.drop s)
def srcX (st : St) (e : Nat) (l : Bool) : V → Option (List V × Nat × List Nat)
  | .list e' ys _ => if l = true ∧ (e' = e ∨ ys.isEmpty = true) then some (ys.flatMap V.cells, ys.length, []) else none
  | .sl e' _ s id off n => if l = true ∧ e' = e then (obCells (st id)).bind fun cs => if (off + n) * s ≤ cs.length then some ((cs.drop (off * s)).take (n * s), n, [id]) else none else none
  | .emp e' => if l = true ∧ e' = e then some ([], 0, []) else none
  | .sc (.string t) => if l then none else some (bytesV t, t.size, [])
  | _ => none
def frz1 (st : St) : V → Option (V × List (Nat × Option Ob))
  | .sl e g s id off n => (match st id with
    | some (.row _ _ _ cs) => (cs.mapM V.pur1?).map fun ds => (ds, [(id, some (Ob.frz ds))])
    | some (.cells cs) => (cs.mapM V.pur1?).map fun ds => (ds, [(id, some (Ob.frz ds))])
    | some (.frz ds) => some (ds, [])
    | _ => none).bind fun p => if (off + n) * s ≤ p.1.length then some (.list e (chunk g s n (p.1.drop (off * s))) 0, p.2) else none
  | .emp e => some (.list e [] 0, [])
  | v => v.pur1?.map fun u => (u, [])
def frzs : St → List V → Option (List V × List (Nat × Option Ob))
  | _, [] => some ([], [])
  | st, v :: vs => (frz1 st v).bind fun p => (frzs (upds p.2 st) vs).map fun q => (p.1 :: q.1, p.2 ++ q.2)
def frzV (st : St) : V → Option (V × List (Nat × Option Ob))
  | .agg cs => (frzs st cs).map fun p => (.agg p.1, p.2)
  | v => frz1 st v
def frzA : St → List V → Option (List V × List (Nat × Option Ob))
  | _, [] => some ([], [])
  | st, v :: vs => (frzV st v).bind fun p => (frzA (upds p.2 st) vs).map fun q => (p.1 :: q.1, p.2 ++ q.2)
def frzT (st : St) : V → Option (V × List (Nat × Option Ob))
  | .tup vs => (frzA st vs).map fun p => (.tup p.1, p.2)
  | v => frzV st v
def slish1 : V → Bool
  | .sl .. | .emp _ => true
  | _ => false
def slish : V → Bool
  | .agg cs => cs.any slish1
  | v => slish1 v
def frzH : St → List V → Option (List V × List (Nat × Option Ob))
  | _, [] => some ([], [])
  | st, v :: vs => if slish v = true then (frzV st v).bind fun p => (frzH (upds p.2 st) vs).map fun q => (p.1 :: q.1, p.2 ++ q.2) else (frzH st vs).map fun q => (v :: q.1, q.2)
def slIds1 : V → List Nat
  | .sl _ _ _ id _ _ => [id]
  | _ => []
def slIds : V → List Nat
  | .agg cs => cs.flatMap slIds1
  | v => slIds1 v
section
variable (E : Env) (tm : Nat → V) (st : St) (i0 : Nat)
def kopx : KX → Option (Option R)
  | .mks e g s by_ z n c => match av tm n, av tm c with
    | .sc (.int _ n), .sc (.int _ c) => some (if n = c ∧ 0 ≤ n ∧ n * by_ ≤ 140737488355328 ∧ n ≤ 9223372036854775807 then some (.val (.sl e g s i0 0 n.toNat) [(i0, some (.row e s n.toNat (List.replicate n.toNat z).flatten))] []) else none)
    | _, _ => none
  | .app e g s by_ l a b => match av tm a with
    | .sl e' g' s' id off n => some (if e' = e ∧ off = 0 then (match st id with
        | some (.row e2 _ n2 cs) => if e2 = e ∧ n2 = n then (srcX st e l (av tm b)).bind fun p => if (n + p.2.1) * by_ ≤ 140737488355328 ∧ n + p.2.1 ≤ 9223372036854775807 then some (.val (.sl e g s i0 0 (n + p.2.1)) [(id, none), (i0, some (.row e s (n + p.2.1) (cs ++ p.1)))] (id :: p.2.2)) else none else none
        | _ => none) else none)
    | .list e' [] 1 => some ((srcX st e l (av tm b)).bind fun p => if p.2.1 * by_ ≤ 140737488355328 ∧ p.2.1 ≤ 9223372036854775807 then (if p.2.1 = 0 then some (.val (.list e' [] 1) [] p.2.2) else some (.val (.sl e g s i0 0 p.2.1) [(i0, some (.row e s p.2.1 p.1))] p.2.2)) else none)
    | .emp e' => some ((srcX st e l (av tm b)).bind fun p => if p.2.1 * by_ ≤ 140737488355328 ∧ p.2.1 ≤ 9223372036854775807 then (if p.2.1 = 0 then some (.val (.emp e') [] p.2.2) else some (.val (.sl e g s i0 0 p.2.1) [(i0, some (.row e s p.2.1 p.1))] p.2.2)) else none)
    | _ => none
  | .lit e g s zas => some (if (zas.all fun a => (av tm a).cells.length == s && ones (av tm a).cells) then some (.val (.sl e g s i0 0 zas.length) [(i0, some (.row e s zas.length (zas.flatMap fun a => (av tm a).cells)))] []) else none)
  | .ix el a i => match av tm a with
    | .sl e g s id off n => some (match av tm i with
      | .sc (.int _ k) => if e = el ∧ 0 ≤ k ∧ k < n then some (.val (.ptr id ((off + k.toNat) * s)) [] []) else none
      | _ => none)
    | _ => none
  | .sll el a lo hi => match av tm a with
    | .sl e g s id off n => some ((kint tm lo 0).bind fun l => (kint tm hi n).bind fun h => if e = el ∧ 0 ≤ l ∧ l ≤ h ∧ h ≤ n then some (.val (.sl e g s id (off + l.toNat) (h.toNat - l.toNat)) [] []) else none)
    | _ => none
  | .sl0 el a => match av tm a with
    | .sl e _ _ _ _ _ => some (if e = el then some (.val (.emp el) [] []) else none)
    | .emp e => some (if e = el then some (.val (.emp el) [] []) else none)
    | .list e xs _ => some (if e = el ∨ xs.isEmpty = true then some (.val (.emp el) [] []) else none)
    | _ => none
  | .asl e g s n a => match av tm a with
    | .ptr id off => some (match st id with
      | some (.cells cs) => if off = 0 ∧ cs.length = n * s ∧ n ≤ 9223372036854775807 then some (.val (.sl e g s i0 0 n) [(id, none), (i0, some (.cells cs))] [id]) else none
      | _ => none)
    | _ => none
  | .asx e g s n a lo => match av tm a with
    | .ptr id off => some (match st id with
      | some (.cells cs) => (vint (av tm lo)).bind fun l => if off = 0 ∧ 0 ≤ l ∧ l ≤ n ∧ cs.length = n * s ∧ n ≤ 9223372036854775807 then some (.val (.sl e g s i0 l.toNat (n - l.toNat)) [(id, none), (i0, some (.cells cs))] [id]) else none
      | _ => none)
    | _ => none
  | .len a => match av tm a with
    | .sl _ _ _ _ _ n => some (some (.val (.i64 n) [] []))
    | .emp _ => some (some (.val (.i64 0) [] []))
    | _ => none
  | .b2s el a => match av tm a with
    | .sl e _ s id off n => some (if e = el then (obCells (st id)).bind fun cs => if (off + n) * s ≤ cs.length then (bytesOfV ((cs.drop (off * s)).take (n * s))).map fun l => .val (.sc (.string ⟨l.toArray⟩)) [] [id] else none else none)
    | .emp e => some (if e = el then some (.val (.sc (.string ⟨#[]⟩)) [] []) else none)
    | _ => none
  | .cpy e s l a b => match av tm a with
    | .sl e' _ _ id off n => some (if e' = e then (srcX st e l (av tm b)).bind fun p => (obCells (st id)).bind fun cs =>
        if (off + n) * s ≤ cs.length then (obSet (st id) (cs.take (off * s) ++ p.1.take (min p.2.1 n * s) ++ cs.drop ((off + min p.2.1 n) * s))).map fun ob => .val (.i64 (min p.2.1 n : Nat)) [(id, some ob)] (id :: p.2.2) else none
        else none)
    | _ => none
  | .ld so a => match av tm a with
    | .ptr id off => match st id with
      | some (.row _ _ _ cs) => some ((kld so cs off).map fun v => .val v [] [id])
      | some (.frz cs) => some ((kld so cs off).map fun v => .val v [] [id])
      | _ => none
    | _ => none
  | .sto n a b => match av tm a with
    | .ptr id off => match st id with
      | some (.row e s m cs) => some (if n = (av tm b).cells.length ∧ off + (av tm b).cells.length ≤ cs.length ∧ ones (av tm b).cells = true then some (.val (.sc undef) [(id, some (.row e s m (cs.take off ++ (av tm b).cells ++ cs.drop (off + (av tm b).cells.length))))] [id]) else none)
      | _ => none
    | _ => none
  | .pl f zas => if (zas.any fun a => slish (av tm a)) = true then some ((frzA st (zas.map (av tm))).bind fun p => match E.pl f p.1 with
      | some (.ret y) => some (.val (own i0 y).1 (p.2 ++ (own i0 y).2) (zas.flatMap fun a => slIds (av tm a)))
      | _ => none) else none
end
section
variable (P : Program) (hm : FuncId → Nat) (gl : Nat → Option V)
def ca : Operand → Option A
  | .tmp t => some (.t t)
  | .const v => if ones (V.ofV v).cells then some (.v (.ofV v)) else none
  | .global g => (gl g).map .v
  | .func f => some (.v (.fn (.func f) [] []))
def kty (t : TypeId) : Option (Option Nat) :=
  match usz P t, uagg P t with
  | some s, some true => some (some s)
  | some _, some false => some none
  | _, _ => none
def cao : Option Operand → Option (Option A)
  | none => some none
  | some x => (ca gl x).map some
def zeroC : Operand → Bool
  | .const (.int _ n) => n == 0
  | _ => false
def ckx (op : Op) : Option KX :=
  match op with
  | .makeSlice t n c => (ca gl n).bind fun n => (ca gl c).bind fun c => (uel P t).bind fun e => (usz P e).bind fun s => (uagg P e).bind fun g => (P.info? e).bind fun i => (uzero P e).bind fun z =>
    if 0 < s ∧ (g = false → s = 1) ∧ ones (V.ofV z).cells = true ∧ (V.ofV z).cells.length = s then some (.mks e g s i.bytes (V.ofV z).cells n c) else none
  | .buildSlice t n ps => (ps.toList.mapM fun (p : Nat × Operand) => (ca gl p.2).map fun a => (p.1, a)).bind fun ps => (uel P t).bind fun e => (usz P e).bind fun s => (uagg P e).bind fun g =>
    if ps.map (·.1) = List.range n ∧ n ≤ 1000 ∧ s ≤ 1000 ∧ 0 < s ∧ (g = false → s = 1) ∧ (uzero P e).isSome = true then some (.lit e g s (ps.map (·.2))) else none
  | .indexAddr t x i => (ca gl x).bind fun a => (ca gl i).bind fun i => (uel P t).map fun el => .ix el a i
  | .slice t x lo hi mx => (ca gl x).bind fun a => match P.underlying t with
    | some (.slice el) => match mx with
      | none => (cao gl lo).bind fun lo => (cao gl hi).map fun hi => .sll el a lo hi
      | some mx => match lo, hi with
        | none, some hi => if zeroC hi && zeroC mx && (usz P el).isSome then some (.sl0 el a) else none
        | _, _ => none
    | some (.array n el) => match lo, hi, mx with
      | none, none, none => (usz P el).bind fun s => (uagg P el).bind fun g => if 0 < s ∧ (g = false → s = 1) then some (.asl el g s n a) else none
      | some lo, none, none => (ca gl lo).bind fun lo => (usz P el).bind fun s => (uagg P el).bind fun g => if 0 < s ∧ (g = false → s = 1) then some (.asx el g s n a lo) else none
      | _, _, _ => none
    | _ => none
  | .convert s d x => (ca gl x).bind fun a => match P.underlying s, P.underlying d with
    | some (.slice e), some .string => if isU8 P e && (usz P e == some 1) then some (.b2s e a) else none
    | _, _ => none
  | .load t x => (ca gl x).bind fun a => (kty P t).map fun so => .ld so a
  | .store t x y => (ca gl x).bind fun a => (ca gl y).bind fun b => (usz P t).map fun n => .sto n a b
  | .call c => (c.args.toList.mapM (ca gl)).bind fun zas => match c.callee with
    | .builtin .append => match zas, c.argTypes.toList with
      | [a, b], [t, t'] => (uel P t).bind fun e => (uagg P e).bind fun g => (P.info? e).bind fun i => (i.zero).bind fun z =>
        if z.cells.size = i.size ∧ 0 < i.size ∧ (g = false → i.size = 1) then (if t' == t then some (.app e g i.size i.bytes true a b) else if isStr P t' && isU8 P e && (usz P e == some 1) then some (.app e g i.size i.bytes false a b) else none) else none
      | _, _ => none
    | .builtin .len => match zas, c.argTypes.toList with
      | [a], [t] => (uel P t).map fun _ => .len a
      | _, _ => none
    | .builtin .copy => match zas, c.argTypes.toList with
      | [a, b], [t, t'] => (uel P t).bind fun e => (usz P e).bind fun s => if 0 < s then (if t' == t then some (.cpy e s true a b) else if isStr P t' && isU8 P e && (usz P e == some 1) then some (.cpy e s false a b) else none) else none
      | _, _ => none
    | .value (.func f) => if nobody P f || isM (hm f) then none else some (.pl f zas)
    | _ => none
  | _ => none
def yop (E : Env) (tm : Nat → V) (st : St) (i0 : Nat) (o : Oper) : Option (Option R) :=
  if E.md < 1 then none else (ckx P E.hm E.gl o.op).bind (kopx E tm st i0)
def xop (E : Env) (tm : Nat → V) (st : St) (i0 nx' : Nat) (o : Oper) : Option R :=
  match yop P E tm st i0 o with
  | some r => r
  | none => xop0 P E tm st i0 nx' o
end
section
variable (P : Program)
def xwant (ops : Array Oper) (tm : Nat → V) (o : Oper) : Option Bool :=
  match o.guard with
  | none => some true
  | some (j, w) =>
    match (ops[j]?).bind (·.dst) with
    | some d => match tm d with
      | .sc (.bool b) => some (b == w)
      | .sc _ => some false
      | _ => none
    | none => none
def putT (tm : Nat → V) (dst : Option Tmp) (v : V) : Nat → V :=
  match dst with
  | some d => upd tm d v
  | none => tm
def dstOk (N : Nat) (dst : Option Tmp) : Bool := match dst with | some d => decide (d < N) | none => true
structure Rec where
  v : V
  δ : List (Nat × Option Ob)
  rd : List Nat
  big : Option (St × Nat)
inductive RR where
  | ok (tm : Nat → V) (st : St) (nx : Nat) (recs : List Rec)
  | pan (tm : Nat → V) (v : V) (st : St) (nx : Nat)
def xops (E : Env) (ops : Array Oper) (N : Nat) (n0 : Nat) : Nat → List Oper → (Nat → V) → St → Nat → Option RR
  | _, [], tm, st, nx => some (.ok tm st nx [])
  | i, o :: rest, tm, st, nx =>
    if dstOk N o.dst then
      match xwant ops tm o with
      | some true =>
        match xop P E tm st (n0 + 8 * i) nx o with
        | some (.val v δ rd) =>
          match xops E ops N n0 (i + 1) rest (putT tm o.dst v) (upds δ st) nx with
          | some (.ok tm' st' nx' recs) => some (.ok tm' st' nx' (⟨v, δ, rd, none⟩ :: recs))
          | r => r
        | some (.big v st1 nx1) =>
          match xops E ops N n0 (i + 1) rest (putT tm o.dst v) st1 nx1 with
          | some (.ok tm' st' nx' recs) => some (.ok tm' st' nx' (⟨v, [], [], some (st1, nx1)⟩ :: recs))
          | r => r
        | some (.pan v) => some (.pan tm v st nx)
        | some (.bpan v st1 nx1) => some (.pan tm v st1 nx1)
        | none => none
      | some false =>
        match xops E ops N n0 (i + 1) rest (putT tm o.dst (.sc undef)) st nx with
        | some (.ok tm' st' nx' recs) => some (.ok tm' st' nx' (⟨.sc undef, [], [], none⟩ :: recs))
        | r => r
      | none => none
    else none
end
def edges (o : Oper) : List Nat := (o.after.toList.filter (Region.binds .any)).map (·.on)
def mask1 (B : List Nat) (es : List Nat) : Nat := es.foldl (fun s e => s ||| 2 ^ e ||| B.getD e 0) 0
def masks : List Oper → List Nat → List Nat
  | [], B => B
  | o :: r, B => masks r (B ++ [mask1 B (edges o)])
def masksOk (ops : List Oper) (B : List Nat) : Bool :=
  (List.range ops.length).all fun d => match ops[d]? with
    | some o => (edges o).all (fun e => decide (e < d)) && B.getD d 0 == mask1 B (edges o)
    | none => true
def ordB (B : List Nat) (i j : Nat) : Bool := (B.getD j 0).testBit i
def noSel (o : Oper) : Bool := match o.op with | .select .. => false | _ => true
def slotsOk (ops : Array Oper) (B : List Nat) : Bool :=
  ops.toList.all noSel && (List.range ops.size).all fun j => (List.range j).all fun i => ordB B i j || match ops[i]?, ops[j]? with
    | some x, some y => x.apart ops y
    | _, _ => true
def disj (a b : List Nat) : Bool := a.all fun x => !b.contains x
def Rec.wr (r : Rec) : List Nat := r.δ.map (·.1)
def Rec.free (x y : Rec) : Bool := disj x.wr (y.rd ++ y.wr) && disj x.rd y.wr
def recsOk (B : List Nat) (recs : List Rec) : Bool :=
  recs.all (fun r => r.big.isNone) && (List.range recs.length).all fun j => match recs[j]? with
    | some y => (y.rd.isEmpty && y.δ.isEmpty) || (List.range j).all fun i => ordB B i j || match recs[i]? with
      | some x => x.free y
      | none => true
    | none => true
def dF (ops : Array Oper) (j : Nat) : Option Tmp := (ops[j]?).bind (·.dst)
def vF (recs : List Rec) (j : Nat) : V := ((recs[j]?).map (·.v)).getD default
def δF (recs : List Rec) (j : Nat) : List (Nat × Option Ob) := ((recs[j]?).map (·.δ)).getD []
def rF (recs : List Rec) (j : Nat) : List Nat := ((recs[j]?).map (·.rd)).getD []
def bigF (recs : List Rec) (j : Nat) : Option (St × Nat) := (recs[j]?).bind (·.big)
def seqSt (st0 : St) (recs : List Rec) : Nat → St
  | 0 => st0
  | j + 1 => match bigF recs j with
    | some p => p.1
    | none => upds (δF recs j) (seqSt st0 recs j)
def pairOk (st0 : St) (recs : List Rec) (i j : Nat) : Prop := match bigF recs i, bigF recs j with
  | none, none => (disj ((δF recs i).map (·.1)) (rF recs j ++ (δF recs j).map (·.1)) && disj (rF recs i) ((δF recs j).map (·.1))) = true
  | none, some p => δF recs i = [] ∧ ∀ k ∈ rF recs i, p.1 k = seqSt st0 recs j k
  | some p, none => δF recs j = [] ∧ ∀ k ∈ rF recs j, p.1 k = seqSt st0 recs i k
  | some _, some _ => False
def recsOk2 (st0 : St) (B : List Nat) (recs : List Rec) : Prop := ∀ j ∈ List.range recs.length, ∀ i ∈ List.range j, ordB B i j = true ∨ pairOk st0 recs i j
def vlit : Value → Value → Bool
  | .int k a, .int l b => decide (k = l) && decide (a = b)
  | .string a, .string b => decide (a = b)
  | .bool a, .bool b => a == b
  | .nilIface, .nilIface => true
  | _, _ => false
mutual
def veq : V → V → Bool
  | .sc a, .sc b => vlit a b
  | .list e xs r, .list f ys s => decide (e = f) && decide (r = s) && veqs xs ys
  | .agg a, .agg b => veqs a b
  | .tup a, .tup b => veqs a b
  | .ptr i o, .ptr j p => decide (i = j) && decide (o = p)
  | .sl e g s i o n, .sl f h t j p m => decide (e = f) && g == h && decide (s = t) && decide (i = j) && decide (o = p) && decide (n = m)
  | .cp a, .cp b => veqs a b
  | .map i, .map j => decide (i = j)
  | .ifc t v, .ifc u w => decide (t = u) && veq v w
  | _, _ => false
def veqs : List V → List V → Bool
  | [], [] => true
  | a :: as', b :: bs => veq a b && veqs as' bs
  | _, _ => false
end
def obEq : Option Ob → Option Ob → Bool
  | none, none => true
  | some (.cells a), some (.cells b) => veqs a b
  | some (.tok n e), some (.tok m f) => decide (n = m) && decide (e = f)
  | some (.iter s i), some (.iter t j) => decide (s = t) && decide (i = j)
  | _, _ => false
def pairOkB (st0 : St) (recs : List Rec) (i j : Nat) : Bool := match bigF recs i, bigF recs j with
  | none, none => disj ((δF recs i).map (·.1)) (rF recs j ++ (δF recs j).map (·.1)) && disj (rF recs i) ((δF recs j).map (·.1))
  | none, some p => (δF recs i).isEmpty && (rF recs i).all fun k => obEq (p.1 k) (seqSt st0 recs j k)
  | some p, none => (δF recs j).isEmpty && (rF recs j).all fun k => obEq (p.1 k) (seqSt st0 recs i k)
  | some _, some _ => false
def recsOk3 (st0 : St) (B : List Nat) (recs : List Rec) : Bool := (List.range recs.length).all fun j => (List.range j).all fun i => ordB B i j || pairOkB st0 recs i j
inductive Ex where
  | norm
  | exit (id : Nat)
  | ret
  | pan (v : V)
structure Fr where
  tm : Nat → V
  st : St
  nx : Nat
def iter (f : Fr → Option (Ex × Fr)) : Nat → Fr → Option (Ex × Fr)
  | 0, _ => none
  | k + 1, fr => match f fr with
    | some (.norm, fr') => iter f k fr'
    | r => r
section
variable (P : Program)
def pansOk (B : List Nat) (recs : List Rec) (m : Nat) : Bool :=
  ((List.range m).all fun j => decide (j ≤ recs.length) || ordB B recs.length j) &&
  (List.range recs.length).all fun j => ordB B j recs.length || ((δF recs j).isEmpty && (bigF recs j).isNone)
def PanAt (P : Program) (E : Env) (N : Nat) (ops : Array Oper) (fr : Fr) (v : V) (st : St) (nx : Nat) : Prop :=
  ∃ i o tm s n recs, ops[i]? = some o ∧ recs.length = i ∧ xops P E ops N fr.nx 0 (ops.toList.take i) fr.tm fr.st (fr.nx + 8 * ops.size) = some (.ok tm s n recs) ∧ xwant ops tm o = some true ∧
    (xop P E tm s (fr.nx + 8 * i) n o = some (.bpan v st nx) ∨ (xop P E tm s (fr.nx + 8 * i) n o = some (.pan v) ∧ st = s ∧ nx = n)) ∧
    masksOk ops.toList (masks ops.toList []) = true ∧ slotsOk ops (masks ops.toList []) = true ∧ recsOk2 fr.st (masks ops.toList []) recs ∧ pansOk (masks ops.toList []) recs ops.size = true
open Classical in
noncomputable def xregion (E : Env) (N : Nat) (ops : Array Oper) (draw : Bool) (fr : Fr) : Option (Ex × Fr) :=
  match xops P E ops N fr.nx 0 ops.toList fr.tm fr.st (fr.nx + 8 * ops.size) with
  | some (.ok tm st nx recs) =>
    if draw then
      if masksOk ops.toList (masks ops.toList []) && slotsOk ops (masks ops.toList []) && recsOk (masks ops.toList []) recs then some (.norm, ⟨tm, st, nx⟩)
      else if masksOk ops.toList (masks ops.toList []) && slotsOk ops (masks ops.toList []) && recsOk3 fr.st (masks ops.toList []) recs then some (.norm, ⟨tm, st, nx⟩)
      else if masksOk ops.toList (masks ops.toList []) && slotsOk ops (masks ops.toList []) then (if recsOk2 fr.st (masks ops.toList []) recs then some (.norm, ⟨tm, st, nx⟩) else none) else none
    else some (.norm, ⟨tm, st, nx⟩)
  | some (.pan tm v st nx) => if draw then (if PanAt P E N ops fr v st nx then some (.pan v, ⟨fr.tm, st, nx⟩) else none) else some (.pan v, ⟨tm, st, nx⟩)
  | none => none
noncomputable def xcode (E : Env) (N k : Nat) : Code → Fr → Option (Ex × Fr)
  | .skip, fr => some (.norm, fr)
  | .region _ ops draw, fr => xregion P E N ops draw fr
  | .seq a b, fr => match xcode E N k a fr with
    | some (.norm, fr') => xcode E N k b fr'
    | r => r
  | .cond c x y, fr => match ev E fr.tm c with
    | some (.sc (.bool b)) => bif b then xcode E N k x fr else xcode E N k y fr
    | _ => none
  | .block id b, fr => match xcode E N k b fr with
    | some (.exit j, fr') => if j = id then some (.norm, fr') else some (.exit j, fr')
    | r => r
  | .loop b, fr => iter (xcode E N k b) k fr
  | .exit id, fr => some (.exit id, fr)
  | .ret, fr => some (.ret, fr)
  | .label _, fr => some (.norm, fr)
  | _, _ => none
def xres1 (fr : Fr) : ResultVar → Option V
  | .tmp t => some (fr.tm t)
  | .cell a t => match fr.tm a with
    | .ptr id off => match fr.st id with
      | some (.cells cs) => ld P t cs off
      | _ => none
    | _ => none
def xres (fr : Fr) (rs : List ResultVar) : Option V :=
  (rs.mapM (xres1 P fr)).map fun vs => match vs with
    | [v] => v
    | vs => .tup vs
noncomputable def xrun0 (E : Env) (k : Nat) (fn : Func) (args : List V) (st : St) (nx : Nat) : Option HR :=
  match fn.body with
  | none => none
  | some c => match xcode P E (args.length + (fn.ntmps - args.length)) k c ⟨fun t => args.getD t (.sc undef), st, nx⟩ with
    | some (.norm, fr) => (xres P fr fn.results.toList).map fun v => .ret v fr.st fr.nx
    | some (.ret, fr) => (xres P fr fn.results.toList).map fun v => .ret v fr.st fr.nx
    | some (.pan v, fr) => some (.pan v fr.st fr.nx)
    | _ => none
def dsplit : Code → Option (Code × FuncId × List Operand × Tmp × Oper × Oper × Array Oper × Code)
  | .seq r1 (.seq (.region _ ops false) rest) => match ops.toList with
    | [o1, o2] => match o1.op, o1.dst, o1.guard, o2.op, o2.dst, o2.guard with
      | .makeFunc (.func g) first caps, some d, none, .defer ⟨.value (.tmp d'), args, _⟩, none, none =>
        if d' = d ∧ first.isEmpty = true ∧ args.isEmpty = true then some (r1, g, caps.toList, d, o1, o2, ops, rest) else none
      | _, _, _, _, _, _ => none
    | _ => none
  | _ => none
def csplit : Code → Option (Tmp × Tmp × TypeId × Array Oper × Code)
  | .seq (.region _ ops false) c => match ops.toList with
    | o0 :: o1 :: _ => match o0.op, o0.dst, o0.guard, o1.op, o1.dst, o1.guard with
      | .call ⟨.builtin .recover, _, _⟩, some t0, none, .typeAssert (.tmp t) _ to true, some t1, none => if t = t0 then some (t0, t1, to, ops, c) else none
      | _, _, _, _, _, _ => none
    | _ => none
  | _ => none
def wrs : Code → List Nat
  | .region _ ops _ => ops.toList.filterMap (·.dst)
  | .seq a b => wrs a ++ wrs b
  | .cond _ a b => wrs a ++ wrs b
  | .block _ b => wrs b
  | .loop b => wrs b
  | _ => []
def resT : ResultVar → Nat
  | .tmp t => t
  | .cell a _ => a
def safeD (fn : Func) (c : Code) : Bool := fn.results.toList.all fun r => !(wrs c).contains (resT r)
def tasrt (to : TypeId) (rv : V) : Option V :=
  match P.underlying to with
  | some (.interface _) | none => none
  | some _ => match rv with
    | .ifc t v => if t = to then some (.tup [v, .bool true]) else (uzero P to).bind fun z => if ones (V.ofV z).cells then some (.tup [V.ofV z, .bool false]) else none
    | .sc .nilIface => (uzero P to).bind fun z => if ones (V.ofV z).cells then some (.tup [V.ofV z, .bool false]) else none
    | _ => none
noncomputable def xclos (E : Env) (k : Nat) (g : FuncId) (cs : List V) (rv : V) (st : St) (nx : Nat) : Option Fr :=
  if nobody P g = false then
  (P.funcs[g]?).bind fun fn => (fn.body.bind csplit).bind fun q =>
    if fn.results = #[] ∧ q.1 < cs.length + (fn.ntmps - cs.length) ∧ q.2.1 < cs.length + (fn.ntmps - cs.length) then
      (tasrt P q.2.2.1 rv).bind fun tv =>
      match xops P E q.2.2.2.1 (cs.length + (fn.ntmps - cs.length)) nx 2 (q.2.2.2.1.toList.drop 2) (upd (upd (fun t => cs.getD t (.sc undef)) q.1 rv) q.2.1 tv) st (nx + 8 * q.2.2.2.1.size) with
      | some (.ok tm st' nx' _) => match xcode P E (cs.length + (fn.ntmps - cs.length)) k q.2.2.2.2 ⟨tm, st', nx'⟩ with
        | some (.norm, fr) => some fr
        | some (.ret, fr) => some fr
        | _ => none
      | _ => none
    else none
  else none
noncomputable def xrunD (E : Env) (k : Nat) (fn : Func) (q : Code × FuncId × List Operand × Tmp × Oper × Oper × Array Oper × Code) (args : List V) (st : St) (nx : Nat) : Option HR :=
  match xcode P E (args.length + (fn.ntmps - args.length)) k q.1 ⟨fun t => args.getD t (.sc undef), st, nx⟩ with
  | some (.norm, fr1) => if q.2.2.2.1 < args.length + (fn.ntmps - args.length) ∧ safeD fn q.2.2.2.2.2.2.2 = true then (q.2.2.1.mapM (ev E fr1.tm)).bind fun cs =>
    match xcode P E (args.length + (fn.ntmps - args.length)) k q.2.2.2.2.2.2.2 ⟨upd fr1.tm q.2.2.2.1 (.fn (.func q.2.1) [] cs), fr1.st, fr1.nx + 16⟩ with
    | some (.norm, fr) => (xclos P E k q.2.1 cs (.sc .nilIface) fr.st fr.nx).bind fun fr' => (xres P ⟨fr.tm, fr'.st, fr'.nx⟩ fn.results.toList).map fun v => .ret v fr'.st fr'.nx
    | some (.ret, fr) => (xclos P E k q.2.1 cs (.sc .nilIface) fr.st fr.nx).bind fun fr' => (xres P ⟨fr.tm, fr'.st, fr'.nx⟩ fn.results.toList).map fun v => .ret v fr'.st fr'.nx
    | some (.pan v, fr) => match v with
      | .ifc .. => (xclos P E k q.2.1 cs v fr.st fr.nx).bind fun fr' => (xres P ⟨fr.tm, fr'.st, fr'.nx⟩ fn.results.toList).map fun v => .ret v fr'.st fr'.nx
      | _ => none
    | _ => none
    else none
  | _ => none
noncomputable def xrun (E : Env) (k : Nat) (fn : Func) (args : List V) (st : St) (nx : Nat) : Option HR :=
  match fn.body.bind dsplit with
  | none => xrun0 P E k fn args st nx
  | some q => xrunD P E k fn q args st nx
def finP : V → Option V
  | .ifc t v => v.pur?.map (.ifc t)
  | _ => none
def finE (E : Env) (st : St) (v : V) : Option V := if E.md < 1 then fin st v else (frzT st v).bind fun p => fin (upds p.2 st) p.1
noncomputable def xplain (E : Env) (k : Nat) (fn : Func) (args : List V) : Option CR :=
  match xrun P E k fn args (fun _ => none) 8 with
  | some (.ret v st _) => (finE E st v).map .ret
  | some (.pan v st _) => (finP v).map .pan
  | none => none
structure Exts where
  pl : FuncId → Option (List V → Option V)
  hp : FuncId → Option (List V → St → Nat → Option HR)
noncomputable def env (ext : Exts) (hm : FuncId → Nat) (gl : Nat → Option V) : Nat → Env
  | 0 => ⟨fun f zas => (ext.pl f).bind fun g => (g zas).map .ret, fun f zas st nx => (ext.hp f).bind fun g => g zas st nx, hm, gl, 0⟩
  | n + 1 =>
    ⟨fun f zas => match ext.pl f with
      | some g => (g zas).map .ret
      | none => (P.funcs[f]?).bind fun fn => xplain P ((env ext hm gl n).at (hm f / 2)) n fn zas,
     fun f zas st nx => match ext.hp f with
      | some g => g zas st nx
      | none => (P.funcs[f]?).bind fun fn => if hm f = 5 then (frzH st zas).bind fun p => xrun P ((env ext hm gl n).at 0) n fn p.1 (upds p.2 st) nx else xrun P ((env ext hm gl n).at (hm f / 2)) n fn zas st nx, hm, gl, 0⟩
end
end Go.Proofs.YthgmhlpjbednpaaDoor.Vm
set_option linter.unusedVariables false
set_option linter.unusedSimpArgs false
namespace Go.Proofs.YthgmhlpjbednpaaDoor.Vm
open Go.RowKit
inductive All2 {α β : Type} (R : α → β → Prop) : List α → List β → Prop
  | nil : All2 R [] []
  | cons {x : α} {y : β} {xs : List α} {ys : List β} : R x y → All2 R xs ys → All2 R (x :: xs) (y :: ys)
namespace All2
variable {α β : Type} {R S : α → β → Prop} {xs : List α} {ys : List β}
theorem length (h : All2 R xs ys) : xs.length = ys.length := by
  induction h with
  | nil => rfl
  | cons _ _ ih => simp [ih]
theorem mono (h : All2 R xs ys) (hs : ∀ x y, R x y → S x y) : All2 S xs ys := by
  induction h with
  | nil => exact .nil
  | cons h _ ih => exact .cons (hs _ _ h) ih
theorem get (h : All2 R xs ys) : ∀ {i : Nat} {x : α}, xs[i]? = some x → ∃ y, ys[i]? = some y ∧ R x y := by
  induction h with
  | nil => intro i x hx; simp at hx
  | cons h _ ih =>
    intro i x hx
    cases i with
    | zero => simp at hx; subst hx; exact ⟨_, rfl, h⟩
    | succ i => simpa using ih (by simpa using hx)
theorem get' (h : All2 R xs ys) : ∀ {i : Nat} {y : β}, ys[i]? = some y → ∃ x, xs[i]? = some x ∧ R x y := by
  induction h with
  | nil => intro i x hx; simp at hx
  | cons h _ ih =>
    intro i x hx
    cases i with
    | zero => simp at hx; subst hx; exact ⟨_, rfl, h⟩
    | succ i => simpa using ih (by simpa using hx)
theorem append {xs' : List α} {ys' : List β} (h : All2 R xs ys) (h' : All2 R xs' ys') : All2 R (xs ++ xs') (ys ++ ys') := by
  induction h with
  | nil => exact h'
  | cons h _ ih => exact .cons h ih
theorem take (h : All2 R xs ys) : ∀ n, All2 R (xs.take n) (ys.take n) := by
  induction h with
  | nil => intro n; simpa using .nil
  | cons h _ ih =>
    intro n
    cases n with
    | zero => exact .nil
    | succ n => exact .cons h (ih n)
theorem drop (h : All2 R xs ys) : ∀ n, All2 R (xs.drop n) (ys.drop n) := by
  induction h with
  | nil => intro n; simpa using .nil
  | cons h t ih =>
    intro n
    cases n with
    | zero => exact .cons h t
    | succ n => exact ih n
theorem split {xs' : List α} (h : All2 R (xs ++ xs') ys) : ∃ ys1 ys2, ys = ys1 ++ ys2 ∧ All2 R xs ys1 ∧ All2 R xs' ys2 := by
  refine ⟨ys.take xs.length, ys.drop xs.length, (List.take_append_drop _ _).symm, ?_, ?_⟩
  · have := h.take xs.length; simpa using this
  · have := h.drop xs.length; simpa using this
theorem set (h : All2 R xs ys) {x : α} {y : β} (hr : R x y) : ∀ i, All2 R (xs.set i x) (ys.set i y) := by
  induction h with
  | nil => intro i; simpa using .nil
  | cons h t ih =>
    intro i
    cases i with
    | zero => exact .cons hr t
    | succ i => exact .cons h (ih i)
theorem eraseIdx (h : All2 R xs ys) : ∀ i, All2 R (xs.eraseIdx i) (ys.eraseIdx i) := by
  induction h with
  | nil => intro i; simpa using .nil
  | cons h t ih =>
    intro i
    cases i with
    | zero => exact t
    | succ i => exact .cons h (ih i)
theorem map {γ δ : Type} {f : γ → α} {g : δ → β} {zas : List γ} {bs : List δ} (h : All2 (fun a b => R (f a) (g b)) zas bs) : All2 R (zas.map f) (bs.map g) := by
  induction h with
  | nil => exact .nil
  | cons h _ ih => exact .cons h ih
end All2
abbrev Pr := Nat → Nat → Option Value
def Holds (p : Pr) (a : Addr) (u : Value) : Prop := a.spot = none ∧ p a.block a.off = some u
def LiesAt (p : Pr) (a : Addr) (vs : List Value) : Prop := ∀ j u, vs[j]? = some u → Holds p (a.add j) u
mutual
inductive RepP (P : Program) (p : Pr) : V → Value → Prop
  | sc (v : Value) : RepP P p (.sc v) v
  | agg {cs : List V} {vs : List Value} : ones cs = true → RepPs P p cs vs → RepP P p (.agg cs) (.agg vs.toArray)
  | list {e : TypeId} {xs : List V} {r : Nat} {A : Option Addr} {n c : Nat} {vs : List Value} : xs.length = n → n ≤ c → (r = 0 ∨ (r = 1 ∧ A = none ∧ n = 0 ∧ c = 0)) → (∀ s, usz P e = some s → ∀ x ∈ xs, x.cells.length = s) →
      ones (xs.flatMap V.cells) = true → (vs ≠ [] → ∃ ad, A = some ad ∧ LiesAt p ad vs) → RepPs P p (xs.flatMap V.cells) vs → RepP P p (.list e xs r) (.slice A n c)
  | cp {cs : List V} {vs : List Value} {ad : Addr} : ones cs = true → LiesAt p ad vs → RepPs P p cs vs → RepP P p (.cp cs) (.pointer (some ad))
  | fn (f : Fn) : RepP P p (.fn f [] []) (.func f #[] #[])
inductive RepPs (P : Program) (p : Pr) : List V → List Value → Prop
  | nil : RepPs P p [] []
  | cons {x : V} {v : Value} {xs : List V} {vs : List Value} : RepP P p x v → RepPs P p xs vs → RepPs P p (x :: xs) (v :: vs)
end
section
variable {P : Program} {p p' : Pr}
theorem RepPs.all2 {xs : List V} {vs : List Value} (h : RepPs P p xs vs) : All2 (RepP P p) xs vs := by
  induction xs generalizing vs with
  | nil => cases h; exact .nil
  | cons x xs ih => cases h with | cons h t => exact .cons h (ih t)
theorem RepPs.of {xs : List V} {vs : List Value} (h : All2 (RepP P p) xs vs) : RepPs P p xs vs := by
  induction h with
  | nil => exact .nil
  | cons h _ ih => exact .cons h ih
theorem LiesAt.mono (hp : ∀ b o v, p b o = some v → p' b o = some v) {a : Addr} {vs : List Value} (h : LiesAt p a vs) : LiesAt p' a vs := fun j u hj => ⟨(h j u hj).1, hp _ _ _ (h j u hj).2⟩
theorem RepP.mono (hp : ∀ b o v, p b o = some v → p' b o = some v) {x : V} {v : Value} (h : RepP P p x v) : RepP P p' x v :=
  RepP.rec (motive_1 := fun x v _ => RepP P p' x v) (motive_2 := fun xs vs _ => RepPs P p' xs vs)
    (fun v => .sc v) (fun h1 _ ih => .agg h1 ih) (fun h1 h2 h3 h4 h5 h6 _ ih => .list h1 h2 h3 h4 h5 (fun hv => by obtain ⟨ad, h, k⟩ := h6 hv; exact ⟨ad, h, k.mono hp⟩) ih)
    (fun h1 h2 _ ih => .cp h1 (h2.mono hp) ih) (fun f => .fn f) .nil (fun _ _ h1 h2 => .cons h1 h2) h
theorem RepPs.mono (hp : ∀ b o v, p b o = some v → p' b o = some v) {xs : List V} {vs : List Value} (h : RepPs P p xs vs) : RepPs P p' xs vs := .of (h.all2.mono fun _ _ => RepP.mono hp)
theorem RepP.one {x : V} {v : Value} (h : RepP P p x v) (h1 : x.one = true) : v.oneCell' = true := by
  cases h <;> first | exact h1 | rfl | (simp [V.one] at h1)
theorem ones_get {cs : List V} (h : ones cs = true) {i : Nat} {c : V} (hc : cs[i]? = some c) : c.one = true := List.all_eq_true.1 h c (List.mem_of_getElem? hc)
theorem ones_append {cs ds : List V} : ones (cs ++ ds) = (ones cs && ones ds) := by simp [ones, List.all_append]
theorem ones_take {cs : List V} (h : ones cs = true) (n : Nat) : ones (cs.take n) = true := List.all_eq_true.2 fun c hc => List.all_eq_true.1 h c (List.mem_of_mem_take hc)
theorem ones_drop {cs : List V} (h : ones cs = true) (n : Nat) : ones (cs.drop n) = true := List.all_eq_true.2 fun c hc => List.all_eq_true.1 h c (List.mem_of_mem_drop hc)
end
structure Gh where
  base : Nat
  w0 : World × List Deferred
  pr : Pr
  bx : Nat → Option Nat
  tl : Nat → Option Value
def vlen : Value → Nat
  | .slice _ n _ => n
  | _ => 0
structure Gh.le (G G' : Gh) : Prop where
  base : G'.base = G.base
  w0 : G'.w0 = G.w0
  pr : ∀ b o v, G.pr b o = some v → G'.pr b o = some v
  bx : ∀ i b, G.bx i = some b → G'.bx i = some b
  tl : ∀ t v, G.tl t = some v → ∃ v', G'.tl t = some v' ∧ vlen v ≤ vlen v' ∧ (vlen v = vlen v' → v' = v) ∧ (G.bx t ≠ none → v' = v)
  low : ∀ b o, b < G.base → G'.pr b o = G.pr b o
theorem Gh.le.refl (G : Gh) : G.le G := ⟨rfl, rfl, fun _ _ _ h => h, fun _ _ h => h, fun _ v h => ⟨v, h, Nat.le_refl _, fun _ => rfl, fun _ => rfl⟩, fun _ _ _ => rfl⟩
theorem Gh.le.trans {G G' G'' : Gh} (h : G.le G') (k : G'.le G'') : G.le G'' :=
  ⟨k.base.trans h.base, k.w0.trans h.w0, fun b o v q => k.pr b o v (h.pr b o v q), fun i b q => k.bx i b (h.bx i b q), fun t v q => by
    obtain ⟨v', h1, h2, h3, h4⟩ := h.tl t v q
    obtain ⟨v'', k1, k2, k3, k4⟩ := k.tl t v' h1
    exact ⟨v'', k1, Nat.le_trans h2 k2, fun e => by
      have e1 : vlen v = vlen v' := by omega
      have e2 : vlen v' = vlen v'' := by omega
      rw [k3 e2, h3 e1], fun hb => by
      have h5 := h4 hb
      have h6 : G'.bx t ≠ none := by
        cases hc : G.bx t with
        | none => exact absurd hc hb
        | some b => rw [h.bx t b hc]; simp
      rw [k4 h6, h5]⟩, fun b o hb => (k.low b o (by rw [h.base]; exact hb)).trans (h.low b o hb)⟩
mutual
inductive Rep (P : Program) (G : Gh) : V → Value → Prop
  | pure {x : V} {v : Value} : RepP P G.pr x v → Rep P G x v
  | tok {e : TypeId} {xs : List V} {t : Nat} {A : Option Addr} {n c : Nat} {v0 : Value} : 8 ≤ t → RepP P G.pr (.list e xs 0) (.slice A n c) → G.tl t = some v0 → n ≤ vlen v0 → (n = vlen v0 → v0 = .slice A n c) → Rep P G (.list e xs t) (.slice A n c)
  | ptr {id off b : Nat} : G.bx id = some b → Rep P G (.ptr id off) (.pointer (some ⟨b, off, none⟩))
  | map {id b : Nat} : G.bx id = some b → Rep P G (.map id) (.map (some b))
  | agg {cs : List V} {vs : List Value} : ones cs = true → Reps P G cs vs → Rep P G (.agg cs) (.agg vs.toArray)
  | tup {cs : List V} {vs : List Value} : Reps P G cs vs → Rep P G (.tup cs) (.tuple vs.toArray)
  | fn {f : Fn} {a b : List V} {us ws : List Value} : Reps P G a us → Reps P G b ws → Rep P G (.fn f a b) (.func f us.toArray ws.toArray)
  | ifc {t : TypeId} {x : V} {v : Value} : Rep P G x v → Rep P G (.ifc t x) (.iface t v)
  | sl {e s id off n b N C c : Nat} {g : Bool} {A : Option Addr} : G.bx id = some b → G.tl id = some (.slice (some ⟨b, 0, none⟩) N C) → usz P e = some s → uagg P e = some g → 0 < s → off + n ≤ N → n ≤ c → (0 < n → A = some ⟨b, off * s, none⟩) →
      (off = 0 → n = N → A = some ⟨b, 0, none⟩ ∧ c = C) → (g = false → s = 1) → Rep P G (.sl e g s id off n) (.slice A n c)
  | emp {e : TypeId} {A : Option Addr} : Rep P G (.emp e) (.slice A 0 0)
inductive Reps (P : Program) (G : Gh) : List V → List Value → Prop
  | nil : Reps P G [] []
  | cons {x : V} {v : Value} {xs : List V} {vs : List Value} : Rep P G x v → Reps P G xs vs → Reps P G (x :: xs) (v :: vs)
end
section
variable {P : Program} {G G' : Gh}
theorem Reps.all2 {xs : List V} {vs : List Value} (h : Reps P G xs vs) : All2 (Rep P G) xs vs := by
  induction xs generalizing vs with
  | nil => cases h; exact .nil
  | cons x xs ih => cases h with | cons h t => exact .cons h (ih t)
theorem Reps.of {xs : List V} {vs : List Value} (h : All2 (Rep P G) xs vs) : Reps P G xs vs := by
  induction h with
  | nil => exact .nil
  | cons h _ ih => exact .cons h ih
theorem Rep.mono (hg : G.le G') {x : V} {v : Value} (h : Rep P G x v) : Rep P G' x v :=
  Rep.rec (motive_1 := fun x v _ => Rep P G' x v) (motive_2 := fun xs vs _ => Reps P G' xs vs)
    (fun h => .pure (h.mono hg.pr))
    (fun h1 h2 h3 h4 h5 => by
      obtain ⟨v', k1, k2, k3, _⟩ := hg.tl _ _ h3
      exact .tok h1 (h2.mono hg.pr) k1 (Nat.le_trans h4 k2) fun e => by rw [k3 (by omega)]; exact h5 (by omega))
    (fun h => .ptr (hg.bx _ _ h)) (fun h => .map (hg.bx _ _ h)) (fun h1 _ ih => .agg h1 ih) (fun _ ih => .tup ih) (fun _ _ h1 h2 => .fn h1 h2) (fun _ ih => .ifc ih)
    (fun h1 h2 h3 h4 h5 h6 h7 h8 h9 h10 => by
      obtain ⟨v', k1, _, _, k2⟩ := hg.tl _ _ h2
      rw [k2 (by rw [h1]; simp)] at k1
      exact .sl (hg.bx _ _ h1) k1 h3 h4 h5 h6 h7 h8 h9 h10) .emp .nil (fun _ _ h1 h2 => .cons h1 h2) h
theorem Rep.one {x : V} {v : Value} (h : Rep P G x v) (h1 : x.one = true) : v.oneCell' = true := by
  cases h <;> first | exact RepP.one ‹_› h1 | rfl | (simp [V.one] at h1)
theorem RepPs.reps {xs : List V} {vs : List Value} (h : RepPs P G.pr xs vs) : All2 (Rep P G) xs vs := h.all2.mono fun _ _ => .pure
theorem rep_pur1 {x y : V} {v : Value} (h : Rep P G x v) (hy : x.pur1? = some y) : RepP P G.pr y v := by
  cases h with
  | pure h =>
    cases h with
    | sc v => simp [V.pur1?] at hy; subst hy; exact .sc v
    | agg => simp [V.pur1?] at hy
    | list h1 h2 h3 h4 h5 h6 h7 =>
      simp [V.pur1?] at hy; subst hy
      refine .list h1 h2 ?_ h4 h5 h6 h7
      rcases h3 with rfl | ⟨rfl, h⟩
      · exact .inl rfl
      · exact .inr ⟨rfl, h⟩
    | cp h1 h2 h3 => simp [V.pur1?] at hy; subst hy; exact .cp h1 h2 h3
    | fn f => simp [V.pur1?] at hy; subst hy; exact .fn f
  | tok h1 h2 =>
    simp only [V.pur1?, Option.some.injEq] at hy
    rw [if_neg (by omega)] at hy
    subst hy; exact h2
  | ptr => simp [V.pur1?] at hy
  | map => simp [V.pur1?] at hy
  | agg => simp [V.pur1?] at hy
  | tup => simp [V.pur1?] at hy
  | fn ha hb =>
    rename_i f a b us ws
    cases a with
    | cons => simp [V.pur1?] at hy
    | nil => cases b with
      | cons => simp [V.pur1?] at hy
      | nil => simp [V.pur1?] at hy; subst hy; cases ha; cases hb; exact .fn f
  | ifc => simp [V.pur1?] at hy
  | sl => simp [V.pur1?] at hy
  | emp => simp [V.pur1?] at hy
theorem mapM_some {α β : Type} {f : α → Option β} : ∀ {l : List α} {r : List β}, l.mapM f = some r → All2 (fun a b => f a = some b) l r
  | [], r, h => by simp at h; subst h; exact .nil
  | a :: l, r, h => by
    rw [List.mapM_cons] at h
    simp only [Option.bind_eq_bind, Option.bind_eq_some_iff] at h
    obtain ⟨b, hb, bs, hbs, h⟩ := h
    simp at h
    subst h
    exact .cons hb (mapM_some hbs)
theorem All2.trans2 {α β γ : Type} {R : α → β → Prop} {S : α → γ → Prop} {T : β → γ → Prop} (ht : ∀ a b c, R a b → S a c → T b c) {zas : List α} {bs : List β} {cs : List γ} (h : All2 R zas bs) (k : All2 S zas cs) : All2 T bs cs := by
  induction h generalizing cs with
  | nil => cases k; exact .nil
  | cons h _ ih => cases k with | cons k1 k2 => exact .cons (ht _ _ _ h k1) (ih k2)
theorem pur1_one {x y : V} (h : x.pur1? = some y) : y.one = true ∨ ∃ v, y = .sc v ∧ x = .sc v := by
  cases x <;> simp [V.pur1?] at h
  · subst h; exact .inr ⟨_, rfl, rfl⟩
  · subst h; exact .inl rfl
  · subst h; exact .inl rfl
  · rename_i f a b
    cases a <;> cases b <;> simp [V.pur1?] at h
    subst h; exact .inl rfl
theorem pur1_ones {xs ys : List V} (h : xs.mapM V.pur1? = some ys) (h1 : ones xs = true) : ones ys = true := by
  refine List.all_eq_true.2 fun y hy => ?_
  obtain ⟨i, hi⟩ := List.getElem?_of_mem hy
  obtain ⟨x, hx, hxy⟩ := (mapM_some h).get' hi
  rcases pur1_one hxy with h | ⟨v, rfl, rfl⟩
  · exact h
  · exact ones_get h1 hx
theorem rep_pur {x y : V} {v : Value} (h : Rep P G x v) (hy : x.pur? = some y) : RepP P G.pr y v := by
  unfold V.pur? at hy
  split at hy
  · rename_i cs
    rw [Option.map_eq_some_iff] at hy
    obtain ⟨ds, hds, rfl⟩ := hy
    cases h with
    | pure h => cases h with
      | agg h1 h2 => exact .agg (pur1_ones hds h1) (.of (All2.trans2 (S := RepP P G.pr) (T := RepP P G.pr) (fun a b c ha hb => rep_pur1 (P := P) (G := G) (.pure hb) ha) (mapM_some hds) h2.all2))
    | agg h1 h2 => exact .agg (pur1_ones hds h1) (.of (All2.trans2 (S := Rep P G) (T := RepP P G.pr) (fun a b c ha hb => rep_pur1 (P := P) (G := G) hb ha) (mapM_some hds) h2.all2))
  · exact rep_pur1 h hy
end
section
variable (P : Program)
def ObOK (G : Gh) (w : World) (i : Nat) : Ob → Prop
  | .cells cs => ∃ b arr T, G.bx i = some b ∧ G.base ≤ b ∧ w.heap[b]? = some (.cells arr T (0, 0)) ∧ ones cs = true ∧ All2 (Rep P G) cs arr.toList
  | .map es d => ∃ b arr clk, G.bx i = some b ∧ G.base ≤ b ∧ w.heap[b]? = some (.map arr clk) ∧ All2 (fun e m => Rep P G e.1 m.key ∧ Rep P G e.2 m.val) es arr.toList ∧ (d = true → clk = arr.size ∧ ∀ (j : Nat) (m : MapEntry), arr[j]? = some m → m.born = j)
  | .miter m n rem => ∃ b mb seen last, G.bx i = some b ∧ G.bx m = some mb ∧ G.base ≤ b ∧ w.heap[b]? = some (.mapIter (some mb) n seen last) ∧ rem.Pairwise (· < ·) ∧ (∀ j, j < n → (seen.contains j = true ↔ j ∉ rem)) ∧ (∀ j ∈ rem, j < n) ∧ (seen.isEmpty = true ∨ 0 < last)
  | .iter s pos => ∃ b, G.bx i = some b ∧ G.base ≤ b ∧ w.heap[b]? = some (.stringIter s pos)
  | .tok n e => ∃ v s vs, G.tl i = some v ∧ usz P e = some s ∧ w.ownsRow G.base e s v n vs ∧ G.bx i = none
  | .row e s n cs => ∃ v vs b, G.tl i = some v ∧ v.ownBlock = some b ∧ G.bx i = some b ∧ usz P e = some s ∧ 0 < s ∧ w.ownsRow G.base e s v n vs ∧ ones cs = true ∧ All2 (Rep P G) cs vs
  | .frz ds => ∃ b vs, G.bx i = some b ∧ ones ds = true ∧ All2 (RepP P G.pr) ds vs ∧ ∀ j u, vs[j]? = some u → G.pr b j = some u
def blk (G : Gh) (st : St) (i : Nat) : Option Nat :=
  match st i with
  | some (.tok ..) => (G.tl i).bind Value.ownBlock
  | some (.frz _) => none
  | some _ => G.bx i
  | none => none
structure Inv (G : Gh) (st : St) (w : World) : Prop where
  below : Below G.base G.w0.1 w
  size : G.base ≤ w.heap.size
  prot : ∀ b o v, G.pr b o = some v → w.cell? ⟨b, o, none⟩ = some v
  objs : ∀ i ob, st i = some ob → ObOK P G w i ob
  apart : ∀ i j b, blk G st i = some b → blk G st j = some b → i = j
  free : ∀ i b, blk G st i = some b → ∀ o v, G.pr b o = some v → ∃ n e s, st i = some (.tok n e) ∧ usz P e = some s ∧ o < n * s
end
section
variable {P : Program} {G G' : Gh} {st st' : St} {w w' : World}
theorem All2.rep_mono (hg : G.le G') {xs : List V} {vs : List Value} (h : All2 (Rep P G) xs vs) : All2 (Rep P G') xs vs := h.mono fun _ _ => Rep.mono hg
theorem ObOK.kept {i : Nat} {ob : Ob} (h : ObOK P G w i ob) (hg : G.le G') (htl : G'.tl i = G.tl i) (hbx : G'.bx i = G.bx i) (hb : ∀ b, (match ob with | .tok .. => (G.tl i).bind Value.ownBlock | .frz _ => none | _ => G.bx i) = some b → w'.heap[b]? = w.heap[b]?) : ObOK P G' w' i ob := by
  cases ob with
  | cells cs =>
    obtain ⟨b, arr, T, h1, h2, h3, h4, h5⟩ := h
    exact ⟨b, arr, T, hg.bx _ _ h1, by rw [hg.base]; exact h2, (hb b h1).trans h3, h4, h5.rep_mono hg⟩
  | map es d =>
    obtain ⟨b, arr, T, h1, h2, h3, h4, h5⟩ := h
    exact ⟨b, arr, T, hg.bx _ _ h1, by rw [hg.base]; exact h2, (hb b h1).trans h3, h4.mono fun _ _ q => ⟨q.1.mono hg, q.2.mono hg⟩, h5⟩
  | miter m n rem =>
    obtain ⟨b, mb, seen, last, h1, h2, h3, h4, h5⟩ := h
    exact ⟨b, mb, seen, last, hg.bx _ _ h1, hg.bx _ _ h2, by rw [hg.base]; exact h3, (hb b h1).trans h4, h5⟩
  | iter s pos =>
    obtain ⟨b, h1, h2, h3⟩ := h
    exact ⟨b, hg.bx _ _ h1, by rw [hg.base]; exact h2, (hb b h1).trans h3⟩
  | tok n e =>
    obtain ⟨v, s, vs, h1, h2, ⟨h3, h4⟩, h5⟩ := h
    refine ⟨v, s, vs, htl.trans h1, h2, ⟨h3, ?_⟩, hbx.trans h5⟩
    rcases h4 with h4 | ⟨g, cap, cur, hv, hb1, hh, hr⟩
    · exact .inl h4
    · refine .inr ⟨g, cap, cur, hv, by rw [hg.base]; exact hb1, ?_, hr⟩
      rw [hb g (by simp [h1, hv, Value.ownBlock])]
      exact hh
  | row e s n cs =>
    obtain ⟨v, vs, b, h1, h2, h3, h4, h5, ⟨h6, h7⟩, h8, h9⟩ := h
    refine ⟨v, vs, b, htl.trans h1, h2, hbx.trans h3, h4, h5, ⟨h6, ?_⟩, h8, h9.rep_mono hg⟩
    rcases h7 with h7 | ⟨g, cap, cur, hv, hb1, hh, hr⟩
    · exact .inl h7
    · refine .inr ⟨g, cap, cur, hv, by rw [hg.base]; exact hb1, ?_, hr⟩
      have : g = b := by rw [hv] at h2; simpa [Value.ownBlock] using h2
      rw [hb g (by rw [this]; exact h3)]
      exact hh
  | frz ds =>
    obtain ⟨b, vs, h1, h2, h3, h4⟩ := h
    exact ⟨b, vs, hg.bx _ _ h1, h2, h3.mono fun _ _ => RepP.mono hg.pr, fun j u hj => hg.pr _ _ _ (h4 j u hj)⟩
theorem Inv.go (h : Inv P G st w) (hg : G.le G') (hbel : Below G.base w w') (hprot : ∀ b o v, G'.pr b o = some v → w'.cell? ⟨b, o, none⟩ = some v) (i : Nat)
    (hst : ∀ j, j ≠ i → st' j = st j) (hbx : ∀ j, j ≠ i → G'.bx j = G.bx j) (htl : ∀ j, j ≠ i → G'.tl j = G.tl j)
    (hblk : ∀ j b, j ≠ i → blk G st j = some b → w'.heap[b]? = w.heap[b]?)
    (hob : ∀ ob, st' i = some ob → ObOK P G' w' i ob)
    (hap : ∀ j b, j ≠ i → blk G st j = some b → blk G' st' i ≠ some b)
    (hfi : ∀ b, blk G' st' i = some b → ∀ o v, G'.pr b o = some v → ∃ n e s, st' i = some (.tok n e) ∧ usz P e = some s ∧ o < n * s)
    (hfr : ∀ j b, j ≠ i → blk G st j = some b → ∀ o v, G'.pr b o = some v → G.pr b o = some v) : Inv P G' st' w' := by
  have hbl : ∀ j, j ≠ i → blk G' st' j = blk G st j := fun j hj => by unfold blk; rw [hst j hj, hbx j hj, htl j hj]
  refine ⟨by rw [hg.base, hg.w0]; exact h.below.trans hbel, by rw [hg.base]; exact Nat.le_trans h.size hbel.size, hprot, fun j ob hj => ?_, fun a c b ha hc => ?_, fun j b hj o v hv => ?_⟩
  · by_cases hji : j = i
    · subst hji; exact hob ob hj
    · rw [hst j hji] at hj
      refine (h.objs j ob hj).kept hg (htl j hji) (hbx j hji) fun b hb => hblk j b hji ?_
      unfold blk; rw [hj]
      cases ob <;> exact hb
  · by_cases ha' : a = i
    · subst ha'
      by_cases hc' : c = a
      · exact hc'.symm
      · rw [hbl c hc'] at hc; exact absurd ha (hap c b hc' hc)
    · by_cases hc' : c = i
      · subst hc'
        rw [hbl a ha'] at ha; exact absurd hc (hap a b ha' ha)
      · rw [hbl a ha'] at ha; rw [hbl c hc'] at hc
        exact h.apart a c b ha hc
  · by_cases hji : j = i
    · subst hji; exact hfi b hj o v hv
    · rw [hbl j hji] at hj
      rw [hst j hji]
      exact h.free j b hj o v (hfr j b hji hj o v hv)
theorem Inv.blk_lt (h : Inv P G st w) {i b : Nat} (hb : blk G st i = some b) : b < w.heap.size ∧ G.base ≤ b := by
  unfold blk at hb
  cases hs : st i with
  | none => rw [hs] at hb; simp at hb
  | some ob =>
    rw [hs] at hb
    have ho := h.objs i ob hs
    cases ob with
    | cells cs => obtain ⟨b', arr, T, h1, h2, h3, _⟩ := ho; simp [h1] at hb; subst hb; exact ⟨(Array.getElem?_eq_some_iff.1 h3).1, h2⟩
    | map cs d => obtain ⟨b', arr, T, h1, h2, h3, _⟩ := ho; simp [h1] at hb; subst hb; exact ⟨(Array.getElem?_eq_some_iff.1 h3).1, h2⟩
    | miter m n rem => obtain ⟨b', mb, seen, last, h1, h2, h3, h4, _⟩ := ho; simp [h1] at hb; subst hb; exact ⟨(Array.getElem?_eq_some_iff.1 h4).1, h3⟩
    | iter s p => obtain ⟨b', h1, h2, h3⟩ := ho; simp [h1] at hb; subst hb; exact ⟨(Array.getElem?_eq_some_iff.1 h3).1, h2⟩
    | tok n e =>
      obtain ⟨v, s, vs, h1, h2, h3, _⟩ := ho
      simp [h1] at hb
      have := h3.lt b hb
      exact ⟨this.2, this.1⟩
    | row e s n cs =>
      obtain ⟨v, vs, b', h1, h2, h3, h4, h5, h6, _⟩ := ho
      simp [h3] at hb
      subst hb
      have := h6.lt b' h2
      exact ⟨this.2, this.1⟩
    | frz ds => simp at hb
theorem Inv.pr_lt (h : Inv P G st w) {b o : Nat} {v : Value} (hv : G.pr b o = some v) : b < w.heap.size := World.block_lt_of_cell? w _ (h.prot b o v hv)
theorem cell_same {w w' : World} {b o : Nat} (h : w'.heap[b]? = w.heap[b]?) : w'.cell? ⟨b, o, none⟩ = w.cell? ⟨b, o, none⟩ := World.cell?_of_block (a := ⟨b, o, none⟩) h
theorem Inv.heap (h : Inv P G st w) (hh : w'.heap = w.heap) (ho : w'.os = w.os) (ht : w'.tape = w.tape) (hp : w'.output = w.output) : Inv P G st w' := by
  refine ⟨h.below.trans ⟨ho, ht, hp, by rw [hh]; exact Nat.le_refl _, fun k _ => by rw [hh]⟩, by rw [hh]; exact h.size, fun b o v hv => ?_, fun i ob hi => ?_, h.apart, h.free⟩
  · exact (cell_same (w := w) (w' := w') (by rw [hh])).trans (h.prot b o v hv)
  · exact (h.objs i ob hi).kept (.refl G) rfl rfl fun b _ => by rw [hh]
theorem Inv.drew (h : Inv P G st w) (n : Nat) : Inv P G st { w with drawn := w.drawn + n } := h.heap rfl rfl rfl rfl
theorem Inv.new (h : Inv P G st w) (o : Obj) (i : Nat) (ob : Ob) (hi : G.bx i = none) (hs : st i = none) (hnt : (∀ n e, ob ≠ .tok n e) ∧ ∀ ds, ob ≠ .frz ds)
    (hob : ObOK P { G with bx := upd G.bx i (some w.heap.size) } (w.alloc o) i ob) :
    G.le { G with bx := upd G.bx i (some w.heap.size) } ∧ Inv P { G with bx := upd G.bx i (some w.heap.size) } (upd st i (some ob)) (w.alloc o) := by
  have hle : G.le { G with bx := upd G.bx i (some w.heap.size) } := ⟨rfl, rfl, fun _ _ _ q => q, fun j b q => by
    simp only [upd]; split
    · rename_i e; subst e; rw [hi] at q; cases q
    · exact q, fun _ v q => ⟨v, q, Nat.le_refl _, fun _ => rfl, fun _ => rfl⟩, fun _ _ _ => rfl⟩
  have hblk : ∀ b, blk { G with bx := upd G.bx i (some w.heap.size) } (upd st i (some ob)) i = some b → b = w.heap.size := fun b hb => by
    unfold blk at hb
    simp only [upd, if_true] at hb
    cases ob with
    | tok n e => exact absurd rfl (hnt.1 n e)
    | frz ds => exact absurd rfl (hnt.2 ds)
    | _ => simpa using hb.symm
  refine ⟨hle, h.go hle ((Below.refl _ _).alloc h.size o) (fun b o' v hv => ?_) i (fun j hj => by simp [upd, hj]) (fun j hj => by simp [upd, hj]) (fun j _ => rfl) (fun j b _ hb => Below.heap_alloc w o b (h.blk_lt hb).1)
    (fun ob' hob' => by simp [upd] at hob'; subst hob'; exact hob) (fun j b _ hb hb' => ?_) (fun b hb o' v hv => ?_) (fun _ _ _ _ _ _ hv => hv)⟩
  · rw [cell_same (Below.heap_alloc w o b (h.pr_lt hv))]; exact h.prot b o' v hv
  · have := hblk b hb'
    have := (h.blk_lt hb).1
    omega
  · have := hblk b hb
    have := h.pr_lt (b := b) (o := o') (v := v) hv
    omega
theorem Inv.set (h : Inv P G st w) (i : Nat) (ob ob' : Ob) (b : Nat) (hs : st i = some ob) (hb : G.bx i = some b) (hnt : (∀ n e, ob ≠ .tok n e) ∧ ∀ ds, ob ≠ .frz ds) (hnt' : (∀ n e, ob' ≠ .tok n e) ∧ ∀ ds, ob' ≠ .frz ds)
    (hbase : G.base ≤ b) (hh : ∀ k, k ≠ b → w'.heap[k]? = w.heap[k]?) (hsz : w.heap.size = w'.heap.size) (ho : w'.os = w.os) (ht : w'.tape = w.tape) (hp : w'.output = w.output)
    (hob : ObOK P G w' i ob') : Inv P G (upd st i (some ob')) w' := by
  have hbi : blk G st i = some b := by
    unfold blk; rw [hs]
    cases ob with
    | tok n e => exact absurd rfl (hnt.1 n e)
    | frz ds => exact absurd rfl (hnt.2 ds)
    | _ => exact hb
  have hbi' : blk G (upd st i (some ob')) i = some b := by
    unfold blk; simp only [upd, if_true]
    cases ob' with
    | tok n e => exact absurd rfl (hnt'.1 n e)
    | frz ds => exact absurd rfl (hnt'.2 ds)
    | _ => exact hb
  have hnp : ∀ o v, G.pr b o = some v → False := fun o v hv => by
    obtain ⟨n, e, s, h1, _⟩ := h.free i b hbi o v hv
    rw [hs] at h1
    exact hnt.1 n e (Option.some.inj h1)
  refine h.go (.refl G) ⟨ho, ht, hp, by omega, fun k hk => hh k (by omega)⟩ (fun c o v hv => ?_) i (fun j hj => by simp [upd, hj]) (fun _ _ => rfl) (fun _ _ => rfl) (fun j c hj hc => hh c fun e => hj (by subst e; exact h.apart j i c hc hbi))
    (fun ob2 h2 => by simp [upd] at h2; subst h2; exact hob) (fun j c hj hc hc' => hj ?_) (fun c hc o v hv => ?_) (fun _ _ _ _ _ _ hv => hv)
  · have hcb : c ≠ b := fun e => by subst e; exact hnp o v hv
    rw [cell_same (hh c hcb)]; exact h.prot c o v hv
  · rw [hbi'] at hc'; obtain rfl := Option.some.inj hc'; exact h.apart j i b hc hbi
  · rw [hbi'] at hc; obtain rfl := Option.some.inj hc; exact (hnp o v hv).elim
end
end Go.Proofs.YthgmhlpjbednpaaDoor.Vm
set_option linter.unusedVariables false
set_option linter.unusedSimpArgs false
namespace Go.Proofs.YthgmhlpjbednpaaDoor.Vm
open Go.RowKit
section
variable {P : Program} {G G' : Gh} {st st' : St} {w w' : World}
theorem vlen_own {base e s n : Nat} {v : Value} {vs : List Value} (h : w.ownsRow base e s v n vs) : vlen v = n := by
  rcases h.2 with ⟨rfl, rfl⟩ | ⟨g, cap, cur, rfl, _⟩ <;> rfl
theorem own_cells {base e s n g : Nat} {v : Value} {vs : List Value} (h : w.ownsRow base e s v n vs) (hg : v.ownBlock = some g) {o : Nat} {u : Value} (hu : vs[o]? = some u) : w.cell? ⟨g, o, none⟩ = some u := by
  rcases h.2 with ⟨rfl, _⟩ | ⟨g', cap, cur, rfl, _, hh, _, _, _, ht⟩
  · simp [Value.ownBlock] at hg
  · obtain rfl : g' = g := by simpa [Value.ownBlock] using hg
    have ho : o < n * s := by
      have := (List.getElem?_eq_some_iff.1 hu).1
      rw [h.1] at this; exact this
    simp only [World.cell?, hh]
    rw [← ht, List.getElem?_take, if_pos ho] at hu
    simpa using hu
set_option maxHeartbeats 1000000 in
theorem run_app (w : World) (base : Nat) (t t' ty e : TypeId) (i : TypeInfo) (z : Value) (ht : P.underlying t = some (.slice e)) {d : TypeDesc} (ht' : P.underlying t' = some d) (hd : (∃ e', d = .slice e') ∨ d = .string) (hi : P.info? e = some i) (hz : i.zero = some z)
    (hzs : z.cells.size = i.size) (v : Value) (n : Nat) (vs : List Value) (hown : w.ownsRow base e i.size v n vs) (x : Value) (m : Nat) (news : List Value) (hx1 : ∀ w', (Builtin.lenOf x).run P w' = .ok m w')
    (hx2 : ∀ w' : World, w'.heap = w.heap → (Builtin.firstCells i.size m x).run P w' = .ok news.toArray w') (hl : news.length = m * i.size) (h1 : ∀ u ∈ news, u.oneCell' = true) (h63 : n + m ≤ maxLen) (hbytes : (n + m) * i.bytes ≤ 140737488355328)
    (hbase : base ≤ w.heap.size) :
    ∃ v' w', (Builtin.append_ #[t, t'] ty #[v, x]).run P w = .ok v' w' ∧ w'.ownsRow base e i.size v' (n + m) (vs ++ news) ∧
      ((v'.ownBlock = v.ownBlock ∧ w.grownBy w' v.ownBlock) ∨ (v'.ownBlock = some w.heap.size ∧ w.grownBy w' none)) ∧ (m = 0 → v' = v) := by
  have hlen : (vs ++ news).length = (n + m) * i.size := by rw [List.length_append, hown.1, hl, Nat.add_mul]
  have grown : ∀ old : Nat, old < n + m → (w.drew.alloc (.cells (vs.toArray ++ news.toArray ++ Builtin.zeroCells z.cells (grownCap w (n + m) old e - (n + m))) e)).ownsRow base e i.size
        (.slice (some ⟨w.heap.size, 0, none⟩) (n + m) (grownCap w (n + m) old e)) (n + m) (vs ++ news) ∧
      w.grownBy (w.drew.alloc (.cells (vs.toArray ++ news.toArray ++ Builtin.zeroCells z.cells (grownCap w (n + m) old e - (n + m))) e)) none := by
    intro old ho
    have hge := grownCap_ge w (n + m) old e
    refine ⟨⟨hlen, .inr ⟨w.heap.size, _, _, rfl, hbase, heap_alloc_new w.drew _, hge, grownCap_le_maxLen w (n + m) old e h63, ?_, ?_⟩⟩, ⟨rfl, rfl, rfl, by simp, fun k hk _ => heap_alloc_old w.drew _ hk⟩⟩
    · simp only [Array.size_append, List.size_toArray, size_zeroCells, hzs, hown.1, hl, ← Nat.add_mul]
      congr 1
      omega
    · simp only [Array.toList_append, List.append_assoc]
      rw [← List.append_assoc, ← hlen]
      exact List.take_left
  have h63' : n + m ≤ 9223372036854775807 := by simp only [maxLen] at h63; omega
  rcases hown.2 with ⟨rfl, rfl⟩ | ⟨g, cap, cur, rfl, hbg, hg, hnc, hcm, hcs, htake⟩
  · have hvs : vs = [] := List.eq_nil_of_length_eq_zero (by simpa using hown.1)
    subst hvs
    by_cases hm0 : m = 0
    · subst hm0
      have hn : news = [] := List.eq_nil_of_length_eq_zero (by simpa using hl)
      subst hn
      refine ⟨.slice none 0 0, w, ?_, World.ownsRow_nil w base e i.size, .inl ⟨rfl, rfl, rfl, rfl, Nat.le_refl _, fun _ _ _ => rfl⟩, fun _ => rfl⟩
      have hf := hx2 w rfl
      rcases hd with ⟨e', rfl⟩ | rfl <;> simp [Builtin.append_, run_underlying ht, run_underlying ht', sizeOf, typeInfo, hi, hx1, hf]
    · have hgr := grown 0 (by omega)
      have hf := hx2 w.drew rfl
      have hn : m ≠ 0 := hm0
      have h63'' : ¬ (9223372036854775807 < (m : Int)) := by omega
      have h48' : ¬ (281474976710656 < Builtin.nextslicecap m 0 * i.bytes) := by rw [nextslicecap_zero (by omega)]; simp only [Nat.zero_add] at hbytes; omega
      simp only [Nat.zero_add, List.nil_append, Array.empty_append] at hgr ⊢
      refine ⟨_, _, ?_, hgr.1, .inr ⟨rfl, hgr.2⟩, fun h => absurd h hm0⟩
      rcases hd with ⟨e', rfl⟩ | rfl <;> simp [Builtin.append_, run_underlying ht, run_underlying ht', sizeOf, typeInfo, zeroValue, hi, hz, hx1, hn, h63'', h48', Question.forced, hf, run_firstCells_none, newRow, grownCap]
  · by_cases hroom : n + m ≤ cap
    · have hfit : n * i.size + news.length ≤ cur.size := by rw [hl, hcs, ← Nat.add_mul]; exact Nat.mul_le_mul_right _ hroom
      have hf := hx2 w rfl
      have hst := run_storeCells_at P g (n * i.size) e news 0 cur w hg (by simpa using hfit) h1
      simp only [Nat.add_zero] at hst
      refine ⟨.slice (some ⟨g, 0, none⟩) (n + m) cap, w.setRow g (cur.toList.take (n * i.size) ++ news ++ cur.toList.drop (n * i.size + news.length)).toArray, ?_, ⟨hlen, .inr ⟨g, cap, _, rfl, hbg, setRow_heap w g cur _ e _ hg, hroom, hcm, ?_, ?_⟩⟩, .inl ⟨rfl, rfl, rfl, rfl, by simp, fun k _ hk => setRow_other w g k _ (fun e => hk (by simp [Value.ownBlock, e]))⟩, fun h => by subst h; rfl⟩
      · rcases hd with ⟨e', rfl⟩ | rfl <;> simp [Builtin.append_, run_underlying ht, run_underlying ht', sizeOf, typeInfo, hi, hx1, hroom, hf, Addr.add_lit, hst]
      · simp only [List.size_toArray, List.length_append, List.length_take, List.length_drop, Array.length_toList]
        omega
      · rw [htake, ← hlen]
        exact List.take_left
    · have holds : ∀ j u, vs[j]? = some u → w.cell? ((⟨g, 0, none⟩ : Addr).add j) = some u := hown.cells (g := g) rfl
      have hgr := grown cap (by omega)
      have hf := hx2 w.drew rfl
      have hfo := run_firstCells_some (P := P) w.drew i.size n ⟨g, 0, none⟩ n cap vs hown.1 (by simpa using holds)
      have h63'' : ¬ (9223372036854775807 < ((n : Int) + (m : Int))) := by omega
      have h48' : ¬ (281474976710656 < Builtin.nextslicecap (n + m) cap * i.bytes) := by have := growslice_fits (need := n + m) (old := cap) (bytes := i.bytes) (by omega) hbytes; omega
      refine ⟨_, _, ?_, hgr.1, .inr ⟨rfl, hgr.2⟩, fun h => by omega⟩
      rcases hd with ⟨e', rfl⟩ | rfl <;> (simp [Builtin.append_, run_underlying ht, run_underlying ht', sizeOf, typeInfo, zeroValue, hi, hz, hx1, hroom, h63'', h48', Question.forced, hf, hfo, newRow, grownCap]; congr 2; apply Array.ext'; simp [List.append_assoc])
theorem Inv.row (h : Inv P G st w) (i : Nat) {v v' : Value} {n n' s e : Nat} {vs news : List Value} (hs : usz P e = some s) (hold : w.ownsRow G.base e s v n vs)
    (hi : (st i = none ∧ G.tl i = none ∧ v = .slice none 0 0) ∨ (st i = some (.tok n e) ∧ G.tl i = some v)) (hbx : G.bx i = none) (hown : w'.ownsRow G.base e s v' n' (vs ++ news))
    (hat2 : (v'.ownBlock = v.ownBlock ∧ w.grownBy w' v.ownBlock) ∨ (v'.ownBlock = some w.heap.size ∧ w.grownBy w' none)) (hlen : n ≤ n') (heq : st i = some (.tok n e) → n = n' → v' = v) :
    G.le { G with pr := fun b o => if some b = v'.ownBlock ∧ o < n' * s then (vs ++ news)[o]? else G.pr b o, tl := upd G.tl i (some v') } ∧
    Inv P { G with pr := fun b o => if some b = v'.ownBlock ∧ o < n' * s then (vs ++ news)[o]? else G.pr b o, tl := upd G.tl i (some v') } (upd st i (some (.tok n' e))) w' := by
  have hat : v'.ownBlock = v.ownBlock ∨ v'.ownBlock = some w.heap.size := hat2.imp (·.1) (·.1)
  have hg : w.grownBy w' v.ownBlock := by
    rcases hat2 with ⟨_, h⟩ | ⟨_, h⟩
    · exact h
    · exact ⟨h.os, h.tape, h.output, h.size, fun k hk _ => h.block k hk (by simp)⟩
  have hbv : ∀ b, v.ownBlock = some b → blk G st i = some b := fun b hb => by
    rcases hi with ⟨_, _, rfl⟩ | ⟨h1, h2⟩
    · simp [Value.ownBlock] at hb
    · unfold blk; rw [h1]; simp [h2, hb]
  have hpr : ∀ b o u, G.pr b o = some u → some b = v'.ownBlock → o < n' * s → (vs ++ news)[o]? = some u := fun b o u hu hb ho => by
    rcases hat with hat | hat
    · rw [hat] at hb
      obtain ⟨m, e', s', h1, h2, h3⟩ := h.free i b (hbv b hb.symm) o u hu
      rcases hi with ⟨_, _, rfl⟩ | ⟨k1, k2⟩
      · simp [Value.ownBlock] at hb
      · rw [k1] at h1
        obtain ⟨rfl, rfl⟩ : n = m ∧ e = e' := by simpa using h1
        rw [hs] at h2
        obtain rfl := Option.some.inj h2
        have hl := hold.1
        rw [List.getElem?_append_left (by omega)]
        have hc := h.prot b o u hu
        have : vs[o]? = some vs[o] := List.getElem?_eq_getElem (by omega)
        rw [own_cells hold hb.symm this] at hc
        rw [this]; exact hc
    · rw [hat] at hb
      obtain rfl := Option.some.inj hb
      have := h.pr_lt hu
      omega
  have hle : G.le { G with pr := fun b o => if some b = v'.ownBlock ∧ o < n' * s then (vs ++ news)[o]? else G.pr b o, tl := upd G.tl i (some v') } := by
    refine ⟨rfl, rfl, fun b o u hu => ?_, fun _ _ q => q, fun t u hu => ?_, fun b o hb => if_neg fun hc => by have := (hown.lt b hc.1.symm).1; omega⟩
    · show (if _ then _ else _) = _
      split
      · rename_i hc; exact hpr b o u hu hc.1 hc.2
      · exact hu
    · show ∃ v'', upd G.tl i (some v') t = some v'' ∧ _
      simp only [upd]
      split
      · rename_i e1; subst e1
        rcases hi with ⟨_, h2, _⟩ | ⟨h1st, h2⟩
        · rw [h2] at hu; cases hu
        · rw [h2] at hu; obtain rfl := Option.some.inj hu
          rw [vlen_own hold]
          exact ⟨v', rfl, by rw [vlen_own hown]; exact hlen, by rw [vlen_own hown]; exact heq (by assumption), fun hq => absurd hbx hq⟩
      · exact ⟨u, hu, Nat.le_refl _, fun _ => rfl, fun _ => rfl⟩
  have hblk' : ∀ b, blk { G with pr := fun b o => if some b = v'.ownBlock ∧ o < n' * s then (vs ++ news)[o]? else G.pr b o, tl := upd G.tl i (some v') } (upd st i (some (.tok n' e))) i = some b → v'.ownBlock = some b := fun b hb => by
    unfold blk at hb; simpa [upd] using hb
  have hne : ∀ j b, j ≠ i → blk G st j = some b → v'.ownBlock ≠ some b := fun j b hj hb hb' => by
    rcases hat with hat | hat
    · rw [hat] at hb'; exact hj (h.apart j i b hb (hbv b hb'))
    · rw [hat] at hb'; have := (h.blk_lt hb).1; have := Option.some.inj hb'; omega
  have hne0 : ∀ j b, j ≠ i → blk G st j = some b → some b ≠ v.ownBlock := fun j b hj hb hb' => hj (h.apart j i b hb (hbv b hb'.symm))
  refine ⟨hle, h.go hle ⟨hg.os, hg.tape, hg.output, hg.size, fun k hk => hg.block k (by have := h.size; omega) fun hv => ?_⟩ (fun b o u hu => ?_) i (fun j hj => by simp [upd, hj]) (fun _ _ => rfl) (fun j hj => by simp [upd, hj])
    (fun j b hj hb => hg.block b (h.blk_lt hb).1 (hne0 j b hj hb)) (fun ob hob => ?_) (fun j b hj hb hb' => hne j b hj hb (hblk' b hb')) (fun b hb o u hu => ?_) (fun j b hj hb o u hu => ?_)⟩
  · have := (hold.lt k hv.symm).1; omega
  · by_cases hc : some b = v'.ownBlock ∧ o < n' * s
    · have hu' : (vs ++ news)[o]? = some u := by
        have : (if some b = v'.ownBlock ∧ o < n' * s then (vs ++ news)[o]? else G.pr b o) = some u := hu
        rwa [if_pos hc] at this
      exact own_cells hown hc.1.symm hu'
    · have hu' : G.pr b o = some u := by
        have : (if some b = v'.ownBlock ∧ o < n' * s then (vs ++ news)[o]? else G.pr b o) = some u := hu
        rwa [if_neg hc] at this
      by_cases hb : some b = v.ownBlock
      · have hb2 := hbv b hb.symm
        obtain ⟨m, e', s', h1, h2, h3⟩ := h.free i b hb2 o u hu'
        rcases hi with ⟨_, _, rfl⟩ | ⟨k1, k2⟩
        · simp [Value.ownBlock] at hb
        · rw [k1] at h1
          obtain ⟨rfl, rfl⟩ : n = m ∧ e = e' := by simpa using h1
          rw [hs] at h2
          obtain rfl := Option.some.inj h2
          have hmul : n * s ≤ n' * s := Nat.mul_le_mul_right _ hlen
          rcases hat with hat | hat
          · exact absurd ⟨by rw [hat]; exact hb, by omega⟩ hc
          · -- the old row, left behind
            rcases hat2 with ⟨h1, _⟩ | ⟨_, hg2⟩
            · exact absurd ⟨by rw [h1]; exact hb, by omega⟩ hc
            · have hlt := h.pr_lt hu'
              rw [cell_same (hg2.block b hlt (by simp))]; exact h.prot b o u hu'
      · have hlt := h.pr_lt hu'
        rw [cell_same (hg.block b hlt hb)]; exact h.prot b o u hu'
  · simp [upd] at hob; subst hob
    exact ⟨v', s, _, by simp [upd], hs, hown, hbx⟩
  · have hb2 := hblk' b hb
    refine ⟨n', e, s, by simp [upd], hs, ?_⟩
    by_cases hc : some b = v'.ownBlock ∧ o < n' * s
    · exact hc.2
    · have hu' : G.pr b o = some u := by
        have : (if some b = v'.ownBlock ∧ o < n' * s then (vs ++ news)[o]? else G.pr b o) = some u := hu
        rwa [if_neg hc] at this
      rcases hat with hat | hat
      · rw [hat] at hb2
        obtain ⟨m, e', s', h1, h2, h3⟩ := h.free i b (hbv b hb2) o u hu'
        rcases hi with ⟨_, _, rfl⟩ | ⟨k1, k2⟩
        · simp [Value.ownBlock] at hb2
        · rw [k1] at h1
          obtain ⟨rfl, rfl⟩ : n = m ∧ e = e' := by simpa using h1
          rw [hs] at h2
          obtain rfl := Option.some.inj h2
          have hmul : n * s ≤ n' * s := Nat.mul_le_mul_right _ hlen
          omega
      · rw [hat] at hb2
        have := h.pr_lt hu'
        have := Option.some.inj hb2
        omega
  · have : (if some b = v'.ownBlock ∧ o < n' * s then (vs ++ news)[o]? else G.pr b o) = some u := hu
    rwa [if_neg (fun hc => hne j b hj hb hc.1.symm)] at this
end
end Go.Proofs.YthgmhlpjbednpaaDoor.Vm
set_option linter.unusedVariables false
set_option linter.unusedSimpArgs false
namespace Go.Proofs.YthgmhlpjbednpaaDoor.Vm
open Go.RowKit
section
variable (P : Program)
def GlOK (gl : Nat → Option V) (p : Pr) : Prop := ∀ g x, gl g = some x → RepP P p x (.pointer (some ⟨g, 0, none⟩))
structure TmR (G : Gh) (N : Nat) (tm : Nat → V) (a : Act) : Prop where
  sz : a.tmps.size = N
  df : a.defers = G.w0.2
  rep : ∀ t, Rep P G (tm t) (a.tmps.getD t undef)
end
def Same (G G' : Gh) (S : Nat → Prop) : Prop := ∀ k, ¬ S k → (G.bx k = none → G'.bx k = none) ∧ (G.tl k = none → G'.tl k = none)
def R8 (i0 : Nat) (k : Nat) : Prop := i0 ≤ k ∧ k < i0 + 8
def Fresh (G : Gh) (S : Nat → Prop) : Prop := ∀ k, S k → G.bx k = none ∧ G.tl k = none
section
variable {P : Program} {G G' : Gh} {st : St} {w w' : World} {a : Act} {tm : Nat → V} {N i0 : Nat} {o : Oper} {K : Act → World → Prop} {Q : Exit → Act → World → Prop} {E : Env}
theorem Same.refl (G : Gh) (S : Nat → Prop) : Same G G S := fun _ _ => ⟨id, id⟩
theorem Same.trans {G'' : Gh} {S : Nat → Prop} (h : Same G G' S) (k : Same G' G'' S) : Same G G'' S := fun i hi => ⟨fun q => (k i hi).1 ((h i hi).1 q), fun q => (k i hi).2 ((h i hi).2 q)⟩
theorem Same.mono {S S' : Nat → Prop} (h : Same G G' S) (hs : ∀ k, S k → S' k) : Same G G' S' := fun i hi => h i fun q => hi (hs i q)
theorem TmR.mono (h : TmR P G N tm a) (hg : G.le G') : TmR P G' N tm a := ⟨h.sz, by rw [hg.w0]; exact h.df, fun t => (h.rep t).mono hg⟩
theorem rep_of1 (p : Pr) (v : Value) : RepP P p (V.of1 v) v := by
  unfold V.of1
  split
  · exact .list (vs := []) rfl (Nat.le_refl _) (.inr ⟨rfl, rfl, rfl, rfl⟩) (by simp) (by simp [ones]) (by simp) .nil
  · exact .sc _
theorem rep_ofV (p : Pr) (v : Value) (h : ones (V.ofV v).cells = true) : RepP P p (V.ofV v) v := by
  unfold V.ofV at h ⊢
  split
  · rename_i cs
    have hc : cs = cs.toList.toArray := by simp
    rw [hc]
    simp only [V.cells] at h
    refine .agg (by simpa using h) (.of ?_)
    rw [show cs.toList.toArray.toList = cs.toList by simp]
    generalize cs.toList = l
    induction l with
    | nil => exact .nil
    | cons x l ih => exact .cons (rep_of1 p x) ih
  · exact rep_of1 p _
theorem ev_sound (hgl : GlOK P E.gl G.pr) (ht : TmR P G N tm a) {x : Operand} {v : V} (h : ev E tm x = some v) : Rep P G v (a.eval x) := by
  cases x with
  | tmp t => simp only [ev, Option.some.injEq] at h; subst h; exact ht.rep t
  | const u =>
    simp only [ev] at h
    split at h
    · rename_i h1; obtain rfl := Option.some.inj h; exact .pure (rep_ofV _ _ h1)
    · cases h
  | global g => exact .pure (hgl g v h)
  | func f => simp only [ev, Option.some.injEq] at h; subst h; exact .pure (.fn _)
theorem evs_sound (hgl : GlOK P E.gl G.pr) (ht : TmR P G N tm a) : ∀ {l : List Operand} {vs : List V}, l.mapM (ev E tm) = some vs → All2 (Rep P G) vs (l.map a.eval) := fun {l vs} h => by
  have h2 := mapM_some h
  clear h
  induction h2 with
  | nil => exact .nil
  | cons h _ ih => exact .cons (ev_sound hgl ht h) ih
theorem TmR.put (h : TmR P G N tm a) {dst : Option Tmp} (hd : dstOk N dst = true) {x : V} {v : Value} (hr : Rep P G x v) : TmR P G N (putT tm dst x) (a.put dst v) := by
  cases dst with
  | none => exact h
  | some d =>
    have hd' : d < a.tmps.size := by rw [h.sz]; simpa [dstOk] using hd
    refine ⟨by simp [Act.put, h.sz], h.df, fun t => ?_⟩
    simp only [putT, upd, Act.put]
    by_cases ht : t = d
    · subst ht
      rw [if_pos rfl]
      simpa [Array.getD, hd'] using hr
    · rw [if_neg ht]
      have := h.rep t
      simp only [Array.getD_eq_getD_getElem?] at this ⊢
      rw [Array.getElem?_setIfInBounds_ne (fun e => ht e.symm)]
      exact this
theorem wp_val {v : Value} (hr : (execOp a.eval o).run P w = .ok (.value v) w') (h : K (a.put o.dst v) w') : o.wp P a w K Q := by
  unfold Oper.wp; rw [hr]; exact h
theorem wp_skip0 (hr : (execOp a.eval o).run P w = .ok .skip w') (h : K (a.put o.dst undef) w') : o.wp P a w K Q := by
  unfold Oper.wp; rw [hr]; exact h
theorem usz_info {t : TypeId} {s : Nat} (h : usz P t = some s) : ∃ i, P.info? t = some i ∧ i.size = s := by
  unfold usz at h; rw [Option.map_eq_some_iff] at h; exact h
theorem run_size {t : TypeId} {s : Nat} (h : usz P t = some s) (w : World) : (sizeOf t).run P w = .ok s w := by
  obtain ⟨i, hi, rfl⟩ := usz_info h; simp [sizeOf, typeInfo, hi]
theorem run_isAgg {t : TypeId} {b : Bool} (h : uagg P t = some b) (w : World) : (isAgg t).run P w = .ok b w := by
  unfold uagg at h
  split at h
  · rename_i fs hu; cases h; simp [isAgg, run_underlying hu]
  · rename_i n e hu; cases h; simp [isAgg, run_underlying hu]
  · rename_i d h1 h2 hu; cases h
    simp only [isAgg, Sem.run_bind, run_underlying hu, Result.andThen_ok]
    cases d <;> first | rfl | (exfalso; first | exact h1 _ hu | exact h2 _ _ hu | exact h1 _ rfl | exact h2 _ _ rfl)
  · cases h
theorem run_zero {t : TypeId} {z : Value} (h : uzero P t = some z) (w : World) : (zeroValue t).run P w = .ok z w := by
  unfold uzero at h; rw [Option.bind_eq_some_iff] at h
  obtain ⟨i, hi, hz⟩ := h
  simp [zeroValue, typeInfo, hi, hz]
end
def Good (P : Program) (G : Gh) (st : St) (i0 nx' : Nat) (a : Act) (o : Oper) (K : Act → World → Prop) (Q : Exit → Act → World → Prop) : R → Prop
  | .val x δ _ => ∀ G' w' v, G.le G' → Same G G' (R8 i0) → Inv P G' (upds δ st) w' → Rep P G' x v → K (a.put o.dst v) w'
  | .pan x => ∀ G' w' v, G.le G' → Same G G' (R8 i0) → Inv P G' st w' → Rep P G' x v → Q (.panic [{ v, recovered := false }]) a w'
  | .big x st1 nx1 => ∀ G' w' v, G.le G' → Same G G' (fun k => nx' ≤ k ∧ k < nx1) → nx' ≤ nx1 → Inv P G' st1 w' → Rep P G' x v → K (a.put o.dst v) w'
  | .bpan x st1 nx1 => ∀ G' w' v, G.le G' → Same G G' (fun k => nx' ≤ k ∧ k < nx1) → nx' ≤ nx1 → Inv P G' st1 w' → Rep P G' x v → Q (.panic [{ v, recovered := false }]) a w'
section
variable {P : Program} {G G' : Gh} {st : St} {w w' : World} {a : Act} {tm : Nat → V} {N i0 nx' : Nat} {o : Oper} {K : Act → World → Prop} {Q : Exit → Act → World → Prop} {E : Env}
theorem good_same {x : V} {v : Value} {rd : List Nat} (hinv : Inv P G st w) (hK : Good P G st i0 nx' a o K Q (.val x [] rd)) (hr : (execOp a.eval o).run P w = .ok (.value v) w) (hv : Rep P G x v) : o.wp P a w K Q :=
  wp_val hr (hK G w v (.refl G) (.refl G _) hinv hv)
theorem cell_blk {b : Nat} {arr : Array Value} {T : TypeId} {fz : Nat × Nat} (h : w.heap[b]? = some (.cells arr T fz)) (off j : Nat) : w.cell? ((⟨b, off, none⟩ : Addr).add j) = arr[off + j]? := by
  have : (⟨b, off, none⟩ : Addr).add j = ⟨b, off + j, none⟩ := by unfold Addr.add; split <;> simp_all
  rw [this]; simp [World.cell?, h]
theorem cell_lies (hinv : Inv P G st w) {ad : Addr} {vs : List Value} (h : LiesAt G.pr ad vs) {j : Nat} {u : Value} (hu : vs[j]? = some u) : w.cell? (ad.add j) = some u := by
  obtain ⟨h1, h2⟩ := h j u hu
  have h3 := hinv.prot _ _ _ h2
  have : ad.add j = ⟨(ad.add j).block, (ad.add j).off, none⟩ := by rw [← h1]
  rw [this]; exact h3
theorem add_zero0 (ad : Addr) : ad.add 0 = ad := by simp [Addr.add]
theorem ld_loadVar {t : TypeId} {cs : List V} {off : Nat} {x : V} (h : ld P t cs off = some x) {vs : List Value} (hcs : All2 (Rep P G) cs vs) (h1 : ones cs = true) {ad : Addr} (hc : ∀ j u, vs[off + j]? = some u → w.cell? (ad.add j) = some u) :
    ∃ v, (loadVar t ad).run P w = .ok v w ∧ Rep P G x v := by
  unfold ld at h
  split at h
  · rename_i s hs ha
    split at h
    · rename_i hle
      obtain rfl := Option.some.inj h
      refine ⟨.agg ((vs.drop off).take s).toArray, ?_, .agg (ones_take (ones_drop h1 _) _) (.of ((hcs.drop off).take s))⟩
      have hl : ((vs.drop off).take s).length = s := by rw [List.length_take, List.length_drop, ← hcs.length]; omega
      have hr := run_loadCells_list (P := P) w ad ((vs.drop off).take s) (fun j u hu => by
        rw [List.getElem?_take] at hu
        split at hu
        · rw [List.getElem?_drop] at hu; exact hc j u hu
        · cases hu)
      rw [hl] at hr
      simp [loadVar, run_isAgg ha, run_size hs, hr]
    · cases h
  · rename_i s hs ha
    obtain ⟨v, hv, hr⟩ := hcs.get h
    refine ⟨v, ?_, hr⟩
    have := hc 0 v (by simpa using hv)
    rw [add_zero0] at this
    simp only [loadVar, Sem.run_bind, run_isAgg ha, Result.andThen_ok]
    simp [run_load, this]
  · cases h
theorem ld_part {t : TypeId} {cs : List V} {off : Nat} {x : V} (h : ld P t cs off = some x) {vs : List Value} (hcs : All2 (Rep P G) cs vs) (h1 : ones cs = true) :
    ∃ v, (part t vs.toArray off).run P w = .ok v w ∧ Rep P G x v := by
  unfold ld at h
  split at h
  · rename_i s hs ha
    split at h
    · rename_i hle
      obtain rfl := Option.some.inj h
      refine ⟨.agg ((vs.drop off).take s).toArray, ?_, .agg (ones_take (ones_drop h1 _) _) (.of ((hcs.drop off).take s))⟩
      simp only [part, Sem.run_bind, run_isAgg ha, Result.andThen_ok, if_true, run_size hs, Sem.run_pure]
      congr 2
      apply Array.ext'
      simp [List.take_drop]
    · cases h
  · rename_i s hs ha
    obtain ⟨v, hv, hr⟩ := hcs.get h
    refine ⟨v, ?_, hr⟩
    simp only [part, Sem.run_bind, run_isAgg ha, Result.andThen_ok, Bool.false_eq_true, if_false, List.getElem?_toArray, hv, Sem.run_pure]
  · cases h
theorem Rep.agg_inv {cs : List V} {v : Value} (h : Rep P G (.agg cs) v) : ∃ vs, v = .agg vs.toArray ∧ ones cs = true ∧ All2 (Rep P G) cs vs := by
  cases h with
  | pure h => cases h with | agg h1 h2 => exact ⟨_, rfl, h1, h2.reps⟩
  | agg h1 h2 => exact ⟨_, rfl, h1, h2.all2⟩
theorem Rep.tup_inv {cs : List V} {v : Value} (h : Rep P G (.tup cs) v) : ∃ vs, v = .tuple vs.toArray ∧ All2 (Rep P G) cs vs := by
  cases h with
  | pure h => cases h
  | tup h => exact ⟨_, rfl, h.all2⟩
theorem Rep.sc_inv {u v : Value} (h : Rep P G (.sc u) v) : v = u := by
  cases h with | pure h => cases h; rfl
theorem Rep.ptr_inv {id off : Nat} {v : Value} (h : Rep P G (.ptr id off) v) : ∃ b, v = .pointer (some ⟨b, off, none⟩) ∧ G.bx id = some b := by
  cases h with
  | pure h => cases h
  | ptr h => exact ⟨_, rfl, h⟩
theorem Rep.map_inv {id : Nat} {v : Value} (h : Rep P G (.map id) v) : ∃ b, v = .map (some b) ∧ G.bx id = some b := by
  cases h with
  | pure h => cases h
  | map h => exact ⟨_, rfl, h⟩
theorem Rep.cp_inv {cs : List V} {v : Value} (h : Rep P G (.cp cs) v) : ∃ ad vs, v = .pointer (some ad) ∧ ones cs = true ∧ LiesAt G.pr ad vs ∧ All2 (RepP P G.pr) cs vs := by
  cases h with | pure h => cases h with | cp h1 h2 h3 => exact ⟨_, _, rfl, h1, h2, h3.all2⟩
theorem Rep.fn_inv {f : Fn} {x y : List V} {v : Value} (h : Rep P G (.fn f x y) v) : ∃ us ws, v = .func f us.toArray ws.toArray ∧ All2 (Rep P G) x us ∧ All2 (Rep P G) y ws := by
  cases h with
  | pure h => cases h; exact ⟨[], [], rfl, .nil, .nil⟩
  | fn h1 h2 => exact ⟨_, _, rfl, h1.all2, h2.all2⟩
theorem Rep.list_inv {e : TypeId} {xs : List V} {r : Nat} {v : Value} (h : Rep P G (.list e xs r) v) : ∃ A c, v = .slice A xs.length c ∧ RepP P G.pr (.list e xs 0) (.slice A xs.length c) ∧ (r = 1 → xs = [] ∧ A = none ∧ c = 0) ∧ (r = 0 ∨ r = 1 ∨ 8 ≤ r ∧ ∃ v0, G.tl r = some v0 ∧ (xs.length = vlen v0 → v0 = .slice A xs.length c)) := by
  cases h with
  | pure h =>
    cases h with
    | list h1 h2 h3 h4 h5 h6 h7 =>
      subst h1
      refine ⟨_, _, rfl, .list rfl h2 (.inl rfl) h4 h5 h6 h7, fun hr => ?_, ?_⟩
      · rcases h3 with h3 | ⟨_, h3, h8, h9⟩
        · omega
        · exact ⟨List.eq_nil_of_length_eq_zero h8, h3, h9⟩
      · rcases h3 with h3 | h3
        · exact .inl h3
        · exact .inr (.inl h3.1)
  | tok h1 h2 h3 h4 h5 =>
    have h6 := h2
    cases h2 with
    | list k1 => subst k1; exact ⟨_, _, rfl, h6, fun e => by omega, .inr (.inr ⟨h1, _, h3, h5⟩)⟩
theorem op_load (hgl : GlOK P E.gl G.pr) (hinv : Inv P G st w) (ht : TmR P G N tm a) {t : TypeId} {x : Operand} {r : R} (ho : o.op = .load t x) (hx : xop0 P E tm st i0 nx' o = some r) (hK : Good P G st i0 nx' a o K Q r) : o.wp P a w K Q := by
  simp only [xop0, ho, Option.bind_eq_some_iff] at hx
  obtain ⟨x0, h0, hx⟩ := hx
  have hr := ev_sound hgl ht h0
  split at hx
  · rename_i id off
    split at hx
    · rename_i cs hs
      rw [Option.map_eq_some_iff] at hx
      obtain ⟨y, hy, rfl⟩ := hx
      obtain ⟨b, hv, hb⟩ := hr.ptr_inv
      obtain ⟨b', arr, T, h1, h2, h3, h4, h5⟩ := hinv.objs id _ hs
      rw [hb] at h1
      obtain rfl := Option.some.inj h1
      obtain ⟨v, hv2, hrep⟩ := ld_loadVar (w := w) hy h5 h4 (ad := ⟨b, off, none⟩) (fun j u hu => by rw [cell_blk h3]; simpa using hu)
      refine good_same hinv hK (v := v) ?_ hrep
      simp [execOp, ho, hv, Instr.loadAt, Instr.sureAddr, hv2]
    · cases hx
  · rename_i cs
    rw [Option.map_eq_some_iff] at hx
    obtain ⟨y, hy, rfl⟩ := hx
    obtain ⟨ad, vs, hv, h1, h2, h3⟩ := hr.cp_inv
    obtain ⟨v, hv2, hrep⟩ := ld_loadVar (G := G) (w := w) hy (h3.mono fun _ _ => .pure) h1 (ad := ad) (fun j u hu => cell_lies hinv h2 (by simpa using hu))
    refine good_same hinv hK (v := v) ?_ hrep
    simp [execOp, ho, hv, Instr.loadAt, Instr.sureAddr, hv2]
  · cases hx
theorem op_move (hgl : GlOK P E.gl G.pr) (hinv : Inv P G st w) (ht : TmR P G N tm a) {x : Operand} {r : R} (ho : o.op = .move x ∨ o.op = .assign x) (hx : xop0 P E tm st i0 nx' o = some r) (hK : Good P G st i0 nx' a o K Q r) : o.wp P a w K Q := by
  rcases ho with ho | ho <;>
  · simp only [xop0, ho, Option.map_eq_some_iff] at hx
    obtain ⟨x0, h0, rfl⟩ := hx
    exact good_same hinv hK (v := a.eval x) (by simp [execOp, ho]) (ev_sound hgl ht h0)
theorem op_pick (hgl : GlOK P E.gl G.pr) (hinv : Inv P G st w) (ht : TmR P G N tm a) {c x y : Operand} {r : R} (ho : o.op = .pick c x y) (hx : xop0 P E tm st i0 nx' o = some r) (hK : Good P G st i0 nx' a o K Q r) : o.wp P a w K Q := by
  simp only [xop0, ho, Option.bind_eq_some_iff] at hx
  obtain ⟨c0, hc, x0, h0, y0, h1, hx⟩ := hx
  split at hx
  · rename_i b
    obtain rfl := Option.some.inj hx
    have hcv := (ev_sound hgl ht hc).sc_inv
    refine good_same hinv hK (v := if b then a.eval x else a.eval y) (by simp [execOp, ho, hcv, asBool]) ?_
    cases b
    · exact ev_sound hgl ht h1
    · exact ev_sound hgl ht h0
  · cases hx
theorem bx_none_st (hinv : Inv P G st w) {i : Nat} (h1 : G.bx i = none) (h2 : G.tl i = none) : st i = none := by
  cases hs : st i with
  | none => rfl
  | some ob =>
    have := hinv.objs i ob hs
    cases ob with
    | cells => obtain ⟨b, _, _, h, _⟩ := this; rw [h1] at h; cases h
    | map => obtain ⟨b, _, _, h, _⟩ := this; rw [h1] at h; cases h
    | iter => obtain ⟨b, h, _⟩ := this; rw [h1] at h; cases h
    | miter => obtain ⟨b, _, _, _, h, _⟩ := this; rw [h1] at h; cases h
    | tok => obtain ⟨b, _, _, h, _⟩ := this; rw [h2] at h; cases h
    | row => obtain ⟨v, _, _, h, _⟩ := this; rw [h2] at h; cases h
    | frz => obtain ⟨b, _, h, _⟩ := this; rw [h1] at h; cases h
theorem same_bx {i : Nat} (hi : R8 i0 i) (b : Nat) : Same G { G with bx := upd G.bx i (some b) } (R8 i0) := fun k hk => ⟨fun h => by
  have : k ≠ i := fun e => hk (by subst e; exact hi)
  simpa [upd, this] using h, id⟩
theorem r8_self (i0 : Nat) : R8 i0 i0 := ⟨Nat.le_refl _, by omega⟩
theorem newVar_good (hinv : Inv P G st w) (hfr : Fresh G (R8 i0)) {e : TypeId} {x : V} {v : Value} (hv : Rep P G x v) (h1 : ones x.cells = true) (hK : Good P G st i0 nx' a o K Q (.val (.ptr i0 0) [(i0, some (.cells x.cells))] []))
    (hr : (execOp a.eval o).run P w = .ok (.value (.pointer (some ⟨w.heap.size, 0, none⟩))) (w.alloc (.cells v.cells e))) : o.wp P a w K Q := by
  have hf := hfr i0 (r8_self i0)
  have hle : G.le { G with bx := upd G.bx i0 (some w.heap.size) } := ⟨rfl, rfl, fun _ _ _ q => q, fun j b q => by
    simp only [upd]; split
    · rename_i e; subst e; rw [hf.1] at q; cases q
    · exact q, fun _ v q => ⟨v, q, Nat.le_refl _, fun _ => rfl, fun _ => rfl⟩, fun _ _ _ => rfl⟩
  have hcells : All2 (Rep P G) x.cells v.cells.toList := by
    cases x with
    | agg cs => obtain ⟨vs, rfl, _, h⟩ := hv.agg_inv; simpa [V.cells, Value.cells] using h
    | sc u => have := hv.sc_inv; subst this; have h2 : v.oneCell' = true := by simpa [ones, V.cells, V.one] using h1
              have : v.cells.toList = [v] := by cases v <;> first | rfl | (simp [Value.oneCell'] at h2)
              rw [this]; exact .cons hv .nil
    | tup => simp [ones, V.cells, V.one] at h1
    | _ =>
      have h2 := hv.one rfl
      have : v.cells.toList = [v] := by cases v <;> first | rfl | (simp [Value.oneCell'] at h2)
      rw [this]; exact .cons hv .nil
  obtain ⟨hg, hi⟩ := hinv.new (.cells v.cells e) i0 (.cells x.cells) hf.1 (bx_none_st hinv hf.1 hf.2) (by simp) ⟨w.heap.size, v.cells, e, by simp [upd], hinv.size, heap_alloc_new w _, h1, hcells.rep_mono hle⟩
  exact wp_val hr (hK _ _ _ hg (same_bx (r8_self i0) _) hi (.ptr (by simp [upd])))
theorem op_alloc (hinv : Inv P G st w) (hfr : Fresh G (R8 i0)) {e : TypeId} {r : R} (ho : o.op = .alloc e) (hx : xop0 P E tm st i0 nx' o = some r) (hK : Good P G st i0 nx' a o K Q r) : o.wp P a w K Q := by
  simp only [xop0, ho, Option.bind_eq_some_iff] at hx
  obtain ⟨z, hz, hx⟩ := hx
  split at hx
  · rename_i h1
    obtain rfl := Option.some.inj hx
    refine newVar_good hinv hfr (e := e) (x := V.ofV z) (v := z) (.pure (rep_ofV _ _ h1)) h1 hK ?_
    simp [execOp, ho, Instr.alloc, run_zero hz, newVar, newRow]
  · cases hx
theorem op_box (hgl : GlOK P E.gl G.pr) (hinv : Inv P G st w) (ht : TmR P G N tm a) (hfr : Fresh G (R8 i0)) {e : TypeId} {x : Operand} {r : R} (ho : o.op = .box e x) (hx : xop0 P E tm st i0 nx' o = some r) (hK : Good P G st i0 nx' a o K Q r) : o.wp P a w K Q := by
  simp only [xop0, ho, Option.bind_eq_some_iff] at hx
  obtain ⟨x0, h0, hx⟩ := hx
  split at hx
  · rename_i h1
    obtain rfl := Option.some.inj hx
    refine newVar_good hinv hfr (e := e) (ev_sound hgl ht h0) h1 hK ?_
    simp [execOp, ho, Instr.box, newVar, newRow]
  · cases hx
end
end Go.Proofs.YthgmhlpjbednpaaDoor.Vm
set_option linter.unusedVariables false
set_option linter.unusedSimpArgs false
namespace Go.Proofs.YthgmhlpjbednpaaDoor.Vm
open Go.RowKit
section
variable {P : Program} {G G' : Gh} {st : St} {w w' : World} {a : Act} {tm : Nat → V} {N i0 nx' : Nat} {o : Oper} {K : Act → World → Prop} {Q : Exit → Act → World → Prop} {E : Env}
theorem rep_cells {x : V} {v : Value} (hv : Rep P G x v) (h1 : ones x.cells = true) : All2 (Rep P G) x.cells v.cells.toList := by
  cases x with
  | agg cs => obtain ⟨vs, rfl, _, h⟩ := hv.agg_inv; simpa [V.cells, Value.cells] using h
  | sc u => have := hv.sc_inv; subst this; have h2 : v.oneCell' = true := by simpa [ones, V.cells, V.one] using h1
            have : v.cells.toList = [v] := by cases v <;> first | rfl | (simp [Value.oneCell'] at h2)
            rw [this]; exact .cons hv .nil
  | tup => simp [ones, V.cells, V.one] at h1
  | _ =>
    have h2 := hv.one rfl
    have : v.cells.toList = [v] := by cases v <;> first | rfl | (simp [Value.oneCell'] at h2)
    rw [this]; exact .cons hv .nil
theorem repP_cells {p : Pr} {x : V} {v : Value} (hv : RepP P p x v) (h1 : ones x.cells = true) : All2 (RepP P p) x.cells v.cells.toList := by
  cases hv with
  | agg h2 h3 => simpa [V.cells, Value.cells] using h3.all2
  | sc u => have h2 : v.oneCell' = true := by simpa [ones, V.cells, V.one] using h1
            have : v.cells.toList = [v] := by cases v <;> first | rfl | (simp [Value.oneCell'] at h2)
            rw [this]; exact .cons (.sc _) .nil
  | list h2 h3 h4 h5 h6 h7 h8 => exact .cons (.list h2 h3 h4 h5 h6 h7 h8) .nil
  | cp h2 h3 h4 => exact .cons (.cp h2 h3 h4) .nil
  | fn f => exact .cons (.fn f) .nil
theorem ones_vals {xs : List V} {vs : List Value} (h : All2 (Rep P G) xs vs) (h1 : ones xs = true) : ∀ u ∈ vs, u.oneCell' = true := fun u hu => by
  obtain ⟨i, hi⟩ := List.getElem?_of_mem hu
  obtain ⟨x, hx, hr⟩ := h.get' hi
  exact hr.one (ones_get h1 hx)
theorem op_store (hgl : GlOK P E.gl G.pr) (hinv : Inv P G st w) (ht : TmR P G N tm a) {t : TypeId} {x y : Operand} {r : R} (ho : o.op = .store t x y) (hx : xop0 P E tm st i0 nx' o = some r) (hK : Good P G st i0 nx' a o K Q r) : o.wp P a w K Q := by
  simp only [xop0, ho, Option.bind_eq_some_iff] at hx
  obtain ⟨x0, h0, y0, h1, hx⟩ := hx
  split at hx
  · rename_i id off
    split at hx
    · rename_i cs hs
      split at hx
      · rename_i hc
        obtain rfl := Option.some.inj hx
        obtain ⟨hc1, hc2, hc3⟩ := hc
        obtain ⟨b, hv, hb⟩ := (ev_sound hgl ht h0).ptr_inv
        obtain ⟨b', arr, T, g1, g2, g3, g4, g5⟩ := hinv.objs id _ hs
        rw [hb] at g1
        obtain rfl := Option.some.inj g1
        have hy := rep_cells (ev_sound hgl ht h1) hc3
        have hl := hy.length
        have hla := g5.length
        have hst := run_storeCells_at P b off T (a.eval y).cells.toList 0 arr w g3 (by simp at hl hla ⊢; omega) (ones_vals hy hc3)
        simp only [Nat.add_zero, ← hl] at hst
        refine wp_skip0 (w' := w.setRow b (arr.toList.take off ++ (a.eval y).cells.toList ++ arr.toList.drop (off + y0.cells.length)).toArray) ?_ (hK G _ undef (.refl G) (.refl G _) ?_ (.pure (.sc _)))
        · have hsz : ((a.eval y).cells.size) = y0.cells.length := by simpa using hl.symm
          simp [execOp, ho, hv, Instr.storeAt, Instr.sureAddr, storeVar, run_size hc1, hsz, hst]
        · refine hinv.set id _ _ b hs hb (by simp) (by simp) g2 (fun k hk => setRow_other w b k _ hk) (by simp) rfl rfl rfl ⟨b, _, T, hb, g2, setRow_heap w b arr _ T (0, 0) g3, ?_, ?_⟩
          · rw [ones_append, ones_append, ones_take g4, hc3, ones_drop g4]; rfl
          · exact ((g5.take off).append hy).append (g5.drop _)
      · cases hx
    · cases hx
  · cases hx
theorem op_nilCheck (hgl : GlOK P E.gl G.pr) (hinv : Inv P G st w) (ht : TmR P G N tm a) {x : Operand} {r : R} (ho : o.op = .nilCheck x) (hx : xop0 P E tm st i0 nx' o = some r) (hK : Good P G st i0 nx' a o K Q r) : o.wp P a w K Q := by
  simp only [xop0, ho, Option.bind_eq_some_iff] at hx
  obtain ⟨x0, h0, hx⟩ := hx
  have hr := ev_sound hgl ht h0
  split at hx
  · obtain rfl := Option.some.inj hx
    obtain ⟨b, hv, hb⟩ := hr.ptr_inv
    exact good_same hinv hK (v := a.eval x) (by simp [execOp, ho, hv]) hr
  · obtain rfl := Option.some.inj hx
    obtain ⟨ad, vs, hv, _⟩ := hr.cp_inv
    exact good_same hinv hK (v := a.eval x) (by simp [execOp, ho, hv]) hr
  · obtain rfl := Option.some.inj hx
    obtain ⟨us, ws, hv, _⟩ := hr.fn_inv
    exact good_same hinv hK (v := a.eval x) (by simp [execOp, ho, hv]) hr
  · cases hx
theorem rep_val1 {x : V} {u v : Value} (h : Rep P G x v) (hu : x.val1? = some u) : v = u := by
  cases x <;> simp [V.val1?] at hu
  subst hu; exact h.sc_inv
theorem vals_eq {xs : List V} {us vs : List Value} (h : All2 (Rep P G) xs vs) (hu : xs.mapM V.val1? = some us) : vs = us := by
  have h2 := mapM_some hu
  clear hu
  induction h2 generalizing vs with
  | nil => cases h; rfl
  | cons h3 _ ih => cases h with | cons k1 k2 => rw [rep_val1 k1 h3, ih k2]
theorem rep_val {x : V} {u v : Value} (h : Rep P G x v) (hu : x.val? = some u) : v = u := by
  unfold V.val? at hu
  split at hu
  · cases hu; exact h.sc_inv
  · rw [Option.map_eq_some_iff] at hu
    obtain ⟨l, hl, rfl⟩ := hu
    obtain ⟨vs, rfl, _, hv⟩ := h.agg_inv
    rw [vals_eq hv hl]
  · cases hu
theorem run_ptr_nil0 {t el : TypeId} (hu : P.underlying t = some (.pointer el)) (ad : Addr) (w : World) (d : Nat) : (Op.equalIn (d + 1) t (.pointer (some ad)) (.pointer none)).run P w = .ok false w := by
  simp [Op.equalIn, run_underlying hu]
theorem run_ptr_nil {t el : TypeId} (hu : P.underlying t = some (.pointer el)) (ad : Addr) (w : World) : (Op.equal t (.pointer (some ad)) (.pointer none)).run P w = .ok false w := run_ptr_nil0 hu ad w 9999
theorem niln_sound {x : V} {v : Value} {q : Bool} (hr : Rep P G x v) (h : niln x = some q) : ∃ A n c, v = .slice A n c ∧ (q = true → A = none) ∧ (q = false → ∃ ad, A = some ad) := by
  unfold niln at h
  split at h
  · simp only [Option.some.injEq] at h; subst h
    obtain ⟨A, c, hv, _, h1, _⟩ := hr.list_inv
    exact ⟨A, _, c, hv, fun _ => (h1 rfl).2.1, nofun⟩
  · rename_i e y ys r
    split at h
    · cases h
    · rename_i hc
      simp only [Option.some.injEq] at h; subst h
      obtain ⟨A, c, hv, h0, _, _⟩ := hr.list_inv
      refine ⟨A, _, c, hv, nofun, fun _ => ?_⟩
      cases h0 with
      | list h1 h2 h3 h4 h5 h6 h7 =>
        obtain ⟨ad, ha, _⟩ := h6 (by
          intro hv
          subst hv
          have := h7.all2.length
          simp at this
          exact hc (by simp [this.1]))
        exact ⟨ad, ha⟩
  · rename_i e g s id off n
    simp only [Option.some.injEq] at h; subst h
    cases hr with
    | pure h => cases h
    | sl _ _ _ _ _ _ _ h8 => exact ⟨_, _, _, rfl, nofun, fun _ => ⟨_, h8 (by omega)⟩⟩
  · cases h
theorem run_sl_nil0 {t el : TypeId} (hu : P.underlying t = some (.slice el)) (A : Option Addr) (n c : Nat) (w : World) (d : Nat) : (Op.equalIn (d + 1) t (.slice A n c) (.slice none 0 0)).run P w = .ok A.isNone w := by
  cases A <;> simp [Op.equalIn, run_underlying hu]
theorem run_sl_nil {t el : TypeId} (hu : P.underlying t = some (.slice el)) (A : Option Addr) (n c : Nat) (w : World) : (Op.equal t (.slice A n c) (.slice none 0 0)).run P w = .ok A.isNone w := run_sl_nil0 hu A n c w 9999
theorem op_binOp (hgl : GlOK P E.gl G.pr) (hinv : Inv P G st w) (ht : TmR P G N tm a) {b : BinOp} {t yt : TypeId} {x y : Operand} {r : R} (ho : o.op = .binOp b t x y yt) (hx : xop0 P E tm st i0 nx' o = some r) (hK : Good P G st i0 nx' a o K Q r) : o.wp P a w K Q := by
  simp only [xop0, ho, Option.bind_eq_some_iff] at hx
  obtain ⟨x0, h0, y0, h1, hx⟩ := hx
  have hr := ev_sound hgl ht h0
  have hr1 := ev_sound hgl ht h1
  split at hx
  · obtain ⟨bb, hv, hb⟩ := hr.ptr_inv
    have hv1 := hr1.sc_inv
    split at hx
    · rename_i el hu
      obtain rfl := Option.some.inj hx
      exact good_same hinv hK (v := .bool false) (by simp [execOp, ho, hv, hv1, eqGuard, binOp, run_ptr_nil hu]) (.pure (.sc _))
    · rename_i el hu
      obtain rfl := Option.some.inj hx
      exact good_same hinv hK (v := .bool true) (by simp [execOp, ho, hv, hv1, eqGuard, binOp, run_ptr_nil hu]) (.pure (.sc _))
    · cases hx
  · obtain ⟨A1, c1, hv1, _, k1, _⟩ := hr1.list_inv
    obtain ⟨_, rfl, rfl⟩ := k1 rfl
    split at hx
    · rename_i el hu
      rw [Option.map_eq_some_iff] at hx
      obtain ⟨q, hq, rfl⟩ := hx
      obtain ⟨A, n, c, hv, q1, q2⟩ := niln_sound hr hq
      refine good_same hinv hK (v := .bool q) ?_ (.pure (.sc _))
      have hq' : A.isNone = q := by
        cases q with
        | true => rw [q1 rfl]; rfl
        | false => obtain ⟨ad, had⟩ := q2 rfl; rw [had]; rfl
      simp [execOp, ho, hv, hv1, eqGuard, binOp, run_sl_nil hu, hq']
    · rename_i el hu
      rw [Option.map_eq_some_iff] at hx
      obtain ⟨q, hq, rfl⟩ := hx
      obtain ⟨A, n, c, hv, q1, q2⟩ := niln_sound hr hq
      refine good_same hinv hK (v := .bool !q) ?_ (.pure (.sc _))
      have hq' : A.isNone = q := by
        cases q with
        | true => rw [q1 rfl]; rfl
        | false => obtain ⟨ad, had⟩ := q2 rfl; rw [had]; rfl
      simp [execOp, ho, hv, hv1, eqGuard, binOp, run_sl_nil hu, hq']
    · cases hx
  · rw [Option.bind_eq_some_iff] at hx
    obtain ⟨u, hu, hx⟩ := hx
    rw [Option.bind_eq_some_iff] at hx
    obtain ⟨v, hv, hx⟩ := hx
    rw [Option.map_eq_some_iff] at hx
    obtain ⟨z, hz, rfl⟩ := hx
    have e1 := rep_val hr hu
    have e2 := rep_val hr1 hv
    have hrun := reck_run _ hz w
    refine good_same hinv hK (v := z) ?_ (.pure (.sc _))
    simp only [execOp, ho, e1, e2]
    rw [Sem.run_bind, hrun]
    rfl
theorem op_unOp (hgl : GlOK P E.gl G.pr) (hinv : Inv P G st w) (ht : TmR P G N tm a) {b : UnOp} {t : TypeId} {x : Operand} {r : R} (ho : o.op = .unOp b t x) (hx : xop0 P E tm st i0 nx' o = some r) (hK : Good P G st i0 nx' a o K Q r) : o.wp P a w K Q := by
  simp only [xop0, ho, Option.bind_eq_some_iff, Option.map_eq_some_iff] at hx
  obtain ⟨x0, h0, u, hu, z, hz, rfl⟩ := hx
  have e1 := rep_val1 (ev_sound hgl ht h0) hu
  have hrun := reck_run _ hz w
  refine good_same hinv hK (v := z) ?_ (.pure (.sc _))
  simp only [execOp, ho, e1]
  rw [Sem.run_bind, hrun]
  rfl
theorem op_makeFunc (hgl : GlOK P E.gl G.pr) (hinv : Inv P G st w) (ht : TmR P G N tm a) {f : Fn} {x y : Array Operand} {r : R} (ho : o.op = .makeFunc f x y) (hx : xop0 P E tm st i0 nx' o = some r) (hK : Good P G st i0 nx' a o K Q r) : o.wp P a w K Q := by
  simp only [xop0, ho, Option.bind_eq_some_iff] at hx
  obtain ⟨x0, h0, y0, h1, hx⟩ := hx
  obtain rfl := Option.some.inj hx
  refine good_same hinv hK (v := .func f (x.map a.eval) (y.map a.eval)) (by simp [execOp, ho, Instr.makeFunc]) ?_
  have e1 := evs_sound hgl ht h0
  have e2 := evs_sound hgl ht h1
  have h3 : x.map a.eval = (x.toList.map a.eval).toArray := by apply Array.ext'; simp
  have h4 : y.map a.eval = (y.toList.map a.eval).toArray := by apply Array.ext'; simp
  rw [h3, h4]
  exact .fn (.of e1) (.of e2)
theorem op_makeMap (hinv : Inv P G st w) (hfr : Fresh G (R8 i0)) {t : TypeId} {r : R} (ho : o.op = .makeMap t none) (hx : xop0 P E tm st i0 nx' o = some r) (hK : Good P G st i0 nx' a o K Q r) : o.wp P a w K Q := by
  simp only [xop0, ho] at hx
  obtain rfl := Option.some.inj hx
  have hf := hfr i0 (r8_self i0)
  obtain ⟨hg, hi⟩ := hinv.new (.map #[] 0) i0 (.map [] true) hf.1 (bx_none_st hinv hf.1 hf.2) (by simp) ⟨w.heap.size, #[], 0, by simp [upd], hinv.size, heap_alloc_new w _, .nil, fun _ => ⟨rfl, fun j m h => by simp at h⟩⟩
  exact wp_val (v := .map (some w.heap.size)) (by simp [execOp, ho, Instr.makeMap]) (hK _ _ _ hg (same_bx (r8_self i0) _) hi (.map (by simp [upd])))
theorem add_add0 (ad : Addr) (i j : Nat) : (ad.add i).add j = ad.add (i + j) := by
  unfold Addr.add
  by_cases hi : i = 0 <;> by_cases hj : j = 0 <;> simp [hi, hj, Nat.add_assoc]
theorem LiesAt.drop {p : Pr} {ad : Addr} {vs : List Value} (h : LiesAt p ad vs) (n : Nat) : LiesAt p (ad.add n) (vs.drop n) := fun j u hu => by
  rw [add_add0]
  exact h _ u (by rwa [List.getElem?_drop] at hu)
theorem LiesAt.take {p : Pr} {ad : Addr} {vs : List Value} (h : LiesAt p ad vs) (n : Nat) : LiesAt p ad (vs.take n) := fun j u hu => by
  rw [List.getElem?_take] at hu
  split at hu
  · exact h _ u hu
  · cases hu
theorem blk_add (b off n : Nat) : (⟨b, off, none⟩ : Addr).add n = ⟨b, off + n, none⟩ := by unfold Addr.add; split <;> simp_all
theorem op_fieldAddr (hgl : GlOK P E.gl G.pr) (hinv : Inv P G st w) (ht : TmR P G N tm a) {t : TypeId} {x : Operand} {f : Nat} {r : R} (ho : o.op = .fieldAddr t x f) (hx : xop0 P E tm st i0 nx' o = some r) (hK : Good P G st i0 nx' a o K Q r) : o.wp P a w K Q := by
  simp only [xop0, ho, Option.bind_eq_some_iff] at hx
  obtain ⟨x0, h0, hx⟩ := hx
  have hr := ev_sound hgl ht h0
  split at hx
  · rename_i fs hfs
    rw [Option.bind_eq_some_iff] at hx
    obtain ⟨fd, hfd, hx⟩ := hx
    split at hx
    · rename_i n hn
      have hpl : ∀ ad : Addr, (fieldPlace ad fd).run P w = .ok (ad.add fd.offset) w := fun ad => by simp [fieldPlace, run_size hn]
      split at hx
      · obtain rfl := Option.some.inj hx
        obtain ⟨b, hv, hb⟩ := hr.ptr_inv
        exact good_same hinv hK (v := .pointer (some _)) (by simp [execOp, ho, hv, Instr.fieldAt, run_underlying hfs, hfd, Instr.sureAddr, hpl, blk_add]) (.ptr hb)
      · split at hx
        · obtain rfl := Option.some.inj hx
          obtain ⟨ad, vs, hv, h1, h2, h3⟩ := hr.cp_inv
          exact good_same hinv hK (v := .pointer (some (ad.add fd.offset))) (by simp [execOp, ho, hv, Instr.fieldAt, run_underlying hfs, hfd, Instr.sureAddr, hpl]) (.pure (.cp (ones_drop h1 _) (h2.drop _) (.of (h3.drop _))))
        · cases hx
      · cases hx
    · cases hx
  · cases hx
theorem op_field (hgl : GlOK P E.gl G.pr) (hinv : Inv P G st w) (ht : TmR P G N tm a) {t : TypeId} {x : Operand} {f : Nat} {r : R} (ho : o.op = .field t x f) (hx : xop0 P E tm st i0 nx' o = some r) (hK : Good P G st i0 nx' a o K Q r) : o.wp P a w K Q := by
  simp only [xop0, ho, Option.bind_eq_some_iff] at hx
  obtain ⟨x0, h0, hx⟩ := hx
  have hr := ev_sound hgl ht h0
  split at hx
  · rename_i cs fs hfs
    rw [Option.bind_eq_some_iff] at hx
    obtain ⟨fd, hfd, hx⟩ := hx
    rw [Option.map_eq_some_iff] at hx
    obtain ⟨y, hy, rfl⟩ := hx
    obtain ⟨vs, hv, h1, h2⟩ := hr.agg_inv
    obtain ⟨u, hu, hrep⟩ := ld_part (w := w) hy h2 h1
    exact good_same hinv hK (v := u) (by simp [execOp, ho, hv, Instr.field, run_underlying hfs, hfd, asAgg, hu]) hrep
  · cases hx
theorem flat_get {s : Nat} : ∀ {xs : List V} {i : Nat} {x : V}, (∀ y ∈ xs, y.cells.length = s) → xs[i]? = some x → ((xs.flatMap V.cells).drop (i * s)).take s = x.cells ∧ i * s + s ≤ (xs.flatMap V.cells).length
  | [], i, x, _, h => by simp at h
  | y :: ys, 0, x, hl, h => by
    simp at h; subst h
    have := hl y (by simp)
    rw [List.flatMap_cons, Nat.zero_mul, List.drop_zero, ← this, List.take_left]
    exact ⟨rfl, by simp⟩
  | y :: ys, i + 1, x, hl, h => by
    obtain ⟨h1, h2⟩ := flat_get (xs := ys) (i := i) (fun z hz => hl z (by simp [hz])) (by simpa using h)
    have := hl y (by simp)
    rw [List.flatMap_cons, Nat.succ_mul, Nat.add_comm (i * s) s, ← this, List.drop_append, List.length_append]
    simp only [Nat.add_sub_cancel_left, Nat.add_comm]
    rw [List.drop_eq_nil_of_le (by omega), List.nil_append, this]
    exact ⟨h1, by omega⟩
theorem op_extract (hgl : GlOK P E.gl G.pr) (hinv : Inv P G st w) (ht : TmR P G N tm a) {x : Operand} {i : Nat} {r : R} (ho : o.op = .extract x i) (hx : xop0 P E tm st i0 nx' o = some r) (hK : Good P G st i0 nx' a o K Q r) : o.wp P a w K Q := by
  simp only [xop0, ho, Option.bind_eq_some_iff] at hx
  obtain ⟨x0, h0, hx⟩ := hx
  split at hx
  · rw [Option.map_eq_some_iff] at hx
    obtain ⟨y, hy, rfl⟩ := hx
    obtain ⟨vs, hv, h2⟩ := (ev_sound hgl ht h0).tup_inv
    obtain ⟨u, hu, hr⟩ := h2.get hy
    exact good_same hinv hK (v := u) (by simp [execOp, ho, hv, Instr.extract, hu]) hr
  · cases hx
theorem op_makeInterface (hgl : GlOK P E.gl G.pr) (hinv : Inv P G st w) (ht : TmR P G N tm a) {t : TypeId} {x : Operand} {r : R} (ho : o.op = .makeInterface t x) (hx : xop0 P E tm st i0 nx' o = some r) (hK : Good P G st i0 nx' a o K Q r) : o.wp P a w K Q := by
  simp only [xop0, ho, Option.bind_eq_some_iff] at hx
  obtain ⟨x0, h0, hx⟩ := hx
  have hr := ev_sound hgl ht h0
  split at hx
  · cases hx
  · cases hx
  · rename_i h1 h2
    obtain rfl := Option.some.inj hx
    refine good_same hinv hK (v := .iface t (a.eval x)) ?_ (.ifc hr)
    cases hu : P.underlying t with
    | none => exact absurd hu h2
    | some d =>
      simp only [execOp, ho, Instr.makeInterface, Sem.run_bind, run_underlying hu, Result.andThen_ok]
      cases d <;> first | rfl | exact absurd hu (h1 _)
theorem Rep.ifc_inv {t : TypeId} {x : V} {v : Value} (h : Rep P G (.ifc t x) v) : ∃ u, v = .iface t u ∧ Rep P G x u := by
  cases h with
  | pure h => cases h
  | ifc h => exact ⟨_, rfl, h⟩
theorem op_panic (hgl : GlOK P E.gl G.pr) (hinv : Inv P G st w) (ht : TmR P G N tm a) {x : Operand} {r : R} (ho : o.op = .panic x) (hx : xop0 P E tm st i0 nx' o = some r) (hK : Good P G st i0 nx' a o K Q r) : o.wp P a w K Q := by
  simp only [xop0, ho, Option.bind_eq_some_iff] at hx
  obtain ⟨x0, h0, hx⟩ := hx
  have hr := ev_sound hgl ht h0
  split at hx
  · obtain rfl := Option.some.inj hx
    obtain ⟨u, hv, _⟩ := hr.ifc_inv
    rename_i t x1 _
    have hk := hK G w _ (.refl G) (.refl G _) hinv hr
    unfold Oper.wp
    rw [hv] at hk
    have : (execOp a.eval o).run P w = .halt (.panic (.iface t u)) w := by simp [execOp, ho, hv, Instr.panic, goPanic, Sem.run]
    rw [this]
    exact hk
  · cases hx
end
end Go.Proofs.YthgmhlpjbednpaaDoor.Vm
set_option linter.unusedVariables false
set_option linter.unusedSimpArgs false
namespace Go.Proofs.YthgmhlpjbednpaaDoor.Vm
open Go.RowKit
section
variable {P : Program} {G G' : Gh} {st : St} {w w' : World} {a : Act} {tm : Nat → V} {N i0 nx' : Nat} {o : Oper} {K : Act → World → Prop} {Q : Exit → Act → World → Prop} {E : Env}
theorem isU8_u {e : TypeId} (h : isU8 P e = true) : P.underlying e = some (.int .u8) := by
  unfold isU8 at h
  split at h
  · assumption
  · cases h
theorem isStr_u {e : TypeId} (h : isStr P e = true) : P.underlying e = some .string := by
  unfold isStr at h
  split at h
  · assumption
  · cases h
theorem uel_u {t e : TypeId} (h : uel P t = some e) : P.underlying t = some (.slice e) := by
  unfold uel at h
  split at h
  · cases h; assumption
  · cases h
theorem list_parts {p : Pr} {e : TypeId} {xs : List V} {r : Nat} {v : Value} (h : RepP P p (.list e xs r) v) : ∃ A c vs, v = .slice A xs.length c ∧ xs.length ≤ c ∧ (r = 0 ∨ (r = 1 ∧ A = none ∧ xs.length = 0 ∧ c = 0)) ∧ (∀ s, usz P e = some s → ∀ x ∈ xs, x.cells.length = s) ∧
    ones (xs.flatMap V.cells) = true ∧ (vs ≠ [] → ∃ ad, A = some ad ∧ LiesAt p ad vs) ∧ All2 (RepP P p) (xs.flatMap V.cells) vs := by
  cases h with
  | list h1 h2 h3 h4 h5 h6 h7 => subst h1; exact ⟨_, _, _, rfl, h2, h3, h4, h5, h6, h7.all2⟩
theorem flat_len {s : Nat} : ∀ {xs : List V}, (∀ y ∈ xs, y.cells.length = s) → (xs.flatMap V.cells).length = xs.length * s
  | [], _ => by simp
  | y :: ys, h => by rw [List.flatMap_cons, List.length_append, flat_len fun z hz => h z (by simp [hz]), h y (by simp), List.length_cons, Nat.succ_mul]; omega
theorem flat_take {s : Nat} : ∀ {xs : List V} (n : Nat), (∀ y ∈ xs, y.cells.length = s) → (xs.take n).flatMap V.cells = (xs.flatMap V.cells).take (n * s)
  | [], n, _ => by simp
  | y :: ys, 0, h => by simp
  | y :: ys, n + 1, h => by
    have hy := h y (by simp)
    rw [List.take_succ_cons, List.flatMap_cons, List.flatMap_cons, flat_take n fun z hz => h z (by simp [hz]), Nat.succ_mul, Nat.add_comm (n * s) s, ← hy, List.take_append, List.take_of_length_le (l := y.cells) (by omega)]
    simp
theorem flat_drop {s : Nat} : ∀ {xs : List V} (n : Nat), (∀ y ∈ xs, y.cells.length = s) → (xs.drop n).flatMap V.cells = (xs.flatMap V.cells).drop (n * s)
  | [], n, _ => by simp
  | y :: ys, 0, h => by simp
  | y :: ys, n + 1, h => by
    have hy := h y (by simp)
    rw [List.drop_succ_cons, List.flatMap_cons, flat_drop n fun z hz => h z (by simp [hz]), Nat.succ_mul, Nat.add_comm (n * s) s, ← hy, List.drop_append, @List.drop_eq_nil_of_le _ y.cells _ (by omega)]
    simp
theorem vint_inv {x : V} {n : Int} (h : vint x = some n) : ∃ k, x = .sc (.int k n) := by
  unfold vint at h
  split at h
  · cases h; exact ⟨_, rfl⟩
  · cases h
theorem op_indexAddr (hgl : GlOK P E.gl G.pr) (hinv : Inv P G st w) (ht : TmR P G N tm a) {t : TypeId} {x y : Operand} {r : R} (ho : o.op = .indexAddr t x y) (hx : xop0 P E tm st i0 nx' o = some r) (hK : Good P G st i0 nx' a o K Q r) : o.wp P a w K Q := by
  simp only [xop0, ho, Option.bind_eq_some_iff] at hx
  obtain ⟨x0, h0, y0, h1, i, hi, hx⟩ := hx
  obtain ⟨k, rfl⟩ := vint_inv hi
  have hv1 := (ev_sound hgl ht h1).sc_inv
  have hr := ev_sound hgl ht h0
  split at hx
  · rename_i e xs _ el hu
    split at hx
    · rename_i hc
      obtain ⟨hc1, rfl⟩ := hc
      rw [Option.bind_eq_some_iff] at hx
      obtain ⟨z, hz, hx⟩ := hx
      rw [Option.bind_eq_some_iff] at hx
      obtain ⟨s, hs, hx⟩ := hx
      split at hx
      · rename_i hsz
        obtain rfl := Option.some.inj hx
        obtain ⟨A, c, hv, hp, _⟩ := hr.list_inv
        obtain ⟨A', c', vs, hv', h2, h3, h4, h5, h6, h7⟩ := list_parts hp
        obtain ⟨rfl, rfl⟩ : A = A' ∧ c = c' := by simpa using hv'
        obtain ⟨hf1, hf2⟩ := flat_get (fun q hq => h4 s hs q hq) hz
        have hlt : i.toNat < xs.length := (List.getElem?_eq_some_iff.1 hz).1
        have hl := h7.length
        obtain ⟨ad, rfl, hlies⟩ := h6 (by intro e; rw [e] at hl; simp only [List.length_nil] at hl; omega)
        have hilt : i < (xs.length : Int) := by omega
        refine good_same hinv hK (v := .pointer (some (ad.add (i.toNat * s)))) ?_ (.pure (.cp ?_ ((hlies.drop (i.toNat * s)).take s) (.of ?_)))
        · simp [execOp, ho, hv, hv1, Instr.indexAt, asIntOf, run_underlying hu, run_size hs, hc1, hilt]
        · rw [← hf1]; exact ones_take (ones_drop h5 _) _
        · rw [← hf1]; exact (h7.drop _).take _
      · cases hx
    · cases hx
  · rename_i cs n el hu
    split at hx
    · rename_i hc
      obtain ⟨hc1, hc2⟩ := hc
      rw [Option.bind_eq_some_iff] at hx
      obtain ⟨s, hs, hx⟩ := hx
      split at hx
      · rename_i hsz
        obtain rfl := Option.some.inj hx
        obtain ⟨ad, vs, hv, h1, h2, h3⟩ := hr.cp_inv
        refine good_same hinv hK (v := .pointer (some (ad.add (i.toNat * s)))) ?_ (.pure (.cp (ones_drop h1 _) (h2.drop _) (.of (h3.drop _))))
        simp [execOp, ho, hv, hv1, Instr.indexAt, asIntOf, run_underlying hu, run_size hs, hc1, hc2, Instr.sureAddr]
      · cases hx
    · cases hx
  · rename_i id off n el hu
    split at hx
    · rename_i hc
      obtain ⟨hc1, hc2⟩ := hc
      rw [Option.bind_eq_some_iff] at hx
      obtain ⟨s, hs, hx⟩ := hx
      split at hx
      · rename_i hsz
        obtain rfl := Option.some.inj hx
        obtain ⟨b, hv, hb⟩ := hr.ptr_inv
        refine good_same hinv hK (v := .pointer (some ⟨b, off + i.toNat * s, none⟩)) ?_ (.ptr hb)
        simp [execOp, ho, hv, hv1, Instr.indexAt, asIntOf, run_underlying hu, run_size hs, hc1, hc2, Instr.sureAddr, blk_add]
      · cases hx
    · cases hx
  · cases hx
theorem op_index (hgl : GlOK P E.gl G.pr) (hinv : Inv P G st w) (ht : TmR P G N tm a) {t : TypeId} {x y : Operand} {r : R} (ho : o.op = .index t x y) (hx : xop0 P E tm st i0 nx' o = some r) (hK : Good P G st i0 nx' a o K Q r) : o.wp P a w K Q := by
  simp only [xop0, ho, Option.bind_eq_some_iff] at hx
  obtain ⟨x0, h0, y0, h1, hx⟩ := hx
  have hr := ev_sound hgl ht h0
  have hr1 := ev_sound hgl ht h1
  split at hx
  · rw [Option.map_eq_some_iff] at hx
    obtain ⟨z, hz, rfl⟩ := hx
    have e1 := hr.sc_inv
    have e2 := hr1.sc_inv
    have hrun := reck_run _ hz w
    refine good_same hinv hK (v := z) ?_ (.pure (.sc _))
    simp only [execOp, ho, e1, e2]
    rw [Sem.run_bind, hrun]
    rfl
  · cases hx
theorem bytesOfV_inv : ∀ {xs : List V} {l : List UInt8}, bytesOfV xs = some l → ∃ ns : List Int, xs = ns.map (fun n => V.sc (.int .u8 n)) ∧ l = ns.map fun n => UInt8.ofNat n.toNat
  | [], l, h => by simp [bytesOfV] at h; subst h; exact ⟨[], rfl, rfl⟩
  | x :: xs, l, h => by
    unfold bytesOfV at h
    split at h
    · rename_i h1; cases h1
    · rename_i n r h1
      obtain ⟨rfl, rfl⟩ : x = .sc (.int .u8 n) ∧ xs = r := by simpa using h1
      rw [Option.map_eq_some_iff] at h
      obtain ⟨l', hl, rfl⟩ := h
      obtain ⟨ns, rfl, rfl⟩ := bytesOfV_inv hl
      exact ⟨n :: ns, rfl, rfl⟩
    · cases h
theorem scs_all2 {p : Pr} {ns : List Int} {vs : List Value} (h : All2 (RepP P p) (ns.map fun n => V.sc (.int .u8 n)) vs) : vs = ns.map (Value.int .u8) := by
  induction ns generalizing vs with
  | nil => cases h; rfl
  | cons n ns ih => cases h with | cons h1 h2 => cases h1; rw [ih h2]; rfl
theorem flat_sc (ns : List Int) : (ns.map fun n => V.sc (.int .u8 n)).flatMap V.cells = ns.map fun n => V.sc (.int .u8 n) := by
  induction ns with
  | nil => rfl
  | cons n ns ih => rw [List.map_cons, List.flatMap_cons, ih]; rfl
theorem Inv.fixed (h : Inv P G st w) (hg : w.grownBy w' none) (cs : List Value) (hc : ∀ j u, cs[j]? = some u → w'.cell? ⟨w.heap.size, j, none⟩ = some u) :
    G.le { G with pr := fun b o => if b = w.heap.size then cs[o]? else G.pr b o } ∧ Inv P { G with pr := fun b o => if b = w.heap.size then cs[o]? else G.pr b o } st w' := by
  have hle : G.le { G with pr := fun b o => if b = w.heap.size then cs[o]? else G.pr b o } := ⟨rfl, rfl, fun b o v q => by
    have := h.pr_lt q
    show (if _ then _ else _) = _
    rw [if_neg (by omega)]; exact q, fun _ _ q => q, fun t v q => ⟨v, q, Nat.le_refl _, fun _ => rfl, fun _ => rfl⟩, fun b o hb => if_neg (by have := h.size; omega)⟩
  have hb : ∀ b, b < w.heap.size → w'.heap[b]? = w.heap[b]? := fun b hb => hg.block b hb (by simp)
  refine ⟨hle, h.below.trans ⟨hg.os, hg.tape, hg.output, hg.size, fun k hk => hb k (by have := h.size; omega)⟩, Nat.le_trans h.size hg.size, fun b o v hv => ?_, fun i ob hi => ?_, fun i j b hi hj => ?_, fun i b hi o v hv => ?_⟩
  · have hv2 : (if b = w.heap.size then cs[o]? else G.pr b o) = some v := hv
    by_cases e : b = w.heap.size
    · rw [if_pos e] at hv2; rw [e]; exact hc o v hv2
    · rw [if_neg e] at hv2
      rw [cell_same (hb b (h.pr_lt hv2))]; exact h.prot b o v hv2
  · refine (h.objs i ob hi).kept hle rfl rfl fun b hbb => hb b ?_
    refine (h.blk_lt (i := i) ?_).1
    unfold blk; rw [hi]; cases ob <;> exact hbb
  · exact h.apart i j b hi hj
  · have hi' : blk G st i = some b := hi
    have hv : (if b = w.heap.size then cs[o]? else G.pr b o) = some v := hv
    rw [if_neg (by have := (h.blk_lt hi').1; omega)] at hv
    exact h.free i b hi' o v hv
theorem flat_bytes (s : ByteArray) : (bytesV s).flatMap V.cells = bytesV s := by
  unfold bytesV
  induction s.data.toList with
  | nil => rfl
  | cons n ns ih => rw [List.map_cons, List.flatMap_cons, ih]; rfl
theorem bytesV_length (s : ByteArray) : (bytesV s).length = s.size := by simp [bytesV]
theorem bytes_all2 {p : Pr} (l : List UInt8) : All2 (RepP P p) (l.map fun b => V.sc (.int .u8 b.toNat)) (l.map fun b => Value.int .u8 b.toNat) := by
  induction l with
  | nil => exact .nil
  | cons b l ih => exact .cons (.sc _) ih
theorem op_convert (hgl : GlOK P E.gl G.pr) (hinv : Inv P G st w) (ht : TmR P G N tm a) {s d : TypeId} {x : Operand} {r : R} (ho : o.op = .convert s d x) (hx : xop0 P E tm st i0 nx' o = some r) (hK : Good P G st i0 nx' a o K Q r) : o.wp P a w K Q := by
  simp only [xop0, ho, Option.bind_eq_some_iff] at hx
  obtain ⟨x0, h0, hx⟩ := hx
  have hr := ev_sound hgl ht h0
  split at hx
  · rename_i e xs _
    split at hx
    · rename_i e' hs hd
      split at hx
      · rename_i hc
        obtain ⟨hc1, hc2, hc3⟩ := hc
        rw [Option.map_eq_some_iff] at hx
        obtain ⟨l, hl, rfl⟩ := hx
        obtain ⟨A, c, hv, hp, _⟩ := hr.list_inv
        obtain ⟨A', c', vs, hv', h2, h3, h4, h5, h6, h7⟩ := list_parts hp
        obtain ⟨rfl, rfl⟩ : A = A' ∧ c = c' := by simpa using hv'
        obtain ⟨ns, rfl, rfl⟩ := bytesOfV_inv hl
        rw [flat_sc] at h7
        have hvs := scs_all2 h7
        subst hvs
        have hrun : (convert s d (.slice A ns.length c)).run P w = .ok (.string ⟨(ns.map fun n => UInt8.ofNat n.toNat).toArray⟩) w := by
          rw [run_convert_bytes_string w s d e' A ns.length c hs (isU8_u hc1) hd]
          cases A with
          | none =>
            cases ns with
            | nil => simp [Conv.bytesToString]; rfl
            | cons n ns => obtain ⟨ad, h, _⟩ := h6 (by simp); cases h
          | some ad =>
            have hl : (loadCells ad ns.length).run P w = .ok (ns.map (Value.int .u8)).toArray w := by
              have := run_loadCells_list (P := P) w ad (ns.map (Value.int .u8)) (fun j u hu => by
                obtain ⟨ad', h, hlies⟩ := h6 (by intro e; rw [e] at hu; simp at hu)
                obtain rfl := Option.some.inj h
                exact cell_lies hinv hlies hu)
              simpa using this
            rw [run_bytesToString w ad _ _ ns hl, foldl_push_bytes]
            simp [ByteArray.empty, ByteArray.emptyWithCapacity]
            rfl
        refine good_same hinv hK (v := .string _) ?_ (.pure (.sc _))
        simp only [execOp, ho, hv, List.length_map]
        rw [Sem.run_bind, hrun]
        rfl
      · cases hx
    · cases hx
  · rename_i u
    have hv := hr.sc_inv
    split at hx
    · rename_i t ud e hs he
      split at hx
      · rename_i hc
        simp only [Bool.and_eq_true, beq_iff_eq] at hc
        obtain rfl := Option.some.inj hx
        have hrun := Lib.run_convert_string_bytes (P := P) w s d e t hs (uel_u he) (isU8_u hc.1)
        have hcell : ∀ (j : Nat) u, (t.data.toList.map fun b => Value.int .u8 b.toNat)[j]? = some u → (Lib.bytesWorld w e t).cell? ⟨w.heap.size, j, none⟩ = some u := fun j u hu => by
          have hj : j < t.size := by
            have := (List.getElem?_eq_some_iff.1 hu).1
            simpa using this
          rw [Lib.bytesWorld_cell w e t j hj]
          simpa [List.getD_eq_getElem?_getD, List.getElem?_map, hj] using hu
        obtain ⟨hg, hi⟩ := hinv.fixed (w' := Lib.bytesWorld w e t) ⟨rfl, rfl, rfl, by rw [Lib.bytesWorld_size]; omega, fun k hk _ => Lib.bytesWorld_at_old w e t k hk⟩ _ hcell
        refine wp_val (v := .slice (some ⟨w.heap.size, 0, none⟩) t.size (grownCap w t.size 0 e)) ?_ (hK _ _ _ hg (fun k _ => ⟨id, id⟩) hi (.pure (.list (vs := t.data.toList.map fun b => Value.int .u8 b.toNat) (bytesV_length t) (grownCap_ge _ _ _ _) (.inl rfl) ?_ ?_ (fun _ => ⟨_, rfl, fun j u hu => ?_⟩) ?_)))
        · simp only [execOp, ho, hv]
          rw [Sem.run_bind, hrun]
          rfl
        · intro s' hs' x hx
          rw [hc.2] at hs'; obtain rfl := Option.some.inj hs'
          simp only [bytesV, List.mem_map] at hx
          obtain ⟨b, _, rfl⟩ := hx
          rfl
        · rw [flat_bytes]
          refine List.all_eq_true.2 fun x hx => ?_
          simp only [bytesV, List.mem_map] at hx
          obtain ⟨b, _, rfl⟩ := hx
          rfl
        · rw [blk_add]
          exact ⟨rfl, by simpa using hu⟩
        · rw [flat_bytes]
          exact .of (bytes_all2 _)
      · cases hx
    · rw [Option.map_eq_some_iff] at hx
      obtain ⟨z, hz, rfl⟩ := hx
      have hrun := reck_run _ hz w
      refine good_same hinv hK (v := z) ?_ (.pure (.sc _))
      simp only [execOp, ho, hv]
      rw [Sem.run_bind, hrun]
      rfl
  · cases hx
end
end Go.Proofs.YthgmhlpjbednpaaDoor.Vm
set_option linter.unusedVariables false
set_option linter.unusedSimpArgs false
namespace Go.Proofs.YthgmhlpjbednpaaDoor.Vm
open Go.RowKit
section
variable {P : Program} {G G' : Gh} {st : St} {w w' : World} {a : Act} {tm : Nat → V} {N i0 nx' : Nat} {o : Oper} {K : Act → World → Prop} {Q : Exit → Act → World → Prop} {E : Env}
theorem setIf_other (h : Array Obj) (b k : Nat) (x : Obj) (hk : k ≠ b) : (h.setIfInBounds b x)[k]? = h[k]? := Array.getElem?_setIfInBounds_ne (fun e => hk e.symm)
theorem setIf_same (h : Array Obj) (b : Nat) (x : Obj) (hb : b < h.size) : (h.setIfInBounds b x)[b]? = some x := by simp [hb]
theorem Inv.setObj (h : Inv P G st w) (i : Nat) (ob ob' : Ob) (b : Nat) (x : Obj) (hs : st i = some ob) (hb : G.bx i = some b) (hnt : (∀ n e, ob ≠ .tok n e) ∧ ∀ ds, ob ≠ .frz ds) (hnt' : (∀ n e, ob' ≠ .tok n e) ∧ ∀ ds, ob' ≠ .frz ds) (hbase : G.base ≤ b) (hlt : b < w.heap.size)
    (hob : ∀ w' : World, w'.heap[b]? = some x → ObOK P G w' i ob') : Inv P G (upd st i (some ob')) { w with heap := w.heap.setIfInBounds b x } :=
  h.set (w' := { w with heap := w.heap.setIfInBounds b x }) i ob ob' b hs hb hnt hnt' hbase (fun k hk => setIf_other w.heap b k x hk) (by simp) rfl rfl rfl (hob _ (setIf_same w.heap b x hlt))
theorem op_range (hgl : GlOK P E.gl G.pr) (hinv : Inv P G st w) (ht : TmR P G N tm a) (hfr : Fresh G (R8 i0)) {t : TypeId} {x : Operand} {r : R} (ho : o.op = .range t x) (hx : xop0 P E tm st i0 nx' o = some r) (hK : Good P G st i0 nx' a o K Q r) : o.wp P a w K Q := by
  simp only [xop0, ho, Option.bind_eq_some_iff] at hx
  obtain ⟨x0, h0, hx⟩ := hx
  split at hx
  · rename_i s hu
    obtain rfl := Option.some.inj hx
    have hv := (ev_sound hgl ht h0).sc_inv
    have hf := hfr i0 (r8_self i0)
    obtain ⟨hg, hi⟩ := hinv.new (.stringIter s 0) i0 (.iter s 0) hf.1 (bx_none_st hinv hf.1 hf.2) (by simp) ⟨w.heap.size, by simp [upd], hinv.size, heap_alloc_new w _⟩
    exact wp_val (v := .pointer (some ⟨w.heap.size, 0, none⟩)) (by simp [execOp, ho, hv, Instr.range, run_underlying hu]) (hK _ _ _ hg (same_bx (r8_self i0) _) hi (.ptr (by simp [upd])))
  · rename_i id kt et hu
    split at hx
    · rename_i es hs
      obtain rfl := Option.some.inj hx
      obtain ⟨b, hv, hb⟩ := (ev_sound hgl ht h0).map_inv
      obtain ⟨b', arr, clk, g1, g2, g3, g4, g5⟩ := hinv.objs id _ hs
      rw [hb] at g1
      obtain rfl := Option.some.inj g1
      obtain ⟨q1, q2⟩ := g5 rfl
      subst q1
      have hl : es.length = arr.size := by have := g4.length; simpa using this
      have hf := hfr i0 (r8_self i0)
      have hne : id ≠ i0 := fun e => by subst e; rw [hf.1] at hb; cases hb
      obtain ⟨hg, hi⟩ := hinv.new (.mapIter (some b) es.length #[] es.length) i0 (.miter id es.length (List.range es.length)) hf.1 (bx_none_st hinv hf.1 hf.2) (by simp) ⟨w.heap.size, b, #[], es.length, by simp [upd], by simp [upd, hne, hb], hinv.size, heap_alloc_new w _, List.pairwise_lt_range, fun j hj => by simp [hj], fun j hj => by simpa using hj, .inl rfl⟩
      exact wp_val (v := .pointer (some ⟨w.heap.size, 0, none⟩)) (by simp [execOp, ho, hv, Instr.range, run_underlying hu, getObj, Sem.run, g3, hl]) (hK _ _ _ hg (same_bx (r8_self i0) _) hi (.ptr (by simp [upd])))
    · cases hx
  · cases hx
theorem op_next (hgl : GlOK P E.gl G.pr) (hinv : Inv P G st w) (ht : TmR P G N tm a) {x : Operand} {r : R} (ho : o.op = .next x true) (hx : xop0 P E tm st i0 nx' o = some r) (hK : Good P G st i0 nx' a o K Q r) : o.wp P a w K Q := by
  simp only [xop0, ho, Option.bind_eq_some_iff] at hx
  obtain ⟨x0, h0, hx⟩ := hx
  split at hx
  · rename_i id
    split at hx
    · rename_i s pos hs
      obtain ⟨b, hv, hb⟩ := (ev_sound hgl ht h0).ptr_inv
      obtain ⟨b', g1, g2, g3⟩ := hinv.objs id _ hs
      rw [hb] at g1
      obtain rfl := Option.some.inj g1
      split at hx
      · rename_i hp
        obtain rfl := Option.some.inj hx
        refine wp_val (v := .tuple #[.bool true, .int .i64 pos, .int .i32 (Utf8.decode s pos).1]) (w' := { w with heap := w.heap.setIfInBounds b (.stringIter s (pos + (Utf8.decode s pos).2)) }) ?_ (hK G _ _ (.refl G) (.refl G _) ?_ (.tup (.of (.cons (.pure (.sc _)) (.cons (.pure (.sc _)) (.cons (.pure (.sc _)) .nil))))))
        · simp [execOp, ho, hv, Instr.next, getObj, setObj, Sem.run, g3, hp, goInt]
        · exact hinv.setObj id _ _ b _ hs hb (by simp) (by simp) g2 (Array.getElem?_eq_some_iff.1 g3).1 fun w' hw' => ⟨b, hb, g2, hw'⟩
      · rename_i hp
        obtain rfl := Option.some.inj hx
        refine good_same hinv hK (v := .tuple #[.bool false]) ?_ (.tup (.of (.cons (.pure (.sc _)) .nil)))
        simp [execOp, ho, hv, Instr.next, getObj, Sem.run, g3, hp]
    · cases hx
  · cases hx
theorem keyEq_now {d : TypeDesc} {k k' : Value} {b : Bool} (hd : kindOk (some d) k = true) (h : keyEq k k' = some b) : Instr.sameNow d k k' = some b := by
  cases d <;> cases k <;> simp [kindOk] at hd <;> cases k' <;> simp_all [keyEq, Instr.sameNow]
theorem ba_beq {a b : ByteArray} : (a == b) = decide (a = b) := by
  show ByteArray.beq a b = _
  unfold ByteArray.beq
  rw [Bool.eq_iff_iff]
  cases a; cases b
  simp
theorem keyEq_bits {k k' : Value} (h : keyEq k k' = some true) : Instr.sameBits 10000 k' k = true := by
  cases k <;> cases k' <;> simp_all [keyEq, Instr.sameBits] <;> (rw [ba_beq] at h ⊢; simpa [eq_comm] using h)
theorem find_sound {d : TypeDesc} {k : Value} (hd : kindOk (some d) k = true) : ∀ {es : List (V × V)} {ms : List MapEntry} {i : Nat} {r : Option (Nat × V)}, All2 (fun e m => Rep P G e.1 m.key ∧ Rep P G e.2 m.val) es ms → mfind k es i = some r →
    (r = none ∧ Instr.findNow d k ms i = some none) ∨ ∃ j x m, r = some (i + j, x) ∧ es[j]? = some (es[j]?.getD default) ∧ ms[j]? = some m ∧ Instr.findNow d k ms i = some (some (i + j, m.val)) ∧ Rep P G x m.val ∧ Instr.sameBits 10000 m.key k = true
  | [], _, i, r, h, hf => by cases h; simp [mfind] at hf; subst hf; exact .inl ⟨rfl, rfl⟩
  | (y, x) :: es, _, i, r, h, hf => by
    cases h with
    | cons h1 h2 =>
      rename_i m ms
      unfold mfind at hf
      split at hf
      · rename_i h3; cases h3
      · rename_i k' v es' heq
        obtain ⟨⟨rfl, rfl⟩, rfl⟩ : (y = .sc k' ∧ x = v) ∧ es = es' := by simpa using heq
        have hk := h1.1.sc_inv
        split at hf
        · rename_i he
          obtain rfl := Option.some.inj hf
          refine .inr ⟨0, x, m, rfl, by simp, rfl, ?_, h1.2, ?_⟩
          · simp only [Instr.findNow, hk, keyEq_now hd he, Nat.add_zero]
          · rw [hk]; exact keyEq_bits he
        · rename_i he
          rcases find_sound hd h2 hf with ⟨h4, h5⟩ | ⟨j, x', m', h4, h5, h6, h7, h8, h9⟩
          · refine .inl ⟨h4, ?_⟩
            simp only [Instr.findNow, hk, keyEq_now hd he]; exact h5
          · refine .inr ⟨j + 1, x', m', by rw [h4]; congr 2; omega, by simpa using h5, by simpa using h6, ?_, h8, h9⟩
            simp only [Instr.findNow, hk, keyEq_now hd he]
            rw [h7]; congr 3; omega
        · cases hf
      · cases hf
theorem checkKey_ok {d : TypeDesc} {t : TypeId} {k : Value} (hu : P.underlying t = some d) (hd : kindOk (some d) k = true) (b : Bool) (n : Nat) (w : World) : (Instr.checkKey b (n + 1) t k).run P w = .ok () w := by
  cases d <;> cases k <;> simp [kindOk] at hd <;> simp [Instr.checkKey, run_underlying hu]
theorem findKey_ok {d : TypeDesc} {t : TypeId} {k : Value} {ms : List MapEntry} {r : Option (Nat × Value)} (hu : P.underlying t = some d) (h : Instr.findNow d k ms 0 = some r) (w : World) : (Instr.findKey t k ms).run P w = .ok r w := by
  simp [Instr.findKey, run_underlying hu, h]
theorem kindOk_some {t : TypeId} {k : Value} (h : kindOk (P.underlying t) k = true) : ∃ d, P.underlying t = some d ∧ kindOk (some d) k = true := by
  cases hu : P.underlying t with
  | none => rw [hu] at h; simp [kindOk] at h
  | some d => rw [hu] at h; exact ⟨d, rfl, h⟩
theorem op_lookup (hgl : GlOK P E.gl G.pr) (hinv : Inv P G st w) (ht : TmR P G N tm a) {t : TypeId} {x y : Operand} {ok : Bool} {r : R} (ho : o.op = .lookup t x y ok) (hx : xop0 P E tm st i0 nx' o = some r) (hK : Good P G st i0 nx' a o K Q r) : o.wp P a w K Q := by
  simp only [xop0, ho, Option.bind_eq_some_iff] at hx
  obtain ⟨x0, h0, y0, h1, hx⟩ := hx
  split at hx
  · rename_i id k kt et hu
    split at hx
    · rename_i hk
      obtain ⟨d, hd, hk⟩ := kindOk_some hk
      rw [Option.bind_eq_some_iff] at hx
      obtain ⟨z, hz, hx⟩ := hx
      split at hx
      · rename_i es dd hs
        rw [Option.bind_eq_some_iff] at hx
        obtain ⟨fr, hf, hx⟩ := hx
        obtain ⟨b, hv, hb⟩ := (ev_sound hgl ht h0).map_inv
        have hv1 := (ev_sound hgl ht h1).sc_inv
        obtain ⟨b', arr, clk, g1, g2, g3, g4, g5⟩ := hinv.objs id _ hs
        rw [hb] at g1
        obtain rfl := Option.some.inj g1
        have hck := checkKey_ok (P := P) hd hk arr.isEmpty 9999 w
        rcases find_sound hk g4 hf with ⟨rfl, h5⟩ | ⟨j, x', m', rfl, _, _, h7, h8, _⟩
        · simp only at hx
          split at hx
          · rename_i hone
            obtain rfl := Option.some.inj hx
            have hrz : Rep P G (V.ofV z) z := .pure (rep_ofV _ _ hone)
            refine good_same hinv hK (v := if ok then .tuple #[z, .bool false] else z) ?_ ?_
            · simp [execOp, ho, hv, hv1, Instr.lookup, run_underlying hu, getObj, Sem.run, g3, hck, findKey_ok hd h5, run_zero hz]
            · cases ok
              · exact hrz
              · exact .tup (.of (.cons hrz (.cons (.pure (.sc _)) .nil)))
          · cases hx
        · simp only at hx
          obtain rfl := Option.some.inj hx
          refine good_same hinv hK (v := if ok then .tuple #[m'.val, .bool true] else m'.val) ?_ ?_
          · simp [execOp, ho, hv, hv1, Instr.lookup, run_underlying hu, getObj, Sem.run, g3, hck, findKey_ok hd h7]
          · cases ok
            · exact h8
            · exact .tup (.of (.cons h8 (.cons (.pure (.sc _)) .nil)))
      · cases hx
    · cases hx
  · cases hx
theorem op_mapUpdate (hgl : GlOK P E.gl G.pr) (hinv : Inv P G st w) (ht : TmR P G N tm a) {t : TypeId} {x y z : Operand} {r : R} (ho : o.op = .mapUpdate t x y z) (hx : xop0 P E tm st i0 nx' o = some r) (hK : Good P G st i0 nx' a o K Q r) : o.wp P a w K Q := by
  simp only [xop0, ho, Option.bind_eq_some_iff] at hx
  obtain ⟨x0, h0, y0, h1, z0, h2, hx⟩ := hx
  have hrz := ev_sound hgl ht h2
  split at hx
  · rename_i id k kt et hu
    split at hx
    · rename_i hk
      obtain ⟨d, hd, hk⟩ := kindOk_some hk
      split at hx
      · rename_i es dd hs
        rw [Option.bind_eq_some_iff] at hx
        obtain ⟨fr, hf, hx⟩ := hx
        obtain ⟨b, hv, hb⟩ := (ev_sound hgl ht h0).map_inv
        have hv1 := (ev_sound hgl ht h1).sc_inv
        obtain ⟨b', arr, clk, g1, g2, g3, g4, g5⟩ := hinv.objs id _ hs
        rw [hb] at g1
        obtain rfl := Option.some.inj g1
        have hck := checkKey_ok (P := P) hd hk false 9999 w
        have hlt := (Array.getElem?_eq_some_iff.1 g3).1
        rcases find_sound hk g4 hf with ⟨rfl, h5⟩ | ⟨j, x', m', rfl, _, h6, h7, h8, h9⟩
        · simp only at hx
          obtain rfl := Option.some.inj hx
          refine wp_skip0 (w' := { w with heap := w.heap.setIfInBounds b (.map (arr.push { key := k, val := a.eval z, born := clk }) (clk + 1)) }) ?_ (hK G _ undef (.refl G) (.refl G _) ?_ (.pure (.sc _)))
          · simp [execOp, ho, hv, hv1, Instr.mapUpdate, run_underlying hu, getObj, setObj, Sem.run, g3, hck, findKey_ok hd h5]
          · refine hinv.setObj id _ _ b _ hs hb (by simp) (by simp) g2 hlt fun w' hw' => ⟨b, _, _, hb, g2, hw', ?_, fun hdd => ?_⟩
            · rw [Array.toList_push]
              exact g4.append (.cons ⟨.pure (.sc _), hrz⟩ .nil)
            · obtain ⟨q1, q2⟩ := g5 hdd
              subst q1
              refine ⟨by simp, fun j m hj => ?_⟩
              rw [Array.getElem?_push] at hj
              split at hj
              · rename_i hjj; obtain rfl := Option.some.inj hj; exact hjj.symm
              · exact q2 j m hj
        · simp only at hx
          obtain rfl := Option.some.inj hx
          have h6' : arr[j]? = some m' := by simpa using h6
          refine wp_skip0 (w' := { w with heap := w.heap.setIfInBounds b (.map (arr.modify j fun e => { e with key := k, val := a.eval z }) clk) }) ?_ (hK G _ undef (.refl G) (.refl G _) ?_ (.pure (.sc _)))
          · simp [execOp, ho, hv, hv1, Instr.mapUpdate, run_underlying hu, getObj, setObj, Sem.run, g3, hck, findKey_ok hd h7, h6', Instr.keyThatStays, h9]
          · refine hinv.setObj id _ _ b _ hs hb (by simp) (by simp) g2 hlt fun w' hw' => ⟨b, _, _, hb, g2, hw', ?_, fun hdd => ⟨by rw [(g5 hdd).1]; simp, fun i m hi => ?_⟩⟩
            rotate_left
            · rw [Array.getElem?_modify] at hi
              split at hi
              · rename_i hij
                subst hij
                rw [h6', Option.map_some] at hi
                obtain rfl := Option.some.inj hi
                exact (g5 hdd).2 j m' h6'
              · exact (g5 hdd).2 i m hi
            have : (arr.modify j fun e => { e with key := k, val := a.eval z }).toList = arr.toList.set j { m' with key := k, val := a.eval z } := by
              apply List.ext_getElem?
              intro i
              rw [Array.getElem?_toList, Array.getElem?_modify, List.getElem?_set, Array.getElem?_toList]
              have hj : j < arr.size := (Array.getElem?_eq_some_iff.1 h6').1
              by_cases hij : j = i
              · subst hij
                have hm : arr[j] = m' := by simpa [hj] using h6'
                simp [hj, hm]
              · simp [hij]
            rw [this]
            rw [Nat.zero_add]
            exact g4.set (x := (V.sc k, z0)) (y := { m' with key := k, val := a.eval z }) ⟨.pure (.sc _), hrz⟩ j
      · cases hx
    · cases hx
  · cases hx
end
end Go.Proofs.YthgmhlpjbednpaaDoor.Vm
set_option linter.unusedVariables false
set_option linter.unusedSimpArgs false
namespace Go.Proofs.YthgmhlpjbednpaaDoor.Vm
open Go.RowKit
section
variable {P : Program} {G G' : Gh} {st : St} {w w' : World} {a : Act} {tm : Nat → V} {N i0 nx' : Nat} {o : Oper} {K : Act → World → Prop} {Q : Exit → Act → World → Prop} {E : Env}
theorem left_born {arr : Array MapEntry} {n : Nat} {seen : Array Nat} {rem : List Nat} (hn : arr.size = n) (hq : ∀ (j : Nat) (m : MapEntry), arr[j]? = some m → m.born = j) (hp : rem.Pairwise (· < ·)) (hs : ∀ j, j < n → (seen.contains j = true ↔ j ∉ rem)) (hr : ∀ j ∈ rem, j < n) :
    (arr.toList.filter fun e => !seen.contains e.born).map (·.born) = rem := by
  have h1 : arr.toList.map (·.born) = List.range n := by
    apply List.ext_getElem?
    intro j
    rw [List.getElem?_map, Array.getElem?_toList]
    by_cases hj : j < n
    · rw [List.getElem?_range hj]
      have h2 : arr[j]? = some arr[j] := by simp [hn, hj]
      rw [h2, Option.map_some, hq j _ h2]
    · rw [Array.getElem?_eq_none (by omega), List.getElem?_eq_none (by simp; omega)]; rfl
  have h2 : (arr.toList.filter fun e => !seen.contains e.born).map (·.born) = (List.range n).filter fun j => !seen.contains j := by
    rw [← h1, List.filter_map]; rfl
  rw [h2]
  have e1 : ((List.range n).filter fun j => !seen.contains j).Pairwise (· < ·) := List.Pairwise.filter _ List.pairwise_lt_range
  refine List.Perm.eq_of_pairwise (le := (· < ·)) (fun x y _ _ h1 h2 => by omega) e1 hp ((List.perm_ext_iff_of_nodup (e1.imp fun h => by omega) (hp.imp fun h => by omega)).2 fun x => ?_)
  rw [List.mem_filter, List.mem_range]
  constructor
  · rintro ⟨h3, h4⟩
    by_cases hx : x ∈ rem
    · exact hx
    · have := (hs x h3).2 hx
      rw [this] at h4; cases h4
  · intro hx
    refine ⟨hr x hx, ?_⟩
    cases hc : seen.contains x with
    | false => rfl
    | true => exact absurd hx ((hs x (hr x hx)).1 hc)
def cands (arr : Array MapEntry) (n : Nat) (seen : Array Nat) : Array (Option MapEntry) :=
  (if ((arr.filter fun e => !seen.contains e.born).filter (·.born < n)).isEmpty then #[none] else #[]) ++ ((arr.filter fun e => !seen.contains e.born).filter (·.born < n) ++ (arr.filter fun e => !seen.contains e.born).filter (·.born ≥ n)).map some
theorem cands_eq {arr : Array MapEntry} {n : Nat} {seen : Array Nat} {rem : List Nat} (hn : arr.size = n) (hq : ∀ (j : Nat) (m : MapEntry), arr[j]? = some m → m.born = j) (hp : rem.Pairwise (· < ·)) (hs : ∀ j, j < n → (seen.contains j = true ↔ j ∉ rem)) (hr : ∀ j ∈ rem, j < n) :
    (rem = [] → cands arr n seen = #[none]) ∧ (rem ≠ [] → ∃ l : List MapEntry, cands arr n seen = (l.map some).toArray ∧ l.map (·.born) = rem ∧ ∀ e ∈ l, arr[e.born]? = some e) := by
  have hb := left_born hn hq hp hs hr
  have hall : ∀ e ∈ arr, e.born < n ∧ arr[e.born]? = some e := fun e he => by
    obtain ⟨j, hj, rfl⟩ := Array.mem_iff_getElem.1 he
    have h2 : arr[j]? = some arr[j] := by simp [hj]
    have := hq j _ h2
    rw [this]; exact ⟨by omega, h2⟩
  have h1 : (arr.filter fun e => !seen.contains e.born).filter (·.born < n) = arr.filter fun e => !seen.contains e.born := by
    rw [Array.filter_eq_self]
    intro e he
    simp only [Array.mem_filter] at he
    simpa using (hall e he.1).1
  have h2 : (arr.filter fun e => !seen.contains e.born).filter (·.born ≥ n) = #[] := by
    rw [Array.filter_eq_empty_iff]
    intro e he
    simp only [Array.mem_filter] at he
    have := (hall e he.1).1
    simp; omega
  have h3 : cands arr n seen = (if (arr.filter fun e => !seen.contains e.born).isEmpty then #[none] else #[]) ++ (arr.filter fun e => !seen.contains e.born).map some := by
    unfold cands
    rw [h1, h2]; simp
  have h4 : (arr.filter fun e => !seen.contains e.born) = (arr.toList.filter fun e => !seen.contains e.born).toArray := by
    apply Array.ext'
    simp
  rw [h3, h4]
  refine ⟨fun h => ?_, fun h => ⟨arr.toList.filter fun e => !seen.contains e.born, ?_, hb, fun e he => ?_⟩⟩
  · rw [h] at hb
    have : (arr.toList.filter fun e => !seen.contains e.born) = [] := List.map_eq_nil_iff.1 hb
    rw [this]; simp
  · have hne : (arr.toList.filter fun e => !seen.contains e.born) ≠ [] := fun e => by rw [e] at hb; exact h hb.symm
    generalize (arr.toList.filter fun e => !seen.contains e.born) = l at hne
    cases l with
    | nil => exact absurd rfl hne
    | cons x l => simp
  · have := List.mem_filter.1 he
    exact (hall e (by simpa using this.1)).2
def nextS (b mb n clk : Nat) (seen : Array Nat) (arr : Array MapEntry) (cs : Array (Option MapEntry)) : Sem Value := do
  match cs[← choose (.mapNext cs.size)]? with
  | some (some e) =>
    setObj b (.mapIter (some mb) n (seen.push e.born) clk)
    pure (.tuple #[.bool true, e.key, e.val])
  | some none => pure (.tuple #[.bool false])
  | none => stuck "Next: no such candidate"
theorem next_run {b mb n last clk : Nat} {seen : Array Nat} {arr : Array MapEntry} {ty : TypeId} (h : w.heap[b]? = some (.mapIter (some mb) n seen last)) (hm : w.heap[mb]? = some (.map arr clk)) (hl : (!seen.isEmpty && !arr.isEmpty && arr.all (·.born ≥ last)) = false) :
    (Instr.next (.pointer (some ⟨b, 0, none⟩)) false ty).run P w = (nextS b mb n clk seen arr (cands arr n seen)).run P w := by
  have g1 : (getObj b).run P w = .ok (.mapIter (some mb) n seen last) w := by simp [getObj, Sem.run, h]
  have g2 : (getObj mb).run P w = .ok (.map arr clk) w := by simp [getObj, Sem.run, hm]
  unfold Instr.next
  simp only [Sem.run_bind, g1, g2, Result.andThen_ok, hl, Bool.false_eq_true, if_false]
  unfold nextS cands
  simp only [Sem.run_bind]
  rfl
theorem next_over {b mb n last clk : Nat} {seen : Array Nat} {arr : Array MapEntry} {ty : TypeId} (h : w.heap[b]? = some (.mapIter (some mb) n seen last)) (hm : w.heap[mb]? = some (.map arr clk)) (hl : (!seen.isEmpty && !arr.isEmpty && arr.all (·.born ≥ last)) = false) (hc : cands arr n seen = #[none]) :
    (Instr.next (.pointer (some ⟨b, 0, none⟩)) false ty).run P w = .ok (.tuple #[.bool false]) w := by
  rw [next_run h hm hl, hc]
  simp [nextS, Question.forced]
theorem not_gone {arr : Array MapEntry} {seen : Array Nat} {last : Nat} (hq : ∀ (j : Nat) (m : MapEntry), arr[j]? = some m → m.born = j) (h : seen.isEmpty = true ∨ 0 < last) : (!seen.isEmpty && !arr.isEmpty && arr.all (·.born ≥ last)) = false := by
  rcases h with h | h
  · simp [h]
  · by_cases he : arr.size = 0
    · have : arr.isEmpty = true := by simpa using he
      simp [this]
    · have h0 : arr[0]? = some arr[0] := by simp
      have := hq 0 _ h0
      rw [Bool.and_eq_false_iff]
      refine .inr ?_
      rw [Array.all_eq_false]
      exact ⟨0, by omega, by simp [this]; omega⟩
theorem op_nextm (hgl : GlOK P E.gl G.pr) (hinv : Inv P G st w) (ht : TmR P G N tm a) {x : Operand} {r : R} (ho : o.op = .next x false) (hx : xop0 P E tm st i0 nx' o = some r) (hK : Good P G st i0 nx' a o K Q r) : o.wp P a w K Q := by
  simp only [xop0, ho, Option.bind_eq_some_iff] at hx
  obtain ⟨x0, h0, hx⟩ := hx
  split at hx
  · rename_i id
    split at hx
    · rename_i m n rem hs
      split at hx
      · rename_i es hs2
        split at hx
        · rename_i hc
          obtain ⟨hc1, hc2⟩ := hc
          obtain rfl := Option.some.inj hx
          have hc2 : rem = [] := by simpa using hc2
          subst hc2
          obtain ⟨b, hv, hb⟩ := (ev_sound hgl ht h0).ptr_inv
          obtain ⟨b', mb, seen, last, g1, g2, g3, g4, g5, g6, g7, g8⟩ := hinv.objs id _ hs
          obtain ⟨mb', arr, clk, k1, k2, k3, k4, k5⟩ := hinv.objs m _ hs2
          rw [hb] at g1; obtain rfl := Option.some.inj g1
          rw [g2] at k1; obtain rfl := Option.some.inj k1
          obtain ⟨q1, q2⟩ := k5 rfl
          have hl : arr.size = n := by have := k4.length; simp at this; omega
          refine good_same hinv hK (v := .tuple #[.bool false]) ?_ (.tup (.of (.cons (.pure (.sc _)) .nil)))
          simp only [execOp, ho, hv, Sem.run_bind]
          rw [next_over g4 k3 (not_gone q2 g8) ((cands_eq hl q2 g5 g6 g7).1 rfl)]
          rfl
        · cases hx
      · cases hx
    · cases hx
  · cases hx
end
end Go.Proofs.YthgmhlpjbednpaaDoor.Vm
set_option linter.unusedVariables false
set_option linter.unusedSimpArgs false
namespace Go.Proofs.YthgmhlpjbednpaaDoor.Vm
open Go.RowKit
section
variable {P : Program} {G G' : Gh} {st : St} {w w' : World} {a : Act} {tm : Nat → V} {N i0 nx' : Nat} {o : Oper} {K : Act → World → Prop} {Q : Exit → Act → World → Prop} {E : Env}
theorem pint_inv (hgl : GlOK P E.gl G.pr) (ht : TmR P G N tm a) {x : Option Operand} {d n : Int} (h : pint (x.map (ev E tm)) d = some n) : (x = none ∧ n = d) ∨ ∃ y k, x = some y ∧ a.eval y = .int k n := by
  cases x with
  | none => simp [pint] at h; exact .inl ⟨rfl, h.symm⟩
  | some y =>
    simp only [Option.map_some, pint] at h
    cases hy : ev E tm y with
    | none => rw [hy] at h; simp at h
    | some v =>
      rw [hy] at h
      simp only at h
      obtain ⟨k, rfl⟩ := vint_inv h
      exact .inr ⟨y, k, rfl, (ev_sound hgl ht hy).sc_inv⟩
theorem rep_sub {p : Pr} {e : TypeId} {xs : List V} {s l h c : Nat} {A : Option Addr} (hr : RepP P p (.list e xs 0) (.slice A xs.length c)) (hs : usz P e = some s) (hl : l ≤ h) (hh : h ≤ xs.length) {m : Nat} (hm : h ≤ m) :
    RepP P p (.list e ((xs.take h).drop l) 0) (.slice (if m = l then A else A.map (·.add (l * s))) (h - l) (m - l)) := by
  obtain ⟨A', c', vs, hv', h2, h3, h4, h5, h6, h7⟩ := list_parts hr
  obtain ⟨rfl, rfl⟩ : A = A' ∧ c = c' := by simpa using hv'
  have hu : ∀ x ∈ xs.take h, x.cells.length = s := fun x hx => h4 s hs x (List.mem_of_mem_take hx)
  have hf : ((xs.take h).drop l).flatMap V.cells = ((xs.flatMap V.cells).take (h * s)).drop (l * s) := by rw [flat_drop l hu, flat_take h (h4 s hs)]
  refine .list (vs := (vs.take (h * s)).drop (l * s)) (by simp; omega) (by omega) (.inl rfl) (fun s' hs' x hx => h4 s' hs' x (List.mem_of_mem_take (List.mem_of_mem_drop hx))) (by rw [hf]; exact ones_drop (ones_take h5 _) _) (fun hne => ?_) (.of (by rw [hf]; exact (h7.take _).drop _))
  have hlt : l * s < h * s := by
    rcases Nat.lt_or_ge (l * s) (h * s) with q | q
    · exact q
    · exact absurd (List.drop_eq_nil_of_le (by rw [List.length_take]; omega)) hne
  have hlh : l < h := by
    rcases Nat.lt_or_ge l h with q | q
    · exact q
    · have := Nat.mul_le_mul_right s q; omega
  obtain ⟨ad, rfl, hlies⟩ := h6 (by rintro rfl; simp at hne)
  rw [if_neg (by omega)]
  exact ⟨_, rfl, (hlies.take _).drop _⟩
theorem op_slice (hgl : GlOK P E.gl G.pr) (hinv : Inv P G st w) (ht : TmR P G N tm a) {t : TypeId} {x : Operand} {lo hi mx : Option Operand} {r : R} (ho : o.op = .slice t x lo hi mx) (hx : xop0 P E tm st i0 nx' o = some r) (hK : Good P G st i0 nx' a o K Q r) : o.wp P a w K Q := by
  simp only [xop0, ho, Option.bind_eq_some_iff] at hx
  obtain ⟨x0, h0, hx⟩ := hx
  have hr := ev_sound hgl ht h0
  unfold xslice at hx
  split at hx
  · rename_i e xs _ el hu
    rw [Option.bind_eq_some_iff] at hx
    obtain ⟨l, hl, hx⟩ := hx
    rw [Option.bind_eq_some_iff] at hx
    obtain ⟨h, hh, hx⟩ := hx
    rw [Option.bind_eq_some_iff] at hx
    obtain ⟨m, hm, hx⟩ := hx
    split at hx
    · rename_i hc
      obtain ⟨c1, c2, c3, c4, c5, c6, c7⟩ := hc
      obtain rfl := Option.some.inj hx
      obtain ⟨s, hs⟩ := Option.isSome_iff_exists.1 c6
      obtain ⟨A, c, hv, hp, _⟩ := hr.list_inv
      have hlc : xs.length ≤ c := by cases hp; assumption
      obtain ⟨ln, rfl⟩ := Int.eq_ofNat_of_zero_le c1
      obtain ⟨hn, rfl⟩ := Int.eq_ofNat_of_zero_le (show (0 : Int) ≤ h by omega)
      have b1 : ln ≤ hn := by omega
      have b2 : hn ≤ xs.length := by omega
      have main : ∀ M : Nat, hn ≤ M → (Instr.sliceAt t (.slice A xs.length c) (lo.map a.eval) (hi.map a.eval) (mx.map a.eval)).run P w = .ok (.slice (if M = ln then A else A.map (·.add (ln * s))) (hn - ln) (M - ln)) w → o.wp P a w K Q := fun M hM hrun => by
        refine good_same hinv hK (v := .slice (if M = ln then A else A.map (·.add (ln * s))) (hn - ln) (M - ln)) ?_ (.pure ?_)
        · simp only [execOp, ho, hv]
          rw [Sem.run_bind, hrun]
          rfl
        · by_cases hel : e = el
          · subst hel
            simpa using rep_sub hp hs b1 b2 hM
          · have hxs : xs = [] := by
              rcases c5 with h | h
              · exact absurd h hel
              · simpa using h
            subst hxs
            simp at b2
            subst b2
            have : ln = 0 := by omega
            subst this
            simp
            exact .list (vs := []) rfl (Nat.zero_le _) (.inl rfl) (by simp) (by simp [ones]) (by simp) .nil
      have gl := pint_inv hgl ht hl
      have gh := pint_inv hgl ht hh
      have gm := pint_inv hgl ht hm
      rcases gm with ⟨rfl, rfl⟩ | ⟨my, mk, rfl, em⟩
      · refine main c (by omega) ?_
        rcases gh with ⟨rfl, e2⟩ | ⟨hy, hk, rfl, eh⟩
        · obtain rfl : hn = xs.length := by omega
          rcases gl with ⟨rfl, e1⟩ | ⟨ly, lk, rfl, elo⟩
          · obtain rfl : ln = 0 := by omega
            simp [Instr.sliceAt, run_underlying hu, Instr.slice, Instr.sliceBounds, run_size hs]
          · simp [Instr.sliceAt, run_underlying hu, Instr.slice, Instr.sliceBounds, Instr.sliceBound, asIntOf, elo, b1, run_size hs]
        · have bh : hn ≤ c := by omega
          rcases gl with ⟨rfl, e1⟩ | ⟨ly, lk, rfl, elo⟩
          · obtain rfl : ln = 0 := by omega
            simp [Instr.sliceAt, run_underlying hu, Instr.slice, Instr.sliceBounds, Instr.sliceBound, asIntOf, eh, bh, run_size hs]
          · simp [Instr.sliceAt, run_underlying hu, Instr.slice, Instr.sliceBounds, Instr.sliceBound, asIntOf, elo, eh, b1, bh, run_size hs]
      · rcases gh with ⟨rfl, e2⟩ | ⟨hy, hk, rfl, eh⟩
        · simp at c7
        · obtain rfl : m = hn := c4
          have bh : hn ≤ c := by omega
          refine main hn (Nat.le_refl _) ?_
          rcases gl with ⟨rfl, e1⟩ | ⟨ly, lk, rfl, elo⟩
          · obtain rfl : ln = 0 := by omega
            simp [Instr.sliceAt, run_underlying hu, Instr.slice, Instr.sliceBounds, Instr.sliceBound, asIntOf, eh, em, bh, run_size hs]
          · simp [Instr.sliceAt, run_underlying hu, Instr.slice, Instr.sliceBounds, Instr.sliceBound, asIntOf, elo, eh, em, b1, bh, run_size hs]
    · cases hx
  · rename_i str hu
    have hv := hr.sc_inv
    have done : ∀ (z : Value) (lv hv' : Option Value), lo.map a.eval = lv → hi.map a.eval = hv' → mx = none → (Instr.slice t (.string str) lv hv' none).run P w = .ok z w → Good P G st i0 nx' a o K Q (.val (.sc z) [] []) → o.wp P a w K Q := fun z lv hv' e1 e2 e3 hrun hK => by
      refine good_same hinv hK (v := z) ?_ (.pure (.sc _))
      simp only [execOp, ho, hv, e1, e2, e3, Option.map_none]
      rw [Sem.run_bind]
      have : (Instr.sliceAt t (.string str) lv hv' none).run P w = .ok z w := by
        simp only [Instr.sliceAt, Sem.run_bind, run_underlying hu, Result.andThen_ok]
        exact hrun
      rw [this]
      rfl
    have lom : ∀ {y : Option Operand} {u : Value}, y.map (ev E tm) = some (some (.sc u)) → y.map a.eval = some u := fun {y u} hy => by
      cases y with
      | none => simp at hy
      | some y => simp at hy; simp [(ev_sound hgl ht hy).sc_inv]
    have non : ∀ {y : Option Operand}, y.map (ev E tm) = none → y = none := fun {y} hy => by cases y <;> simp_all
    split at hx
    · rename_i e1 e2 e3
      obtain rfl := Option.some.inj hx
      have f1 := non e1; have f2 := non e2; have f3 := non e3
      refine done _ none none (by rw [f2]; rfl) (by rw [f3]; rfl) f1 ?_ hK
      simp [Instr.slice, run_underlying hu, Instr.sliceBounds]
    · rename_i l e1 e2 e3
      rw [Option.map_eq_some_iff] at hx
      obtain ⟨z, hz, rfl⟩ := hx
      have f1 := non e1; have f2 := lom e2; have f3 := non e3
      exact done z _ none f2 (by rw [f3]; rfl) f1 (reck_run _ hz w) hK
    · rename_i l e1 e2 e3
      rw [Option.map_eq_some_iff] at hx
      obtain ⟨z, hz, rfl⟩ := hx
      have f1 := non e1; have f2 := non e2; have f3 := lom e3
      exact done z none _ (by rw [f2]; rfl) f3 f1 (reck_run _ hz w) hK
    · rename_i l h e1 e2 e3
      rw [Option.map_eq_some_iff] at hx
      obtain ⟨z, hz, rfl⟩ := hx
      have f1 := non e1; have f2 := lom e2; have f3 := lom e3
      exact done z _ _ f2 f3 f1 (reck_run _ hz w) hK
    · cases hx
  · cases hx
end
end Go.Proofs.YthgmhlpjbednpaaDoor.Vm
set_option linter.unusedVariables false
set_option linter.unusedSimpArgs false
namespace Go.Proofs.YthgmhlpjbednpaaDoor.Vm
open Go.RowKit
section
variable {P : Program} {G G' : Gh} {st : St} {w w' : World} {a : Act} {tm : Nat → V} {N i0 nx' : Nat} {o : Oper} {K : Act → World → Prop} {Q : Exit → Act → World → Prop} {E : Env}
theorem seg_step {α : Type} (l : List α) (k : Nat) (v : α) (rest : List α) (h : k < l.length) : (l.set k v).take (k + 1) ++ rest ++ (l.set k v).drop (k + 1 + rest.length) = l.take k ++ (v :: rest) ++ l.drop (k + (rest.length + 1)) := by
  have h1 : (l.set k v).take (k + 1) = l.take k ++ [v] := by
    rw [List.take_add_one, List.take_set_of_le (Nat.le_refl _)]
    simp [h]
  have h2 : (l.set k v).drop (k + 1 + rest.length) = l.drop (k + (rest.length + 1)) := by
    rw [List.drop_set_of_lt (by omega)]
    congr 1; omega
  rw [h1, h2]; simp
theorem fold_set (off : Nat) : ∀ (l : List Value) (k : Nat) (cells : Array Value), off + k + l.length ≤ cells.size →
    ((l.zipIdx k).foldl (fun cs p => cs.setIfInBounds (off + p.2) p.1) cells).toList = cells.toList.take (off + k) ++ l ++ cells.toList.drop (off + k + l.length)
  | [], k, cells, _ => by simp
  | v :: l, k, cells, h => by
    rw [List.zipIdx_cons, List.foldl_cons, fold_set off l (k + 1) _ (by simp at h ⊢; omega)]
    simp only [Array.toList_setIfInBounds]
    have := seg_step cells.toList (off + k) v l (by simp at h ⊢; omega)
    rw [List.length_cons, ← this]
    simp only [Nat.add_assoc]
theorem fill_step (place : Nat → Option (Nat × Nat)) (cells : Array Value) (i : Nat) (v : Value) (rest : List (Nat × Value)) {off size : Nat} (hp : place i = some (off, size)) (h1 : v.cells.size = size) (h2 : off + v.cells.size ≤ cells.size) :
    Instr.fill place cells ((i, v) :: rest) = Instr.fill place (cells.toList.take off ++ v.cells.toList ++ cells.toList.drop (off + v.cells.size)).toArray rest := by
  have h3 : ¬ (cells.size < off + v.cells.size) := by omega
  simp only [Instr.fill, hp, h1]
  rw [if_neg (by simp; omega)]
  congr 1
  apply Array.ext'
  rw [← Array.foldl_toList, Array.toList_zipIdx]
  have := fold_set off v.cells.toList 0 cells (by simpa using h2)
  simpa [h1] using this
theorem fill_sound {place : Nat → Option (Nat × Nat)} : ∀ {vs : List (Nat × V)} {us : List (Nat × Value)} {cs ds : List V} {cells : Array Value}, All2 (fun p q => p.1 = q.1 ∧ Rep P G p.2 q.2) vs us → All2 (Rep P G) cs cells.toList → xfill place cs vs = some ds → (∀ p ∈ vs, ones p.2.cells = true) →
    ∃ arr, Instr.fill place cells us = some arr ∧ All2 (Rep P G) ds arr.toList
  | [], _, cs, ds, cells, h, hc, hf, _ => by cases h; simp [xfill] at hf; subst hf; exact ⟨cells, by simp [Instr.fill], hc⟩
  | (i, v) :: vs, _, cs, ds, cells, h, hc, hf, h1 => by
    cases h with
    | cons h2 h3 =>
      rename_i q us
      obtain ⟨qi, qv⟩ := q
      obtain ⟨rfl, hr⟩ := h2
      unfold xfill at hf
      split at hf
      · cases hf
      · rename_i off size hp
        split at hf
        · cases hf
        · rename_i hn
          have hcv := rep_cells hr (h1 _ (by simp))
          have hl := hcv.length
          have hlc := hc.length
          simp only [Array.length_toList] at hl hlc
          rw [fill_step place cells i qv us hp (by omega) (by omega)]
          have e : off + qv.cells.size = off + v.cells.length := by omega
          rw [e]
          exact fill_sound h3 (by simpa using ((hc.take off).append hcv).append (hc.drop _)) hf fun p hp => h1 p (by simp [hp])
theorem parts_sound (hgl : GlOK P E.gl G.pr) (ht : TmR P G N tm a) : ∀ {l : List (Nat × Operand)} {vs : List (Nat × V)}, (l.mapM fun (p : Nat × Operand) => (ev E tm p.2).map fun v => (p.1, v)) = some vs → All2 (fun p q => p.1 = q.1 ∧ Rep P G p.2 q.2) vs (l.map fun (i, x) => (i, a.eval x)) := fun {l vs} h => by
  have h2 := mapM_some h
  clear h
  induction h2 with
  | nil => exact .nil
  | cons h _ ih =>
    rw [Option.map_eq_some_iff] at h
    obtain ⟨v, hv, rfl⟩ := h
    exact .cons ⟨rfl, ev_sound hgl ht hv⟩ ih
theorem run_mapM {α β : Type} {f : α → Sem β} {g : α → β} : ∀ {l : List α}, (∀ x ∈ l, ∀ w, (f x).run P w = .ok (g x) w) → ∀ w, (l.mapM f).run P w = .ok (l.map g) w
  | [], _, w => by simp
  | x :: l, h, w => by
    rw [List.mapM_cons]
    simp [h x (by simp), run_mapM (l := l) fun y hy => h y (by simp [hy])]
theorem xfill_mono {p q : Nat → Option (Nat × Nat)} (h : ∀ i x, p i = some x → q i = some x) : ∀ {vs : List (Nat × V)} {cs ds : List V}, xfill p cs vs = some ds → xfill q cs vs = some ds
  | [], cs, ds, hx => hx
  | (i, v) :: vs, cs, ds, hx => by
    simp only [xfill] at hx ⊢
    cases hp : p i with
    | none => rw [hp] at hx; cases hx
    | some x =>
      rw [hp] at hx
      rw [h i x hp]
      simp only at hx ⊢
      split at hx
      · cases hx
      · rename_i hc; rw [if_neg hc]; exact xfill_mono h hx
theorem op_build (hgl : GlOK P E.gl G.pr) (hinv : Inv P G st w) (ht : TmR P G N tm a) {t : TypeId} {ps : Array (Nat × Operand)} {r : R} (ho : o.op = .build t ps) (hx : xop0 P E tm st i0 nx' o = some r) (hK : Good P G st i0 nx' a o K Q r) : o.wp P a w K Q := by
  simp only [xop0, ho, Option.bind_eq_some_iff] at hx
  obtain ⟨vs, hvs, hx⟩ := hx
  have hp := parts_sound hgl ht hvs
  split at hx
  · rename_i z fs hz hu
    rw [Option.bind_eq_some_iff] at hx
    obtain ⟨cs, hcs, hx⟩ := hx
    split at hx
    · rename_i hc
      obtain rfl := Option.some.inj hx
      simp only [Bool.and_eq_true] at hc
      obtain ⟨⟨⟨c1, c3⟩, c4⟩, c2⟩ := hc
      have hall : ∀ f ∈ fs.toList, ∃ s, usz P f.type = some s := fun f hf => Option.isSome_iff_exists.1 (by
        have := Array.all_eq_true.1 c1
        obtain ⟨i, hi⟩ := List.getElem?_of_mem hf
        have hlt : i < fs.size := by have := (List.getElem?_eq_some_iff.1 hi).1; simpa using this
        have h2 := this i hlt
        have h3 : fs[i] = f := by simpa [hlt] using hi
        rw [h3] at h2; exact h2)
      have hrun : (fs.mapM fun f => do pure (f.offset, ← sizeOf f.type) : Sem (Array (Nat × Nat))).run P w = .ok (fs.map fun f => (f.offset, (usz P f.type).getD 0)) w := by
        rw [Array.mapM_eq_mapM_toList]
        have := run_mapM (P := P) (f := fun (f : Field) => (do pure (f.offset, ← sizeOf f.type) : Sem (Nat × Nat))) (g := fun f => (f.offset, (usz P f.type).getD 0)) (l := fs.toList) (fun f hf w => by
          obtain ⟨s, hs⟩ := hall f hf
          simp [run_size hs, hs]) w
        rw [Sem.run_map, this]
        simp only [Result.andThen_ok]
        congr 1
        apply Array.ext'
        simp
      have hpl : ((fs.map fun (f : Field) => (f.offset, (usz P f.type).getD 0))[·]?) = fun (i : Nat) => (fs[i]?).bind fun (f : Field) => (usz P f.type).map fun s => (f.offset, s) := by
        funext i
        rw [Array.getElem?_map]
        cases hi : fs[i]? with
        | none => rfl
        | some f =>
          obtain ⟨s, hs⟩ := hall f (by rw [← Array.getElem?_toList] at hi; exact List.mem_of_getElem? hi)
          simp [hs]
      have hrz : Rep P G (V.ofV z) z := .pure (rep_ofV _ _ c3)
      have h1 : ∀ p ∈ vs, ones p.2.cells = true := fun p hp => List.all_eq_true.1 c4 p hp
      obtain ⟨arr, ha, hr⟩ := fill_sound (cells := z.cells) hp (rep_cells hrz c3) hcs h1
      have harr : arr = arr.toList.toArray := by simp
      refine good_same hinv hK (v := .agg arr) ?_ (by rw [harr]; exact .agg c2 (.of hr))
      have e1 : (ps.map fun x => (x.1, a.eval x.2)).toList = ps.toList.map fun (i, x) => (i, a.eval x) := by simp
      simp only [execOp, ho, Instr.build, Sem.run_bind, run_zero hz, Result.andThen_ok, run_underlying hu, hrun, hpl, e1, ha, Sem.run_pure]
    · cases hx
  · rename_i z n el hz hu
    rw [Option.bind_eq_some_iff] at hx
    obtain ⟨s, hs, hx⟩ := hx
    rw [Option.bind_eq_some_iff] at hx
    obtain ⟨cs, hcs, hx⟩ := hx
    split at hx
    · rename_i hc
      obtain rfl := Option.some.inj hx
      simp only [Bool.and_eq_true] at hc
      obtain ⟨⟨c3, c4⟩, c2⟩ := hc
      have hcs := xfill_mono (q := fun i => some (i * s, s)) (fun i x h => by split at h; exact h; cases h) hcs
      have hrz : Rep P G (V.ofV z) z := .pure (rep_ofV _ _ c3)
      have h1 : ∀ p ∈ vs, ones p.2.cells = true := fun p hp => List.all_eq_true.1 c4 p hp
      obtain ⟨arr, ha, hr⟩ := fill_sound (cells := z.cells) hp (rep_cells hrz c3) hcs h1
      have harr : arr = arr.toList.toArray := by simp
      refine good_same hinv hK (v := .agg arr) ?_ (by rw [harr]; exact .agg c2 (.of hr))
      have e1 : (ps.map fun x => (x.1, a.eval x.2)).toList = ps.toList.map fun (i, x) => (i, a.eval x) := by simp
      simp only [execOp, ho, Instr.build, Sem.run_bind, run_zero hz, Result.andThen_ok, run_underlying hu, run_size hs, e1, ha, Sem.run_pure]
    · cases hx
  · cases hx
theorem pur_cells {x y : V} (h : x.pur? = some y) : y.cells.length = x.cells.length ∧ (ones x.cells = true → ones y.cells = true) := by
  unfold V.pur? at h
  split at h
  · rename_i cs
    rw [Option.map_eq_some_iff] at h
    obtain ⟨ds, hds, rfl⟩ := h
    exact ⟨(mapM_some hds).length.symm, fun h1 => pur1_ones hds h1⟩
  · rename_i hne
    have : x.cells = [x] := by cases x <;> first | rfl | exact absurd rfl (hne _)
    have hy : y.cells = [y] := by
      cases x <;> simp [V.pur1?] at h
      · subst h; rfl
      · subst h; rfl
      · subst h; rfl
      · rename_i f a b
        cases a <;> cases b <;> simp [V.pur1?] at h
        subst h; rfl
    rw [this, hy]
    refine ⟨rfl, fun h1 => ?_⟩
    rcases pur1_one h with h2 | ⟨v, rfl, rfl⟩
    · simpa [ones] using h2
    · exact h1
theorem fill_slice {s : Nat} : ∀ {vs : List (Nat × V)} {us : List (Nat × Value)} {k : Nat} {done : List Value} {cells : Array Value}, All2 (fun p q => p.1 = q.1 ∧ Rep P G p.2 q.2) vs us → vs.map (·.1) = List.range' k vs.length → (∀ p ∈ vs, p.2.cells.length = s ∧ ones p.2.cells = true) →
    done.length = k * s → cells.size = (k + vs.length) * s → cells.toList.take (k * s) = done →
    ∃ arr, Instr.fill (fun i => some (i * s, s)) cells us = some arr ∧ arr.toList = done ++ us.flatMap fun q => q.2.cells.toList
  | [], _, k, done, cells, h, _, _, hd, hc, ht => by
    cases h
    refine ⟨cells, by simp [Instr.fill], ?_⟩
    simp only [List.length_nil, Nat.add_zero] at hc
    rw [List.flatMap_nil, List.append_nil, ← ht, List.take_of_length_le (by simp; omega)]
  | (i, v) :: vs, _, k, done, cells, h, hr, hs, hd, hc, ht => by
    cases h with
    | cons h2 h3 =>
      rename_i q us
      obtain ⟨qi, qv⟩ := q
      obtain ⟨rfl, hrep⟩ := h2
      rw [List.map_cons, List.length_cons, List.range'_succ, List.cons.injEq] at hr
      obtain ⟨hi0, hr⟩ := hr
      have hi0 : i = k := hi0
      subst hi0
      obtain ⟨hs1, hs2⟩ := hs _ (List.mem_cons_self ..)
      have hs1 : v.cells.length = s := hs1
      have hcv := (rep_cells hrep hs2).length
      simp only [Array.length_toList] at hcv
      have hsz : qv.cells.size = s := by omega
      have hc2 : cells.size = i * s + s + vs.length * s := by rw [hc, List.length_cons, Nat.add_mul, Nat.succ_mul]; omega
      rw [fill_step _ cells i qv us rfl hsz (by omega)]
      obtain ⟨arr, h4, h5⟩ := fill_slice (s := s) (k := i + 1) (done := done ++ qv.cells.toList) (cells := (cells.toList.take (i * s) ++ qv.cells.toList ++ cells.toList.drop (i * s + qv.cells.size)).toArray) h3 hr (fun p hp => hs p (by simp [hp])) (by simp [hd, hsz, Nat.succ_mul]) (by simp [hsz]; rw [Nat.add_mul, Nat.succ_mul]; omega) (by
        have e : (i + 1) * s = (cells.toList.take (i * s) ++ qv.cells.toList).length := by simp [hsz, Nat.succ_mul]; omega
        rw [e, List.toList_toArray, List.take_left, ht])
      exact ⟨arr, h4, by rw [h5]; simp⟩
theorem purs_rep {vs : List (Nat × V)} {xs : List V} {us : List (Nat × Value)} (h : All2 (fun p q => p.1 = q.1 ∧ Rep P G p.2 q.2) vs us) (hx : vs.mapM (fun (p : Nat × V) => p.2.pur?) = some xs) (h1 : ∀ p ∈ vs, ones p.2.cells = true) :
    All2 (RepP P G.pr) (xs.flatMap V.cells) (us.flatMap fun q => q.2.cells.toList) := by
  have hx2 := mapM_some hx
  clear hx
  induction hx2 generalizing us with
  | nil => cases h; exact .nil
  | cons h2 _ ih =>
    cases h with
    | cons h3 h4 =>
      rw [List.flatMap_cons, List.flatMap_cons]
      exact (repP_cells (rep_pur h3.2 h2) ((pur_cells h2).2 (h1 _ (by simp)))).append (ih h4 fun p hp => h1 p (by simp [hp]))
theorem own_lit0 (w : World) (base e s n : Nat) (arr : Array Value) (hb : base ≤ w.heap.size) (hm : n ≤ maxLen) (hs : arr.size = n * s) : (w.alloc (.cells arr e)).ownsRow base e s (.slice (some ⟨w.heap.size, 0, none⟩) n n) n arr.toList :=
  ⟨by simpa using hs, .inr ⟨w.heap.size, n, arr, rfl, hb, heap_alloc_new w _, Nat.le_refl _, hm, hs, by rw [← hs, ← Array.length_toList, List.take_length]⟩⟩
theorem rep_tok {e s n i : Nat} {xs : List V} {v' : Value} {vs : List Value} (h8 : 8 ≤ i) (hs : usz P e = some s) (hown : w.ownsRow G.base e s v' n vs) (hn : xs.length = n) (htl : G.tl i = some v') (hpr : ∀ b, v'.ownBlock = some b → ∀ o, o < n * s → G.pr b o = vs[o]?)
    (hu : ∀ x ∈ xs, x.cells.length = s) (h1 : ones (xs.flatMap V.cells) = true) (hr : All2 (RepP P G.pr) (xs.flatMap V.cells) vs) : Rep P G (.list e xs i) v' := by
  rcases hown.2 with ⟨rfl, rfl⟩ | ⟨g, cap, cur, rfl, _, hh, hc, _⟩
  · have hx : xs = [] := List.eq_nil_of_length_eq_zero hn
    subst hx
    exact .tok h8 (.list (vs := []) rfl (Nat.le_refl _) (.inl rfl) (by simp) (by simp [ones]) (by simp) .nil) htl (Nat.le_refl _) fun _ => rfl
  · refine .tok h8 (.list (vs := vs) hn hc (.inl rfl) (fun s' hs' x hx => by rw [hs] at hs'; obtain rfl := Option.some.inj hs'; exact hu x hx) h1 (fun _ => ⟨_, rfl, fun j u hj => ?_⟩) (.of hr)) htl (Nat.le_refl _) fun _ => rfl
    rw [blk_add, Nat.zero_add]
    have hlt : j < n * s := by have := (List.getElem?_eq_some_iff.1 hj).1; rw [hown.1] at this; exact this
    exact ⟨rfl, by rw [hpr g rfl j hlt]; exact hj⟩
theorem same_tl {i : Nat} (hi : R8 i0 i) (v : Value) (p : Pr) : Same G { G with pr := p, tl := upd G.tl i (some v) } (R8 i0) := fun k hk => ⟨id, fun h => by
  have : k ≠ i := fun e => hk (by subst e; exact hi)
  simpa [upd, this] using h⟩
theorem op_buildSlice (hgl : GlOK P E.gl G.pr) (hinv : Inv P G st w) (ht : TmR P G N tm a) (hfr : Fresh G (R8 i0)) (h8 : 8 ≤ i0) {t : TypeId} {n : Nat} {ps : Array (Nat × Operand)} {r : R} (ho : o.op = .buildSlice t n ps) (hx : xop0 P E tm st i0 nx' o = some r) (hK : Good P G st i0 nx' a o K Q r) : o.wp P a w K Q := by
  simp only [xop0, ho, Option.bind_eq_some_iff] at hx
  obtain ⟨vs, hvs, hx⟩ := hx
  have hp := parts_sound hgl ht hvs
  split at hx
  · rename_i e he
    rw [Option.bind_eq_some_iff] at hx
    obtain ⟨s, hs, hx⟩ := hx
    split at hx
    · rename_i hc
      obtain ⟨c1, c2, c3, c4, c5⟩ := hc
      split at hx
      · rename_i hall
        rw [Option.bind_eq_some_iff] at hx
        obtain ⟨xs, hxs, hx⟩ := hx
        obtain rfl := Option.some.inj hx
        obtain ⟨z, hz⟩ := Option.isSome_iff_exists.1 c5
        have hu := uel_u he
        have hparts : ∀ p ∈ vs, p.2.cells.length = s ∧ ones p.2.cells = true := fun p hp => by
          have := List.all_eq_true.1 hall p hp
          simp only [Bool.and_eq_true, beq_iff_eq] at this
          exact ⟨this.1.1, this.1.2⟩
        have hlen : vs.length = n := by have := congrArg List.length c1; simpa using this
        have hsz0 : ((Array.range (n * s)).map (fun i => z.cells[i % z.cells.size]!)).size = n * s := by simp
        have hsz1 : ∀ init : Array Value, init.size = n * s → ∃ arr, Instr.fill (fun i => some (i * s, s)) init (ps.toList.map fun (i, x) => (i, a.eval x)) = some arr ∧ arr.toList = (ps.toList.map fun (i, x) => (i, a.eval x)).flatMap fun q => q.2.cells.toList := fun init hinit => by
          obtain ⟨arr, h1, h2⟩ := fill_slice (s := s) (k := 0) (done := []) (cells := init) hp (by rw [c1, hlen, List.range_eq_range']) hparts (by simp) (by rw [hinit, hlen]; simp) (by simp)
          exact ⟨arr, h1, by simpa using h2⟩
        have hrep := purs_rep hp hxs fun p hp => (hparts p hp).2
        have hnm : ¬ (16777216 < n * s) := by have : n * s ≤ 1000 * 1000 := Nat.mul_le_mul c2 c3; omega
        have e1 : (ps.map fun x => (x.1, a.eval x.2)).toList = ps.toList.map fun (i, x) => (i, a.eval x) := by simp
        have hxl : xs.length = n := by rw [← (mapM_some hxs).length]; exact hlen
        have hus : ∀ x ∈ xs, x.cells.length = s := fun x hx => by
          obtain ⟨i, hi⟩ := List.getElem?_of_mem hx
          obtain ⟨p, hp1, hp2⟩ := (mapM_some hxs).get' hi
          rw [(pur_cells hp2).1]; exact (hparts p (List.mem_of_getElem? hp1)).1
        have h1s : ones (xs.flatMap V.cells) = true := List.all_eq_true.2 fun c hc => by
          obtain ⟨x, hx, hcx⟩ := List.mem_flatMap.1 hc
          obtain ⟨i, hi⟩ := List.getElem?_of_mem hx
          obtain ⟨p, hp1, hp2⟩ := (mapM_some hxs).get' hi
          exact List.all_eq_true.1 ((pur_cells hp2).2 (hparts p (List.mem_of_getElem? hp1)).2) c hcx
        have hf := hfr i0 (r8_self i0)
        have run : ∃ arr, (execOp a.eval o).run P w = .ok (.value (.slice (some ⟨w.heap.size, 0, none⟩) n n)) (w.alloc (.cells arr e)) ∧ arr.size = n * s ∧ arr.toList = (ps.toList.map fun (i, x) => (i, a.eval x)).flatMap fun q => q.2.cells.toList := by
          by_cases h0 : n * s = 0
          · obtain ⟨arr, h1, h2⟩ := hsz1 ((Array.range (n * s)).map fun i => (#[] : Array Value)[i % (#[] : Array Value).size]!) (by simp)
            refine ⟨arr, ?_, ?_, h2⟩
            · simp only [execOp, ho, Instr.buildSlice, Sem.run_bind, run_underlying hu, Result.andThen_ok, run_size hs]
              rw [if_neg (by simpa using hnm), if_pos h0]
              simp only [pure_bind, Sem.run_pure, Result.andThen_ok, e1, h1, Sem.run_bind, newRow, run_newObj]
              rfl
            · have := hrep.length
              rw [flat_len hus, hxl, ← h2] at this
              simpa using this.symm
          · obtain ⟨arr, h1, h2⟩ := hsz1 ((Array.range (n * s)).map fun i => z.cells[i % z.cells.size]!) (by simp)
            refine ⟨arr, ?_, ?_, h2⟩
            · simp only [execOp, ho, Instr.buildSlice, Sem.run_bind, run_underlying hu, Result.andThen_ok, run_size hs]
              rw [if_neg (by simpa using hnm), if_neg h0]
              simp only [pure_bind, Sem.run_pure, Result.andThen_ok, e1, h1, Sem.run_bind, newRow, run_newObj, run_zero hz]
              rfl
            · have := hrep.length
              rw [flat_len hus, hxl, ← h2] at this
              simpa using this.symm
        obtain ⟨arr, hrun, hasz, hal⟩ := run
        have hrep' : All2 (RepP P G.pr) (xs.flatMap V.cells) arr.toList := by rw [hal]; exact hrep
        have hown := own_lit0 w G.base e s n arr hinv.size (by simp only [maxLen]; omega) hasz
        obtain ⟨hg, hi⟩ := hinv.row (w' := w.alloc (.cells arr e)) i0 (v := .slice none 0 0) (v' := .slice (some ⟨w.heap.size, 0, none⟩) n n) (n := 0) (n' := n) (vs := []) (news := arr.toList) hs (World.ownsRow_nil w G.base e s) (.inl ⟨bx_none_st hinv hf.1 hf.2, hf.2, rfl⟩) hf.1 (by simpa using hown) (.inr ⟨rfl, rfl, rfl, rfl, by simp, fun k hk _ => Below.heap_alloc w _ k hk⟩) (Nat.zero_le _) (fun h => by rw [bx_none_st hinv hf.1 hf.2] at h; cases h)
        refine wp_val hrun (hK _ _ _ hg (same_tl (r8_self i0) _ _) hi (rep_tok h8 hs hown hxl (by simp [upd]) (fun b hb o ho => ?_) hus h1s (hrep'.mono fun _ _ => RepP.mono hg.pr)))
        show (if _ then _ else _) = _
        rw [if_pos ⟨hb.symm, ho⟩, List.nil_append]
      · cases hx
    · cases hx
  · cases hx
end
end Go.Proofs.YthgmhlpjbednpaaDoor.Vm
set_option linter.unusedVariables false
set_option linter.unusedSimpArgs false
namespace Go.Proofs.YthgmhlpjbednpaaDoor.Vm
open Go.RowKit
section
variable {P : Program} {G G' : Gh} {st : St} {w w' : World} {a : Act} {tm : Nat → V} {N i0 nx' : Nat} {o : Oper} {K : Act → World → Prop} {Q : Exit → Act → World → Prop} {E : Env}
theorem arr_of_list {α : Type} {x : Array α} {l : List α} (h : x.toList = l) : x = l.toArray := by subst h; simp
theorem args_arr {c : Call} {vs : List Value} (h : c.args.toList.map a.eval = vs) : c.args.map a.eval = vs.toArray := arr_of_list (by simpa using h)
theorem source_ok (hinv : Inv P G st w) {t t' el : TypeId} {y : V} {u : Value} {ys : List V} {i : TypeInfo} (hi : P.info? el = some i) (hel : uel P t = some el) (hr : Rep P G y u)
    (hty : srcTy P t t' y = true)
    (hys : src P el y = some ys) :
    ∃ d news, P.underlying t' = some d ∧ ((∃ e', d = .slice e') ∨ d = .string) ∧ (∀ w', (Builtin.lenOf u).run P w' = .ok ys.length w') ∧ (∀ w' : World, w'.heap = w.heap → (Builtin.firstCells i.size ys.length u).run P w' = .ok news.toArray w') ∧
      All2 (RepP P G.pr) (ys.flatMap V.cells) news ∧ (∀ x ∈ ys, x.cells.length = i.size) ∧ ones (ys.flatMap V.cells) = true := by
  have hsz : usz P el = some i.size := by simp [usz, hi]
  cases y with
  | list e' ys' r' =>
    simp only [src, srcTy] at hty hys
    split at hys
    · rename_i hc
      obtain rfl := Option.some.inj hys
      simp only [beq_iff_eq] at hty
      subst hty
      obtain ⟨A, c, hv, hp, _⟩ := hr.list_inv
      obtain ⟨A', c', vs, hv', h2, h3, h4, h5, h6, h7⟩ := list_parts hp
      obtain ⟨rfl, rfl⟩ : A = A' ∧ c = c' := by simpa using hv'
      subst hv
      have hall : ∀ x ∈ ys', x.cells.length = i.size := by
        rcases hc with rfl | hc
        · exact h4 _ hsz
        · have : ys' = [] := by simpa using hc
          subst this; simp
      have hl : vs.length = ys'.length * i.size := by rw [← h7.length, flat_len hall]
      refine ⟨_, vs, uel_u hel, .inl ⟨_, rfl⟩, fun w' => by simp [Builtin.lenOf], fun w' hw => ?_, h7, hall, h5⟩
      cases A with
      | none =>
        have : vs = [] := by
          rcases vs with _ | ⟨v, vs⟩
          · rfl
          · obtain ⟨ad, h, _⟩ := h6 (by simp); cases h
        subst this
        simp [Builtin.firstCells]
      | some ad =>
        refine run_firstCells_some w' i.size _ ad _ _ vs hl fun j u hu => ?_
        obtain ⟨ad', h, hlies⟩ := h6 (by intro e; rw [e] at hu; simp at hu)
        obtain rfl := Option.some.inj h
        have := cell_lies hinv hlies hu
        rw [← this]
        simp only [World.cell?, hw]
    · cases hys
  | sc v =>
    cases v with
    | string s =>
      simp only [src, srcTy] at hty hys
      split at hys
      · rename_i hc
        simp only [Bool.and_eq_true, beq_iff_eq] at hc
        obtain rfl := Option.some.inj hys
        have hv := hr.sc_inv
        subst hv
        have h1 : i.size = 1 := by have := hc.2; rw [hsz] at this; simpa using this
        refine ⟨_, s.data.toList.map fun b => Value.int .u8 b.toNat, isStr_u hty, .inr rfl, fun w' => by simp [Builtin.lenOf, bytesV_length], fun w' _ => ?_, ?_, ?_, ?_⟩
        · have hx : (Array.map (fun b : UInt8 => Value.int IntKind.u8 (b.toNat : Int)) s.data).extract 0 s.size = Array.map (fun b : UInt8 => Value.int IntKind.u8 (b.toNat : Int)) s.data := by
            have hs : s.size = (Array.map (fun b : UInt8 => Value.int IntKind.u8 (b.toNat : Int)) s.data).size := by rw [Array.size_map]; rfl
            rw [hs, Array.extract_size]
          have e : (List.map (fun b : UInt8 => Value.int IntKind.u8 (b.toNat : Int)) s.data.toList).toArray = Array.map (fun b : UInt8 => Value.int IntKind.u8 (b.toNat : Int)) s.data := by apply Array.ext'; simp
          rw [e]
          simp [Builtin.firstCells, bytesV_length, hx]
        · rw [flat_bytes]; exact bytes_all2 _
        · intro x hx
          simp only [bytesV, List.mem_map] at hx
          obtain ⟨b, _, rfl⟩ := hx
          rw [h1]; rfl
        · rw [flat_bytes]
          refine List.all_eq_true.2 fun x hx => ?_
          simp only [bytesV, List.mem_map] at hx
          obtain ⟨b, _, rfl⟩ := hx
          rfl
      · cases hys
    | _ => simp [src] at hys
  | _ => simp [src] at hys
theorem rest_ok (hinv : Inv P G st w) {e s r : Nat} {xs : List V} {v : Value} (h8 : 8 ≤ r) (hr : Rep P G (.list e xs r) v) (hst : st r = some (.tok xs.length e)) (hs : usz P e = some s) :
    ∃ vs, G.tl r = some v ∧ w.ownsRow G.base e s v xs.length vs ∧ All2 (RepP P G.pr) (xs.flatMap V.cells) vs ∧ (∀ x ∈ xs, x.cells.length = s) ∧ ones (xs.flatMap V.cells) = true ∧
      ∀ b, v.ownBlock = some b → ∀ o, o < xs.length * s → G.pr b o = vs[o]? := by
  obtain ⟨A, c, rfl, hp, _, ho⟩ := hr.list_inv
  obtain ⟨v0, s', vs0, h1, h2, h3, _⟩ := hinv.objs r _ hst
  rw [hs] at h2
  obtain rfl := Option.some.inj h2
  rcases ho with rfl | rfl | ⟨_, v1, h4, h5⟩
  · omega
  · omega
  · rw [h1] at h4
    obtain rfl := Option.some.inj h4
    have hv := h5 (vlen_own h3).symm
    subst hv
    obtain ⟨A', c', vs, hv', k2, k3, k4, k5, k6, k7⟩ := list_parts hp
    obtain ⟨rfl, rfl⟩ : A = A' ∧ c = c' := by simpa using hv'
    have hl : vs.length = xs.length * s := by rw [← k7.length, flat_len (k4 s hs)]
    have hvs : vs = vs0 := by
      apply List.ext_getElem?
      intro j
      rcases Nat.lt_or_ge j (xs.length * s) with hj | hj
      · have e1 : vs[j]? = some vs[j] := List.getElem?_eq_getElem (by omega)
        have e2 : vs0[j]? = some (vs0[j]'(by rw [h3.1]; exact hj)) := List.getElem?_eq_getElem _
        obtain ⟨ad, rfl, hlies⟩ := k6 (by rintro rfl; simp at hl; omega)
        rcases h3.2 with ⟨h6, _⟩ | ⟨g, cap, cur, h6, _⟩
        · cases h6
        · obtain ⟨rfl, rfl⟩ : ad = ⟨g, 0, none⟩ ∧ c = cap := by simpa using h6
          have c1 := cell_lies hinv hlies e1
          have c2 := own_cells h3 (g := g) rfl e2
          rw [blk_add, Nat.zero_add, c2] at c1
          rw [e1, e2]
          exact c1.symm
      · rw [List.getElem?_eq_none (by omega), List.getElem?_eq_none (by rw [h3.1]; exact hj)]
    subst hvs
    refine ⟨vs, h1, h3, k7, k4 s hs, k5, fun b hb o ho => ?_⟩
    obtain ⟨ad, rfl, hlies⟩ := k6 (by rintro rfl; simp at hl; omega)
    have e1 : vs[o]? = some vs[o] := List.getElem?_eq_getElem (by omega)
    rcases h3.2 with ⟨h6, _⟩ | ⟨g, cap, cur, h6, _⟩
    · cases h6
    · obtain ⟨rfl, rfl⟩ : ad = ⟨g, 0, none⟩ ∧ c = cap := by simpa using h6
      obtain rfl : g = b := by simpa [Value.ownBlock] using hb
      have := (hlies o _ e1).2
      rw [blk_add] at this
      simp only [Nat.zero_add] at this
      rw [this, e1]
theorem run_builtin {c : Call} {f : Sem Value} {b : Builtin} (ho : o.op = .call c) (hc : c.callee = .builtin b) (hf : ∀ k, builtin b c.argTypes o.type k (c.args.map a.eval) = (do pure (.value (← f)))) {v : Value} (hr : f.run P w = .ok v w') : (execOp a.eval o).run P w = .ok (.value v) w' := by
  simp only [execOp, ho, resolve, hc, pure_bind, invoke, hf]
  rw [Sem.run_bind, hr]
  rfl
theorem ones_flat_append {xs ys : List V} (h : ones (xs.flatMap V.cells) = true) (k : ones (ys.flatMap V.cells) = true) : ones ((xs ++ ys).flatMap V.cells) = true := by rw [List.flatMap_append, ones_append, h, k]; rfl
theorem op_append (hgl : GlOK P E.gl G.pr) (hinv : Inv P G st w) (ht : TmR P G N tm a) (hfr : Fresh G (R8 i0)) (h8 : 8 ≤ i0) {c : Call} {t t' : TypeId} {x y : V} {r : R} (ho : o.op = .call c) (hc : c.callee = .builtin .append) (hts : c.argTypes.toList = [t, t'])
    {us : List Value} (hargs : All2 (Rep P G) [x, y] us) (hus : c.args.toList.map a.eval = us) (hty : srcTy P t t' y = true) (hx : xappend1 P st i0 t x y = some r) (hK : Good P G st i0 nx' a o K Q r) : o.wp P a w K Q := by
  cases hargs with
  | cons hrx hargs =>
  cases hargs with
  | cons hry hargs =>
  cases hargs
  rename_i ux uy
  have hA := args_arr hus
  have hT := arr_of_list hts
  unfold xappend1 at hx
  split at hx
  · rename_i e xs rr
    -- what holds of the row, whichever right it is
    have main : ∀ (i n : Nat) (vs : List Value), 8 ≤ i → R8 i0 i ∨ G.tl i = some ux → ∀ el, uel P t = some el → (∀ s, usz P el = some s → w.ownsRow G.base el s ux n vs ∧ xs.length = n ∧ All2 (RepP P G.pr) (xs.flatMap V.cells) vs ∧ (∀ x ∈ xs, x.cells.length = s) ∧ ones (xs.flatMap V.cells) = true) →
        ((st i = none ∧ G.tl i = none ∧ ux = .slice none 0 0) ∨ (st i = some (.tok n el) ∧ G.tl i = some ux)) → G.bx i = none → ∀ ys info zc, src P el y = some ys →
        P.info? el = some info → info.zero = some zc → zc.cells.size = info.size → (n + ys.length) * info.bytes ≤ 140737488355328 → n + ys.length ≤ maxLen →
        (∀ G' w' v', G.le G' → Same G G' (R8 i0) → Inv P G' (upd st i (some (.tok (n + ys.length) el))) w' → Rep P G' (.list el (xs ++ ys) i) v' → K (a.put o.dst v') w') → o.wp P a w K Q := by
      intro i n vs h8i hir el hel hown hi hbi ys info zc hys hinfo hz hzs hb hm hk
      have hsz : usz P el = some info.size := by simp [usz, hinfo]
      obtain ⟨o1, o2, o3, o4, o5⟩ := hown _ hsz
      obtain ⟨d, news, hd, hdd, s1, s2, s3, s4, s5⟩ := source_ok hinv hinfo hel hry hty hys
      have hnl : news.length = ys.length * info.size := by rw [← s3.length, flat_len s4]
      obtain ⟨v', w', hrun, hown', hat, hm0⟩ := run_app w G.base t t' o.type el info zc (uel_u hel) hd hdd hinfo hz hzs ux n vs o1 uy ys.length news s1 s2 hnl (fun u hu => by
        obtain ⟨j, hj⟩ := List.getElem?_of_mem hu
        obtain ⟨q, hq, hqr⟩ := s3.get' hj
        exact hqr.one (ones_get s5 hq)) hm hb hinv.size
      obtain ⟨hg, hinv'⟩ := hinv.row i hsz o1 hi hbi hown' hat (by omega) (fun _ he => hm0 (by omega))
      refine wp_val (v := v') (w' := w') ?_ (hk _ w' v' hg ?_ hinv' ?_)
      · refine run_builtin (f := Builtin.append_ c.argTypes o.type (c.args.map a.eval)) ho hc (fun k => rfl) ?_
        rw [hT, hA]; exact hrun
      · intro k hk1
        refine ⟨id, fun h => ?_⟩
        have : k ≠ i := fun e => by
          subst e
          rcases hir with h1 | h1
          · exact hk1 h1
          · rw [h1] at h; cases h
        simpa [upd, this] using h
      · refine rep_tok h8i hsz hown' (by simp [o2]) (by simp [upd]) (fun b hbb q hq => ?_) (fun z hz => ?_) (ones_flat_append o5 s5) ?_
        · show (if _ then _ else _) = _
          rw [if_pos ⟨hbb.symm, hq⟩]
        · rcases List.mem_append.1 hz with hz | hz
          · exact o4 z hz
          · exact s4 z hz
        · rw [List.flatMap_append]
          exact (o3.append s3).mono fun _ _ => RepP.mono hg.pr
    split at hx
    · rename_i hr1
      subst hr1
      unfold xappend at hx
      split at hx
      · rename_i e1 xs1 r1 el hx1 hel
        obtain ⟨rfl, rfl, rfl⟩ : e = e1 ∧ xs = xs1 ∧ 1 = r1 := by simpa using hx1
        split at hx
        · rename_i ys s1 by_ zs hys hinf
          rw [Option.map_eq_some_iff] at hinf
          obtain ⟨info, hinfo, hinf⟩ := hinf
          simp only [Prod.mk.injEq, Option.map_eq_some_iff] at hinf
          obtain ⟨rfl, rfl, zc, hz, rfl⟩ := hinf
          split at hx
          · rename_i hc
            obtain ⟨c1, c2, c3, c4⟩ := hc
            try rw [if_pos rfl] at hx
            split at hx
            · rename_i hemp
              obtain rfl := Option.some.inj hx
              have hxs : xs = [] := by simpa using hemp
              subst hxs
              have hf := hfr i0 (r8_self i0)
              obtain ⟨A, cc, hv, _, hn, _⟩ := hrx.list_inv
              obtain ⟨_, rfl, rfl⟩ := hn rfl
              subst hv
              refine main i0 0 [] h8 (.inl (r8_self i0)) el hel (fun s _ => ⟨World.ownsRow_nil w G.base el s, rfl, .nil, by simp, by simp [ones]⟩) (.inl ⟨bx_none_st hinv hf.1 hf.2, hf.2, rfl⟩) hf.1 ys info zc hys hinfo hz c1 (by simpa using c3) (by simpa using c4) fun G' w' v' g1 g2 g3 g4 => hK G' w' v' g1 g2 ?_ g4
              simpa [upds] using g3
            · cases hx
          · cases hx
        · cases hx
      · cases hx
    · rename_i hr1
      split at hx
      · rename_i n e' hst
        split at hx
        · rename_i hc0
          obtain ⟨rfl, rfl⟩ := hc0
          unfold xappend at hx
          split at hx
          · rename_i e1 xs1 r1 el hx1 hel
            obtain ⟨rfl, rfl, rfl⟩ : e' = e1 ∧ xs = xs1 ∧ rr = r1 := by simpa using hx1
            split at hx
            · rename_i ys s1 by_ zs hys hinf
              rw [Option.map_eq_some_iff] at hinf
              obtain ⟨info, hinfo, hinf⟩ := hinf
              simp only [Prod.mk.injEq, Option.map_eq_some_iff] at hinf
              obtain ⟨rfl, rfl, zc, hz, rfl⟩ := hinf
              split at hx
              · rename_i hc
                obtain ⟨c1, c2, c3, c4⟩ := hc
                try rw [if_neg hr1] at hx
                split at hx
                · cases hx
                · rename_i hr0
                  split at hx
                  · rename_i hel2
                    subst hel2
                    obtain rfl := Option.some.inj hx
                    have h8r : 8 ≤ rr := by
                      obtain ⟨_, _, _, _, _, ho⟩ := hrx.list_inv
                      rcases ho with h | h | h
                      · exact absurd h hr0
                      · exact absurd h hr1
                      · exact h.1
                    have hsz : usz P e' = some info.size := by simp [usz, hinfo]
                    obtain ⟨vs, k1, k2, k3, k4, k5, _⟩ := rest_ok hinv h8r hrx hst hsz
                    refine main rr xs.length vs h8r (.inr k1) e' hel (fun s hs => ?_) (.inr ⟨hst, k1⟩) (by obtain ⟨_, _, _, _, _, _, q⟩ := hinv.objs _ _ hst; exact q) ys info zc hys hinfo hz c1 c3 c4 fun G' w' v' g1 g2 g3 g4 => hK G' w' v' g1 g2 ?_ g4
                    · rw [hsz] at hs; obtain rfl := Option.some.inj hs
                      exact ⟨k2, rfl, k3, k4, k5⟩
                    · simpa [upds] using g3
                  · cases hx
              · cases hx
            · cases hx
          · cases hx
        · cases hx
      · cases hx
  · cases hx
end
end Go.Proofs.YthgmhlpjbednpaaDoor.Vm
set_option linter.unusedVariables false
set_option linter.unusedSimpArgs false
namespace Go.Proofs.YthgmhlpjbednpaaDoor.Vm
open Go.RowKit
section
variable (P : Program)
structure ProgOK : Prop where
  ng : P.funcs.all (fun fn => fn.name != "runtime.NumGoroutine") = true
  mix : P.follows .mixedOrders = true
def Ext (p p' : Pr) (w w' : World) : Prop := (∀ b o v, p b o = some v → p' b o = some v) ∧ (∀ b o v, p' b o = some v → w'.cell? ⟨b, o, none⟩ = some v) ∧ (∀ b o, b < w.heap.size → p' b o = p b o)
def isOwn : V → Bool
  | .list _ _ r => decide (8 ≤ r)
  | _ => false
def Ret1 (B : Nat) (p : Pr) (w : World) (y : V) (v : Value) : Prop :=
  (isOwn y = false ∧ RepP P p y v) ∨
  ∃ e xs s vs, y = .list e xs (8 + e) ∧ usz P e = some s ∧ w.ownsRow B e s v xs.length vs ∧ All2 (RepP P p) (xs.flatMap V.cells) vs ∧ (∀ x ∈ xs, x.cells.length = s) ∧ ones (xs.flatMap V.cells) = true ∧
    (∀ b, v.ownBlock = some b → ∀ o, o < xs.length * s → p b o = vs[o]?) ∧ (∀ b, v.ownBlock = some b → ∀ o u, p b o = some u → o < xs.length * s)
def RetOK (B : Nat) (p : Pr) (w : World) (y : V) (v : Value) : Prop :=
  match y with
  | .tup ys => ∃ us, v = .tuple us.toArray ∧ ys.length ≤ 8 ∧ All2 (Ret1 P B p w) ys us ∧
      ∀ (i j : Nat) yi yj ui uj b, i ≠ j → ys[i]? = some yi → ys[j]? = some yj → us[i]? = some ui → us[j]? = some uj → isOwn yi = true → isOwn yj = true → Value.ownBlock ui = some b → Value.ownBlock uj = some b → False
  | y => Ret1 P B p w y v
def PlPost (p : Pr) (w : World) : CR → Ending → World → Prop
  | .ret y, e, w' => ∃ v p', e = .returned v ∧ Below w.heap.size w w' ∧ Ext p p' w w' ∧ RetOK P w.heap.size p' w' y v
  | .pan y, e, w' => ∃ t y0 u p', y = .ifc t y0 ∧ e = .panicked [{ v := .iface t u, recovered := false }] ∧ Below w.heap.size w w' ∧ Ext p p' w w' ∧ RepP P p' y0 u
def HpPost (G : Gh) (nx : Nat) : HR → Ending → World → Prop
  | .ret y st' nx', e, w' => ∃ G' v, e = .returned v ∧ G.le G' ∧ Same G G' (fun k => nx ≤ k ∧ k < nx') ∧ nx ≤ nx' ∧ Inv P G' st' w' ∧ Rep P G' y v
  | .pan y st' nx', e, w' => ∃ G' v, e = .panicked [{ v, recovered := false }] ∧ G.le G' ∧ Same G G' (fun k => nx ≤ k ∧ k < nx') ∧ nx ≤ nx' ∧ Inv P G' st' w' ∧ Rep P G' y v
structure EnvOK (E : Env) : Prop where
  pl : ∀ f zas r, nobody P f = false → E.pl f zas = some r → ∀ p vs w, GlOK P E.gl p → (∀ b o v, p b o = some v → w.cell? ⟨b, o, none⟩ = some v) → All2 (RepP P p) zas vs → Calls P f vs.toArray w (PlPost P p w r)
  hp : ∀ f zas st nx r, nobody P f = false → E.hp f zas st nx = some r → ∀ G vs w, GlOK P E.gl G.pr → Inv P G st w → All2 (Rep P G) zas vs → 8 ≤ nx → Fresh G (fun k => nx ≤ k) → Calls P f vs.toArray w (HpPost P G nx r)
end
section
variable {P : Program} {G G' : Gh} {st : St} {w w' : World} {a : Act} {tm : Nat → V} {N i0 nx' : Nat} {o : Oper} {K : Act → World → Prop} {Q : Exit → Act → World → Prop} {E : Env}
theorem op_builtin (hgl : GlOK P E.gl G.pr) (hinv : Inv P G st w) (ht : TmR P G N tm a) (hfr : Fresh G (R8 i0)) (h8 : 8 ≤ i0) {c : Call} {b : Builtin} {args : List V} {r : R} (ho : o.op = .call c) (hc : c.callee = .builtin b)
    (hargs : c.args.toList.mapM (ev E tm) = some args) (hx : xbuiltin P st i0 b c.argTypes o.type args = some r) (hK : Good P G st i0 nx' a o K Q r) : o.wp P a w K Q := by
  have hA := evs_sound hgl ht hargs
  have hA2 := args_arr (a := a) (c := c) rfl
  unfold xbuiltin at hx
  split at hx
  · rename_i x y
    split at hx
    · rename_i t t' hts
      split at hx
      · rename_i hty
        exact op_append hgl hinv ht hfr h8 ho hc hts hA rfl hty hx hK
      · cases hx
    · cases hx
  · rename_i e xs rr
    split at hx
    · rename_i t hts
      split at hx
      · rename_i el hu
        obtain rfl := Option.some.inj hx
        generalize hg : c.args.toList.map a.eval = us at hA hA2
        cases hA with
        | cons h1 h2 =>
          cases h2
          obtain ⟨A, cc, rfl, _⟩ := h1.list_inv
          refine good_same hinv hK (v := .int .i64 xs.length) ?_ (.pure (.sc _))
          refine run_builtin (f := Builtin.len_ c.argTypes o.type (c.args.map a.eval)) ho hc (fun k => rfl) ?_
          rw [arr_of_list hts, hA2]
          simp [Builtin.len_, run_underlying hu, goInt]
      · cases hx
    · cases hx
  · rename_i id
    split at hx
    · rename_i t hts
      split at hx
      · rename_i kt et hu
        split at hx
        · rename_i es dd hs
          obtain rfl := Option.some.inj hx
          generalize hg : c.args.toList.map a.eval = us at hA hA2
          cases hA with
          | cons h1 h2 =>
            cases h2
            obtain ⟨bb, rfl, hb⟩ := h1.map_inv
            obtain ⟨b', arr, clk, g1, g2, g3, g4⟩ := hinv.objs id _ hs
            rw [hb] at g1
            obtain rfl := Option.some.inj g1
            have hl := g4.1.length
            refine good_same hinv hK (v := .int .i64 es.length) ?_ (.pure (.sc _))
            refine run_builtin (f := Builtin.len_ c.argTypes o.type (c.args.map a.eval)) ho hc (fun k => rfl) ?_
            rw [arr_of_list hts, hA2]
            simp at hl
            simp [Builtin.len_, run_underlying hu, goInt, getObj, Sem.run, g3, hl]
        · cases hx
      · cases hx
    · cases hx
  · rename_i v
    rw [Option.map_eq_some_iff] at hx
    obtain ⟨z, hz, rfl⟩ := hx
    generalize hg : c.args.toList.map a.eval = us at hA hA2
    cases hA with
    | cons h1 h2 =>
      cases h2
      have := h1.sc_inv
      subst this
      refine good_same hinv hK (v := z) ?_ (.pure (.sc _))
      refine run_builtin (f := Builtin.len_ c.argTypes o.type (c.args.map a.eval)) ho hc (fun k => rfl) ?_
      rw [hA2]
      exact reck_run _ hz w
  · rename_i l
    rw [Option.bind_eq_some_iff] at hx
    obtain ⟨vs, hvs, hx⟩ := hx
    rw [Option.map_eq_some_iff] at hx
    obtain ⟨z, hz, rfl⟩ := hx
    have := vals_eq hA hvs
    refine good_same hinv hK (v := z) ?_ (.pure (.sc _))
    refine run_builtin (f := Builtin.min_ c.argTypes o.type (c.args.map a.eval)) ho hc (fun k => rfl) ?_
    rw [hA2, this]
    exact reck_run _ hz w
  · rename_i l
    rw [Option.bind_eq_some_iff] at hx
    obtain ⟨vs, hvs, hx⟩ := hx
    rw [Option.map_eq_some_iff] at hx
    obtain ⟨z, hz, rfl⟩ := hx
    have := vals_eq hA hvs
    refine good_same hinv hK (v := z) ?_ (.pure (.sc _))
    refine run_builtin (f := Builtin.max_ c.argTypes o.type (c.args.map a.eval)) ho hc (fun k => rfl) ?_
    rw [hA2, this]
    exact reck_run _ hz w
  · rename_i id k
    split at hx
    · rename_i t tl hts
      split at hx
      · rename_i kt et hu
        split at hx
        · rename_i hk
          obtain ⟨d, hd, hk⟩ := kindOk_some hk
          split at hx
          · rename_i es dd hs
            rw [Option.bind_eq_some_iff] at hx
            obtain ⟨fr, hf, hx⟩ := hx
            generalize hg : c.args.toList.map a.eval = us at hA hA2
            cases hA with
            | cons h1 h2 =>
              cases h2 with
              | cons h2 h3 =>
                cases h3
                obtain ⟨b, rfl, hb⟩ := h1.map_inv
                have hv1 := h2.sc_inv
                subst hv1
                obtain ⟨b', arr, clk, g1, g2, g3, g4, g5⟩ := hinv.objs id _ hs
                rw [hb] at g1
                obtain rfl := Option.some.inj g1
                have hts0 : c.argTypes[0]? = some t := by rw [← Array.getElem?_toList, hts]; rfl
                have hck := checkKey_ok (P := P) hd hk arr.isEmpty 9999 w
                have hlt := (Array.getElem?_eq_some_iff.1 g3).1
                rcases find_sound hk g4 hf with ⟨rfl, h5⟩ | ⟨j, x', m', rfl, _, h6, h7, h8, h9⟩
                · simp only at hx
                  obtain rfl := Option.some.inj hx
                  refine wp_val (w' := { w with heap := w.heap.setIfInBounds b (.map arr clk) }) (run_builtin (f := Builtin.delete_ c.argTypes o.type (c.args.map a.eval)) ho hc (fun k => rfl) ?_) (hK G _ (.tuple #[]) (.refl G) (.refl G _) ?_ (.tup (.of .nil)))
                  · rw [hA2]
                    simp [Builtin.delete_, hts0, run_underlying hu, getObj, setObj, Sem.run, g3, hck, findKey_ok hd h5]
                  · exact hinv.setObj id _ _ b _ hs hb (by simp) (by simp) g2 hlt fun w' hw' => ⟨b, _, _, hb, g2, hw', g4, g5⟩
                · simp only at hx
                  obtain rfl := Option.some.inj hx
                  have h6' : arr[j]? = some m' := by simpa using h6
                  refine wp_val (w' := { w with heap := w.heap.setIfInBounds b (.map (arr.eraseIdxIfInBounds j) clk) }) (run_builtin (f := Builtin.delete_ c.argTypes o.type (c.args.map a.eval)) ho hc (fun k => rfl) ?_) (hK G _ (.tuple #[]) (.refl G) (.refl G _) ?_ (.tup (.of .nil)))
                  · rw [hA2]
                    simp [Builtin.delete_, hts0, run_underlying hu, getObj, setObj, Sem.run, g3, hck, findKey_ok hd h7]
                  · refine hinv.setObj id _ _ b _ hs hb (by simp) (by simp) g2 hlt fun w' hw' => ⟨b, _, _, hb, g2, hw', ?_, fun hdd => by cases hdd⟩
                    have hj : j < arr.size := (Array.getElem?_eq_some_iff.1 h6').1
                    rw [Array.eraseIdxIfInBounds, dif_pos hj, Array.toList_eraseIdx, Nat.zero_add]
                    exact g4.eraseIdx j
          · cases hx
        · cases hx
      · cases hx
    · cases hx
  · cases hx
theorem Inv.grow (h : Inv P G st w) {p' : Pr} (hb : Below w.heap.size w w') (he : Ext G.pr p' w w') : G.le { G with pr := p' } ∧ Inv P { G with pr := p' } st w' := by
  have hle : G.le { G with pr := p' } := ⟨rfl, rfl, he.1, fun _ _ q => q, fun t v q => ⟨v, q, Nat.le_refl _, fun _ => rfl, fun _ => rfl⟩, fun b o hb => he.2.2 b o (by have := h.size; omega)⟩
  refine ⟨hle, h.below.trans (hb.mono h.size), Nat.le_trans h.size hb.size, he.2.1, fun i ob hi => ?_, fun i j b hi hj => h.apart i j b hi hj, fun i b hi o v hv => ?_⟩
  · refine (h.objs i ob hi).kept hle rfl rfl fun b hbb => hb.block b ?_
    refine (h.blk_lt (i := i) ?_).1
    unfold blk; rw [hi]; cases ob <;> exact hbb
  · have hi' : blk G st i = some b := hi
    have hv' : p' b o = some v := hv
    rw [he.2.2 b o (h.blk_lt hi').1] at hv'
    exact h.free i b hi' o v hv'
theorem Inv.name (h : Inv P G st w) (i : Nat) {v : Value} {n e s : Nat} {vs : List Value} (h1 : st i = none) (h2 : G.tl i = none) (hbx : G.bx i = none) (hs : usz P e = some s) (hown : w.ownsRow G.base e s v n vs)
    (hap : ∀ j b, blk G st j = some b → v.ownBlock ≠ some b) (hfree : ∀ b, v.ownBlock = some b → ∀ o u, G.pr b o = some u → o < n * s) :
    G.le { G with tl := upd G.tl i (some v) } ∧ Inv P { G with tl := upd G.tl i (some v) } (upd st i (some (.tok n e))) w := by
  have hle : G.le { G with tl := upd G.tl i (some v) } := ⟨rfl, rfl, fun _ _ _ q => q, fun _ _ q => q, fun t u q => by
    simp only [upd]; split
    · rename_i e1; subst e1; rw [h2] at q; cases q
    · exact ⟨u, q, Nat.le_refl _, fun _ => rfl, fun _ => rfl⟩, fun _ _ _ => rfl⟩
  have hb : ∀ b, blk { G with tl := upd G.tl i (some v) } (upd st i (some (.tok n e))) i = some b → v.ownBlock = some b := fun b hb => by
    unfold blk at hb; simpa [upd] using hb
  refine ⟨hle, h.go hle (Below.refl _ _) h.prot i (fun j hj => by simp [upd, hj]) (fun _ _ => rfl) (fun j hj => by simp [upd, hj]) (fun _ _ _ _ => rfl) (fun ob hob => ?_) (fun j b _ hb1 hb2 => hap j b hb1 (hb b hb2)) (fun b hb1 o u hu => ?_) (fun _ _ _ _ _ _ q => q)⟩
  · simp [upd] at hob; subst hob
    exact ⟨v, s, vs, by simp [upd], hs, hown, hbx⟩
  · exact ⟨n, e, s, by simp [upd], hs, hfree b (hb b hb1) o u hu⟩
end
end Go.Proofs.YthgmhlpjbednpaaDoor.Vm
set_option linter.unusedVariables false
set_option linter.unusedSimpArgs false
namespace Go.Proofs.YthgmhlpjbednpaaDoor.Vm
open Go.RowKit
section
variable {P : Program} {G G' : Gh} {st : St} {w w' : World} {a : Act} {tm : Nat → V} {N i0 nx' : Nat} {o : Oper} {K : Act → World → Prop} {Q : Exit → Act → World → Prop} {E : Env}
theorem own_lower {B B' e s n : Nat} {v : Value} {vs : List Value} (h : w.ownsRow B e s v n vs) (hb : B' ≤ B) : w.ownsRow B' e s v n vs := by
  rcases h with ⟨h1, h2 | ⟨g, cap, cur, h3, h4, h5⟩⟩
  · exact ⟨h1, .inl h2⟩
  · exact ⟨h1, .inr ⟨g, cap, cur, h3, Nat.le_trans hb h4, h5⟩⟩
theorem upds_append {α : Type} (a b : List (Nat × α)) (f : Nat → α) : upds (a ++ b) f = upds b (upds a f) := by simp [upds]
theorem owns_sound {B : Nat} (h8 : 8 ≤ i0) : ∀ {ys : List V} {us : List Value} {j : Nat} {G : Gh} {st : St}, All2 (Ret1 P B G.pr w) ys us → j + ys.length ≤ 8 → (∀ k, i0 + j ≤ k → k < i0 + 8 → G.bx k = none ∧ G.tl k = none) → Inv P G st w → G.base ≤ B →
    (∀ (q : Nat) yi ui b, ys[q]? = some yi → us[q]? = some ui → isOwn yi = true → Value.ownBlock ui = some b → ∀ k, blk G st k ≠ some b) →
    (∀ (i j : Nat) yi yj ui uj b, i ≠ j → ys[i]? = some yi → ys[j]? = some yj → us[i]? = some ui → us[j]? = some uj → isOwn yi = true → isOwn yj = true → Value.ownBlock ui = some b → Value.ownBlock uj = some b → False) →
    ∃ G', G.le G' ∧ Same G G' (R8 i0) ∧ Inv P G' (upds (owns i0 j ys).2 st) w ∧ All2 (Rep P G') (owns i0 j ys).1 us
  | [], _, j, G, st, h, _, _, hinv, _, _, _ => by cases h; exact ⟨G, .refl G, .refl G _, hinv, .nil⟩
  | y :: ys, _, j, G, st, h, hj, hfr, hinv, hB, hd, hpd => by
    cases h with
    | cons h1 h2 =>
      rename_i u us
      simp only [List.length_cons] at hj
      rcases h1 with ⟨hno, hp⟩ | ⟨e, xs, s, vs, rfl, hs, k1, k2, k3, k4, k5, k6⟩
      · have e1 : own1 (i0 + j) y = (y, []) := by
          cases y <;> simp [own1]
          simp [isOwn] at hno
          exact hno
        obtain ⟨G', g1, g2, g3, g4⟩ := owns_sound h8 (j := j + 1) h2 (by omega) (fun k a b => hfr k (by omega) b) hinv hB (fun q yi ui b a1 a2 => hd (q + 1) yi ui b (by simpa using a1) (by simpa using a2))
          (fun i j' yi yj ui uj b hne a1 a2 a3 a4 => hpd (i + 1) (j' + 1) yi yj ui uj b (by omega) (by simpa using a1) (by simpa using a2) (by simpa using a3) (by simpa using a4))
        refine ⟨G', g1, g2, ?_, ?_⟩
        · simp only [owns, e1, List.nil_append]; exact g3
        · simp only [owns, e1]; exact .cons ((Rep.pure hp).mono g1) g4
      · have e1 : own1 (i0 + j) (.list e xs (8 + e)) = (.list e xs (i0 + j), [(i0 + j, some (.tok xs.length e))]) := by simp [own1]
        have hf := hfr (i0 + j) (Nat.le_refl _) (by omega)
        obtain ⟨n1, n2⟩ := hinv.name (i0 + j) (bx_none_st hinv hf.1 hf.2) hf.2 hf.1 hs (own_lower k1 hB) (fun q b hb hv => hd 0 _ _ b rfl rfl (by simp [isOwn]) hv q hb) k6
        obtain ⟨G', g1, g2, g3, g4⟩ := owns_sound h8 (j := j + 1) (G := { G with tl := upd G.tl (i0 + j) (some u) }) h2 (by omega) (fun k a b => ⟨(hfr k (by omega) b).1, by
            have : k ≠ i0 + j := by omega
            simpa [upd, this] using (hfr k (by omega) b).2⟩) n2 hB (fun q yi ui b a1 a2 a3 a4 k hk => by
            by_cases hkj : k = i0 + j
            · subst hkj
              have : u.ownBlock = some b := by unfold blk at hk; simpa [upd] using hk
              exact hpd 0 (q + 1) _ _ _ _ b (by omega) rfl (by simpa using a1) rfl (by simpa using a2) (by simp [isOwn]) a3 this a4
            · refine hd (q + 1) yi ui b (by simpa using a1) (by simpa using a2) a3 a4 k ?_
              unfold blk at hk ⊢; simpa [upd, hkj] using hk)
          (fun i j' yi yj ui uj b hne a1 a2 a3 a4 => hpd (i + 1) (j' + 1) yi yj ui uj b (by omega) (by simpa using a1) (by simpa using a2) (by simpa using a3) (by simpa using a4))
        have hrep : Rep P { G with tl := upd G.tl (i0 + j) (some u) } (.list e xs (i0 + j)) u := rep_tok (by omega) hs (own_lower k1 hB) rfl (by simp [upd]) k5 k3 k4 k2
        have hsame : Same G { G with tl := upd G.tl (i0 + j) (some u) } (R8 i0) := fun k hk => ⟨id, fun q => by
          have : k ≠ i0 + j := fun e => hk (by subst e; exact ⟨by omega, by omega⟩)
          simpa [upd, this] using q⟩
        refine ⟨G', n1.trans g1, hsame.trans g2, ?_, ?_⟩
        · simp only [owns, e1]; rw [upds_append]; exact g3
        · simp only [owns, e1]; exact .cons (hrep.mono g1) g4
theorem own_sound {B : Nat} (h8 : 8 ≤ i0) {y : V} {v : Value} (h : RetOK P B G.pr w y v) (hfr : Fresh G (R8 i0)) (hinv : Inv P G st w) (hB : G.base ≤ B) (hblk : ∀ k b, blk G st k = some b → b < B) :
    ∃ G', G.le G' ∧ Same G G' (R8 i0) ∧ Inv P G' (upds (own i0 y).2 st) w ∧ Rep P G' (own i0 y).1 v := by
  have big : ∀ {yi : V} {ui : Value} {b : Nat}, Ret1 P B G.pr w yi ui → isOwn yi = true → ui.ownBlock = some b → ∀ k, blk G st k ≠ some b := fun {yi ui b} h1 h2 h3 k hk => by
    rcases h1 with ⟨h4, _⟩ | ⟨e, xs, s, vs, _, _, k1, _⟩
    · rw [h2] at h4; cases h4
    · have := (k1.lt b h3).1
      have := hblk k b hk
      omega
  cases y with
  | tup ys =>
    obtain ⟨us, rfl, hl, h1, h2⟩ := h
    obtain ⟨G', g1, g2, g3, g4⟩ := owns_sound h8 (j := 0) h1 (by omega) (fun k a b => hfr k ⟨by omega, b⟩) hinv hB (fun q yi ui b a1 a2 => by
      obtain ⟨u', hu', hr⟩ := h1.get a1
      rw [a2] at hu'; obtain rfl := Option.some.inj hu'
      exact big hr) h2
    exact ⟨G', g1, g2, g3, .tup (.of g4)⟩
  | _ =>
    have h1 : Ret1 P B G.pr w _ v := h
    obtain ⟨G', g1, g2, g3, g4⟩ := owns_sound (us := [v]) h8 (j := 0) (.cons h1 .nil) (by simp) (fun k a b => hfr k ⟨by omega, b⟩) hinv hB (fun q yi ui b a1 a2 => by
      cases q with
      | zero => simp at a1 a2; subst a1; subst a2; exact big h1
      | succ q => simp at a1) (fun i j yi yj ui uj b hne a1 a2 => by
      cases i <;> cases j <;> simp at a1 a2
      omega)
    refine ⟨G', g1, g2, by simpa [owns, own] using g3, ?_⟩
    cases g4 with
    | cons h2 _ => simpa [own, owns] using h2
theorem run_callFunc_enter (hP : ProgOK P) {f : FuncId} (hf : nobody P f = false) (args : Array Value) (w : World) : (callFunc f args).run P w = .ok (.enter f args) w := by
  unfold nobody at hf
  split at hf
  · rename_i fn hfn
    have hng : fn.name ≠ "runtime.NumGoroutine" := by
      have := Array.all_eq_true.1 hP.ng
      obtain ⟨hlt, hget⟩ := Array.getElem?_eq_some_iff.1 hfn
      have h2 := this f hlt
      rw [hget] at h2
      simpa using h2
    obtain ⟨c, hc⟩ := Option.ne_none_iff_exists'.1 (show fn.body ≠ none by intro h; rw [h] at hf; cases hf)
    simp [callFunc, hfn, hng, hc]
  · cases hf
theorem run_call {c : Call} {f : Operand} {g : FuncId} {us ws args : List Value} (ho : o.op = .call c) (hc : c.callee = .value f) (hf : a.eval f = .func (.func g) us.toArray ws.toArray) (hargs : c.args.toList.map a.eval = args) {r : Result Next} (hr : (callFunc g (us ++ args ++ ws).toArray).run P w = r) :
    (execOp a.eval o).run P w = r := by
  have hA := args_arr hargs
  simp only [execOp, ho, resolve, hc, hf, hA, Deferred.ofValue, pure_bind, invoke]
  rw [← hr]
  simp
theorem op_call (hP : ProgOK P) (hE : EnvOK P E) (hgl : GlOK P E.gl G.pr) (hinv : Inv P G st w) (ht : TmR P G N tm a) (hfr : Fresh G (R8 i0)) (hfr2 : Fresh G (fun k => nx' ≤ k)) (h8 : 8 ≤ i0) (h8' : 8 ≤ nx') {c : Call} {r : R} (ho : o.op = .call c) (hx : xop0 P E tm st i0 nx' o = some r) (hK : Good P G st i0 nx' a o K Q r) : o.wp P a w K Q := by
  simp only [xop0, ho, Option.bind_eq_some_iff] at hx
  obtain ⟨args, hargs, hx⟩ := hx
  split at hx
  · rename_i b hc
    exact op_builtin hgl hinv ht hfr h8 ho hc hargs hx hK
  · rename_i f hc
    rw [Option.bind_eq_some_iff] at hx
    obtain ⟨fv, hfv, hx⟩ := hx
    split at hx
    · rename_i g first cap
      obtain ⟨us, ws, hv, hus, hws⟩ := (ev_sound hgl ht hfv).fn_inv
      have hA := evs_sound hgl ht hargs
      have hall := (hus.append hA).append hws
      generalize hg : c.args.toList.map a.eval = ras at hA hall
      unfold xcall at hx
      split at hx
      · -- a function without a body
        rw [Option.bind_eq_some_iff] at hx
        obtain ⟨vs, hvs, hx⟩ := hx
        split at hx
        · rename_i v hrk
          obtain rfl := Option.some.inj hx
          have hvals := vals_eq hall hvs
          refine good_same hinv hK (v := v) (run_call ho hc hv hg (by rw [hvals]; exact reck_run _ hrk w)) ?_
          unfold ofRes
          split
          · rename_i l
            have : l = l.toList.toArray := by simp
            rw [this]
            refine .tup (.of ?_)
            rw [show l.toList.toArray.toList = l.toList by simp]
            generalize l.toList = q
            induction q with
            | nil => exact .nil
            | cons x q ih => exact .cons (.pure (.sc x)) ih
          · exact .pure (.sc _)
        · cases hx
      · rename_i hnb
        have hnb : nobody P g = false := by simpa using hnb
        have henter := run_call ho hc hv hg (run_callFunc_enter hP hnb (us ++ ras ++ ws).toArray w)
        split at hx
        · -- on this memory
          split at hx
          · rename_i y st' n hh
            obtain rfl := Option.some.inj hx
            unfold Oper.wp
            rw [henter]
            refine (hE.hp g _ st nx' _ hnb hh G _ w hgl hinv hall h8' hfr2).mono fun e w' he => ?_
            obtain ⟨G', v, rfl, g1, g2, g3, g4, g5⟩ := he
            exact hK G' w' v g1 g2 g3 g4 g5
          · rename_i y st' n hh
            obtain rfl := Option.some.inj hx
            unfold Oper.wp
            rw [henter]
            refine (hE.hp g _ st nx' _ hnb hh G _ w hgl hinv hall h8' hfr2).mono fun e w' he => ?_
            obtain ⟨G', v, rfl, g1, g2, g3, g4, g5⟩ := he
            exact hK G' w' v g1 g2 g3 g4 g5
          · cases hx
        · -- on pure data
          rw [Option.bind_eq_some_iff] at hx
          obtain ⟨zas, has, hx⟩ := hx
          have hpure : All2 (RepP P G.pr) zas (us ++ ras ++ ws) := All2.trans2 (S := Rep P G) (T := RepP P G.pr) (fun x y z hy hz => rep_pur (P := P) (G := G) hz hy) (mapM_some has) hall
          split at hx
          · rename_i y hh
            obtain rfl := Option.some.inj hx
            unfold Oper.wp
            rw [henter]
            refine (hE.pl g zas _ hnb hh G.pr _ w hgl hinv.prot hpure).mono fun e w' he => ?_
            obtain ⟨v, p', rfl, hb, hext, hret⟩ := he
            obtain ⟨g1, g2⟩ := hinv.grow hb hext
            obtain ⟨G', k1, k2, k3, k4⟩ := own_sound (G := { G with pr := p' }) h8 hret hfr g2 hinv.size (fun k b hk => (hinv.blk_lt (i := k) hk).1)
            exact hK G' w' v (g1.trans k1) (fun k hk => k2 k hk) k3 k4
          · rename_i y hh
            obtain rfl := Option.some.inj hx
            unfold Oper.wp
            rw [henter]
            refine (hE.pl g zas _ hnb hh G.pr _ w hgl hinv.prot hpure).mono fun e w' he => ?_
            obtain ⟨t, y0, u, p', rfl, rfl, hb, hext, hret⟩ := he
            obtain ⟨g1, g2⟩ := hinv.grow hb hext
            exact hK _ w' _ g1 (fun k _ => ⟨id, id⟩) g2 (.ifc (.pure hret))
          · cases hx
    · cases hx
  · cases hx
theorem xop0_sound (hP : ProgOK P) (hE : EnvOK P E) (hgl : GlOK P E.gl G.pr) (hinv : Inv P G st w) (ht : TmR P G N tm a) (hfr : Fresh G (R8 i0)) (hfr2 : Fresh G (fun k => nx' ≤ k)) (h8 : 8 ≤ i0) (h8' : 8 ≤ nx') {r : R} (hx : xop0 P E tm st i0 nx' o = some r) (hK : Good P G st i0 nx' a o K Q r) : o.wp P a w K Q := by
  cases ho : o.op with
  | move x => exact op_move hgl hinv ht (.inl ho) hx hK
  | assign x => exact op_move hgl hinv ht (.inr ho) hx hK
  | pick c x y => exact op_pick hgl hinv ht ho hx hK
  | alloc e => exact op_alloc hinv hfr ho hx hK
  | box e x => exact op_box hgl hinv ht hfr ho hx hK
  | build t ps => exact op_build hgl hinv ht ho hx hK
  | buildSlice t n ps => exact op_buildSlice hgl hinv ht hfr h8 ho hx hK
  | load t x => exact op_load hgl hinv ht ho hx hK
  | store t x y => exact op_store hgl hinv ht ho hx hK
  | nilCheck x => exact op_nilCheck hgl hinv ht ho hx hK
  | binOp b t x y yt => exact op_binOp hgl hinv ht ho hx hK
  | unOp b t x => exact op_unOp hgl hinv ht ho hx hK
  | convert s d x => exact op_convert hgl hinv ht ho hx hK
  | makeFunc f x y => exact op_makeFunc hgl hinv ht ho hx hK
  | makeMap t y =>
    cases y with
    | none => exact op_makeMap hinv hfr ho hx hK
    | some y => simp [xop0, ho] at hx
  | slice t x lo hi mx => exact op_slice hgl hinv ht ho hx hK
  | fieldAddr s x f => exact op_fieldAddr hgl hinv ht ho hx hK
  | field s x f => exact op_field hgl hinv ht ho hx hK
  | indexAddr t x i => exact op_indexAddr hgl hinv ht ho hx hK
  | index t x i => exact op_index hgl hinv ht ho hx hK
  | lookup t x k ok => exact op_lookup hgl hinv ht ho hx hK
  | mapUpdate t x k y => exact op_mapUpdate hgl hinv ht ho hx hK
  | range t x => exact op_range hgl hinv ht hfr ho hx hK
  | next x b =>
    cases b with
    | true => exact op_next hgl hinv ht ho hx hK
    | false => exact op_nextm hgl hinv ht ho hx hK
  | extract x i => exact op_extract hgl hinv ht ho hx hK
  | makeInterface t x => exact op_makeInterface hgl hinv ht ho hx hK
  | panic x => exact op_panic hgl hinv ht ho hx hK
  | call c => exact op_call hP hE hgl hinv ht hfr hfr2 h8 h8' ho hx hK
  | _ => simp [xop0, ho] at hx
end
end Go.Proofs.YthgmhlpjbednpaaDoor.Vm
set_option linter.unusedVariables false
set_option linter.unusedSimpArgs false
namespace Go.Proofs.YthgmhlpjbednpaaDoor.Vm
open Go.RowKit
section
variable {P : Program} {E : Env} {tm tm' : Nat → V} {st st' : St} {i0 nx : Nat} {o : Oper}
theorem mapM_congr' {α β : Type} {f g : α → Option β} : ∀ {l : List α}, (∀ x ∈ l, f x = g x) → l.mapM f = l.mapM g
  | [], _ => rfl
  | x :: l, h => by rw [List.mapM_cons, List.mapM_cons, h x (by simp), mapM_congr' fun y hy => h y (by simp [hy])]
theorem xop0_tm (h : ∀ x ∈ o.op.operands, ev E tm' x = ev E tm x) : xop0 P E tm' st i0 nx o = xop0 P E tm st i0 nx o := by
  cases ho : o.op with
  | build t ps =>
    rw [ho] at h
    have : (ps.toList.mapM fun (p : Nat × Operand) => (ev E tm' p.2).map fun v => (p.1, v)) = ps.toList.mapM fun (p : Nat × Operand) => (ev E tm p.2).map fun v => (p.1, v) := mapM_congr' fun p hp => by
      rw [h p.2 (by simp [Op.operands]; exact ⟨p.1, by simpa using hp⟩)]
    simp only [xop0, ho, this]
  | buildSlice t n ps =>
    rw [ho] at h
    have : (ps.toList.mapM fun (p : Nat × Operand) => (ev E tm' p.2).map fun v => (p.1, v)) = ps.toList.mapM fun (p : Nat × Operand) => (ev E tm p.2).map fun v => (p.1, v) := mapM_congr' fun p hp => by
      rw [h p.2 (by simp [Op.operands]; exact ⟨p.1, by simpa using hp⟩)]
    simp only [xop0, ho, this]
  | makeFunc f x y =>
    rw [ho] at h
    have h1 : x.toList.mapM (ev E tm') = x.toList.mapM (ev E tm) := mapM_congr' fun p hp => h p (by simp [Op.operands]; exact .inl (by simpa using hp))
    have h2 : y.toList.mapM (ev E tm') = y.toList.mapM (ev E tm) := mapM_congr' fun p hp => h p (by simp [Op.operands]; exact .inr (by simpa using hp))
    simp only [xop0, ho, h1, h2]
  | call c =>
    rw [ho] at h
    have h1 : c.args.toList.mapM (ev E tm') = c.args.toList.mapM (ev E tm) := mapM_congr' fun p hp => h p (by simp [Op.operands, Call.operands]; exact .inr (by simpa using hp))
    simp only [xop0, ho, h1]
    cases hc : c.callee with
    | value f =>
      have h2 := h f (by simp [Op.operands, Call.operands, hc])
      simp only [h2]
    | _ => rfl
  | slice t x lo hi mx =>
    rw [ho] at h
    have h1 := h x (by simp [Op.operands])
    have h2 : lo.map (ev E tm') = lo.map (ev E tm) := by cases lo with | none => rfl | some y => simp [h y (by simp [Op.operands])]
    have h3 : hi.map (ev E tm') = hi.map (ev E tm) := by cases hi with | none => rfl | some y => simp [h y (by simp [Op.operands])]
    have h4 : mx.map (ev E tm') = mx.map (ev E tm) := by cases mx with | none => rfl | some y => simp [h y (by simp [Op.operands])]
    simp only [xop0, ho, h1, h2, h3, h4]
  | makeMap t y => cases y <;> simp [xop0, ho]
  | next x b =>
    rw [ho] at h
    have h1 := h x (by simp [Op.operands])
    cases b <;> simp [xop0, ho, h1]
  | _ => (first | (simp [xop0, ho]; done) | (simp [ho, Op.operands] at h; simp [xop0, ho, h]))
theorem xcall_st {nx2 : Nat} {f : FuncId} {args : List V} {v : V} {δ : List (Nat × Option Ob)} {rd : List Nat} (h : xcall P E i0 nx st f args = some (.val v δ rd)) : xcall P E i0 nx2 st' f args = some (.val v δ rd) := by
  unfold xcall at h ⊢
  split at h
  · rename_i hn; rw [if_pos hn]; exact h
  · rename_i hn
    rw [if_neg hn]
    split at h
    · split at h <;> simp at h
    · rename_i hm; rw [if_neg hm]; exact h
theorem xop0_st {nx2 : Nat} {v : V} {δ : List (Nat × Option Ob)} {rd : List Nat} (h : xop0 P E tm st i0 nx o = some (.val v δ rd)) (hs : ∀ k ∈ rd, st' k = st k) : xop0 P E tm st' i0 nx2 o = some (.val v δ rd) := by
  have one : ∀ {id : Nat}, rd = [id] → st' id = st id := fun h => hs _ (by simp [h])
  cases ho : o.op with
  | load t x =>
    simp only [xop0, ho, Option.bind_eq_some_iff] at h ⊢
    obtain ⟨x0, h0, h⟩ := h
    refine ⟨x0, h0, ?_⟩
    cases x0 with
    | ptr id off =>
      simp only at h ⊢
      have : st' id = st id := by
        refine one ?_
        split at h
        · rw [Option.map_eq_some_iff] at h
          obtain ⟨y, _, h⟩ := h
          simp at h; exact h.2.2.symm
        · cases h
      rw [this]; exact h
    | _ => exact h
  | store t x y =>
    simp only [xop0, ho, Option.bind_eq_some_iff] at h ⊢
    obtain ⟨x0, h0, y0, h1, h⟩ := h
    refine ⟨x0, h0, y0, h1, ?_⟩
    cases x0 with
    | ptr id off =>
      simp only at h ⊢
      have : st' id = st id := by
        refine one ?_
        split at h
        · split at h
          · simp at h; exact h.2.2.symm
          · cases h
        · cases h
      rw [this]; exact h
    | _ => exact h
  | lookup t x y ok =>
    simp only [xop0, ho, Option.bind_eq_some_iff] at h ⊢
    obtain ⟨x0, h0, y0, h1, h⟩ := h
    refine ⟨x0, h0, y0, h1, ?_⟩
    split at h
    · rename_i id k kt et hu
      split at h
      · rename_i hk
        rw [Option.bind_eq_some_iff] at h
        obtain ⟨z, hz, h⟩ := h
        have : st' id = st id := by
          refine one ?_
          split at h
          · rw [Option.bind_eq_some_iff] at h
            obtain ⟨r, _, h⟩ := h
            split at h
            · simp at h; exact h.2.2.symm
            · split at h
              · simp at h; exact h.2.2.symm
              · cases h
          · cases h
        simp only [hk, if_true, hz, Option.bind_some, this]
        exact h
      · cases h
    · cases h
  | mapUpdate t x y z =>
    simp only [xop0, ho, Option.bind_eq_some_iff] at h ⊢
    obtain ⟨x0, h0, y0, h1, z0, h2, h⟩ := h
    refine ⟨x0, h0, y0, h1, z0, h2, ?_⟩
    split at h
    · rename_i id k kt et hu
      split at h
      · rename_i hk
        have : st' id = st id := by
          refine one ?_
          split at h
          · rw [Option.bind_eq_some_iff] at h
            obtain ⟨r, _, h⟩ := h
            split at h <;> (simp at h; exact h.2.2.symm)
          · cases h
        simp only [hk, if_true, this]
        exact h
      · cases h
    · cases h
  | range t x =>
    simp only [xop0, ho, Option.bind_eq_some_iff] at h ⊢
    obtain ⟨x0, h0, h⟩ := h
    refine ⟨x0, h0, ?_⟩
    split at h
    · rename_i hu
      exact h
    · rename_i id kt et hu
      have : st' id = st id := by
        refine one ?_
        split at h
        · simp at h; exact h.2.2.symm
        · cases h
      rw [this]
      exact h
    · cases h
  | next x b =>
    cases b with
    | false =>
      simp only [xop0, ho, Option.bind_eq_some_iff] at h ⊢
      obtain ⟨x0, h0, h⟩ := h
      refine ⟨x0, h0, ?_⟩
      split at h
      · rename_i id
        split at h
        · rename_i m n rem hsi
          split at h
          · rename_i es hsm
            split at h
            · rename_i hc
              simp only [Option.some.injEq, R.val.injEq] at h
              obtain ⟨rfl, rfl, rfl⟩ := h
              have e1 : st' id = st id := hs id (by simp)
              have e2 : st' m = st m := hs m (by simp)
              simp only [e1, hsi, e2, hsm]
              rw [if_pos hc]
            · cases h
          · cases h
        · cases h
      · cases h
    | true =>
      simp only [xop0, ho, Option.bind_eq_some_iff] at h ⊢
      obtain ⟨x0, h0, h⟩ := h
      refine ⟨x0, h0, ?_⟩
      split at h
      · rename_i id
        have : st' id = st id := by
          refine one ?_
          split at h
          · split at h <;> (simp at h; exact h.2.2.symm)
          · cases h
        rw [this]
        exact h
      · cases h
  | call c =>
    simp only [xop0, ho, Option.bind_eq_some_iff] at h ⊢
    obtain ⟨args, hargs, h⟩ := h
    refine ⟨args, hargs, ?_⟩
    split at h
    · rename_i b hc
      unfold xbuiltin at h ⊢
      split at h
      · rename_i x y
        try dsimp only
        split at h
        · rename_i t t' hts
          split at h
          · rename_i hty
            simp only [hts, hty, if_true]
            unfold xappend1 at h ⊢
            split at h
            · rename_i e xs r
              try dsimp only
              split at h
              · rename_i hr; rw [if_pos hr]; exact h
              · rename_i hr
                rw [if_neg hr]
                have : st' r = st r := by
                  refine one ?_
                  split at h
                  · split at h
                    · unfold xappend at h
                      split at h
                      · split at h
                        · split at h
                          · split at h
                            · rename_i h1; exact absurd (by simpa using h1) (by rename_i heq _ _ _ _ _ _ _ ; intro hh; simp_all)
                            · split at h
                              · cases h
                              · split at h
                                · simp at h; rename_i heq _ _ _ _ _ _ _ _ _ _; simp_all
                                · cases h
                          · cases h
                        · cases h
                      · cases h
                    · cases h
                  · cases h
                rw [this]; exact h
            · cases h
          · cases h
        · cases h
      · exact h
      · rename_i id
        try dsimp only
        split at h
        · rename_i t hts
          split at h
          · rename_i kt et hu
            have : st' id = st id := by
              refine one ?_
              split at h
              · simp at h; exact h.2.2.symm
              · cases h
            simp only [hts, hu, this]
            exact h
          · cases h
        · cases h
      · exact h
      · exact h
      · exact h
      · rename_i id k
        try dsimp only
        split at h
        · rename_i t tl hts
          split at h
          · rename_i kt et hu
            split at h
            · rename_i hk
              have : st' id = st id := by
                refine one ?_
                split at h
                · rw [Option.bind_eq_some_iff] at h
                  obtain ⟨r, _, h⟩ := h
                  split at h <;> (simp at h; exact h.2.2.symm)
                · cases h
              simp only [hts, hu, hk, if_true, this]
              exact h
            · cases h
          · cases h
        · cases h
      · cases h
    · rename_i f hc
      rw [Option.bind_eq_some_iff] at h
      obtain ⟨fv, hfv, h⟩ := h
      split at h
      · simp only [hfv, Option.bind_some]
        exact xcall_st h
      · cases h
    · cases h
  | makeMap t y =>
    cases y with
    | none => simp only [xop0, ho] at h ⊢; exact h
    | some y => simp [xop0, ho] at h
  | _ => (simp only [xop0, ho] at h ⊢; exact h)
end
end Go.Proofs.YthgmhlpjbednpaaDoor.Vm
