/- Proved here: an operation whose types are looked up beforehand answers what the machine's operation answers. Conditions: none. -/
import Derived.Test.YtojbkakdhfmjmaaDoorVm20
set_option linter.unusedVariables false
set_option linter.unusedSimpArgs false
namespace Go.Proofs.YtojbkakdhfmjmaaDoor.Vm
open Go.RowKit
def kld : Option Nat → List V → Nat → Option V
  | none, cs, off => cs[off]?
  | some s, cs, off => if off + s ≤ cs.length then some (.agg ((cs.drop off).take s)) else none
def kbin' (b : Bool) (op : BinOp) (u v : Value) : Option Value :=
  match u with
  | .bool x => if b then kbin op (.bool x) v else none
  | u => kbin op u v
def ksrc (l : Bool) (el : Nat) : V → Option (List V)
  | .list e' ys _ => if l = true ∧ (e' = el ∨ ys.isEmpty = true) then some ys else none
  | .sc (.string s) => if l then none else some (bytesV s)
  | _ => none
def kint (tm : Nat → V) : Option A → Int → Option Int
  | none, d => some d
  | some a, _ => vint (av tm a)
def ksub (s : ByteArray) (l h : Int) : Option V := if 0 ≤ l ∧ l ≤ h ∧ h ≤ s.size then some (.sc (.string (s.extract l.toNat h.toNat))) else none
def kok : Nat → Value → Bool
  | 0, .int .. => true
  | 1, .string _ => true
  | 2, .bool _ => true
  | _, _ => false
def keqs (xs ys : List V) : List (Nat × Nat) → Option Bool
  | [] => some true
  | (o, kd) :: os => match xs[o]?, ys[o]? with
    | some (.sc u), some (.sc v) => if kok kd u then (match kbin .eql u v with
      | some (.bool r) => (keqs xs ys os).map fun q => r && q
      | _ => none) else none
    | _, _ => none
section
variable (P : Program) (E : Env) (tm : Nat → V) (st : St) (i0 nx : Nat)
def kop : K → Option R
  | .mov a => some (.val (av tm a) [] [])
  | .pick c a b => match av tm c with
    | .sc (.bool t) => some (.val (if t then av tm a else av tm b) [] [])
    | _ => none
  | .new cs => some (.val (.ptr i0 0) [(i0, some (.cells cs))] [])
  | .box a => if ones (av tm a).cells then some (.val (.ptr i0 0) [(i0, some (.cells (av tm a).cells))] []) else none
  | .build pl zc ps => (xfill (fun i => pl[i]?) zc (ps.map fun p => (p.1, av tm p.2))).bind fun cs => if (ps.all fun p => ones (av tm p.2).cells) && ones cs then some (.val (.agg cs) [] []) else none
  | .mk e s as => if (as.all fun a => (av tm a).cells.length == s && ones (av tm a).cells && ((av tm a).pur?).isSome) then ((as.map (av tm)).mapM V.pur?).bind fun xs => some (.val (.list e xs i0) [(i0, some (.tok as.length e))] []) else none
  | .ld s a => match av tm a with
    | .ptr id off => match st id with
      | some (.cells cs) => (kld s cs off).map fun v => .val v [] [id]
      | _ => none
    | .cp cs => (kld s cs 0).map fun v => .val v [] []
    | _ => none
  | .sto n a b => match av tm a with
    | .ptr id off => match st id with
      | some (.cells cs) => if n = (av tm b).cells.length ∧ off + (av tm b).cells.length ≤ cs.length ∧ ones (av tm b).cells = true then some (.val (.sc undef) [(id, some (.cells (cs.take off ++ (av tm b).cells ++ cs.drop (off + (av tm b).cells.length))))] [id]) else none
      | _ => none
    | _ => none
  | .nilc a => match av tm a with
    | .ptr i o => some (.val (.ptr i o) [] [])
    | .cp c => some (.val (.cp c) [] [])
    | .fn (.func f) a b => some (.val (.fn (.func f) a b) [] [])
    | _ => none
  | .bin b op x y => match av tm x, av tm y with
    | .sc u, .sc v => (kbin' b op u v).map fun v => .val (.sc v) [] []
    | _, _ => none
  | .un op x => match av tm x with
    | .sc u => (reck P (Op.unary op u)).map fun v => .val (.sc v) [] []
    | _ => none
  | .fa off a => match av tm a with
    | .ptr id o => some (.val (.ptr id (o + off)) [] [])
    | .cp cs => if off < cs.length then some (.val (.cp (cs.drop off)) [] []) else none
    | _ => none
  | .fld s off a => match av tm a with
    | .agg cs => (kld s cs off).map fun v => .val v [] []
    | _ => none
  | .ixl el a i => match av tm a, av tm i with
    | .list e xs _, .sc (.int _ i) => if 0 ≤ i ∧ e = el then (xs[i.toNat]?).map fun x => .val (.cp x.cells) [] [] else none
    | _, _ => none
  | .ixa n s a i => match av tm a, av tm i with
    | .cp cs, .sc (.int _ i) => if 0 ≤ i ∧ i < n ∧ i.toNat * s < cs.length then some (.val (.cp (cs.drop (i.toNat * s))) [] []) else none
    | .ptr id off, .sc (.int _ i) => if 0 ≤ i ∧ i < n then some (.val (.ptr id (off + i.toNat * s)) [] []) else none
    | _, _ => none
  | .ixs a i => match av tm a, av tm i with
    | .sc (.string s), .sc (.int _ i) => if 0 ≤ i then (s.data.toList[i.toNat]?).map fun b => .val (.sc (.int .u8 b.toNat)) [] [] else none
    | _, _ => none
  | .b2s e a => match av tm a with
    | .list e' xs _ => if e' = e ∨ xs.isEmpty = true then (bytesOfV xs).map fun l => .val (.sc (.string ⟨l.toArray⟩)) [] [] else none
    | _ => none
  | .s2b e a => match av tm a with
    | .sc (.string t) => some (.val (.list e (bytesV t) 0) [] [])
    | _ => none
  | .i2i k a => match av tm a with
    | .sc (.int _ n) => some (.val (.sc (.int k (k.wrap n))) [] [])
    | _ => none
  | .len a => match av tm a with
    | .list _ xs _ => some (.val (.i64 xs.length) [] [])
    | _ => none
  | .lenS a => match av tm a with
    | .sc (.string s) => some (.val (.i64 s.size) [] [])
    | _ => none
  | .app el by_ l a b => match av tm a with
    | .list e xs r => (ksrc l el (av tm b)).bind fun ys =>
      if (xs.length + ys.length) * by_ ≤ 140737488355328 ∧ xs.length + ys.length ≤ 9223372036854775807 then
        if r = 1 then (if xs.isEmpty then some (.val (.list el ys i0) [(i0, some (.tok ys.length el))] []) else none)
        else if r = 0 then none
        else match st r with
          | some (.tok n e') => if n = xs.length ∧ e' = e ∧ e = el then some (.val (.list el (xs ++ ys) r) [(r, some (.tok (xs.length + ys.length) el))] [r]) else none
          | _ => none
      else none
    | _ => none
  | .sll el a lo hi => match av tm a with
    | .list e xs r => (kint tm lo 0).bind fun l => (kint tm hi xs.length).bind fun h =>
      if 0 ≤ l ∧ l ≤ h ∧ h ≤ xs.length ∧ (e = el ∨ xs.isEmpty = true) then some (.val (.list e ((xs.take h.toNat).drop l.toNat) 0) [] []) else none
    | _ => none
  | .sls a lo hi => match av tm a with
    | .sc (.string s) => (kint tm lo 0).bind fun l => (kint tm hi s.size).bind fun h => (ksub s l h).map fun v => .val v [] []
    | _ => none
  | .ext a i => match av tm a with
    | .tup vs => (vs[i]?).map fun v => .val v [] []
    | _ => none
  | .min a b => match av tm a, av tm b with
    | .sc (.int k x), .sc (.int _ y) => some (.val (.sc (.int k (if y < x then y else x))) [] [])
    | _, _ => none
  | .no f as => ((as.map (av tm)).mapM V.val1?).bind fun vs => match reck P (callFunc f vs.toArray) with
    | some (.value v) => some (.val (ofRes v) [] [])
    | _ => none
  | .pl f as => ((as.map (av tm)).mapM V.pur?).bind fun as =>
    match E.pl f as with
    | some (.ret y) => some (.val (own i0 y).1 (own i0 y).2 [])
    | some (.pan y) => some (.pan y)
    | none => none
  | .hp f as => match E.hp f (as.map (av tm)) st nx with
    | some (.ret v st' n) => some (.big v st' n)
    | some (.pan v st' n) => some (.bpan v st' n)
    | none => none
  | .dyn f as => match av tm f with
    | .fn (.func g) first cap => xcall P E i0 nx st g (first ++ as.map (av tm) ++ cap)
    | _ => none
  | .eqs neg offs a b => match av tm a, av tm b with
    | .agg xs, .agg ys => (xs.mapM V.val1?).bind fun _ => (ys.mapM V.val1?).bind fun _ => (keqs xs ys offs).map fun r => .val (.bool (r != neg)) [] []
    | _, _ => none
  | .isn neg a => match av tm a with
    | .ptr _ _ => some (.val (.bool neg) [] [])
    | .sc (.pointer none) => some (.val (.bool !neg) [] [])
    | _ => none
  | .rng a => match av tm a with
    | .sc (.string s) => some (.val (.ptr i0 0) [(i0, some (.iter s 0))] [])
    | _ => none
  | .nxt a => match av tm a with
    | .ptr id 0 => match st id with
      | some (.iter s pos) => if pos < s.size then some (.val (.tup [.bool true, .i64 pos, .sc (.int .i32 (Utf8.decode s pos).1)]) [(id, some (.iter s (pos + (Utf8.decode s pos).2)))] [id]) else some (.val (.tup [.bool false]) [] [id])
      | _ => none
    | _ => none
  | .mkf f l r => some (.val (.fn f (l.map (av tm)) (r.map (av tm))) [] [])
  | .mkm => some (.val (.map i0) [(i0, some (.map []))] [])
  | .lku kd z ok a k => match av tm a, av tm k with
    | .map id, .sc k => if kok kd k then
        match st id with
        | some (.map es) => (mfind k es 0).bind fun r => match r with
          | some (_, v) => some (.val (if ok then .tup [v, .bool true] else v) [] [id])
          | none => some (.val (if ok then .tup [z, .bool false] else z) [] [id])
        | _ => none
      else none
    | _, _ => none
  | .mup kd a k y => match av tm a, av tm k with
    | .map id, .sc k => if kok kd k then
        match st id with
        | some (.map es) => (mfind k es 0).bind fun r => match r with
          | some (i, _) => some (.val (.sc undef) [(id, some (.map (es.set i (.sc k, av tm y))))] [id])
          | none => some (.val (.sc undef) [(id, some (.map (es ++ [(.sc k, av tm y)])))] [id])
        | _ => none
      else none
    | _, _ => none
  | .ifc t a => some (.val (.ifc t (av tm a)) [] [])
  | .pan a => match av tm a with
    | .ifc t v => some (.pan (.ifc t v))
    | _ => none
  | .gen op ty => xop P E tm st i0 nx ⟨none, op, ty, "", #[], none⟩
end
/-! ### Looking the types up -/
section
variable (P : Program) (hm : FuncId → Bool) (gl : Nat → Option V)
def ca : Operand → Option A
  | .tmp t => some (.t t)
  | .const v => if ones (V.ofV v).cells then some (.v (.ofV v)) else none
  | .global g => (gl g).map .v
  | .func f => some (.v (.fn (.func f) [] []))
def kty (t : TypeId) : Option (Option Nat) :=
  match usz P t, uagg P t with
  | some s, some true => some (some s)
  | some _, some false => some none
  | _, _ => none
def plainT (t : TypeId) : Bool := match P.underlying t with | some .bool | some (.int _) | some .string => true | _ => false
def cap (i : List (Nat × Operand)) : Option (List (Nat × A)) := i.mapM fun p => (ca gl p.2).map fun a => (p.1, a)
def cao : Option Operand → Option (Option A)
  | none => some none
  | some x => (ca gl x).map some
def kdOf (t : TypeId) : Nat := match P.underlying t with | some (.int _) => 0 | some .string => 1 | some .bool => 2 | _ => 3
def isPtr (t : TypeId) : Bool := match P.underlying t with | some (.pointer _) => true | _ => false
def isNilC : Operand → Bool
  | .const (.pointer none) => true
  | _ => false
def eqsOk (t : TypeId) (fs : Array Field) : Bool := fs.toList.all (fun f => f.name != "_" && plainT P f.type && (usz P f.type == some 1) && (uagg P f.type == some false)) && !P.stoodInHeld t && !P.eqGuardType P.depth t
def ckApp (t t' : TypeId) (a b : A) : Option K :=
  match uel P t with
  | some el => match P.info? el with
    | some i => match i.zero with
      | some z => if z.cells.size = i.size ∧ 0 < i.size then
          (if t' == t then some (.app el i.bytes true a b) else if isStr P t' && isU8 P el && (usz P el == some 1) then some (.app el i.bytes false a b) else none)
        else none
      | none => none
    | none => none
  | none => none
def ck? (op : Op) (ty : TypeId) : Option K :=
  match op with
  | .move x | .assign x => (ca gl x).map .mov
  | .pick c a b => (ca gl c).bind fun c => (ca gl a).bind fun a => (ca gl b).map fun b => .pick c a b
  | .alloc e => (uzero P e).bind fun z => if ones (V.ofV z).cells then some (.new (V.ofV z).cells) else none
  | .box e x => (ca gl x).map .box
  | .build t ps => (cap gl ps.toList).bind fun ps =>
    match uzero P t, P.underlying t with
    | some z, some (.struct fs) => if fs.all (fun f => (usz P f.type).isSome) && ones (V.ofV z).cells then some (.build (fs.toList.map fun f => (f.offset, (usz P f.type).getD 0)) (V.ofV z).cells ps) else none
    | _, _ => none
  | .buildSlice t n ps => (cap gl ps.toList).bind fun ps =>
    match uel P t with
    | some e => (usz P e).bind fun s => if ps.map (·.1) = List.range n ∧ n ≤ 1000 ∧ s ≤ 1000 ∧ 0 < s ∧ (uzero P e).isSome = true then some (.mk e s (ps.map (·.2))) else none
    | none => none
  | .load t x => (ca gl x).bind fun a => (kty P t).map fun s => .ld s a
  | .store t x y => (ca gl x).bind fun a => (ca gl y).bind fun b => (usz P t).map fun n => .sto n a b
  | .nilCheck x => (ca gl x).map .nilc
  | .binOp op t x y _ => if plainT P t then (ca gl x).bind fun a => (ca gl y).map fun b => .bin (isBool P t) op a b
    else if isPtr P t && isNilC y then (match op with
      | .eql => (ca gl x).map fun a => .isn false a
      | .neq => (ca gl x).map fun a => .isn true a
      | _ => none)
    else match P.underlying t with
      | some (.struct fs) => if eqsOk P t fs then (match op with
        | .eql => (ca gl x).bind fun a => (ca gl y).map fun b => .eqs false (fs.toList.map fun f => (f.offset, kdOf P f.type)) a b
        | .neq => (ca gl x).bind fun a => (ca gl y).map fun b => .eqs true (fs.toList.map fun f => (f.offset, kdOf P f.type)) a b
        | _ => none) else none
      | _ => none
  | .unOp op _ x => (ca gl x).map fun a => .un op a
  | .convert s d x => (ca gl x).bind fun a =>
    match P.underlying s, P.underlying d with
    | some (.slice e), some .string => if isU8 P e && (usz P e == some 1) then some (.b2s e a) else none
    | some .string, some (.slice e) => if isU8 P e && (usz P e == some 1) then some (.s2b e a) else none
    | some (.int _), some (.int k) => some (.i2i k a)
    | _, _ => none
  | .slice t x lo hi none => (ca gl x).bind fun a => (cao gl lo).bind fun lo => (cao gl hi).bind fun hi =>
    match P.underlying t with
    | some (.slice el) => if (usz P el).isSome then some (.sll el a lo hi) else none
    | some .string => some (.sls a lo hi)
    | _ => none
  | .fieldAddr s x f => (ca gl x).bind fun a => match P.underlying s with
    | some (.struct fs) => (fs[f]?).bind fun fd => match usz P fd.type with
      | some (n + 1) => some (.fa fd.offset a)
      | _ => none
    | _ => none
  | .field t x f => (ca gl x).bind fun a => match P.underlying t with
    | some (.struct fs) => (fs[f]?).bind fun fd => (kty P fd.type).map fun s => .fld s fd.offset a
    | _ => none
  | .indexAddr t x i => (ca gl x).bind fun a => (ca gl i).bind fun i => match P.underlying t with
    | some (.slice el) => (usz P el).bind fun s => if 0 < s then some (.ixl el a i) else none
    | some (.array n el) => (usz P el).bind fun s => if 0 < s then some (.ixa n s a i) else none
    | _ => none
  | .index t x i => (ca gl x).bind fun a => (ca gl i).bind fun i => if isStr P t then some (.ixs a i) else none
  | .extract x i => (ca gl x).map fun a => .ext a i
  | .range t x => if isStr P t then (ca gl x).map .rng else none
  | .next x true => (ca gl x).map .nxt
  | .makeFunc f l r => (l.toList.mapM (ca gl)).bind fun l => (r.toList.mapM (ca gl)).map fun r => .mkf f l r
  | .makeMap t none => some .mkm
  | .lookup t x k ok => (ca gl x).bind fun a => (ca gl k).bind fun k => match P.underlying t with
    | some (.map kt et) => (uzero P et).bind fun z => if ones (V.ofV z).cells then some (.lku (kdOf P kt) (V.ofV z) ok a k) else none
    | _ => none
  | .mapUpdate t x k y => (ca gl x).bind fun a => (ca gl k).bind fun k => (ca gl y).bind fun y => match P.underlying t with
    | some (.map kt et) => some (.mup (kdOf P kt) a k y)
    | _ => none
  | .makeInterface t x => match P.underlying t with
    | some (.interface _) | none => none
    | _ => (ca gl x).map fun a => .ifc t a
  | .panic x => (ca gl x).map .pan
  | .call c => (c.args.toList.mapM (ca gl)).bind fun as => match c.callee with
    | .builtin .append => match as, c.argTypes.toList with
      | [a, b], [t, t'] => ckApp P t t' a b
      | _, _ => none
    | .builtin .len => match as, c.argTypes.toList with
      | [a], [t] => match P.underlying t with
        | some (.slice _) => some (.len a)
        | some .string => some (.lenS a)
        | _ => none
      | _, _ => none
    | .builtin .min => match as with
      | [a, b] => some (.min a b)
      | _ => none
    | .value (.func f) => if nobody P f then some (.no f as) else if hm f then some (.hp f as) else some (.pl f as)
    | .value x => (ca gl x).map fun a => .dyn a as
    | _ => none
  | _ => none
def ck (op : Op) (ty : TypeId) : K := (ck? P hm gl op ty).getD (.gen op ty)
end
section
variable {P : Program} {E : Env} {tm : Nat → V} {st : St} {i0 nx : Nat} {hm : FuncId → Bool} {gl : Nat → Option V}
theorem ca_ev (hg : E.gl = gl) {x : Operand} {a : A} (h : ca gl x = some a) : ev E tm x = some (av tm a) := by
  cases x <;> simp only [ca, Option.some.injEq] at h
  · subst h; rfl
  · split at h
    · rename_i hq; simp only [Option.some.injEq] at h; subst h; simp [ev, hq, av]
    · cases h
  · subst hg; simp only [Option.map_eq_some_iff] at h; obtain ⟨v, hv, rfl⟩ := h; simp [ev, hv, av]
  · subst h; rfl
theorem caL_ev (hg : E.gl = gl) : ∀ {xs : List Operand} {as : List A}, xs.mapM (ca gl) = some as → xs.mapM (ev E tm) = some (as.map (av tm))
  | [], as, h => by simp at h; subst h; rfl
  | x :: xs, as, h => by
    simp only [List.mapM_cons, Option.bind_eq_bind, Option.bind_eq_some_iff, Option.pure_def, Option.some.injEq] at h
    obtain ⟨a, ha, bs, hb, rfl⟩ := h
    simp [List.mapM_cons, ca_ev hg ha, caL_ev hg hb]
theorem cap_ev (hg : E.gl = gl) : ∀ {xs : List (Nat × Operand)} {as : List (Nat × A)}, cap gl xs = some as → (xs.mapM fun (p : Nat × Operand) => (ev E tm p.2).map fun v => (p.1, v)) = some (as.map fun p => (p.1, av tm p.2))
  | [], as, h => by simp [cap] at h; subst h; rfl
  | x :: xs, as, h => by
    simp only [cap, List.mapM_cons, Option.bind_eq_bind, Option.bind_eq_some_iff, Option.pure_def, Option.some.injEq, Option.map_eq_some_iff] at h
    obtain ⟨a, ⟨a', ha, rfl⟩, bs, hb, rfl⟩ := h
    have := cap_ev hg (show cap gl xs = some bs from hb)
    simp [List.mapM_cons, ca_ev hg ha, this]
theorem kty_ld {t : TypeId} {s : Option Nat} (h : kty P t = some s) (cs : List V) (off : Nat) : ld P t cs off = kld s cs off := by
  unfold kty at h
  unfold ld
  split at h <;> first | (cases h; done) | (rename_i h1 h2; rw [h1, h2]; simp only [Option.some.injEq] at h; subst h; rfl)
end
end Go.Proofs.YtojbkakdhfmjmaaDoor.Vm
