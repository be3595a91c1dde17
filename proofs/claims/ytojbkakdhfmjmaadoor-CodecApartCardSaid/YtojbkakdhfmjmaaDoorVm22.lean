/- Proved here: an operation whose types are looked up beforehand answers what the machine's operation answers. Conditions: none. -/
import Derived.Test.YtojbkakdhfmjmaaDoorVm21
set_option linter.unusedVariables false
set_option linter.unusedSimpArgs false
namespace Go.Proofs.YtojbkakdhfmjmaaDoor.Vm
open Go.RowKit
section
variable {P : Program} {E : Env} {tm : Nat → V} {st : St} {i0 nx : Nat} {hm : FuncId → Bool} {gl : Nat → Option V} {o : Oper} {k : K} {r : R}
theorem k_mov (hg : E.gl = gl) {x : Operand} (ho : o.op = .move x ∨ o.op = .assign x) (h : (ca gl x).map .mov = some k) (hx : kop P E tm st i0 nx k = some r) : xop P E tm st i0 nx o = some r := by
  rw [Option.map_eq_some_iff] at h
  obtain ⟨a, ha, rfl⟩ := h
  rcases ho with ho | ho <;> simp only [xop, ho, ca_ev hg ha, Option.map_some] <;> exact hx
theorem k_pick (hg : E.gl = gl) {c x y : Operand} {ty : TypeId} (ho : o.op = .pick c x y) (h : ck? P hm gl (.pick c x y) ty = some k) (hx : kop P E tm st i0 nx k = some r) : xop P E tm st i0 nx o = some r := by
  simp only [ck?, Option.bind_eq_some_iff, Option.map_eq_some_iff] at h
  obtain ⟨c', hc, a, ha, b, hb, rfl⟩ := h
  simp only [xop, ho, ca_ev hg ha, ca_ev hg hb, ca_ev hg hc, Option.bind_some]
  exact hx
theorem k_alloc {e ty : TypeId} (ho : o.op = .alloc e) (h : ck? P hm gl (.alloc e) ty = some k) (hx : kop P E tm st i0 nx k = some r) : xop P E tm st i0 nx o = some r := by
  simp only [ck?, Option.bind_eq_some_iff] at h
  obtain ⟨z, hz, h⟩ := h
  split at h
  · rename_i h1
    simp only [Option.some.injEq] at h; subst h
    simp only [xop, ho, hz, Option.bind_some, h1, if_true]; exact hx
  · cases h
theorem k_box (hg : E.gl = gl) {e ty : TypeId} {x : Operand} (ho : o.op = .box e x) (h : ck? P hm gl (.box e x) ty = some k) (hx : kop P E tm st i0 nx k = some r) : xop P E tm st i0 nx o = some r := by
  simp only [ck?, Option.map_eq_some_iff] at h
  obtain ⟨a, ha, rfl⟩ := h
  simp only [xop, ho, ca_ev hg ha, Option.bind_some]; exact hx
theorem k_build (hg : E.gl = gl) {t ty : TypeId} {ps : Array (Nat × Operand)} (ho : o.op = .build t ps) (h : ck? P hm gl (.build t ps) ty = some k) (hx : kop P E tm st i0 nx k = some r) : xop P E tm st i0 nx o = some r := by
  simp only [ck?, Option.bind_eq_some_iff] at h
  obtain ⟨as, ha, h⟩ := h
  split at h
  · rename_i z fs hz hu
    split at h
    · rename_i h1
      simp only [Bool.and_eq_true] at h1
      obtain ⟨h1, h2⟩ := h1
      simp only [Option.some.injEq] at h; subst h
      simp only [xop, ho, cap_ev hg ha, Option.bind_some, hz, hu]
      simp only [kop] at hx
      have hp : (fun (i : Nat) => (fs[i]?).bind fun (f : Field) => (usz P f.type).map fun s => (f.offset, s)) = fun i => (fs.toList.map fun (f : Field) => (f.offset, (usz P f.type).getD 0))[i]? := by
        funext i
        simp only [List.getElem?_map, Array.getElem?_toList]
        cases hf : fs[i]? with
        | none => rfl
        | some f =>
          have h3 : (usz P f.type).isSome = true := by
            rw [Array.all_eq_true_iff_forall_mem] at h1
            exact h1 f (Array.mem_of_getElem? hf)
          obtain ⟨n, hn⟩ := Option.isSome_iff_exists.mp h3
          simp [hn]
      rw [hp]
      rw [Option.bind_eq_some_iff] at hx ⊢
      obtain ⟨cs, hcs, hx⟩ := hx
      refine ⟨cs, hcs, ?_⟩
      rw [h1, h2, List.all_map]
      simpa using hx
    · cases h
  · cases h
theorem k_mk (hg : E.gl = gl) {t ty : TypeId} {n : Nat} {ps : Array (Nat × Operand)} (ho : o.op = .buildSlice t n ps) (h : ck? P hm gl (.buildSlice t n ps) ty = some k) (hx : kop P E tm st i0 nx k = some r) : xop P E tm st i0 nx o = some r := by
  simp only [ck?, Option.bind_eq_some_iff] at h
  obtain ⟨as, ha, h⟩ := h
  split at h
  · rename_i e he
    rw [Option.bind_eq_some_iff] at h
    obtain ⟨s, hs, h⟩ := h
    split at h
    · rename_i h1
      simp only [Option.some.injEq] at h; subst h
      have hl : as.length = n := by have := congrArg List.length h1.1; simpa using this
      have e1 : (List.map (fun (p : Nat × A) => (p.1, av tm p.2)) as).map (fun p => p.1) = as.map (fun p => p.1) := by simp [List.map_map, Function.comp_def]
      simp only [xop, ho, cap_ev hg ha, Option.bind_some, he, hs, e1, h1, if_true, and_self]
      simp only [kop, List.map_map, List.all_map, List.mapM_map, List.length_map, hl, Function.comp_def] at hx ⊢
      exact hx
    · cases h
  · cases h
theorem k_ld (hg : E.gl = gl) {t ty : TypeId} {x : Operand} (ho : o.op = .load t x) (h : ck? P hm gl (.load t x) ty = some k) (hx : kop P E tm st i0 nx k = some r) : xop P E tm st i0 nx o = some r := by
  simp only [ck?, Option.bind_eq_some_iff, Option.map_eq_some_iff] at h
  obtain ⟨a, ha, s, hs, rfl⟩ := h
  simp only [xop, ho, ca_ev hg ha, Option.bind_some, kty_ld hs]; exact hx
theorem k_sto (hg : E.gl = gl) {t ty : TypeId} {x y : Operand} (ho : o.op = .store t x y) (h : ck? P hm gl (.store t x y) ty = some k) (hx : kop P E tm st i0 nx k = some r) : xop P E tm st i0 nx o = some r := by
  simp only [ck?, Option.bind_eq_some_iff, Option.map_eq_some_iff] at h
  obtain ⟨a, ha, b, hb, n, hn, rfl⟩ := h
  simp only [xop, ho, ca_ev hg ha, ca_ev hg hb, Option.bind_some, hn, Option.some.injEq]; exact hx
theorem k_nilc (hg : E.gl = gl) {ty : TypeId} {x : Operand} (ho : o.op = .nilCheck x) (h : ck? P hm gl (.nilCheck x) ty = some k) (hx : kop P E tm st i0 nx k = some r) : xop P E tm st i0 nx o = some r := by
  simp only [ck?, Option.map_eq_some_iff] at h
  obtain ⟨a, ha, rfl⟩ := h
  simp only [xop, ho, ca_ev hg ha, Option.bind_some]
  simp only [kop] at hx
  cases hv : av tm a with
  | fn f x y => cases f <;> simp only [hv] at hx ⊢ <;> exact hx
  | _ => simp only [hv] at hx ⊢ <;> exact hx
theorem reck_part {t : TypeId} {us : List Value} {o : Nat} {u : Value} (ha : uagg P t = some false) (hu : us[o]? = some u) : reck P (part t us.toArray o) = some u := by
  have h1 : reck P (isAgg t) = some false := by
    unfold uagg at ha
    split at ha <;> first | (cases ha; done) | skip
    rename_i d h1 h2 h3
    unfold isAgg
    rw [reck_bind _ (reck_underlying h3)]
    split
    · rename_i fs; exact (h1 fs rfl).elim
    · rename_i n e; exact (h2 n e rfl).elim
    · rfl
  unfold part
  rw [reck_bind _ h1]
  simp only [Bool.false_eq_true, if_false]
  have : us.toArray[o]? = some u := by simpa using hu
  rw [this]; rfl
theorem kdOf_int {t : TypeId} (h : kdOf P t = 0) : ∃ k, P.underlying t = some (.int k) := by unfold kdOf at h; split at h <;> first | exact ⟨_, by assumption⟩ | cases h
theorem kdOf_str {t : TypeId} (h : kdOf P t = 1) : P.underlying t = some .string := by unfold kdOf at h; split at h <;> first | assumption | cases h
theorem kdOf_bool {t : TypeId} (h : kdOf P t = 2) : P.underlying t = some .bool := by unfold kdOf at h; split at h <;> first | assumption | cases h
theorem reck_eq1 {t : TypeId} {u v : Value} {q : Bool} (d : Nat) (hk : kok (kdOf P t) u = true) (h : kbin .eql u v = some (.bool q)) : reck P (Op.equalIn (d + 1) t u v) = some q := by
  unfold kok at hk
  split at hk
  · rename_i k a h0
    obtain ⟨k0, hu⟩ := kdOf_int h0
    cases v with
    | int k' b =>
      simp only [kbin] at h
      split at h
      · cases h
      · rename_i hk'
        have hk' := Classical.not_not.mp hk'
        subst hk'
        simp only [Option.some.injEq, Value.bool.injEq] at h; subst h
        simp only [Op.equalIn]
        rw [reck_bind _ (reck_underlying hu)]
        simp [reck]; rfl
    | _ => simp [kbin] at h
  · rename_i s h0
    have hu := kdOf_str h0
    cases v with
    | string b =>
      simp only [kbin, Option.some.injEq, Value.bool.injEq] at h; subst h
      simp only [Op.equalIn]
      rw [reck_bind _ (reck_underlying hu), ← ba_beq]; rfl
    | _ => simp [kbin] at h
  · rename_i s h0
    have hu := kdOf_bool h0
    cases v with
    | bool b =>
      simp only [kbin, Option.some.injEq, Value.bool.injEq] at h; subst h
      exact reck_eqIn P d hu _ _
    | _ => simp [kbin] at h
  · cases hk
theorem val1_get : ∀ {xs : List V} {us : List Value}, xs.mapM V.val1? = some us → ∀ {o : Nat} {u : Value}, xs[o]? = some (.sc u) → us[o]? = some u
  | [], us, h, o, u, hx => by simp at hx
  | x :: xs, us, h, o, u, hx => by
    simp only [List.mapM_cons, Option.bind_eq_bind, Option.bind_eq_some_iff, Option.pure_def, Option.some.injEq] at h
    obtain ⟨a, ha, bs, hb, rfl⟩ := h
    cases o with
    | zero => simp only [List.getElem?_cons_zero, Option.some.injEq] at hx ⊢; subst hx; simpa [V.val1?] using ha.symm
    | succ o => simp only [List.getElem?_cons_succ] at hx ⊢; exact val1_get hb hx
theorem reck_eqs {t : TypeId} {fs : Array Field} {xs ys : List V} {us vs : List Value} {r : Bool} (d : Nat) (hu : P.underlying t = some (.struct fs)) (hok : eqsOk P t fs = true) (hx : xs.mapM V.val1? = some us) (hy : ys.mapM V.val1? = some vs) (h : keqs xs ys (fs.toList.map fun f => (f.offset, kdOf P f.type)) = some r) :
    reck P (Op.equalIn (d + 2) t (.agg us.toArray) (.agg vs.toArray)) = some r := by
  unfold eqsOk at hok
  simp only [Bool.and_eq_true, Bool.not_eq_true'] at hok
  obtain ⟨⟨hok, hst⟩, _⟩ := hok
  rw [Op.equalIn]
  rw [reck_bind _ (reck_underlying hu)]
  rw [reck_bind (a := P) _ rfl]
  simp only [hst, Bool.false_eq_true, if_false]
  rw [← Array.forIn_toList]
  have main : ∀ (l : List Field) (r : Bool), l.all (fun f => f.name != "_" && plainT P f.type && (usz P f.type == some 1) && (uagg P f.type == some false)) = true → keqs xs ys (l.map fun f => (f.offset, kdOf P f.type)) = some r →
      ∃ s : Option Bool × Unit, reck P (forIn l ((none : Option Bool), ()) fun f __s => if f.name ≠ "_" then do
            let __do_lift ← part f.type us.toArray f.offset
            let __do_lift_1 ← part f.type vs.toArray f.offset
            let __do_lift ← Op.equalIn (d + 1) f.type __do_lift __do_lift_1
            if (!__do_lift) = true then pure (ForInStep.done (some false, ())) else pure (ForInStep.yield (none, ()))
          else pure (ForInStep.yield (none, ()))) = some s ∧ ((r = true ∧ s.1 = none) ∨ (r = false ∧ s.1 = some false)) := by
    intro l
    induction l with
    | nil => intro r _ h; simp only [List.map_nil, keqs, Option.some.injEq] at h; subst h; exact ⟨(none, ()), rfl, .inl ⟨rfl, rfl⟩⟩
    | cons f l ih =>
      intro r ha h
      simp only [List.all_cons, Bool.and_eq_true, bne_iff_ne, beq_iff_eq] at ha
      obtain ⟨⟨⟨⟨hn, _⟩, _⟩, hag⟩, ha⟩ := ha
      simp only [List.map_cons, keqs] at h
      split at h
      · rename_i u v hxu hyv
        split at h
        · rename_i hk
          split at h
          · rename_i q hq
            rw [Option.map_eq_some_iff] at h
            obtain ⟨q2, hq2, rfl⟩ := h
            rw [List.forIn_cons]
            have h1 := reck_part (P := P) hag (val1_get hx hxu)
            have h2 := reck_part (P := P) hag (val1_get hy hyv)
            have h3 := reck_eq1 (P := P) d hk hq
            have hb : reck P (if f.name ≠ "_" then do
                let __do_lift ← part f.type us.toArray f.offset
                let __do_lift_1 ← part f.type vs.toArray f.offset
                let __do_lift ← Op.equalIn (d + 1) f.type __do_lift __do_lift_1
                if (!__do_lift) = true then pure (ForInStep.done ((some false : Option Bool), ())) else pure (ForInStep.yield (none, ()))
              else pure (ForInStep.yield (none, ()))) = some (if q then ForInStep.yield (none, ()) else ForInStep.done (some false, ())) := by
              rw [if_pos hn, reck_bind _ h1, reck_bind _ h2, reck_bind _ h3]
              cases q <;> rfl
            rw [reck_bind _ hb]
            cases q with
            | false => exact ⟨(some false, ()), rfl, .inr ⟨rfl, rfl⟩⟩
            | true =>
              obtain ⟨s, hs, hr⟩ := ih q2 (by simpa using ha) hq2
              exact ⟨s, hs, by simpa using hr⟩
          · cases h
        · cases h
      · cases h
  obtain ⟨s, hs, hr⟩ := main fs.toList r hok h
  rw [reck_bind _ hs]
  rcases hr with ⟨rfl, h1⟩ | ⟨rfl, h1⟩ <;> rw [h1] <;> rfl
theorem eqGuard_agg {b : BinOp} {t : TypeId} {x y : Operand} {us vs : Array Value} (hg : P.eqGuardType P.depth t = false) : reck P (eqGuard b t x y (.agg us) (.agg vs)) = some () := by
  cases b <;> first | rfl | (unfold eqGuard; simp only [Bool.not_eq_true', Bool.not_true, Bool.false_eq_true, if_false]; rw [reck_bind (a := P) _ rfl, reck_bind (a := P) _ rfl]; simp only [hg, if_true]; rfl)
def xbin (P : Program) (op : BinOp) (t : TypeId) (x y : Operand) (a b : V) : Option R := match a, b with
    | .ptr .., .sc (.pointer none) => match op, P.underlying t with | .eql, some (.pointer _) => some (.val (.bool false) [] []) | .neq, some (.pointer _) => some (.val (.bool true) [] []) | _, _ => none
    | _, _ => a.val?.bind fun u => b.val?.bind fun v => (reck P (do eqGuard op t x y u v; binOp op t u v)).map fun v => .val (.sc v) [] []
theorem k_eqs (hg : E.gl = gl) {t : TypeId} {fs : Array Field} {a c : A} {neg : Bool} {b : BinOp} (hb : b = if neg then .neq else .eql) (hu : P.underlying t = some (.struct fs)) (hok : eqsOk P t fs = true) {x y : Operand} (hx : kop P E tm st i0 nx (.eqs neg (fs.toList.map fun f => (f.offset, kdOf P f.type)) a c) = some r) :
    xbin P b t x y (av tm a) (av tm c) = some r := by
  unfold xbin
  simp only [kop] at hx
  split at hx
  · rename_i xs ys h1 h2
    simp only [Option.bind_eq_some_iff, Option.map_eq_some_iff] at hx
    obtain ⟨us, hus, vs, hvs, q, hq, rfl⟩ := hx
    have hgd : P.eqGuardType P.depth t = false := by unfold eqsOk at hok; simp only [Bool.and_eq_true, Bool.not_eq_true'] at hok; exact hok.2
    simp only [h1, h2, V.val?, hus, hvs, Option.map_some, Option.bind_some]
    have he := reck_eqs (P := P) 9998 hu hok hus hvs hq
    rw [reck_bind _ (eqGuard_agg hgd)]
    cases neg with
    | false =>
      have hb : b = .eql := by simpa using hb
      subst hb
      show (reck P (Op.equal t (.agg us.toArray) (.agg vs.toArray) >>= fun r => (pure (Value.bool r) : Sem Value))).map _ = _
      rw [reck_bind _ (show reck P (Op.equal t (.agg us.toArray) (.agg vs.toArray)) = some q from he)]
      cases q <;> rfl
    | true =>
      have hb : b = .neq := by simpa using hb
      subst hb
      show (reck P (Op.equal t (.agg us.toArray) (.agg vs.toArray) >>= fun r => (pure (Value.bool !r) : Sem Value))).map _ = _
      rw [reck_bind _ (show reck P (Op.equal t (.agg us.toArray) (.agg vs.toArray)) = some q from he)]
      cases q <;> rfl
  · cases hx
theorem isNilC_eq {y : Operand} (h : isNilC y = true) : y = .const (.pointer none) := by
  unfold isNilC at h
  split at h
  · rfl
  · cases h
theorem reck_nil0 {t el : TypeId} (hu : P.underlying t = some (.pointer el)) (d : Nat) : reck P (Op.equalIn (d + 1) t (.pointer none) (.pointer none)) = some true := by
  simp only [Op.equalIn]
  rw [reck_bind _ (reck_underlying hu)]; rfl
theorem k_isn {t : TypeId} {a : A} {neg : Bool} {b : BinOp} (hb : b = if neg then .neq else .eql) (hp : isPtr P t = true) {x y : Operand} (hx : kop P E tm st i0 nx (.isn neg a) = some r) :
    xbin P b t x y (av tm a) (.sc (.pointer none)) = some r := by
  unfold xbin
  obtain ⟨el, hu⟩ : ∃ el, P.underlying t = some (.pointer el) := by unfold isPtr at hp; split at hp <;> first | exact ⟨_, by assumption⟩ | cases hp
  simp only [kop] at hx
  split at hx
  · rename_i i o h1
    simp only [h1, hu]
    cases neg with
    | false => have hb : b = .eql := by simpa using hb
               subst hb; exact hx
    | true => have hb : b = .neq := by simpa using hb
              subst hb; exact hx
  · rename_i h1
    simp only [h1, V.val?, Option.bind_some]
    have hg : eqGuard b t x y (.pointer none) (.pointer none) = pure () := by cases b <;> rfl
    rw [hg]
    show (reck P (binOp b t (.pointer none) (.pointer none))).map _ = _
    cases neg with
    | false =>
      have hb : b = .eql := by simpa using hb
      subst hb
      show (reck P (Op.equal t (.pointer none) (.pointer none) >>= fun r => (pure (Value.bool r) : Sem Value))).map _ = _
      rw [reck_bind _ (show reck P (Op.equal t (.pointer none) (.pointer none)) = some true from reck_nil0 hu 9999)]
      exact hx
    | true =>
      have hb : b = .neq := by simpa using hb
      subst hb
      show (reck P (Op.equal t (.pointer none) (.pointer none) >>= fun r => (pure (Value.bool !r) : Sem Value))).map _ = _
      rw [reck_bind _ (show reck P (Op.equal t (.pointer none) (.pointer none)) = some true from reck_nil0 hu 9999)]
      exact hx
  · cases hx
theorem k_bin (hg : E.gl = gl) {b : BinOp} {t ty yt : TypeId} {x y : Operand} (ho : o.op = .binOp b t x y yt) (h : ck? P hm gl (.binOp b t x y yt) ty = some k) (hx : kop P E tm st i0 nx k = some r) : xop P E tm st i0 nx o = some r := by
  simp only [ck?] at h
  split at h
  · simp only [Option.bind_eq_some_iff, Option.map_eq_some_iff] at h
    obtain ⟨a, ha, c, hc, rfl⟩ := h
    simp only [xop, ho, ca_ev hg ha, ca_ev hg hc, Option.bind_some]
    simp only [kop] at hx
    cases h1 : av tm a with
    | sc u => cases h2 : av tm c with
      | sc v =>
        simp only [h1, h2, Option.map_eq_some_iff, V.val?, Option.bind_some] at hx ⊢
        obtain ⟨z, hz, rfl⟩ := hx
        refine ⟨z, ?_, rfl⟩
        unfold kbin' at hz
        split at hz
        · split at hz
          · rename_i hb; exact kbin_eq P (.inr hb) hz
          · cases hz
        · rename_i hnb; exact kbin_eq P (.inl fun b e => hnb b e) hz
      | _ => simp [h1, h2] at hx
    | _ => simp [h1] at hx
  · split at h
    · rename_i hp
      simp only [Bool.and_eq_true] at hp
      obtain rfl := isNilC_eq hp.2
      split at h <;> first
        | (rw [Option.map_eq_some_iff] at h
           obtain ⟨a, ha, rfl⟩ := h
           have h0 : ev E tm (.const (.pointer none)) = some (.sc (.pointer none)) := rfl
           simp only [xop, ho, ca_ev hg ha, h0, Option.bind_some]
           exact k_isn (by rfl) hp.1 hx)
        | (cases h; done)
    · split at h
      · rename_i fs hu
        split at h
        · rename_i hok
          split at h <;> first
            | (simp only [Option.bind_eq_some_iff, Option.map_eq_some_iff] at h
               obtain ⟨a, ha, c, hc, rfl⟩ := h
               simp only [xop, ho, ca_ev hg ha, ca_ev hg hc, Option.bind_some]
               exact k_eqs hg (by rfl) hu hok hx)
            | (cases h; done)
        · cases h
      · cases h
theorem k_un (hg : E.gl = gl) {b : UnOp} {t ty : TypeId} {x : Operand} (ho : o.op = .unOp b t x) (h : ck? P hm gl (.unOp b t x) ty = some k) (hx : kop P E tm st i0 nx k = some r) : xop P E tm st i0 nx o = some r := by
  simp only [ck?, Option.map_eq_some_iff] at h
  obtain ⟨a, ha, rfl⟩ := h
  simp only [xop, ho, ca_ev hg ha, Option.bind_some]
  simp only [kop] at hx
  split at hx
  · rename_i hv; simp only [hv, V.val1?, Option.bind_some]; exact hx
  · cases hx
theorem reck_convert_int {s d : TypeId} {k k1 k2 : IntKind} {n : Int} (hs : P.underlying s = some (.int k1)) (hd : P.underlying d = some (.int k)) : reck P (convert s d (.int k2 n)) = some (.int k (k.wrap n)) := by
  unfold convert
  rw [reck_bind _ (reck_underlying hs), reck_bind _ (reck_underlying hd)]
  rfl
theorem k_conv (hg : E.gl = gl) {s d ty : TypeId} {x : Operand} (ho : o.op = .convert s d x) (h : ck? P hm gl (.convert s d x) ty = some k) (hx : kop P E tm st i0 nx k = some r) : xop P E tm st i0 nx o = some r := by
  simp only [ck?, Option.bind_eq_some_iff] at h
  obtain ⟨a, ha, h⟩ := h
  simp only [xop, ho, ca_ev hg ha, Option.bind_some]
  split at h
  · rename_i e hs hd
    split at h
    · rename_i h1
      simp only [Bool.and_eq_true, beq_iff_eq] at h1
      simp only [Option.some.injEq] at h; subst h
      simp only [kop] at hx
      split at hx
      · rename_i e' xs rr hv
        simp only [hv, hs, hd]
        split at hx
        · rename_i h2; rw [if_pos ⟨h1.1, h2, h1.2⟩]; exact hx
        · cases hx
      · cases hx
    · cases h
  · rename_i e hs hd
    split at h
    · rename_i h1
      simp only [Option.some.injEq] at h; subst h
      simp only [kop] at hx
      split at hx
      · rename_i t hv
        have h2 : uel P d = some e := by simp only [uel, hd]
        simp only [hv, hs, h2, h1, if_true]; exact hx
      · cases hx
    · cases h
  · rename_i k1 k2 hs hd
    simp only [Option.some.injEq] at h; subst h
    simp only [kop] at hx
    split at hx
    · rename_i n k3 hv
      have h2 : uel P d = none := by simp only [uel, hd]
      simp only [hv, hs, h2, reck_convert_int hs hd, Option.map_some]; exact hx
    · cases hx
  · cases h
theorem k_fa (hg : E.gl = gl) {t ty : TypeId} {x : Operand} {f : Nat} (ho : o.op = .fieldAddr t x f) (h : ck? P hm gl (.fieldAddr t x f) ty = some k) (hx : kop P E tm st i0 nx k = some r) : xop P E tm st i0 nx o = some r := by
  simp only [ck?, Option.bind_eq_some_iff] at h
  obtain ⟨a, ha, h⟩ := h
  simp only [xop, ho, ca_ev hg ha, Option.bind_some]
  split at h
  · rename_i fs hu
    rw [Option.bind_eq_some_iff] at h
    obtain ⟨fd, hf, h⟩ := h
    simp only [hu, hf, Option.bind_some]
    split at h
    · rename_i n hn
      simp only [Option.some.injEq] at h; subst h
      simp only [hn]; exact hx
    · cases h
  · cases h
theorem k_fld (hg : E.gl = gl) {t ty : TypeId} {x : Operand} {f : Nat} (ho : o.op = .field t x f) (h : ck? P hm gl (.field t x f) ty = some k) (hx : kop P E tm st i0 nx k = some r) : xop P E tm st i0 nx o = some r := by
  simp only [ck?, Option.bind_eq_some_iff] at h
  obtain ⟨a, ha, h⟩ := h
  simp only [xop, ho, ca_ev hg ha, Option.bind_some]
  split at h
  · rename_i fs hu
    simp only [Option.bind_eq_some_iff, Option.map_eq_some_iff] at h
    obtain ⟨fd, hf, s, hs, rfl⟩ := h
    simp only [kop] at hx
    split at hx
    · rename_i cs hv
      simp only [hv, hu, hf, Option.bind_some, kty_ld hs]; exact hx
    · cases hx
  · cases h
theorem k_ixa (hg : E.gl = gl) {t ty : TypeId} {x i : Operand} (ho : o.op = .indexAddr t x i) (h : ck? P hm gl (.indexAddr t x i) ty = some k) (hx : kop P E tm st i0 nx k = some r) : xop P E tm st i0 nx o = some r := by
  simp only [ck?, Option.bind_eq_some_iff] at h
  obtain ⟨a, ha, b, hb, h⟩ := h
  simp only [xop, ho, ca_ev hg ha, ca_ev hg hb, Option.bind_some]
  split at h
  · rename_i el hu
    rw [Option.bind_eq_some_iff] at h
    obtain ⟨s, hs, h⟩ := h
    split at h
    · rename_i h0
      simp only [Option.some.injEq] at h; subst h
      simp only [kop] at hx
      split at hx
      · rename_i e xs rr kk n hv hi
        simp only [hv, hi, vint, Option.bind_some, hu, hs, h0, if_true]
        split at hx
        · rename_i h1
          rw [if_pos h1]
          rw [Option.map_eq_some_iff] at hx
          obtain ⟨y, hy, rfl⟩ := hx
          simp only [hy, Option.bind_some]
        · cases hx
      · cases hx
    · cases h
  · rename_i n el hu
    rw [Option.bind_eq_some_iff] at h
    obtain ⟨s, hs, h⟩ := h
    split at h
    · rename_i h0
      simp only [Option.some.injEq] at h; subst h
      simp only [kop] at hx
      split at hx
      · rename_i cs kk m hv hi
        simp only [hv, hi, vint, Option.bind_some, hu, hs]
        split at hx
        · rename_i h1
          rw [if_pos ⟨h1.1, h1.2.1⟩, if_pos ⟨h0, h1.2.2⟩]; exact hx
        · cases hx
      · rename_i id off kk m hv hi
        simp only [hv, hi, vint, Option.bind_some, hu, hs, h0, if_true]
        exact hx
      · cases hx
    · cases h
  · cases h
theorem reck_index {t : TypeId} {s : ByteArray} {k : IntKind} {i : Int} {b : UInt8} (hu : P.underlying t = some .string) (h0 : 0 ≤ i) (h : s.data.toList[i.toNat]? = some b) : reck P (Instr.index t (.string s) (.int k i)) = some (.int .u8 b.toNat) := by
  unfold Instr.index
  rw [reck_bind (a := (k, i)) _ rfl, reck_bind _ (reck_underlying hu)]
  have h2 : s[i.toNat]? = some b := by
    have h4 := (List.getElem?_eq_some_iff.mp h)
    obtain ⟨h5, h6⟩ := h4
    have h7 : i.toNat < s.size := by simpa using h5
    rw [getElem?_pos s i.toNat h7]
    simpa [ByteArray.getElem_eq_getElem_data] using h6
  simp only [h0, if_true, h2]
  rfl
theorem k_ixs (hg : E.gl = gl) {t ty : TypeId} {x i : Operand} (ho : o.op = .index t x i) (h : ck? P hm gl (.index t x i) ty = some k) (hx : kop P E tm st i0 nx k = some r) : xop P E tm st i0 nx o = some r := by
  simp only [ck?, Option.bind_eq_some_iff] at h
  obtain ⟨a, ha, b, hb, h⟩ := h
  simp only [xop, ho, ca_ev hg ha, ca_ev hg hb, Option.bind_some]
  split at h
  · rename_i hs
    simp only [Option.some.injEq] at h; subst h
    have hu : P.underlying t = some .string := by
      unfold isStr at hs; split at hs
      · assumption
      · cases hs
    simp only [kop] at hx
    split at hx
    · rename_i s kk n hv hi
      simp only [hv, hi]
      split at hx
      · rename_i h0
        rw [Option.map_eq_some_iff] at hx
        obtain ⟨c, hc, rfl⟩ := hx
        rw [reck_index hu h0 hc]; rfl
      · cases hx
    · cases hx
  · cases h
theorem k_ext (hg : E.gl = gl) {ty : TypeId} {x : Operand} {i : Nat} (ho : o.op = .extract x i) (h : ck? P hm gl (.extract x i) ty = some k) (hx : kop P E tm st i0 nx k = some r) : xop P E tm st i0 nx o = some r := by
  simp only [ck?, Option.map_eq_some_iff] at h
  obtain ⟨a, ha, rfl⟩ := h
  simp only [xop, ho, ca_ev hg ha, Option.bind_some]; exact hx
theorem cao_ev (hg : E.gl = gl) {x : Option Operand} {a : Option A} (h : cao gl x = some a) : x.map (ev E tm) = a.map fun a => some (av tm a) := by
  cases x with
  | none => simp only [cao, Option.some.injEq] at h; subst h; rfl
  | some x => simp only [cao, Option.map_eq_some_iff] at h; obtain ⟨b, hb, rfl⟩ := h; simp [ca_ev hg hb]
theorem pint_kint {a : Option A} {d : Int} : pint (a.map fun a => some (av tm a)) d = kint tm a d := by cases a <;> rfl
theorem reck_ssl {t : TypeId} {s : ByteArray} (hu : P.underlying t = some .string) {k k' : IntKind} {l h : Int} (h0 : 0 ≤ l) (h1 : l ≤ h) (h2 : h ≤ s.size) :
    reck P (Instr.slice t (.string s) (some (.int k l)) (some (.int k' h)) none) = some (.string (s.extract l.toNat h.toNat)) ∧
    (h = s.size → reck P (Instr.slice t (.string s) (some (.int k l)) none none) = some (.string (s.extract l.toNat h.toNat))) ∧
    (l = 0 → reck P (Instr.slice t (.string s) none (some (.int k' h)) none) = some (.string (s.extract l.toNat h.toNat))) := by
  have a1 : 0 ≤ h ∧ h ≤ (s.size : Int) := ⟨by omega, h2⟩
  have a2 : 0 ≤ l ∧ l ≤ ((h.toNat : Nat) : Int) := ⟨h0, by omega⟩
  have b1 : ∀ (c : BoundsCode) (y : Nat), h ≤ y → reck P (Instr.sliceBound (.int k' h) y c) = some h.toNat := fun c y hy => by
    unfold Instr.sliceBound
    rw [reck_bind (a := (k', h)) _ rfl]
    have : 0 ≤ h ∧ h ≤ (y : Int) := ⟨by omega, hy⟩
    simp only [this, if_true, and_self]; rfl
  have b2 : ∀ (c : BoundsCode) (y : Nat), l ≤ y → reck P (Instr.sliceBound (.int k l) y c) = some l.toNat := fun c y hy => by
    unfold Instr.sliceBound
    rw [reck_bind (a := (k, l)) _ rfl]
    have : 0 ≤ l ∧ l ≤ (y : Int) := ⟨by omega, hy⟩
    simp only [this, if_true, and_self]; rfl
  refine ⟨?_, ?_, ?_⟩
  · unfold Instr.slice
    rw [reck_bind _ (reck_underlying hu)]
    show reck P (Instr.sliceBounds false s.size s.size (some (.int k l)) (some (.int k' h)) none >>= _) = _
    rw [reck_bind (a := (l.toNat, h.toNat, s.size))]
    · rfl
    · unfold Instr.sliceBounds
      show reck P (Instr.sliceBound (.int k' h) s.size .sliceAlen >>= _) = _
      rw [reck_bind _ (b1 _ _ h2)]
      show reck P (Instr.sliceBound (.int k l) h.toNat .sliceB >>= _) = _
      rw [reck_bind _ (b2 _ _ (by omega))]; rfl
  · intro e
    unfold Instr.slice
    rw [reck_bind _ (reck_underlying hu)]
    show reck P (Instr.sliceBounds false s.size s.size (some (.int k l)) none none >>= _) = _
    rw [reck_bind (a := (l.toNat, s.size, s.size))]
    · subst e; rfl
    · unfold Instr.sliceBounds
      show reck P (Instr.sliceBound (.int k l) s.size .sliceB >>= _) = _
      rw [reck_bind _ (b2 _ _ (by omega))]; rfl
  · intro e
    unfold Instr.slice
    rw [reck_bind _ (reck_underlying hu)]
    show reck P (Instr.sliceBounds false s.size s.size none (some (.int k' h)) none >>= _) = _
    rw [reck_bind (a := (0, h.toNat, s.size))]
    · subst e; rfl
    · unfold Instr.sliceBounds
      show reck P (Instr.sliceBound (.int k' h) s.size .sliceAlen >>= _) = _
      rw [reck_bind _ (b1 _ _ h2)]; rfl
theorem k_slice (hg : E.gl = gl) {t ty : TypeId} {x : Operand} {lo hi mx : Option Operand} (ho : o.op = .slice t x lo hi mx) (h : ck? P hm gl (.slice t x lo hi mx) ty = some k) (hx : kop P E tm st i0 nx k = some r) : xop P E tm st i0 nx o = some r := by
  cases mx with
  | some m => cases h
  | none =>
    simp only [ck?, Option.bind_eq_some_iff] at h
    obtain ⟨a, ha, lo', hlo, hi', hhi, h⟩ := h
    simp only [xop, ho, ca_ev hg ha, Option.bind_some, cao_ev hg hlo, cao_ev hg hhi, Option.map_none]
    split at h
    · rename_i el hu
      split at h
      · rename_i hs
        simp only [Option.some.injEq] at h; subst h
        simp only [kop] at hx
        split at hx
        · rename_i e xs rr hv
          rw [Option.bind_eq_some_iff] at hx
          obtain ⟨l, hl, hx⟩ := hx
          rw [Option.bind_eq_some_iff] at hx
          obtain ⟨hh, hhh, hx⟩ := hx
          simp only [xslice, hv, hu]
          rw [pint_kint, hl]
          simp only [Option.bind_some]
          rw [pint_kint, hhh]
          simp only [Option.bind_some, pint]
          split at hx
          · rename_i h1
            rw [if_pos ⟨h1.1, h1.2.1, h1.2.2.1, by trivial, h1.2.2.2, hs, by simp⟩]; exact hx
          · cases hx
        · cases hx
      · cases h
    · rename_i hu
      simp only [Option.some.injEq] at h; subst h
      simp only [kop] at hx
      split at hx
      · rename_i s hv
        rw [Option.bind_eq_some_iff] at hx
        obtain ⟨l, hl, hx⟩ := hx
        rw [Option.bind_eq_some_iff] at hx
        obtain ⟨hh, hhh, hx⟩ := hx
        rw [Option.map_eq_some_iff] at hx
        obtain ⟨v, hv2, rfl⟩ := hx
        unfold ksub at hv2
        split at hv2
        · rename_i h1
          simp only [Option.some.injEq] at hv2; subst hv2
          simp only [xslice, hv, hu]
          cases lo' with
          | none =>
            simp only [kint, Option.some.injEq] at hl
            cases hi' with
            | none => simp only [kint, Option.some.injEq] at hhh; subst hl; subst hhh; simp
            | some b =>
              simp only [kint] at hhh
              cases hb : av tm b with
              | sc v => cases v with
                | int k' n =>
                  simp only [hb, vint, Option.some.injEq] at hhh; subst hhh
                  simp only [Option.map_none, Option.map_some, hb]
                  rw [(reck_ssl (k := .i64) (k' := k') hu h1.1 h1.2.1 h1.2.2).2.2 hl.symm]; rfl
                | _ => simp [hb, vint] at hhh
              | _ => simp [hb, vint] at hhh
          | some c =>
            simp only [kint] at hl
            cases hc : av tm c with
            | sc v => cases v with
              | int k n =>
                simp only [hc, vint, Option.some.injEq] at hl; subst hl
                cases hi' with
                | none =>
                  simp only [kint, Option.some.injEq] at hhh
                  simp only [Option.map_none, Option.map_some, hc]
                  rw [(reck_ssl (k := k) (k' := .i64) hu h1.1 h1.2.1 h1.2.2).2.1 hhh.symm]; rfl
                | some b =>
                  simp only [kint] at hhh
                  cases hb : av tm b with
                  | sc v => cases v with
                    | int k' n =>
                      simp only [hb, vint, Option.some.injEq] at hhh; subst hhh
                      simp only [Option.map_none, Option.map_some, hb, hc]
                      rw [(reck_ssl (k := k) (k' := k') hu h1.1 h1.2.1 h1.2.2).1]; rfl
                    | _ => simp [hb, vint] at hhh
                  | _ => simp [hb, vint] at hhh
              | _ => simp [hc, vint] at hl
            | _ => simp [hc, vint] at hl
        · cases hv2
      · cases hx
    · cases h
end
end Go.Proofs.YtojbkakdhfmjmaaDoor.Vm
