/- Proved here: text whose types are looked up beforehand answers what the machine's text answers; a loop without a count. Conditions: none. -/
import Derived.Test.YtojbkakdhfmjmaaDoorVm22
set_option linter.unusedVariables false
set_option linter.unusedSimpArgs false
namespace Go.Proofs.YtojbkakdhfmjmaaDoor.Vm
open Go.RowKit
section
variable {P : Program} {E : Env} {tm : Nat → V} {st : St} {i0 nx : Nat} {hm : FuncId → Bool} {gl : Nat → Option V} {o : Oper} {k : K} {r : R}
theorem ck_app {t t' : TypeId} {a b : A} (h : ckApp P t t' a b = some k) (hx : kop P E tm st i0 nx k = some r) : (if srcTy P t t' (av tm b) = true then xappend1 P st i0 t (av tm a) (av tm b) else none) = some r := by
  unfold ckApp at h
  split at h <;> rename_i el hel
  · split at h <;> rename_i i hi
    · split at h <;> rename_i z hz
      · split at h <;> rename_i h1
        · have hap : ∀ (e rr : Nat) (xs ys : List V) (q : R), av tm a = .list e xs rr → src P el (av tm b) = some ys → ((xs.length + ys.length) * i.bytes ≤ 140737488355328 ∧ xs.length + ys.length ≤ maxLen) →
              (if rr = 1 then (if xs.isEmpty then some (R.val (.list el ys i0) [(i0, some (.tok ys.length el))] []) else none)
                else if rr = 0 then none else match st rr with
                  | some (.tok n e') => if n = xs.length ∧ e' = e ∧ e = el then some (R.val (.list el (xs ++ ys) rr) [(rr, some (.tok (xs.length + ys.length) el))] [rr]) else none
                  | _ => none) = some q → xappend1 P st i0 t (av tm a) (av tm b) = some q := by
            intro e rr xs ys q ha hs hb hq
            simp only [xappend1, ha]
            by_cases hr : rr = 1
            · rw [if_pos hr] at hq ⊢
              simp only [xappend, hel, hs, hi, hz, Option.map_some, h1, hb, and_self, if_true, hr]
              exact hq
            · rw [if_neg hr] at hq ⊢
              by_cases hr0 : rr = 0
              · rw [if_pos hr0] at hq; cases hq
              · rw [if_neg hr0] at hq
                split at hq
                · rename_i n e' hst
                  simp only [hst]
                  split at hq
                  · rename_i h2
                    rw [if_pos ⟨h2.1, h2.2.1⟩]
                    simp only [xappend, hel, hs, hi, hz, Option.map_some, h1, hb, and_self, if_true, hr, hr0, if_false]
                    obtain ⟨h3, h4, h5⟩ := h2
                    subst h5
                    simpa using hq
                  · cases hq
                · cases hq
          split at h <;> rename_i h2
          · simp only [Option.some.injEq] at h; subst h
            simp only [kop] at hx
            split at hx
            · rename_i e xs rr hv
              rw [Option.bind_eq_some_iff] at hx
              obtain ⟨ys, hys, hx⟩ := hx
              unfold ksrc at hys
              split at hys
              · rename_i e' ys' r' hvb
                split at hys
                · rename_i h3
                  simp only [Option.some.injEq] at hys; subst hys
                  have h4 : srcTy P t t' (av tm b) = true := by rw [hvb]; exact h2
                  rw [if_pos h4]
                  split at hx
                  · rename_i hb
                    refine hap e rr xs _ r hv ?_ hb hx
                    rw [hvb]; simp only [src]; rw [if_pos h3.2]
                  · cases hx
                · cases hys
              · split at hys
                · cases hys
                · rename_i hc; exact absurd rfl hc
              · cases hys
            · cases hx
          · split at h <;> rename_i h3
            · simp only [Option.some.injEq] at h; subst h
              simp only [kop] at hx
              split at hx
              · rename_i e xs rr hv
                rw [Option.bind_eq_some_iff] at hx
                obtain ⟨ys, hys, hx⟩ := hx
                unfold ksrc at hys
                split at hys
                · split at hys
                  · rename_i hc; exact absurd hc.1 (by simp)
                  · cases hys
                · rename_i s hvb
                  simp only [Bool.false_eq_true, if_false, Option.some.injEq] at hys; subst hys
                  simp only [Bool.and_eq_true] at h3
                  have h4 : srcTy P t t' (av tm b) = true := by rw [hvb]; exact h3.1.1
                  rw [if_pos h4]
                  split at hx
                  · rename_i hb
                    refine hap e rr xs _ r hv ?_ hb hx
                    rw [hvb]; simp only [src]; rw [if_pos (by simp only [Bool.and_eq_true]; exact ⟨h3.1.2, h3.2⟩)]
                  · cases hx
                · cases hys
              · cases hx
            · cases h
        · cases h
      · cases h
    · cases h
  · cases h
theorem reck_len_str {t ty : TypeId} {s : ByteArray} (hu : P.underlying t = some .string) : reck P (Builtin.len_ #[t] ty #[.string s]) = some (.int .i64 s.size) := by
  unfold Builtin.len_
  show reck P (underlying t >>= _) = _
  rw [reck_bind _ (reck_underlying hu)]; rfl
theorem k_call (hg : E.gl = gl) (hh : E.hm = hm) {c : Call} {ty : TypeId} (ho : o.op = .call c) (h : ck? P hm gl (.call c) ty = some k) (hx : kop P E tm st i0 nx k = some r) : xop P E tm st i0 nx o = some r := by
  simp only [ck?, Option.bind_eq_some_iff] at h
  obtain ⟨as, ha, h⟩ := h
  simp only [xop, ho, caL_ev hg ha, Option.bind_some]
  split at h
  · rename_i hc
    simp only [hc]
    split at h
    · rename_i a b t t' hat
      simp only [List.map_cons, List.map_nil, xbuiltin, hat]
      exact ck_app h hx
    · cases h
  · rename_i hc
    simp only [hc]
    split at h
    · rename_i a t hat
      split at h
      · rename_i el hu
        simp only [Option.some.injEq] at h; subst h
        simp only [kop] at hx
        split at hx
        · rename_i e xs rr hv
          simp only [List.map_cons, List.map_nil, xbuiltin, hat, hv, hu]; exact hx
        · cases hx
      · rename_i hu
        simp only [Option.some.injEq] at h; subst h
        simp only [kop] at hx
        split at hx
        · rename_i s hv
          have h5 : c.argTypes = #[t] := by apply Array.toList_inj.mp; simpa using hat
          simp only [List.map_cons, List.map_nil, xbuiltin, hv, h5, reck_len_str hu, Option.map_some]; exact hx
        · cases hx
      · cases h
    · cases h
  · rename_i hc
    simp only [hc]
    split at h
    · rename_i a b
      simp only [Option.some.injEq] at h; subst h
      simp only [kop] at hx
      split at hx
      · rename_i k1 x k2 y hv1 hv2
        simp only [List.map_cons, List.map_nil, xbuiltin, hv1, hv2]
        simp only [List.mapM_cons, List.mapM_nil, V.val1?, Option.bind_eq_bind, Option.bind_some, Option.pure_def]
        have : reck P (Builtin.min_ c.argTypes o.type #[.int k1 x, .int k2 y]) = some (.int k1 (if y < x then y else x)) := rfl
        rw [show ([Value.int k1 x, Value.int k2 y].toArray) = #[.int k1 x, .int k2 y] from rfl, this]
        exact hx
      · cases hx
    · cases h
  · rename_i f hc
    simp only [hc, ev, Option.bind_some]
    split at h
    · rename_i hn
      simp only [Option.some.injEq] at h; subst h
      simp only [List.nil_append, List.append_nil, xcall, if_pos hn]
      exact hx
    · rename_i hn
      split at h
      · rename_i hm'
        simp only [Option.some.injEq] at h; subst h
        simp only [List.nil_append, List.append_nil, xcall, if_neg hn, hh, hm', if_true]
        exact hx
      · rename_i hm'
        simp only [Option.some.injEq] at h; subst h
        simp only [List.nil_append, List.append_nil, xcall, if_neg hn, hh, if_neg hm']
        exact hx
  · rename_i x hne hc
    simp only [hc]
    rw [Option.map_eq_some_iff] at h
    obtain ⟨a, ha2, rfl⟩ := h
    simp only [ca_ev hg ha2, Option.bind_some]
    exact hx
  · cases h
theorem kindOk_kok {t : TypeId} {v : Value} (h : kok (kdOf P t) v = true) : kindOk (P.underlying t) v = true := by
  unfold kok at h
  split at h
  · rename_i h0; obtain ⟨k, hu⟩ := kdOf_int h0; rw [hu]; rfl
  · rename_i h0; rw [kdOf_str h0]; rfl
  · rename_i h0; rw [kdOf_bool h0]; rfl
  · cases h
theorem k_rng (hg : E.gl = gl) {t ty : TypeId} {x : Operand} (ho : o.op = .range t x) (h : ck? P hm gl (.range t x) ty = some k) (hx : kop P E tm st i0 nx k = some r) : xop P E tm st i0 nx o = some r := by
  simp only [ck?] at h
  split at h
  · rename_i hs
    rw [Option.map_eq_some_iff] at h
    obtain ⟨a, ha, rfl⟩ := h
    have hu : P.underlying t = some .string := by
      unfold isStr at hs; split at hs
      · assumption
      · cases hs
    simp only [xop, ho, ca_ev hg ha, Option.bind_some, hu]
    simp only [kop] at hx
    split at hx
    · rename_i s hv; simp only [hv]; exact hx
    · cases hx
  · cases h
theorem k_nxt (hg : E.gl = gl) {ty : TypeId} {x : Operand} (ho : o.op = .next x true) (h : ck? P hm gl (.next x true) ty = some k) (hx : kop P E tm st i0 nx k = some r) : xop P E tm st i0 nx o = some r := by
  simp only [ck?, Option.map_eq_some_iff] at h
  obtain ⟨a, ha, rfl⟩ := h
  simp only [xop, ho, ca_ev hg ha, Option.bind_some]; exact hx
theorem k_mkf (hg : E.gl = gl) {ty : TypeId} {f : Fn} {x y : Array Operand} (ho : o.op = .makeFunc f x y) (h : ck? P hm gl (.makeFunc f x y) ty = some k) (hx : kop P E tm st i0 nx k = some r) : xop P E tm st i0 nx o = some r := by
  simp only [ck?, Option.bind_eq_some_iff, Option.map_eq_some_iff] at h
  obtain ⟨a, ha, b, hb, rfl⟩ := h
  simp only [xop, ho, caL_ev hg ha, caL_ev hg hb, Option.bind_some]; exact hx
theorem k_lku (hg : E.gl = gl) {t ty : TypeId} {x y : Operand} {ok : Bool} (ho : o.op = .lookup t x y ok) (h : ck? P hm gl (.lookup t x y ok) ty = some k) (hx : kop P E tm st i0 nx k = some r) : xop P E tm st i0 nx o = some r := by
  simp only [ck?, Option.bind_eq_some_iff] at h
  obtain ⟨a, ha, b, hb, h⟩ := h
  simp only [xop, ho, ca_ev hg ha, ca_ev hg hb, Option.bind_some]
  split at h
  · rename_i kt et hu
    rw [Option.bind_eq_some_iff] at h
    obtain ⟨z, hz, h⟩ := h
    split at h
    · rename_i h1
      simp only [Option.some.injEq] at h; subst h
      simp only [kop] at hx
      split at hx
      · rename_i id kv hv hk
        split at hx
        · rename_i hkk
          simp only [hv, hk, hu, kindOk_kok hkk, if_true, hz, Option.bind_some]
          split at hx
          · rename_i es hst
            simp only [hst]
            rw [Option.bind_eq_some_iff] at hx ⊢
            obtain ⟨f, hf, hx⟩ := hx
            refine ⟨f, hf, ?_⟩
            cases f with
            | some p => exact hx
            | none => simp only [h1, if_true]; exact hx
          · cases hx
        · cases hx
      · cases hx
    · cases h
  · cases h
theorem k_mup (hg : E.gl = gl) {t ty : TypeId} {x y z : Operand} (ho : o.op = .mapUpdate t x y z) (h : ck? P hm gl (.mapUpdate t x y z) ty = some k) (hx : kop P E tm st i0 nx k = some r) : xop P E tm st i0 nx o = some r := by
  simp only [ck?, Option.bind_eq_some_iff] at h
  obtain ⟨a, ha, b, hb, c, hc, h⟩ := h
  simp only [xop, ho, ca_ev hg ha, ca_ev hg hb, ca_ev hg hc, Option.bind_some]
  split at h
  · rename_i kt et hu
    simp only [Option.some.injEq] at h; subst h
    simp only [kop] at hx
    split at hx
    · rename_i id kv hv hk
      split at hx
      · rename_i hkk
        simp only [hv, hk, hu, kindOk_kok hkk, if_true]; exact hx
      · cases hx
    · cases hx
  · cases h
theorem k_ifc (hg : E.gl = gl) {t ty : TypeId} {x : Operand} (ho : o.op = .makeInterface t x) (h : ck? P hm gl (.makeInterface t x) ty = some k) (hx : kop P E tm st i0 nx k = some r) : xop P E tm st i0 nx o = some r := by
  simp only [ck?] at h
  split at h
  · cases h
  · cases h
  · rename_i h1 h2
    rw [Option.map_eq_some_iff] at h
    obtain ⟨a, ha, rfl⟩ := h
    simp only [xop, ho, ca_ev hg ha, Option.bind_some]
    exact hx
theorem k_pan (hg : E.gl = gl) {ty : TypeId} {x : Operand} (ho : o.op = .panic x) (h : ck? P hm gl (.panic x) ty = some k) (hx : kop P E tm st i0 nx k = some r) : xop P E tm st i0 nx o = some r := by
  simp only [ck?, Option.map_eq_some_iff] at h
  obtain ⟨a, ha, rfl⟩ := h
  simp only [xop, ho, ca_ev hg ha, Option.bind_some]
  simp only [kop] at hx
  split at hx
  · rename_i hv; simp only [hv]; exact hx
  · cases hx
theorem ck?_ok (hg : E.gl = gl) (hh : E.hm = hm) (h : ck? P hm gl o.op o.type = some k) (hx : kop P E tm st i0 nx k = some r) : xop P E tm st i0 nx o = some r := by
  cases ho : o.op <;> rw [ho] at h
  case move x => exact k_mov hg (.inl ho) h hx
  case assign x => exact k_mov hg (.inr ho) h hx
  case pick c a b => exact k_pick hg ho h hx
  case alloc e => exact k_alloc ho h hx
  case box e x => exact k_box hg ho h hx
  case build t ps => exact k_build hg ho h hx
  case buildSlice t n ps => exact k_mk hg ho h hx
  case load t x => exact k_ld hg ho h hx
  case store t x y => exact k_sto hg ho h hx
  case nilCheck x => exact k_nilc hg ho h hx
  case binOp b t x y yt => exact k_bin hg ho h hx
  case unOp b t x => exact k_un hg ho h hx
  case convert s d x => exact k_conv hg ho h hx
  case slice t x lo hi mx => exact k_slice hg ho h hx
  case fieldAddr t x f => exact k_fa hg ho h hx
  case field t x f => exact k_fld hg ho h hx
  case indexAddr t x i => exact k_ixa hg ho h hx
  case index t x i => exact k_ixs hg ho h hx
  case extract x i => exact k_ext hg ho h hx
  case call c => exact k_call hg hh ho h hx
  case range t x => exact k_rng hg ho h hx
  case next x b =>
    cases b with
    | true => exact k_nxt hg ho h hx
    | false => simp [ck?] at h
  case makeFunc f x y => exact k_mkf hg ho h hx
  case makeMap t y =>
    cases y with
    | none => simp only [ck?, Option.some.injEq] at h; subst h; simp only [xop, ho]; exact hx
    | some y => simp [ck?] at h
  case lookup t x y ok => exact k_lku hg ho h hx
  case mapUpdate t x y z => exact k_mup hg ho h hx
  case makeInterface t x => exact k_ifc hg ho h hx
  case panic x => exact k_pan hg ho h hx
  all_goals (simp [ck?] at h)
theorem xop_oper (d : Option Tmp) (pos : String) (af : Array Edge) (g : Option (Nat × Bool)) {op : Op} {ty : TypeId} : xop P E tm st i0 nx ⟨d, op, ty, pos, af, g⟩ = xop P E tm st i0 nx ⟨none, op, ty, "", #[], none⟩ := by
  cases op <;> rfl
theorem ck_ok (hg : E.gl = gl) (hh : E.hm = hm) (hx : kop P E tm st i0 nx (ck P hm gl o.op o.type) = some r) : xop P E tm st i0 nx o = some r := by
  unfold ck at hx
  cases h : ck? P hm gl o.op o.type with
  | some k => rw [h] at hx; exact ck?_ok hg hh h hx
  | none => rw [h] at hx; rw [show o = ⟨o.dst, o.op, o.type, o.pos, o.after, o.guard⟩ from rfl, xop_oper]; exact hx
end
end Go.Proofs.YtojbkakdhfmjmaaDoor.Vm
