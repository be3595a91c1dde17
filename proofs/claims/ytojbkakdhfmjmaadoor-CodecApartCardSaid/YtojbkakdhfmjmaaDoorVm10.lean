/- Proved here: what calls of built-in functions do in the machine over pure data, they do in the model. Conditions: none. -/
import Derived.Test.YtojbkakdhfmjmaaDoorVm9
set_option linter.unusedVariables false
set_option linter.unusedSimpArgs false
namespace Go.Proofs.YtojbkakdhfmjmaaDoor.Vm
open Go.RowKit
section
variable {P : Program} {G G' : Gh} {st : St} {w w' : World} {a : Act} {tm : Nat → V} {N i0 nx' : Nat} {o : Oper} {K : Act → World → Prop} {Q : Exit → Act → World → Prop} {E : Env}
theorem arr_of_list {α : Type} {x : Array α} {l : List α} (h : x.toList = l) : x = l.toArray := by subst h; simp
theorem args_arr {c : Call} {vs : List Value} (h : c.args.toList.map a.eval = vs) : c.args.map a.eval = vs.toArray := arr_of_list (by simpa using h)
/-- What an append takes its new cells from. -/
theorem source_ok (hinv : Inv P G st w) {t t' el : TypeId} {y : V} {u : Value} {ys : List V} {i : TypeInfo} (hi : P.info? el = some i) (hel : uel P t = some el) (hr : Rep P G y u)
    (hty : srcTy P t t' y = true)
    (hys : src P el y = some ys) :
    ∃ d news, P.underlying t' = some d ∧ ((∃ e', d = .slice e') ∨ d = .string) ∧ (∀ w', (Builtin.lenOf u).run P w' = .ok ys.length w') ∧ (∀ w' : World, w'.heap = w.heap → (Builtin.firstCells i.size ys.length u).run P w' = .ok news.toArray w') ∧
      All2 (RepP P G.pr) (ys.flatMap V.cells) news ∧ (∀ x ∈ ys, x.cells.length = i.size) ∧ ones (ys.flatMap V.cells) = true := by
  have hsz : usz P el = some i.size := by simp [usz, hi]
  cases y with
  | list e' ys' r' =>
    simp only [src, srcTy] at hty hys
    split at hys
    · rename_i hc
      obtain rfl := Option.some.inj hys
      simp only [beq_iff_eq] at hty
      subst hty
      obtain ⟨A, c, hv, hp, _⟩ := hr.list_inv
      obtain ⟨A', c', vs, hv', h2, h3, h4, h5, h6, h7⟩ := list_parts hp
      obtain ⟨rfl, rfl⟩ : A = A' ∧ c = c' := by simpa using hv'
      subst hv
      have hall : ∀ x ∈ ys', x.cells.length = i.size := by
        rcases hc with rfl | hc
        · exact h4 _ hsz
        · have : ys' = [] := by simpa using hc
          subst this; simp
      have hl : vs.length = ys'.length * i.size := by rw [← h7.length, flat_len hall]
      refine ⟨_, vs, uel_u hel, .inl ⟨_, rfl⟩, fun w' => by simp [Builtin.lenOf], fun w' hw => ?_, h7, hall, h5⟩
      cases A with
      | none =>
        have : vs = [] := by
          rcases vs with _ | ⟨v, vs⟩
          · rfl
          · obtain ⟨ad, h, _⟩ := h6 (by simp); cases h
        subst this
        simp [Builtin.firstCells]
      | some ad =>
        refine run_firstCells_some w' i.size _ ad _ _ vs hl fun j u hu => ?_
        obtain ⟨ad', h, hlies⟩ := h6 (by intro e; rw [e] at hu; simp at hu)
        obtain rfl := Option.some.inj h
        have := cell_lies hinv hlies hu
        rw [← this]
        simp only [World.cell?, hw]
    · cases hys
  | sc v =>
    cases v with
    | string s =>
      simp only [src, srcTy] at hty hys
      split at hys
      · rename_i hc
        simp only [Bool.and_eq_true, beq_iff_eq] at hc
        obtain rfl := Option.some.inj hys
        have hv := hr.sc_inv
        subst hv
        have h1 : i.size = 1 := by have := hc.2; rw [hsz] at this; simpa using this
        refine ⟨_, s.data.toList.map fun b => Value.int .u8 b.toNat, isStr_u hty, .inr rfl, fun w' => by simp [Builtin.lenOf, bytesV_length], fun w' _ => ?_, ?_, ?_, ?_⟩
        · have hx : (Array.map (fun b : UInt8 => Value.int IntKind.u8 (b.toNat : Int)) s.data).extract 0 s.size = Array.map (fun b : UInt8 => Value.int IntKind.u8 (b.toNat : Int)) s.data := by
            have hs : s.size = (Array.map (fun b : UInt8 => Value.int IntKind.u8 (b.toNat : Int)) s.data).size := by rw [Array.size_map]; rfl
            rw [hs, Array.extract_size]
          have e : (List.map (fun b : UInt8 => Value.int IntKind.u8 (b.toNat : Int)) s.data.toList).toArray = Array.map (fun b : UInt8 => Value.int IntKind.u8 (b.toNat : Int)) s.data := by apply Array.ext'; simp
          rw [e]
          simp [Builtin.firstCells, bytesV_length, hx]
        · rw [flat_bytes]; exact bytes_all2 _
        · intro x hx
          simp only [bytesV, List.mem_map] at hx
          obtain ⟨b, _, rfl⟩ := hx
          rw [h1]; rfl
        · rw [flat_bytes]
          refine List.all_eq_true.2 fun x hx => ?_
          simp only [bytesV, List.mem_map] at hx
          obtain ⟨b, _, rfl⟩ := hx
          rfl
      · cases hys
    | _ => simp [src] at hys
  | _ => simp [src] at hys
theorem rest_ok (hinv : Inv P G st w) {e s r : Nat} {xs : List V} {v : Value} (h8 : 8 ≤ r) (hr : Rep P G (.list e xs r) v) (hst : st r = some (.tok xs.length e)) (hs : usz P e = some s) :
    ∃ vs, G.tl r = some v ∧ w.ownsRow G.base e s v xs.length vs ∧ All2 (RepP P G.pr) (xs.flatMap V.cells) vs ∧ (∀ x ∈ xs, x.cells.length = s) ∧ ones (xs.flatMap V.cells) = true ∧
      ∀ b, v.ownBlock = some b → ∀ o, o < xs.length * s → G.pr b o = vs[o]? := by
  obtain ⟨A, c, rfl, hp, _, ho⟩ := hr.list_inv
  obtain ⟨v0, s', vs0, h1, h2, h3⟩ := hinv.objs r _ hst
  rw [hs] at h2
  obtain rfl := Option.some.inj h2
  rcases ho with rfl | rfl | ⟨_, v1, h4, h5⟩
  · omega
  · omega
  · rw [h1] at h4
    obtain rfl := Option.some.inj h4
    have hv := h5 (vlen_own h3).symm
    subst hv
    obtain ⟨A', c', vs, hv', k2, k3, k4, k5, k6, k7⟩ := list_parts hp
    obtain ⟨rfl, rfl⟩ : A = A' ∧ c = c' := by simpa using hv'
    have hl : vs.length = xs.length * s := by rw [← k7.length, flat_len (k4 s hs)]
    have hvs : vs = vs0 := by
      apply List.ext_getElem?
      intro j
      rcases Nat.lt_or_ge j (xs.length * s) with hj | hj
      · have e1 : vs[j]? = some vs[j] := List.getElem?_eq_getElem (by omega)
        have e2 : vs0[j]? = some (vs0[j]'(by rw [h3.1]; exact hj)) := List.getElem?_eq_getElem _
        obtain ⟨ad, rfl, hlies⟩ := k6 (by rintro rfl; simp at hl; omega)
        rcases h3.2 with ⟨h6, _⟩ | ⟨g, cap, cur, h6, _⟩
        · cases h6
        · obtain ⟨rfl, rfl⟩ : ad = ⟨g, 0, none⟩ ∧ c = cap := by simpa using h6
          have c1 := cell_lies hinv hlies e1
          have c2 := own_cells h3 (g := g) rfl e2
          rw [blk_add, Nat.zero_add, c2] at c1
          rw [e1, e2]
          exact c1.symm
      · rw [List.getElem?_eq_none (by omega), List.getElem?_eq_none (by rw [h3.1]; exact hj)]
    subst hvs
    refine ⟨vs, h1, h3, k7, k4 s hs, k5, fun b hb o ho => ?_⟩
    obtain ⟨ad, rfl, hlies⟩ := k6 (by rintro rfl; simp at hl; omega)
    have e1 : vs[o]? = some vs[o] := List.getElem?_eq_getElem (by omega)
    rcases h3.2 with ⟨h6, _⟩ | ⟨g, cap, cur, h6, _⟩
    · cases h6
    · obtain ⟨rfl, rfl⟩ : ad = ⟨g, 0, none⟩ ∧ c = cap := by simpa using h6
      obtain rfl : g = b := by simpa [Value.ownBlock] using hb
      have := (hlies o _ e1).2
      rw [blk_add] at this
      simp only [Nat.zero_add] at this
      rw [this, e1]
theorem run_builtin {c : Call} {f : Sem Value} {b : Builtin} (ho : o.op = .call c) (hc : c.callee = .builtin b) (hf : ∀ k, builtin b c.argTypes o.type k (c.args.map a.eval) = (do pure (.value (← f)))) {v : Value} (hr : f.run P w = .ok v w') : (execOp a.eval o).run P w = .ok (.value v) w' := by
  simp only [execOp, ho, resolve, hc, pure_bind, invoke, hf]
  rw [Sem.run_bind, hr]
  rfl
theorem ones_flat_append {xs ys : List V} (h : ones (xs.flatMap V.cells) = true) (k : ones (ys.flatMap V.cells) = true) : ones ((xs ++ ys).flatMap V.cells) = true := by rw [List.flatMap_append, ones_append, h, k]; rfl
theorem op_append (hgl : GlOK P E.gl G.pr) (hinv : Inv P G st w) (ht : TmR P G N tm a) (hfr : Fresh G (R8 i0)) (h8 : 8 ≤ i0) {c : Call} {t t' : TypeId} {x y : V} {r : R} (ho : o.op = .call c) (hc : c.callee = .builtin .append) (hts : c.argTypes.toList = [t, t'])
    {us : List Value} (hargs : All2 (Rep P G) [x, y] us) (hus : c.args.toList.map a.eval = us) (hty : srcTy P t t' y = true) (hx : xappend1 P st i0 t x y = some r) (hK : Good P G st i0 nx' a o K Q r) : o.wp P a w K Q := by
  cases hargs with
  | cons hrx hargs =>
  cases hargs with
  | cons hry hargs =>
  cases hargs
  rename_i ux uy
  have hA := args_arr hus
  have hT := arr_of_list hts
  unfold xappend1 at hx
  split at hx
  · rename_i e xs rr
    -- what holds of the row, whichever right it is
    have main : ∀ (i n : Nat) (vs : List Value), 8 ≤ i → R8 i0 i ∨ G.tl i = some ux → ∀ el, uel P t = some el → (∀ s, usz P el = some s → w.ownsRow G.base el s ux n vs ∧ xs.length = n ∧ All2 (RepP P G.pr) (xs.flatMap V.cells) vs ∧ (∀ x ∈ xs, x.cells.length = s) ∧ ones (xs.flatMap V.cells) = true) →
        ((st i = none ∧ G.tl i = none ∧ ux = .slice none 0 0) ∨ (st i = some (.tok n el) ∧ G.tl i = some ux)) → ∀ ys info zc, src P el y = some ys →
        P.info? el = some info → info.zero = some zc → zc.cells.size = info.size → (n + ys.length) * info.bytes ≤ 140737488355328 → n + ys.length ≤ maxLen →
        (∀ G' w' v', G.le G' → Same G G' (R8 i0) → Inv P G' (upd st i (some (.tok (n + ys.length) el))) w' → Rep P G' (.list el (xs ++ ys) i) v' → K (a.put o.dst v') w') → o.wp P a w K Q := by
      intro i n vs h8i hir el hel hown hi ys info zc hys hinfo hz hzs hb hm hk
      have hsz : usz P el = some info.size := by simp [usz, hinfo]
      obtain ⟨o1, o2, o3, o4, o5⟩ := hown _ hsz
      obtain ⟨d, news, hd, hdd, s1, s2, s3, s4, s5⟩ := source_ok hinv hinfo hel hry hty hys
      have hnl : news.length = ys.length * info.size := by rw [← s3.length, flat_len s4]
      obtain ⟨v', w', hrun, hown', hat, hm0⟩ := run_app w G.base t t' o.type el info zc (uel_u hel) hd hdd hinfo hz hzs ux n vs o1 uy ys.length news s1 s2 hnl (fun u hu => by
        obtain ⟨j, hj⟩ := List.getElem?_of_mem hu
        obtain ⟨q, hq, hqr⟩ := s3.get' hj
        exact hqr.one (ones_get s5 hq)) hm hb hinv.size
      obtain ⟨hg, hinv'⟩ := hinv.row i hsz o1 hi hown' hat (by omega) (fun _ he => hm0 (by omega))
      refine wp_val (v := v') (w' := w') ?_ (hk _ w' v' hg ?_ hinv' ?_)
      · refine run_builtin (f := Builtin.append_ c.argTypes o.type (c.args.map a.eval)) ho hc (fun k => rfl) ?_
        rw [hT, hA]; exact hrun
      · intro k hk1
        refine ⟨id, fun h => ?_⟩
        have : k ≠ i := fun e => by
          subst e
          rcases hir with h1 | h1
          · exact hk1 h1
          · rw [h1] at h; cases h
        simpa [upd, this] using h
      · refine rep_tok h8i hsz hown' (by simp [o2]) (by simp [upd]) (fun b hbb q hq => ?_) (fun z hz => ?_) (ones_flat_append o5 s5) ?_
        · show (if _ then _ else _) = _
          rw [if_pos ⟨hbb.symm, hq⟩]
        · rcases List.mem_append.1 hz with hz | hz
          · exact o4 z hz
          · exact s4 z hz
        · rw [List.flatMap_append]
          exact (o3.append s3).mono fun _ _ => RepP.mono hg.pr
    split at hx
    · rename_i hr1
      subst hr1
      unfold xappend at hx
      split at hx
      · rename_i e1 xs1 r1 el hx1 hel
        obtain ⟨rfl, rfl, rfl⟩ : e = e1 ∧ xs = xs1 ∧ 1 = r1 := by simpa using hx1
        split at hx
        · rename_i ys s1 by_ zs hys hinf
          rw [Option.map_eq_some_iff] at hinf
          obtain ⟨info, hinfo, hinf⟩ := hinf
          simp only [Prod.mk.injEq, Option.map_eq_some_iff] at hinf
          obtain ⟨rfl, rfl, zc, hz, rfl⟩ := hinf
          split at hx
          · rename_i hc
            obtain ⟨c1, c2, c3, c4⟩ := hc
            try rw [if_pos rfl] at hx
            split at hx
            · rename_i hemp
              obtain rfl := Option.some.inj hx
              have hxs : xs = [] := by simpa using hemp
              subst hxs
              have hf := hfr i0 (r8_self i0)
              obtain ⟨A, cc, hv, _, hn, _⟩ := hrx.list_inv
              obtain ⟨_, rfl, rfl⟩ := hn rfl
              subst hv
              refine main i0 0 [] h8 (.inl (r8_self i0)) el hel (fun s _ => ⟨World.ownsRow_nil w G.base el s, rfl, .nil, by simp, by simp [ones]⟩) (.inl ⟨bx_none_st hinv hf.1 hf.2, hf.2, rfl⟩) ys info zc hys hinfo hz c1 (by simpa using c3) (by simpa using c4) fun G' w' v' g1 g2 g3 g4 => hK G' w' v' g1 g2 ?_ g4
              simpa [upds] using g3
            · cases hx
          · cases hx
        · cases hx
      · cases hx
    · rename_i hr1
      split at hx
      · rename_i n e' hst
        split at hx
        · rename_i hc0
          obtain ⟨rfl, rfl⟩ := hc0
          unfold xappend at hx
          split at hx
          · rename_i e1 xs1 r1 el hx1 hel
            obtain ⟨rfl, rfl, rfl⟩ : e' = e1 ∧ xs = xs1 ∧ rr = r1 := by simpa using hx1
            split at hx
            · rename_i ys s1 by_ zs hys hinf
              rw [Option.map_eq_some_iff] at hinf
              obtain ⟨info, hinfo, hinf⟩ := hinf
              simp only [Prod.mk.injEq, Option.map_eq_some_iff] at hinf
              obtain ⟨rfl, rfl, zc, hz, rfl⟩ := hinf
              split at hx
              · rename_i hc
                obtain ⟨c1, c2, c3, c4⟩ := hc
                try rw [if_neg hr1] at hx
                split at hx
                · cases hx
                · rename_i hr0
                  split at hx
                  · rename_i hel2
                    subst hel2
                    obtain rfl := Option.some.inj hx
                    have h8r : 8 ≤ rr := by
                      obtain ⟨_, _, _, _, _, ho⟩ := hrx.list_inv
                      rcases ho with h | h | h
                      · exact absurd h hr0
                      · exact absurd h hr1
                      · exact h.1
                    have hsz : usz P e' = some info.size := by simp [usz, hinfo]
                    obtain ⟨vs, k1, k2, k3, k4, k5, _⟩ := rest_ok hinv h8r hrx hst hsz
                    refine main rr xs.length vs h8r (.inr k1) e' hel (fun s hs => ?_) (.inr ⟨hst, k1⟩) ys info zc hys hinfo hz c1 c3 c4 fun G' w' v' g1 g2 g3 g4 => hK G' w' v' g1 g2 ?_ g4
                    · rw [hsz] at hs; obtain rfl := Option.some.inj hs
                      exact ⟨k2, rfl, k3, k4, k5⟩
                    · simpa [upds] using g3
                  · cases hx
              · cases hx
            · cases hx
          · cases hx
        · cases hx
      · cases hx
  · cases hx
end
end Go.Proofs.YtojbkakdhfmjmaaDoor.Vm
