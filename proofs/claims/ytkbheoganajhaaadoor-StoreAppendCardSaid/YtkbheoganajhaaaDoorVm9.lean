/- Proved here: what operations on rows that may turn do on the machine over pure data, the model's operations do. Conditions: none. -/
import Derived.Test.YtkbheoganajhaaaDoorVm8
set_option linter.unusedVariables false
set_option linter.unusedSimpArgs false
namespace Go.Proofs.YtkbheoganajhaaaDoor.Vm
open Go.RowKit
section
variable {P : Program} {G G' : Gh} {st : St} {w w' : World} {a : Act} {tm : Nat → V} {N i0 nx' : Nat} {o : Oper} {K : Act → World → Prop} {Q : Exit → Act → World → Prop} {E : Env}
theorem ca_ev0 {x : Operand} {y : A} (h : ca E.gl x = some y) : ev E tm x = some (av tm y) := by
  cases x <;> simp only [ca] at h
  · simp only [Option.some.injEq] at h; subst h; rfl
  · split at h
    · rename_i h1
      simp only [Option.some.injEq] at h; subst h
      simp only [ev, h1, if_true, av]
    · cases h
  · rw [Option.map_eq_some_iff] at h
    obtain ⟨v, hv, rfl⟩ := h
    simp only [ev, hv, av]
  · simp only [Option.some.injEq] at h; subst h; rfl
theorem ca_rep (hgl : GlOK P E.gl G.pr) (ht : TmR P G N tm a) {x : Operand} {y : A} (h : ca E.gl x = some y) : Rep P G (av tm y) (a.eval x) := ev_sound hgl ht (ca_ev0 h)
theorem cas_rep (hgl : GlOK P E.gl G.pr) (ht : TmR P G N tm a) : ∀ {xs : List Operand} {ys : List A}, xs.mapM (ca E.gl) = some ys → All2 (Rep P G) (ys.map (av tm)) (xs.map a.eval) := fun {xs ys} h => by
  have h1 := mapM_some h
  clear h
  induction h1 with
  | nil => exact .nil
  | cons h2 _ ih => exact .cons (ca_rep hgl ht h2) ih
/-- The cells of an object that a slice may lie over lie in its block. -/
theorem ob_cells (hinv : Inv P G st w) {id : Nat} {cs : List V} (h : obCells (st id) = some cs) : ∃ b vs, G.bx id = some b ∧ ones cs = true ∧ All2 (Rep P G) cs vs ∧ ∀ j u, vs[j]? = some u → w.cell? ⟨b, j, none⟩ = some u := by
  cases hs : st id with
  | none => rw [hs] at h; simp [obCells] at h
  | some ob =>
    rw [hs] at h
    have ho := hinv.objs id ob hs
    cases ob with
    | cells c =>
      simp only [obCells, Option.some.injEq] at h; subst h
      obtain ⟨b, arr, T, h1, h2, h3, h4, h5⟩ := ho
      exact ⟨b, _, h1, h4, h5, fun j u hu => by simpa [World.cell?, h3] using hu⟩
    | row e s n c =>
      simp only [obCells, Option.some.injEq] at h; subst h
      obtain ⟨v, vs, b, h1, h2, h3, h4, h5, h6, h7, h8⟩ := ho
      exact ⟨b, vs, h3, h7, h8, fun j u hu => own_cells h6 h2 hu⟩
    | frz ds =>
      simp only [obCells, Option.some.injEq] at h; subst h
      obtain ⟨b, vs, h1, h2, h3, h4⟩ := ho
      exact ⟨b, vs, h1, h2, h3.mono fun _ _ => .pure, fun j u hu => hinv.prot _ _ _ (h4 j u hu)⟩
    | _ => simp [obCells] at h
theorem Rep.sl_inv {e : TypeId} {g : Bool} {s id off n : Nat} {v : Value} (h : Rep P G (.sl e g s id off n) v) : ∃ b N C A c, v = .slice A n c ∧ G.bx id = some b ∧ G.tl id = some (.slice (some ⟨b, 0, none⟩) N C) ∧ usz P e = some s ∧ uagg P e = some g ∧ 0 < s ∧ off + n ≤ N ∧ n ≤ c ∧
    (0 < n → A = some ⟨b, off * s, none⟩) ∧ (off = 0 → n = N → A = some ⟨b, 0, none⟩ ∧ c = C) ∧ (g = false → s = 1) := by
  cases h with
  | pure h => cases h
  | sl h1 h2 h3 h4 h5 h6 h7 h8 h9 h10 => exact ⟨_, _, _, _, _, rfl, h1, h2, h3, h4, h5, h6, h7, h8, h9, h10⟩
theorem Rep.emp_inv {e : TypeId} {v : Value} (h : Rep P G (.emp e) v) : ∃ A, v = .slice A 0 0 := by
  cases h with
  | pure h => cases h
  | emp => exact ⟨_, rfl⟩
/-- What a slice over an object reads. -/
theorem sl_read (hinv : Inv P G st w) {e : TypeId} {g : Bool} {s id off n : Nat} {v : Value} (hr : Rep P G (.sl e g s id off n) v) {cs : List V} (hc : obCells (st id) = some cs) (hl : (off + n) * s ≤ cs.length) :
    ∃ A c vs, v = .slice A n c ∧ vs.length = n * s ∧ All2 (Rep P G) ((cs.drop (off * s)).take (n * s)) vs ∧ ones ((cs.drop (off * s)).take (n * s)) = true ∧
      (0 < n → ∃ ad, A = some ad ∧ ∀ j u, vs[j]? = some u → w.cell? (ad.add j) = some u) := by
  obtain ⟨b, N, C, A, c, rfl, h1, h2, h3, h4, h5, h6, h7, h8, h9, h10⟩ := hr.sl_inv
  obtain ⟨b', vs, k1, k2, k3, k4⟩ := ob_cells hinv hc
  rw [h1] at k1
  obtain rfl := Option.some.inj k1
  have hvl := k3.length
  have hmul : (off + n) * s = off * s + n * s := Nat.add_mul _ _ _
  refine ⟨A, c, (vs.drop (off * s)).take (n * s), rfl, by rw [List.length_take, List.length_drop]; omega, (k3.drop _).take _, ones_take (ones_drop k2 _) _, fun hn => ⟨_, h8 hn, fun j u hu => ?_⟩⟩
  rw [List.getElem?_take] at hu
  split at hu
  · rw [List.getElem?_drop] at hu
    rw [blk_add]; exact k4 _ u hu
  · cases hu
/-- What new cells are taken from. -/
theorem srcX_ok (hinv : Inv P G st w) {t t' el : TypeId} {l : Bool} {y : V} {u : Value} {i : TypeInfo} {p : List V × Nat × List Nat} (hi : P.info? el = some i) (hel : uel P t = some el) (hr : Rep P G y u)
    (hty : (l = true ∧ t' = t) ∨ (l = false ∧ isStr P t' = true ∧ isU8 P el = true ∧ i.size = 1)) (hx : srcX st el l y = some p) :
    ∃ d news, P.underlying t' = some d ∧ ((∃ e', d = .slice e') ∨ d = .string) ∧ (∀ w', (Builtin.lenOf u).run P w' = .ok p.2.1 w') ∧
      (∀ k, k ≤ p.2.1 → ∀ w' : World, w'.heap = w.heap → (Builtin.firstCells i.size k u).run P w' = .ok (news.take (k * i.size)).toArray w') ∧ All2 (Rep P G) p.1 news ∧ p.1.length = p.2.1 * i.size ∧ ones p.1 = true := by
  have hsz : usz P el = some i.size := by simp [usz, hi]
  cases y with
  | list e' ys r' =>
    simp only [srcX] at hx
    split at hx
    · rename_i hc
      obtain rfl := Option.some.inj hx
      obtain ⟨hc0, hc⟩ := hc
      subst hc0
      obtain rfl : t' = t := by simpa using hty
      obtain ⟨A, c, hv, hp, _⟩ := hr.list_inv
      obtain ⟨A', c', vs, hv', h2, h3, h4, h5, h6, h7⟩ := list_parts hp
      obtain ⟨rfl, rfl⟩ : A = A' ∧ c = c' := by simpa using hv'
      subst hv
      have hall : ∀ x ∈ ys, x.cells.length = i.size := by
        rcases hc with rfl | hc
        · exact h4 _ hsz
        · have : ys = [] := by simpa using hc
          subst this; simp
      have hl : vs.length = ys.length * i.size := by rw [← h7.length, flat_len hall]
      refine ⟨_, vs, uel_u hel, .inl ⟨_, rfl⟩, fun w' => by simp [Builtin.lenOf], fun k hk w' hw => ?_, h7.mono fun _ _ => .pure, flat_len hall, h5⟩
      simp only at hk
      cases A with
      | none =>
        have : vs = [] := by
          rcases vs with _ | ⟨v, vs⟩
          · rfl
          · obtain ⟨ad, h, _⟩ := h6 (by simp); cases h
        subst this
        simp [Builtin.firstCells]
      | some ad =>
        have hmul : k * i.size ≤ ys.length * i.size := Nat.mul_le_mul_right _ hk
        refine run_firstCells_some w' i.size _ ad _ _ (vs.take (k * i.size)) (by rw [List.length_take]; omega) fun j u hu => ?_
        rw [List.getElem?_take] at hu
        split at hu
        · obtain ⟨ad', h, hlies⟩ := h6 (by intro e; rw [e] at hu; simp at hu)
          obtain rfl := Option.some.inj h
          have := cell_lies hinv hlies hu
          rw [← this]
          simp only [World.cell?, hw]
        · cases hu
    · cases hx
  | sl e' g' s' id off n =>
    simp only [srcX] at hx
    split at hx
    · rename_i hc
      obtain ⟨rfl, rfl⟩ := hc
      obtain rfl : t' = t := by simpa using hty
      rw [Option.bind_eq_some_iff] at hx
      obtain ⟨cs, hcs, hx⟩ := hx
      split at hx
      · rename_i hl
        obtain rfl := Option.some.inj hx
        obtain ⟨_, _, _, _, _, _, _, _, hs', _⟩ := hr.sl_inv
        rw [hsz] at hs'
        obtain rfl := Option.some.inj hs'
        obtain ⟨A, c, vs, rfl, k1, k2, k3, k4⟩ := sl_read hinv hr hcs hl
        refine ⟨_, vs, uel_u hel, .inl ⟨_, rfl⟩, fun w' => by simp [Builtin.lenOf], fun k hk w' hw => ?_, k2, ?_, k3⟩
        · simp only at hk
          have hmul : k * i.size ≤ n * i.size := Nat.mul_le_mul_right _ hk
          by_cases hn : 0 < n
          · obtain ⟨ad, rfl, hl⟩ := k4 hn
            refine run_firstCells_some w' i.size _ ad _ _ (vs.take (k * i.size)) (by rw [List.length_take]; omega) fun j u hu => ?_
            rw [List.getElem?_take] at hu
            split at hu
            · rw [← hl j u hu]; simp only [World.cell?, hw]
            · cases hu
          · have : k = 0 := by omega
            subst this
            cases A with
            | none => simp [Builtin.firstCells]
            | some ad => exact run_firstCells_some w' i.size 0 ad _ _ (vs.take (0 * i.size)) (by simp) fun j u hu => by simp at hu
        · rw [k2.length, k1]
      · cases hx
    · cases hx
  | emp e' =>
    simp only [srcX] at hx
    split at hx
    · rename_i hc
      obtain ⟨rfl, rfl⟩ := hc
      obtain rfl : t' = t := by simpa using hty
      obtain rfl := Option.some.inj hx
      obtain ⟨A, rfl⟩ := hr.emp_inv
      refine ⟨_, [], uel_u hel, .inl ⟨_, rfl⟩, fun w' => by simp [Builtin.lenOf], fun k hk w' hw => ?_, .nil, by simp, rfl⟩
      simp only [Nat.le_zero] at hk
      subst hk
      cases A with
      | none => simp [Builtin.firstCells]
      | some ad => simpa using run_firstCells_some (P := P) w' i.size 0 ad 0 0 [] (by simp) fun j u hu => by simp at hu
    · cases hx
  | sc v =>
    cases v with
    | string s =>
      simp only [srcX] at hx
      split at hx
      · cases hx
      · rename_i hl
        obtain rfl := Option.some.inj hx
        have hl : l = false := by simpa using hl
        subst hl
        obtain ⟨h1, h2, h3⟩ : isStr P t' = true ∧ isU8 P el = true ∧ i.size = 1 := by simpa using hty
        have hv := hr.sc_inv
        subst hv
        refine ⟨_, s.data.toList.map fun b => Value.int .u8 b.toNat, isStr_u h1, .inr rfl, fun w' => by simp [Builtin.lenOf], fun k hk w' _ => ?_, (bytes_all2 (p := G.pr) _).mono fun _ _ => .pure, by simp [bytesV_length, h3], ?_⟩
        · simp only at hk
          have e : ((List.map (fun b : UInt8 => Value.int IntKind.u8 (b.toNat : Int)) s.data.toList).take (k * i.size)).toArray = Array.map (fun b : UInt8 => Value.int IntKind.u8 (b.toNat : Int)) (s.extract 0 k).data := by
            apply Array.ext'
            rw [h3]
            have h4 : (s.extract 0 k).data = s.data.extract 0 k := ByteArray.data_extract
            simp [h4, List.map_take]
          rw [e]
          simp [Builtin.firstCells]
        · refine List.all_eq_true.2 fun x hx => ?_
          simp only [bytesV, List.mem_map] at hx
          obtain ⟨b, _, rfl⟩ := hx
          rfl
    | _ => simp [srcX] at hx
  | _ => simp [srcX] at hx
end
section
variable {P : Program} {G G' : Gh} {st : St} {w w' : World} {a : Act} {tm : Nat → V} {N i0 nx' : Nat} {o : Oper} {K : Act → World → Prop} {Q : Exit → Act → World → Prop} {E : Env}
theorem kty_ld {t : TypeId} {s : Option Nat} (h : kty P t = some s) (cs : List V) (off : Nat) : ld P t cs off = kld s cs off := by
  unfold kty at h
  unfold ld
  split at h
  · rename_i z h1 h2
    simp only [Option.some.injEq] at h; subst h
    rfl
  · rename_i z h1 h2
    simp only [Option.some.injEq] at h; subst h
    rfl
  · cases h
theorem y_ld (hgl : GlOK P E.gl G.pr) (hinv : Inv P G st w) (ht : TmR P G N tm a) {t : TypeId} {x : Operand} {y : A} {so : Option Nat} {r : R} (ho : o.op = .load t x) (h0 : ca E.gl x = some y) (hso : kty P t = some so) (hx : kopx E tm st i0 (.ld so y) = some (some r)) (hK : Good P G st i0 nx' a o K Q r) : o.wp P a w K Q := by
  have hr := ca_rep hgl ht h0
  simp only [kopx] at hx
  split at hx
  · rename_i id off he
    rw [he] at hr
    obtain ⟨b, hv, hb⟩ := hr.ptr_inv
    have main : ∀ cs, obCells (st id) = some cs → (kld so cs off).map (fun v => R.val v [] [id]) = some r → o.wp P a w K Q := fun cs hcs hx => by
      rw [Option.map_eq_some_iff] at hx
      obtain ⟨z, hz, rfl⟩ := hx
      obtain ⟨b', vs, k1, k2, k3, k4⟩ := ob_cells hinv hcs
      rw [hb] at k1
      obtain rfl := Option.some.inj k1
      rw [← kty_ld hso] at hz
      obtain ⟨v, hv2, hrep⟩ := ld_loadVar (w := w) hz k3 k2 (ad := ⟨b, off, none⟩) (fun j u hu => by rw [blk_add]; exact k4 _ u hu)
      refine good_same hinv hK (v := v) ?_ hrep
      simp [execOp, ho, hv, Instr.loadAt, Instr.sureAddr, hv2]
    split at hx
    · rename_i cs hs
      exact main cs (by rw [hs]; rfl) (Option.some.inj hx)
    · rename_i cs hs
      exact main cs (by rw [hs]; rfl) (Option.some.inj hx)
    · cases hx
  · cases hx
theorem own_store {base e s n b off : Nat} {v : Value} {vs news : List Value} (hown : w.ownsRow base e s v n vs) (hb : v.ownBlock = some b) (hl : off + news.length ≤ vs.length) (h1 : ∀ u ∈ news, u.oneCell' = true) :
    ∃ w', (storeCells ⟨b, off, none⟩ news 0).run P w = .ok () w' ∧ w'.ownsRow base e s v n (vs.take off ++ news ++ vs.drop (off + news.length)) ∧ (∀ k, k ≠ b → w'.heap[k]? = w.heap[k]?) ∧ w.heap.size = w'.heap.size ∧ w'.os = w.os ∧ w'.tape = w.tape ∧ w'.output = w.output := by
  obtain ⟨hn, h2⟩ := hown
  rcases h2 with ⟨rfl, _⟩ | ⟨g, cap, cur, rfl, hbg, hg, hnc, hcm, hcs, htk⟩
  · simp [Value.ownBlock] at hb
  · obtain rfl : g = b := by simpa [Value.ownBlock] using hb
    have hmul : n * s ≤ cap * s := Nat.mul_le_mul_right _ hnc
    have hst := run_storeCells_at P g off e news 0 cur w hg (by omega) h1
    simp only [Nat.add_zero] at hst
    refine ⟨_, hst, ⟨?_, .inr ⟨g, cap, _, rfl, hbg, setRow_heap w g cur _ e (0, 0) hg, hnc, hcm, ?_, ?_⟩⟩, fun k hk => setRow_other w g k _ hk, by simp, rfl, rfl, rfl⟩
    · simp only [List.length_append, List.length_take, List.length_drop]; omega
    · simp only [List.size_toArray, List.length_append, List.length_take, List.length_drop, Array.length_toList]; omega
    · have e1 : (cur.toList.take off ++ news ++ cur.toList.drop (off + news.length)).take (n * s) = (cur.toList.take (n * s)).take off ++ news ++ (cur.toList.take (n * s)).drop (off + news.length) := by
        rw [List.take_append, List.take_of_length_le (l := cur.toList.take off ++ news) (by simp; omega), List.take_take, Nat.min_eq_left (show off ≤ n * s by omega)]
        congr 1
        rw [List.drop_take]
        congr 1
        simp only [List.length_append, List.length_take, Array.length_toList]; omega
      rw [e1, htk]
theorem y_sto (hgl : GlOK P E.gl G.pr) (hinv : Inv P G st w) (ht : TmR P G N tm a) {t : TypeId} {x y : Operand} {xa ya : A} {n : Nat} {r : R} (ho : o.op = .store t x y) (h0 : ca E.gl x = some xa) (h1 : ca E.gl y = some ya) (hn : usz P t = some n) (hx : kopx E tm st i0 (.sto n xa ya) = some (some r)) (hK : Good P G st i0 nx' a o K Q r) : o.wp P a w K Q := by
  have hr := ca_rep hgl ht h0
  have hr1 := ca_rep hgl ht h1
  simp only [kopx] at hx
  split at hx
  · rename_i id off he
    rw [he] at hr
    split at hx
    · rename_i e s m cs hs
      have hx := Option.some.inj hx
      split at hx
      · rename_i hc
        obtain rfl := Option.some.inj (by assumption : some _ = some r)
        obtain ⟨rfl, hc2, hc3⟩ := hc
        obtain ⟨b, hv, hb⟩ := hr.ptr_inv
        obtain ⟨v, vs, b', g1, g2, g3, g4, g5, g6, g7, g8⟩ := hinv.objs id _ hs
        rw [hb] at g3
        obtain rfl := Option.some.inj g3
        have hy := rep_cells hr1 hc3
        have hl := hy.length
        have hla := g8.length
        obtain ⟨w', hst, k1, k2, k3, k4, k5, k6⟩ := own_store (P := P) (off := off) g6 g2 (by omega) (ones_vals hy hc3)
        refine wp_skip0 (w' := w') ?_ (hK G _ undef (.refl G) (.refl G _) ?_ (.pure (.sc _)))
        · have hsz : ((a.eval y).cells.size) = (av tm ya).cells.length := by simpa using hl.symm
          simp [execOp, ho, hv, Instr.storeAt, Instr.sureAddr, storeVar, run_size hn, hsz, hst]
        · refine hinv.set id _ _ b hs hb (by simp) (by simp) (g6.lt b g2).1 k2 k3 k4 k5 k6 ⟨v, _, b, g1, g2, hb, g4, g5, k1, ?_, ?_⟩
          · rw [ones_append, ones_append, ones_take g7, hc3, ones_drop g7]; rfl
          · rw [← hl]; exact ((g8.take off).append hy).append (g8.drop _)
      · cases hx
    · cases hx
  · cases hx
theorem y_ix (hgl : GlOK P E.gl G.pr) (hinv : Inv P G st w) (ht : TmR P G N tm a) {t el : TypeId} {x y : Operand} {xa ya : A} {r : R} (ho : o.op = .indexAddr t x y) (h0 : ca E.gl x = some xa) (h1 : ca E.gl y = some ya) (hel : uel P t = some el) (hx : kopx E tm st i0 (.ix el xa ya) = some (some r)) (hK : Good P G st i0 nx' a o K Q r) : o.wp P a w K Q := by
  have hr := ca_rep hgl ht h0
  have hr1 := ca_rep hgl ht h1
  simp only [kopx] at hx
  split at hx
  · rename_i e g s id off n he
    have hx2 := Option.some.inj hx
    clear hx
    split at hx2
    · rename_i kk k hk
      split at hx2
      · rename_i hc
        obtain ⟨rfl, hc1, hc2⟩ := hc
        obtain rfl := Option.some.inj hx2
        rw [he] at hr
        rw [hk] at hr1
        have hv1 := hr1.sc_inv
        obtain ⟨b, N, C, A, c, hv, k1, k2, k3, k4, k5, k6, k7, k8, k9, k10⟩ := hr.sl_inv
        have := k8 (by omega)
        subst this
        have hu := uel_u hel
        refine good_same hinv hK (v := .pointer (some ⟨b, (off + k.toNat) * s, none⟩)) ?_ (.ptr k1)
        simp [execOp, ho, hv, hv1, Instr.indexAt, asIntOf, run_underlying hu, run_size k3, hc1, hc2, blk_add, Nat.add_mul]
      · cases hx2
    · cases hx2
  · cases hx
theorem y_len (hgl : GlOK P E.gl G.pr) (hinv : Inv P G st w) (ht : TmR P G N tm a) {c : Call} {t el : TypeId} {xa : A} {r : R} (ho : o.op = .call c) (hc : c.callee = .builtin .len) (hts : c.argTypes.toList = [t]) (h0 : c.args.toList.mapM (ca E.gl) = some [xa]) (hel : uel P t = some el) (hx : kopx E tm st i0 (.len xa) = some (some r)) (hK : Good P G st i0 nx' a o K Q r) : o.wp P a w K Q := by
  have hA := cas_rep hgl ht h0
  have hA2 := args_arr (a := a) (c := c) rfl
  generalize c.args.toList.map a.eval = us at hA hA2
  cases hA with
  | cons hr h2 =>
  rename_i u0 us0
  cases h2
  have hu := uel_u hel
  simp only [kopx] at hx
  have main : ∀ (A : Option Addr) (n cc : Nat), u0 = .slice A n cc → some (R.val (.i64 n) [] []) = some r → o.wp P a w K Q := fun A n cc hv hx => by
    obtain rfl := Option.some.inj hx
    refine good_same hinv hK (v := .int .i64 n) ?_ (.pure (.sc _))
    refine run_builtin (f := Builtin.len_ c.argTypes o.type (c.args.map a.eval)) ho hc (fun k => rfl) ?_
    rw [arr_of_list hts, hA2, hv]
    simp [Builtin.len_, run_underlying hu, goInt]
  split at hx
  · rename_i he
    rw [he] at hr
    obtain ⟨b, N, C, A, c', hv, _⟩ := hr.sl_inv
    exact main A _ c' hv (Option.some.inj hx)
  · rename_i he
    rw [he] at hr
    obtain ⟨A, hv⟩ := hr.emp_inv
    exact main A 0 0 hv (Option.some.inj hx)
  · cases hx
end
section
variable {P : Program} {G G' : Gh} {st : St} {w w' : World} {a : Act} {tm : Nat → V} {N i0 nx' : Nat} {o : Oper} {K : Act → World → Prop} {Q : Exit → Act → World → Prop} {E : Env}
theorem kint_inv (hgl : GlOK P E.gl G.pr) (ht : TmR P G N tm a) {x : Option Operand} {y : Option A} {d n : Int} (hc : cao E.gl x = some y) (h : kint tm y d = some n) : (x = none ∧ n = d) ∨ ∃ z k, x = some z ∧ a.eval z = .int k n := by
  cases x with
  | none => simp only [cao, Option.some.injEq] at hc; subst hc; simp [kint] at h; exact .inl ⟨rfl, h.symm⟩
  | some z =>
    simp only [cao, Option.map_eq_some_iff] at hc
    obtain ⟨q, hq, rfl⟩ := hc
    simp only [kint] at h
    obtain ⟨k, hk⟩ := vint_inv h
    have := ca_rep hgl ht hq
    rw [hk] at this
    exact .inr ⟨z, k, rfl, this.sc_inv⟩
theorem y_sll (hgl : GlOK P E.gl G.pr) (hinv : Inv P G st w) (ht : TmR P G N tm a) {t el : TypeId} {x : Operand} {lo hi : Option Operand} {xa : A} {la ha : Option A} {r : R} (ho : o.op = .slice t x lo hi none) (h0 : ca E.gl x = some xa) (hl : cao E.gl lo = some la) (hh : cao E.gl hi = some ha) (hu : P.underlying t = some (.slice el)) (hx : kopx E tm st i0 (.sll el xa la ha) = some (some r)) (hK : Good P G st i0 nx' a o K Q r) : o.wp P a w K Q := by
  have hr := ca_rep hgl ht h0
  simp only [kopx] at hx
  split at hx
  · rename_i e g s id off n he
    rw [he] at hr
    have hx2 := Option.some.inj hx
    clear hx
    rw [Option.bind_eq_some_iff] at hx2
    obtain ⟨l, hl2, hx2⟩ := hx2
    rw [Option.bind_eq_some_iff] at hx2
    obtain ⟨h, hh2, hx2⟩ := hx2
    split at hx2
    · rename_i hc
      obtain ⟨rfl, c1, c2, c3⟩ := hc
      obtain rfl := Option.some.inj hx2
      obtain ⟨b, NN, C, A, c, hv, k1, k2, k3, k4, k5, k6, k7, k8, k9, k10⟩ := hr.sl_inv
      obtain ⟨ln, rfl⟩ := Int.eq_ofNat_of_zero_le c1
      obtain ⟨hn, rfl⟩ := Int.eq_ofNat_of_zero_le (show (0 : Int) ≤ h by omega)
      have b1 : ln ≤ hn := by omega
      have b2 : hn ≤ n := by omega
      have gl := kint_inv hgl ht hl hl2
      have gh := kint_inv hgl ht hh hh2
      have main : (Instr.sliceAt t (.slice A n c) (lo.map a.eval) (hi.map a.eval) none).run P w = .ok (.slice (if c = ln then A else A.map (·.add (ln * s))) (hn - ln) (c - ln)) w := by
        rcases gh with ⟨rfl, e2⟩ | ⟨hy, hk, rfl, eh⟩
        · obtain rfl : hn = n := by omega
          rcases gl with ⟨rfl, e1⟩ | ⟨ly, lk, rfl, elo⟩
          · obtain rfl : ln = 0 := by omega
            simp [Instr.sliceAt, run_underlying hu, Instr.slice, Instr.sliceBounds, run_size k3]
          · simp [Instr.sliceAt, run_underlying hu, Instr.slice, Instr.sliceBounds, Instr.sliceBound, asIntOf, elo, b1, run_size k3]
        · have bh : hn ≤ c := by omega
          rcases gl with ⟨rfl, e1⟩ | ⟨ly, lk, rfl, elo⟩
          · obtain rfl : ln = 0 := by omega
            simp [Instr.sliceAt, run_underlying hu, Instr.slice, Instr.sliceBounds, Instr.sliceBound, asIntOf, eh, bh, run_size k3]
          · simp [Instr.sliceAt, run_underlying hu, Instr.slice, Instr.sliceBounds, Instr.sliceBound, asIntOf, elo, eh, b1, bh, run_size k3]
      refine good_same hinv hK (v := .slice (if c = ln then A else A.map (·.add (ln * s))) (hn - ln) (c - ln)) ?_ ?_
      · simp only [execOp, ho, hv, Option.map_none]
        rw [Sem.run_bind, main]
        rfl
      · simp only [Int.ofNat_eq_natCast, Int.toNat_natCast]
        refine .sl k1 k2 k3 k4 k5 (by omega) (by omega) (fun hp => ?_) (fun e1 e2 => ?_) ?_
        · rw [if_neg (by omega), k8 (by omega)]
          simp [blk_add, Nat.add_mul]
        · obtain ⟨rfl, rfl⟩ := k9 (by omega) (by omega)
          have : ln = 0 := by omega
          subst this
          exact ⟨by split <;> simp [blk_add], by omega⟩
        · exact k10
    · cases hx2
  · cases hx
theorem zeroC_eval {x : Operand} (h : zeroC x = true) : ∃ k, a.eval x = .int k 0 := by
  unfold zeroC at h
  split at h
  · rename_i k n
    have : n = 0 := by simpa using h
    subst this
    exact ⟨k, rfl⟩
  · cases h
theorem y_sl0 (hgl : GlOK P E.gl G.pr) (hinv : Inv P G st w) (ht : TmR P G N tm a) {t el : TypeId} {x hi mx : Operand} {xa : A} {r : R} (ho : o.op = .slice t x none (some hi) (some mx)) (h0 : ca E.gl x = some xa) (z1 : zeroC hi = true) (z2 : zeroC mx = true) (hsz : (usz P el).isSome = true) (hu : P.underlying t = some (.slice el)) (hx : kopx E tm st i0 (.sl0 el xa) = some (some r)) (hK : Good P G st i0 nx' a o K Q r) : o.wp P a w K Q := by
  have hr := ca_rep hgl ht h0
  obtain ⟨s, hs⟩ := Option.isSome_iff_exists.1 hsz
  obtain ⟨ka, e1⟩ := zeroC_eval (a := a) z1
  obtain ⟨kb, e2⟩ := zeroC_eval (a := a) z2
  have main : ∀ (A : Option Addr) (n c : Nat), a.eval x = .slice A n c → Good P G st i0 nx' a o K Q (.val (.emp el) [] []) → o.wp P a w K Q := fun A n c hv hK => by
    refine good_same hinv hK (v := .slice A 0 0) ?_ .emp
    have : (Instr.sliceAt t (.slice A n c) none (some (a.eval hi)) (some (a.eval mx))).run P w = .ok (.slice A 0 0) w := by
      simp [Instr.sliceAt, run_underlying hu, Instr.slice, Instr.sliceBounds, Instr.sliceBound, asIntOf, e1, e2, run_size hs]
    simp only [execOp, ho, hv, Option.map_none, Option.map_some]
    rw [Sem.run_bind, this]
    rfl
  simp only [kopx] at hx
  split at hx
  · rename_i he
    rw [he] at hr
    obtain ⟨b, NN, C, A, c, hv, _⟩ := hr.sl_inv
    have hx2 := Option.some.inj hx
    split at hx2
    · obtain rfl := Option.some.inj hx2
      exact main A _ c hv hK
    · cases hx2
  · rename_i he
    rw [he] at hr
    obtain ⟨A, hv⟩ := hr.emp_inv
    have hx2 := Option.some.inj hx
    split at hx2
    · obtain rfl := Option.some.inj hx2
      exact main A _ 0 hv hK
    · cases hx2
  · rename_i he
    rw [he] at hr
    obtain ⟨A, c, hv, _⟩ := hr.list_inv
    have hx2 := Option.some.inj hx
    split at hx2
    · obtain rfl := Option.some.inj hx2
      exact main A _ c hv hK
    · cases hx2
  · cases hx
theorem scs_rep {ns : List Int} {vs : List Value} (h : All2 (Rep P G) (ns.map fun n => V.sc (.int .u8 n)) vs) : vs = ns.map (Value.int .u8) := by
  induction ns generalizing vs with
  | nil => cases h; rfl
  | cons n ns ih => cases h with | cons h1 h2 => rw [h1.sc_inv, ih h2]; rfl
theorem y_b2s (hgl : GlOK P E.gl G.pr) (hinv : Inv P G st w) (ht : TmR P G N tm a) {s0 d el : TypeId} {x : Operand} {xa : A} {r : R} (ho : o.op = .convert s0 d x) (h0 : ca E.gl x = some xa) (hs0 : P.underlying s0 = some (.slice el)) (hd : P.underlying d = some .string) (hu8 : isU8 P el = true) (hsz : usz P el = some 1) (hx : kopx E tm st i0 (.b2s el xa) = some (some r)) (hK : Good P G st i0 nx' a o K Q r) : o.wp P a w K Q := by
  have hr := ca_rep hgl ht h0
  simp only [kopx] at hx
  split at hx
  · rename_i e g s id off n he
    rw [he] at hr
    have hx2 := Option.some.inj hx
    clear hx
    split at hx2
    · rename_i hee
      subst hee
      rw [Option.bind_eq_some_iff] at hx2
      obtain ⟨cs, hcs, hx2⟩ := hx2
      split at hx2
      · rename_i hl
        rw [Option.map_eq_some_iff] at hx2
        obtain ⟨l, hl2, rfl⟩ := hx2
        obtain ⟨ns, hns, rfl⟩ := bytesOfV_inv hl2
        obtain ⟨_, _, _, _, _, _, _, _, hs', _⟩ := hr.sl_inv
        rw [hsz] at hs'
        obtain rfl := Option.some.inj hs'
        obtain ⟨A, c, vs, hv, k1, k2, k3, k4⟩ := sl_read hinv hr hcs hl
        rw [hns] at k2
        have hvs := scs_rep k2
        subst hvs
        have hnl : ns.length = n := by simpa using k1
        have hrun : (convert s0 d (.slice A n c)).run P w = .ok (.string ⟨(ns.map fun n => UInt8.ofNat n.toNat).toArray⟩) w := by
          rw [run_convert_bytes_string w s0 d e A n c hs0 (isU8_u hu8) hd]
          by_cases hn : 0 < n
          · obtain ⟨ad, rfl, hlies⟩ := k4 hn
            have hl : (loadCells ad n).run P w = .ok (ns.map (Value.int .u8)).toArray w := by
              have := run_loadCells_list (P := P) w ad (ns.map (Value.int .u8)) hlies
              simpa [hnl] using this
            rw [run_bytesToString w ad _ _ ns hl, foldl_push_bytes]
            simp [ByteArray.empty, ByteArray.emptyWithCapacity]
            rfl
          · have : n = 0 := by omega
            subst this
            have : ns = [] := List.eq_nil_of_length_eq_zero hnl
            subst this
            cases A with
            | none => simp [Conv.bytesToString]; rfl
            | some ad =>
              have hl : (loadCells ad 0).run P w = .ok (([] : List Int).map (Value.int .u8)).toArray w := run_loadCells_list (P := P) w ad [] (fun j u hu => by simp at hu)
              rw [run_bytesToString w ad _ _ [] hl]
              rfl
        refine good_same hinv hK (v := .string _) ?_ (.pure (.sc _))
        simp only [execOp, ho, hv]
        rw [Sem.run_bind, hrun]
        rfl
      · cases hx2
    · cases hx2
  · rename_i e he
    rw [he] at hr
    have hx2 := Option.some.inj hx
    split at hx2
    · rename_i hee
      subst hee
      obtain rfl := Option.some.inj hx2
      obtain ⟨A, hv⟩ := hr.emp_inv
      have hrun : (convert s0 d (.slice A 0 0)).run P w = .ok (.string ⟨#[]⟩) w := by
        rw [run_convert_bytes_string w s0 d e A 0 0 hs0 (isU8_u hu8) hd]
        cases A with
        | none => simp [Conv.bytesToString]; rfl
        | some ad =>
          have hl : (loadCells ad 0).run P w = .ok (([] : List Int).map (Value.int .u8)).toArray w := run_loadCells_list (P := P) w ad [] (fun j u hu => by simp at hu)
          rw [run_bytesToString w ad _ _ [] hl]
          rfl
      refine good_same hinv hK (v := .string _) ?_ (.pure (.sc _))
      simp only [execOp, ho, hv]
      rw [Sem.run_bind, hrun]
      rfl
    · cases hx2
  · cases hx
end
section
variable {P : Program} {G G' : Gh} {st : St} {w w' : World} {a : Act} {tm : Nat → V} {N i0 nx' : Nat} {o : Oper} {K : Act → World → Prop} {Q : Exit → Act → World → Prop} {E : Env}
/-- An object is let go. -/
theorem Inv.drop (h : Inv P G st w) (i : Nat) : Inv P G (upd st i none) w := by
  refine h.go (.refl G) (Below.refl _ _) h.prot i (fun j hj => by simp [upd, hj]) (fun _ _ => rfl) (fun _ _ => rfl) (fun _ _ _ _ => rfl) (fun ob hob => by simp [upd] at hob) (fun j b hj hb hb' => ?_) (fun b hb => ?_) (fun _ _ _ _ _ _ q => q)
  · unfold blk at hb'; simp [upd] at hb'
  · unfold blk at hb; simp [upd] at hb
def Gh.put (G : Gh) (i b : Nat) (v : Value) : Gh := { G with bx := upd G.bx i (some b), tl := upd G.tl i (some v) }
theorem Gh.put_le {i b : Nat} {v : Value} (hbx : G.bx i = none) (htl : G.tl i = none) : G.le (G.put i b v) := by
  refine ⟨rfl, rfl, fun _ _ _ q => q, fun j c q => ?_, fun t u q => ?_, fun _ _ _ => rfl⟩
  · show upd G.bx i (some b) j = some c
    simp only [upd]; split
    · rename_i e; subst e; rw [hbx] at q; cases q
    · exact q
  · refine ⟨u, ?_, Nat.le_refl _, fun _ => rfl, fun _ => rfl⟩
    show upd G.tl i (some v) t = some u
    simp only [upd]; split
    · rename_i e; subst e; rw [htl] at q; cases q
    · exact q
theorem same_put {i b : Nat} {v : Value} (hi : R8 i0 i) : Same G (G.put i b v) (R8 i0) := fun k hk => by
  have : k ≠ i := fun e => hk (by subst e; exact hi)
  exact ⟨fun h => by show upd G.bx i _ k = none; simpa [upd, this] using h, fun h => by show upd G.tl i _ k = none; simpa [upd, this] using h⟩
/-- A row that may turn is laid under a new name. -/
theorem Inv.rowPut (h : Inv P G st w) {i e s n b C : Nat} {cs : List V} {vs : List Value} (hbx : G.bx i = none) (htl : G.tl i = none) (hs : usz P e = some s) (h0 : 0 < s) (hown : w'.ownsRow G.base e s (.slice (some ⟨b, 0, none⟩) n C) n vs)
    (hg : ∀ k, k < w.heap.size → k ≠ b → w'.heap[k]? = w.heap[k]?) (hsz : w.heap.size ≤ w'.heap.size) (hos : w'.os = w.os) (hta : w'.tape = w.tape) (hou : w'.output = w.output) (hb : ∀ j c, j ≠ i → blk G st j = some c → c ≠ b) (hnp : ∀ o u, G.pr b o = some u → False) (h1 : ones cs = true) (hr : All2 (Rep P G) cs vs) :
    G.le (G.put i b (.slice (some ⟨b, 0, none⟩) n C)) ∧ Inv P (G.put i b (.slice (some ⟨b, 0, none⟩) n C)) (upd st i (some (.row e s n cs))) w' := by
  have hle := G.put_le (b := b) (v := .slice (some ⟨b, 0, none⟩) n C) hbx htl
  have hbb := (hown.lt b rfl).1
  have hblk : ∀ c, blk (G.put i b (.slice (some ⟨b, 0, none⟩) n C)) (upd st i (some (.row e s n cs))) i = some c → c = b := fun c hc => by
    unfold blk at hc; simp [upd, Gh.put] at hc; exact hc.symm
  refine ⟨hle, h.go hle ⟨hos, hta, hou, hsz, fun k hk => hg k (by have := h.size; omega) (by omega)⟩ (fun c o v hv => ?_) i (fun j hj => by simp [upd, hj]) (fun j hj => by simp [Gh.put, upd, hj]) (fun j hj => by simp [Gh.put, upd, hj]) (fun j c hj hc => hg c (h.blk_lt hc).1 (hb j c hj hc))
    (fun ob hob => ?_) (fun j c hj hc hc' => hb j c hj hc (hblk c hc')) (fun c hc o v hv => ?_) (fun _ _ _ _ _ _ q => q)⟩
  · have hv : G.pr c o = some v := hv
    have hcb : c ≠ b := fun e => by subst e; exact hnp o v hv
    rw [cell_same (hg c (h.pr_lt hv) hcb)]; exact h.prot c o v hv
  · simp [upd] at hob; subst hob
    exact ⟨_, vs, b, by simp [Gh.put, upd], rfl, by simp [Gh.put, upd], hs, h0, hown, h1, hr.rep_mono hle⟩
  · have := hblk c hc
    subst this
    exact (hnp o v hv).elim
theorem Rep.row {i e s n b C : Nat} {g : Bool} (hs : usz P e = some s) (hg : uagg P e = some g) (h0 : 0 < s) (hn : n ≤ C) (hgs : g = false → s = 1) : Rep P (G.put i b (.slice (some ⟨b, 0, none⟩) n C)) (.sl e g s i 0 n) (.slice (some ⟨b, 0, none⟩) n C) :=
  .sl (b := b) (N := n) (C := C) (by simp [Gh.put, upd]) (by simp [Gh.put, upd]) hs hg h0 (by omega) hn (fun _ => by simp) (fun _ _ => ⟨rfl, rfl⟩) hgs
/-- A row in a new block. -/
theorem newRow_good (hinv : Inv P G st w) (hfr : Fresh G (R8 i0)) {e s n C : Nat} {g : Bool} {arr : Array Value} {cs : List V} {rd : List Nat} (hs : usz P e = some s) (hg : uagg P e = some g) (h0 : 0 < s) (hgs : g = false → s = 1) (hn : n ≤ C) (hC : C ≤ maxLen) (ha : arr.size = C * s) (h1 : ones cs = true) (hr : All2 (Rep P G) cs (arr.toList.take (n * s)))
    (hK : Good P G st i0 nx' a o K Q (.val (.sl e g s i0 0 n) [(i0, some (.row e s n cs))] rd)) (hrun : (execOp a.eval o).run P w = .ok (.value (.slice (some ⟨w.heap.size, 0, none⟩) n C)) (w.alloc (.cells arr e))) : o.wp P a w K Q := by
  have hf := hfr i0 (r8_self i0)
  have hmul : n * s ≤ C * s := Nat.mul_le_mul_right _ hn
  obtain ⟨hle, hi⟩ := hinv.rowPut (w' := w.alloc (.cells arr e)) (i := i0) (b := w.heap.size) (C := C) (cs := cs) hf.1 hf.2 hs h0 ⟨by rw [List.length_take, Array.length_toList]; omega, .inr ⟨_, C, arr, rfl, hinv.size, heap_alloc_new w _, hn, hC, ha, rfl⟩⟩ (fun k hk _ => Below.heap_alloc w _ k hk) (by simp) rfl rfl rfl (fun j c _ hc => by have := (hinv.blk_lt hc).1; omega) (fun o u hu => by have := hinv.pr_lt hu; omega) h1 hr
  exact wp_val hrun (hK _ _ _ hle (same_put (r8_self i0)) (by simpa [upds] using hi) (Rep.row hs hg h0 hn hgs))
theorem made_toList (z : Array Value) (h0 : 0 < z.size) : ∀ n, (madeCells z (n * z.size)).toList = (List.replicate n z.toList).flatten := by
  intro n
  unfold madeCells
  rw [Array.toList_map, Array.toList_range]
  induction n with
  | zero => simp
  | succ n ih =>
    rw [Nat.succ_mul, Nat.add_comm, List.range_add, List.map_append, List.map_map, List.replicate_succ, List.flatten_cons, ← ih]
    congr 1
    · apply List.ext_getElem
      · simp
      · intro j h1 h2
        have hj : j < z.size := by simpa using h1
        simp [Nat.mod_eq_of_lt hj, hj]
    · apply List.map_congr_left
      intro j _
      simp [Nat.add_mod_left]
theorem all2_flatten {R : V → Value → Prop} {xs : List V} {ys : List Value} (h : All2 R xs ys) : ∀ n, All2 R (List.replicate n xs).flatten (List.replicate n ys).flatten
  | 0 => .nil
  | n + 1 => by rw [List.replicate_succ, List.replicate_succ, List.flatten_cons, List.flatten_cons]; exact h.append (all2_flatten h n)
theorem ones_flatten {xs : List V} (h : ones xs = true) : ∀ n, ones (List.replicate n xs).flatten = true
  | 0 => rfl
  | n + 1 => by rw [List.replicate_succ, List.flatten_cons, ones_append, h, ones_flatten h n]; rfl
theorem y_mks (hgl : GlOK P E.gl G.pr) (hinv : Inv P G st w) (ht : TmR P G N tm a) (hfr : Fresh G (R8 i0)) {t e s : TypeId} {g : Bool} {x y : Operand} {xa ya : A} {i : TypeInfo} {z : Value} {r : R} (ho : o.op = .makeSlice t x y) (h0 : ca E.gl x = some xa) (h1 : ca E.gl y = some ya) (hel : uel P t = some e) (hs : usz P e = some s) (hg : uagg P e = some g)
    (hi : P.info? e = some i) (hz : uzero P e = some z) (hs0 : 0 < s) (hgs : g = false → s = 1) (hzo : ones (V.ofV z).cells = true) (hzl : (V.ofV z).cells.length = s) (hx : kopx E tm st i0 (.mks e g s i.bytes (V.ofV z).cells xa ya) = some (some r)) (hK : Good P G st i0 nx' a o K Q r) : o.wp P a w K Q := by
  have hr := ca_rep hgl ht h0
  have hr1 := ca_rep hgl ht h1
  simp only [kopx] at hx
  split at hx
  · rename_i k1 n k2 c he1 he2
    rw [he1] at hr
    rw [he2] at hr1
    have hx2 := Option.some.inj hx
    split at hx2
    · rename_i hc
      obtain ⟨rfl, c1, c2, c3⟩ := hc
      obtain rfl := Option.some.inj hx2
      have hv := hr.sc_inv
      have hv1 := hr1.sc_inv
      have hzi : i.zero = some z := by simpa [uzero, hi] using hz
      have hsi : i.size = s := by simpa [usz, hi] using hs
      have hrz := rep_cells (P := P) (G := G) (.pure (rep_ofV G.pr z hzo)) hzo
      have hzs : z.cells.size = s := by have := hrz.length; rw [hzl] at this; simpa using this.symm
      obtain ⟨m, rfl⟩ := Int.eq_ofNat_of_zero_le c1
      have hb' : ((i.bytes : Int) * ((m : Nat) : Int)) ≤ 281474976710656 := Int.le_trans (Int.le_of_eq (Int.mul_comm _ _)) (Int.le_trans c2 (by decide))
      have hrun := run_make (P := P) w t e i z (uel_u hel) hi hzi k1 k2 m m (by omega) (by omega) hb' (by have : (Int.ofNat m) ≤ 9223372036854775807 := c3; omega)
      simp only [Int.toNat_natCast, hsi] at hrun
      have hmt := made_toList z.cells (by rw [hzs]; exact hs0) m
      rw [hzs] at hmt
      refine newRow_good (g := g) (arr := madeCells z.cells (m * s)) (n := m) (C := m) hinv hfr hs hg hs0 hgs (Nat.le_refl _) (by have : (Int.ofNat m) ≤ 9223372036854775807 := c3; simp only [maxLen]; omega) (size_madeCells _ _) (ones_flatten hzo m) ?_ hK ?_
      · rw [hmt, List.take_of_length_le (by simp [hzs])]
        exact all2_flatten hrz m
      · simp only [execOp, ho, hv, hv1]
        rw [Sem.run_bind]
        rw [hrun]
        rfl
    · cases hx2
  · cases hx
end
section
variable {P : Program} {G G' : Gh} {st : St} {w w' : World} {a : Act} {tm : Nat → V} {N i0 nx' : Nat} {o : Oper} {K : Act → World → Prop} {Q : Exit → Act → World → Prop} {E : Env}
theorem parts_rep (hgl : GlOK P E.gl G.pr) (ht : TmR P G N tm a) : ∀ {l : List (Nat × Operand)} {vs : List (Nat × A)}, (l.mapM fun (p : Nat × Operand) => (ca E.gl p.2).map fun v => (p.1, v)) = some vs → All2 (fun p q => p.1 = q.1 ∧ Rep P G p.2 q.2) (vs.map fun p => (p.1, av tm p.2)) (l.map fun (i, x) => (i, a.eval x)) := fun {l vs} h => by
  have h1 := mapM_some h
  clear h
  induction h1 with
  | nil => exact .nil
  | cons h2 _ ih =>
    rw [Option.map_eq_some_iff] at h2
    obtain ⟨y, hy, rfl⟩ := h2
    exact .cons ⟨rfl, ca_rep hgl ht hy⟩ ih
theorem all2_parts {vs : List (Nat × V)} {us : List (Nat × Value)} (h : All2 (fun p q => p.1 = q.1 ∧ Rep P G p.2 q.2) vs us) (h1 : ∀ p ∈ vs, ones p.2.cells = true) : All2 (Rep P G) (vs.flatMap fun p => p.2.cells) (us.flatMap fun q => q.2.cells.toList) := by
  induction h with
  | nil => exact .nil
  | cons h2 _ ih =>
    rw [List.flatMap_cons, List.flatMap_cons]
    exact (rep_cells h2.2 (h1 _ (by simp))).append (ih fun p hp => h1 p (by simp [hp]))
theorem y_lit (hgl : GlOK P E.gl G.pr) (hinv : Inv P G st w) (ht : TmR P G N tm a) (hfr : Fresh G (R8 i0)) {t e s : TypeId} {n : Nat} {g : Bool} {ps : Array (Nat × Operand)} {vs : List (Nat × A)} {r : R} (ho : o.op = .buildSlice t n ps)
    (hvs : (ps.toList.mapM fun (p : Nat × Operand) => (ca E.gl p.2).map fun a => (p.1, a)) = some vs) (hel : uel P t = some e) (hs : usz P e = some s) (hg : uagg P e = some g) (c1 : vs.map (·.1) = List.range n) (c2 : n ≤ 1000) (c3 : s ≤ 1000) (c4 : 0 < s) (hgs : g = false → s = 1) (c5 : (uzero P e).isSome = true)
    (hx : kopx E tm st i0 (.lit e g s (vs.map (·.2))) = some (some r)) (hK : Good P G st i0 nx' a o K Q r) : o.wp P a w K Q := by
  simp only [kopx] at hx
  have hx2 := Option.some.inj hx
  split at hx2
  · rename_i hall
    obtain rfl := Option.some.inj hx2
    have hp := parts_rep hgl ht hvs
    obtain ⟨z, hz⟩ := Option.isSome_iff_exists.1 c5
    have hu := uel_u hel
    have hlen : vs.length = n := by have := congrArg List.length c1; simpa using this
    have hparts : ∀ p ∈ vs.map (fun p => (p.1, av tm p.2)), p.2.cells.length = s ∧ ones p.2.cells = true := fun p hp => by
      obtain ⟨q, hq, rfl⟩ := List.mem_map.1 hp
      have := List.all_eq_true.1 hall q.2 (List.mem_map.2 ⟨q, hq, rfl⟩)
      simpa only [Bool.and_eq_true, beq_iff_eq] using this
    have hsz1 : ∀ init : Array Value, init.size = n * s → ∃ arr, Instr.fill (fun i => some (i * s, s)) init (ps.toList.map fun (i, x) => (i, a.eval x)) = some arr ∧ arr.toList = (ps.toList.map fun (i, x) => (i, a.eval x)).flatMap fun q => q.2.cells.toList := fun init hinit => by
      obtain ⟨arr, h1, h2⟩ := fill_slice (s := s) (k := 0) (done := []) (cells := init) hp (by rw [List.map_map, List.length_map, hlen, ← List.range_eq_range', ← c1]; rfl) hparts (by simp) (by rw [hinit, List.length_map, hlen]; simp) (by simp)
      exact ⟨arr, h1, by simpa using h2⟩
    have hrep := all2_parts hp fun p hp => (hparts p hp).2
    have hcs : (vs.map fun p => (p.1, av tm p.2)).flatMap (fun p => p.2.cells) = (vs.map (·.2)).flatMap fun a => (av tm a).cells := by
      rw [List.flatMap_map, List.flatMap_map]
    rw [hcs] at hrep
    have hnm : ¬ (16777216 < n * s) := by have : n * s ≤ 1000 * 1000 := Nat.mul_le_mul c2 c3; omega
    have e1 : (ps.map fun x => (x.1, a.eval x.2)).toList = ps.toList.map fun (i, x) => (i, a.eval x) := by simp
    have hcl : ((vs.map (·.2)).flatMap fun a => (av tm a).cells).length = n * s := by
      rw [← hcs, ← hlen]
      have : ∀ l : List (Nat × V), (∀ p ∈ l, p.2.cells.length = s ∧ ones p.2.cells = true) → (l.flatMap fun p => p.2.cells).length = l.length * s := fun l hl => by
        induction l with
        | nil => simp
        | cons x l ih => rw [List.flatMap_cons, List.length_append, ih fun p hp => hl p (by simp [hp]), (hl x (by simp)).1, List.length_cons, Nat.succ_mul]; omega
      rw [this _ hparts, List.length_map]
    have h1s : ones ((vs.map (·.2)).flatMap fun a => (av tm a).cells) = true := List.all_eq_true.2 fun c hc => by
      obtain ⟨x, hx, hcx⟩ := List.mem_flatMap.1 hc
      obtain ⟨p, hp, rfl⟩ := List.mem_map.1 hx
      exact List.all_eq_true.1 (hparts (p.1, av tm p.2) (List.mem_map.2 ⟨p, hp, rfl⟩)).2 c hcx
    have run : ∃ arr, (execOp a.eval o).run P w = .ok (.value (.slice (some ⟨w.heap.size, 0, none⟩) n n)) (w.alloc (.cells arr e)) ∧ arr.size = n * s ∧ arr.toList = (ps.toList.map fun (i, x) => (i, a.eval x)).flatMap fun q => q.2.cells.toList := by
      by_cases h0 : n * s = 0
      · obtain ⟨arr, h1, h2⟩ := hsz1 ((Array.range (n * s)).map fun i => (#[] : Array Value)[i % (#[] : Array Value).size]!) (by simp)
        refine ⟨arr, ?_, ?_, h2⟩
        · simp only [execOp, ho, Instr.buildSlice, Sem.run_bind, run_underlying hu, Result.andThen_ok, run_size hs]
          rw [if_neg (by simpa using hnm), if_pos h0]
          simp only [pure_bind, Sem.run_pure, Result.andThen_ok, e1, h1, Sem.run_bind, newRow, run_newObj]
          rfl
        · have := hrep.length
          rw [hcl, ← h2] at this
          simpa using this.symm
      · obtain ⟨arr, h1, h2⟩ := hsz1 ((Array.range (n * s)).map fun i => z.cells[i % z.cells.size]!) (by simp)
        refine ⟨arr, ?_, ?_, h2⟩
        · simp only [execOp, ho, Instr.buildSlice, Sem.run_bind, run_underlying hu, Result.andThen_ok, run_size hs]
          rw [if_neg (by simpa using hnm), if_neg h0]
          simp only [pure_bind, Sem.run_pure, Result.andThen_ok, e1, h1, Sem.run_bind, newRow, run_newObj, run_zero hz]
          rfl
        · have := hrep.length
          rw [hcl, ← h2] at this
          simpa using this.symm
    obtain ⟨arr, hrun, hasz, hal⟩ := run
    rw [List.length_map, hlen] at hK
    exact newRow_good (g := g) (arr := arr) (n := n) (C := n) hinv hfr hs hg c4 hgs (Nat.le_refl _) (by simp only [maxLen]; omega) hasz h1s (by rw [hal, List.take_of_length_le (by rw [← hal, Array.length_toList, hasz]; exact Nat.le_refl _)]; exact hrep) hK hrun
  · cases hx2
/-- append onto a slice without room: a new row. -/
theorem run_app0 (w : World) (base : Nat) (t t' ty e : TypeId) (i : TypeInfo) (z : Value) (ht : P.underlying t = some (.slice e)) {d : TypeDesc} (ht' : P.underlying t' = some d) (hd : (∃ e', d = .slice e') ∨ d = .string) (hi : P.info? e = some i) (hz : i.zero = some z)
    (hzs : z.cells.size = i.size) (A : Option Addr) (x : Value) (m : Nat) (news : List Value) (hx1 : ∀ w', (Builtin.lenOf x).run P w' = .ok m w')
    (hx2 : ∀ w' : World, w'.heap = w.heap → (Builtin.firstCells i.size m x).run P w' = .ok news.toArray w') (hl : news.length = m * i.size) (h63 : m ≤ maxLen) (hbytes : m * i.bytes ≤ 140737488355328)
    (hbase : base ≤ w.heap.size) (hm0 : m ≠ 0) :
    ∃ C w', (Builtin.append_ #[t, t'] ty #[.slice A 0 0, x]).run P w = .ok (.slice (some ⟨w.heap.size, 0, none⟩) m C) w' ∧ m ≤ C ∧ w'.ownsRow base e i.size (.slice (some ⟨w.heap.size, 0, none⟩) m C) m news ∧ w.grownBy w' none := by
  have hge := grownCap_ge w m 0 e
  have hgr : (w.drew.alloc (.cells (news.toArray ++ Builtin.zeroCells z.cells (grownCap w m 0 e - m)) e)).ownsRow base e i.size (.slice (some ⟨w.heap.size, 0, none⟩) m (grownCap w m 0 e)) m news ∧
      w.grownBy (w.drew.alloc (.cells (news.toArray ++ Builtin.zeroCells z.cells (grownCap w m 0 e - m)) e)) none := by
    refine ⟨⟨hl, .inr ⟨w.heap.size, _, _, rfl, hbase, heap_alloc_new w.drew _, hge, grownCap_le_maxLen w m 0 e h63, ?_, ?_⟩⟩, ⟨rfl, rfl, rfl, by simp, fun k hk _ => heap_alloc_old w.drew _ hk⟩⟩
    · simp only [Array.size_append, List.size_toArray, size_zeroCells, hzs, hl, ← Nat.add_mul]
      congr 1
      omega
    · simp only [Array.toList_append]
      rw [← hl]
      exact List.take_left
  have h63' : m ≤ 9223372036854775807 := by simp only [maxLen] at h63; omega
  have hf := hx2 w.drew rfl
  have hfo : (Builtin.firstCells i.size 0 (.slice A 0 0)).run P w.drew = .ok #[] w.drew := by
    cases A with
    | none => simp [Builtin.firstCells]
    | some ad => simpa using run_firstCells_some (P := P) w.drew i.size 0 ad 0 0 [] (by simp) fun j u hu => by simp at hu
  have h63'' : ¬ (9223372036854775807 < (m : Int)) := by omega
  have h48' : ¬ (281474976710656 < Builtin.nextslicecap m 0 * i.bytes) := by rw [nextslicecap_zero (by omega)]; omega
  refine ⟨_, _, ?_, hge, hgr.1, hgr.2⟩
  rcases hd with ⟨e', rfl⟩ | rfl <;> simp [Builtin.append_, run_underlying ht, run_underlying ht', sizeOf, typeInfo, zeroValue, hi, hz, hx1, hm0, h63'', h48', Question.forced, hf, hfo, newRow, grownCap]
theorem y_app (hgl : GlOK P E.gl G.pr) (hinv : Inv P G st w) (ht : TmR P G N tm a) (hfr : Fresh G (R8 i0)) {c : Call} {t t' e : TypeId} {g l : Bool} {i : TypeInfo} {z : Value} {xa ya : A} {r : R} (ho : o.op = .call c) (hc : c.callee = .builtin .append) (hts : c.argTypes.toList = [t, t']) (h0 : c.args.toList.mapM (ca E.gl) = some [xa, ya])
    (hel : uel P t = some e) (hg : uagg P e = some g) (hi : P.info? e = some i) (hz : i.zero = some z) (hzs : z.cells.size = i.size) (h0s : 0 < i.size) (hgs : g = false → i.size = 1) (hty : (l = true ∧ t' = t) ∨ (l = false ∧ isStr P t' = true ∧ isU8 P e = true ∧ i.size = 1))
    (hx : kopx E tm st i0 (.app e g i.size i.bytes l xa ya) = some (some r)) (hK : Good P G st i0 nx' a o K Q r) : o.wp P a w K Q := by
  have hA := cas_rep hgl ht h0
  have hA2 := args_arr (a := a) (c := c) rfl
  generalize c.args.toList.map a.eval = us at hA hA2
  cases hA with
  | cons hr hA =>
  cases hA with
  | cons hry hA =>
  cases hA
  rename_i ux uy
  have hT := arr_of_list hts
  have hs : usz P e = some i.size := by simp [usz, hi]
  have hf := hfr i0 (r8_self i0)
  -- a row, old or none, of n elements vs; the source p
  have main : ∀ (st1 : St) (n : Nat) (cs : List V) (vs : List Value) (p : List V × Nat × List Nat), Inv P G st1 w → (∀ b, ux.ownBlock = some b → (∀ j c, j ≠ i0 → blk G st1 j = some c → c ≠ b) ∧ ∀ o u, G.pr b o = some u → False) → w.ownsRow G.base e i.size ux n vs → ones cs = true → All2 (Rep P G) cs vs →
      srcX st e l (av tm ya) = some p → (n + p.2.1) * i.bytes ≤ 140737488355328 → n + p.2.1 ≤ 9223372036854775807 → 0 < n + p.2.1 ∨ ux.ownBlock ≠ none →
      (∀ G' w' v, G.le G' → Same G G' (R8 i0) → Inv P G' (upd st1 i0 (some (.row e i.size (n + p.2.1) (cs ++ p.1)))) w' → Rep P G' (.sl e g i.size i0 0 (n + p.2.1)) v → K (a.put o.dst v) w') → o.wp P a w K Q := by
    intro st1 n cs vs p hin hown1 hown h1 hcs hp hb hm hpos hk
    obtain ⟨d, news, hd, hdd, s1, s2, s3, s4, s5⟩ := srcX_ok hinv hi hel hry hty hp
    have hnl : news.length = p.2.1 * i.size := by rw [← s3.length, s4]
    have s2' : ∀ w' : World, w'.heap = w.heap → (Builtin.firstCells i.size p.2.1 uy).run P w' = .ok news.toArray w' := fun w' hw' => by
      have := s2 p.2.1 (Nat.le_refl _) w' hw'
      rwa [List.take_of_length_le (by omega)] at this
    obtain ⟨v', w', hrun, hown', hat, hm0⟩ := run_app w G.base t t' o.type e i z (uel_u hel) hd hdd hi hz hzs ux n vs hown uy p.2.1 news s1 s2' hnl (fun u hu => by
      obtain ⟨j, hj⟩ := List.getElem?_of_mem hu
      obtain ⟨q, hq, hqr⟩ := s3.get' hj
      exact hqr.one (ones_get s5 hq)) hm hb hinv.size
    have hrun' : (execOp a.eval o).run P w = .ok (.value v') w' := by
      refine run_builtin (f := Builtin.append_ c.argTypes o.type (c.args.map a.eval)) ho hc (fun k => rfl) ?_
      rw [hT, hA2]; exact hrun
    obtain ⟨b, C, hv', hnC, hown2⟩ : ∃ b C, v' = .slice (some ⟨b, 0, none⟩) (n + p.2.1) C ∧ n + p.2.1 ≤ C ∧ w'.ownsRow G.base e i.size v' (n + p.2.1) (vs ++ news) := by
      rcases hown'.2 with ⟨h1, h2⟩ | ⟨gb, cap, cur, h1, _, _, h2, _⟩
      · exfalso
        rcases hat with ⟨h3, _⟩ | ⟨h3, _⟩
        · rcases hpos with h4 | h4
          · omega
          · rw [← h3, h1] at h4; exact h4 rfl
        · rw [h1] at h3; simp [Value.ownBlock] at h3
      · exact ⟨gb, cap, h1, h2, hown'⟩
    subst hv'
    have fr : (∀ k, k < w.heap.size → k ≠ b → w'.heap[k]? = w.heap[k]?) ∧ w.heap.size ≤ w'.heap.size ∧ w'.os = w.os ∧ w'.tape = w.tape ∧ w'.output = w.output ∧ (∀ j c, j ≠ i0 → blk G st1 j = some c → c ≠ b) ∧ (∀ o u, G.pr b o = some u → False) := by
      rcases hat with ⟨h3, h4⟩ | ⟨h3, h4⟩
      · have hb : ux.ownBlock = some b := by rw [← h3]; rfl
        obtain ⟨q1, q2⟩ := hown1 b hb
        exact ⟨fun k hk hne => h4.block k hk (by rw [hb]; simpa using hne), h4.size, h4.os, h4.tape, h4.output, q1, q2⟩
      · have hb : b = w.heap.size := by simpa [Value.ownBlock] using h3
        exact ⟨fun k hk hne => h4.block k hk (by simp), h4.size, h4.os, h4.tape, h4.output, fun j c _ hc => by have := (hin.blk_lt hc).1; omega, fun o u hu => by have := hin.pr_lt hu; omega⟩
    obtain ⟨f1, f2, f3, f4, f5, f6, f7⟩ := fr
    obtain ⟨hle, hi'⟩ := hin.rowPut (w' := w') (i := i0) (b := b) (C := C) (cs := cs ++ p.1) hf.1 hf.2 hs h0s hown2 f1 f2 f3 f4 f5 f6 f7 (by rw [ones_append, h1, s5]; rfl) (hcs.append s3)
    exact wp_val hrun' (hk _ _ _ hle (same_put (r8_self i0)) hi' (Rep.row hs hg h0s hnC hgs))
  have nil0 : ∀ (b : Nat), (Value.slice none 0 0).ownBlock = some b → (∀ j c, j ≠ i0 → blk G st j = some c → c ≠ b) ∧ ∀ o u, G.pr b o = some u → False := fun b hb => by simp [Value.ownBlock] at hb
  simp only [kopx] at hx
  split at hx
  · rename_i e' g' s' id off n he
    rw [he] at hr
    have hx2 := Option.some.inj hx
    clear hx
    split at hx2
    · rename_i hc0
      obtain ⟨rfl, rfl⟩ := hc0
      split at hx2
      · rename_i e2 s2 n2 cs hst
        split at hx2
        · rename_i hc1
          obtain ⟨rfl, rfl⟩ := hc1
          rw [Option.bind_eq_some_iff] at hx2
          obtain ⟨p, hp, hx2⟩ := hx2
          split at hx2
          · rename_i hc2
            obtain rfl := Option.some.inj hx2
            obtain ⟨b, NN, C, A, cc, hv, k1, k2, k3, k4, k5, k6, k7, k8, k9, k10⟩ := hr.sl_inv
            obtain ⟨v, vs, b', g1, g2, g3, g4, g5, g6, g7, g8⟩ := hinv.objs id _ hst
            rw [k2] at g1
            obtain rfl := Option.some.inj g1
            rw [hs] at g4
            obtain rfl := Option.some.inj g4
            have hNn : NN = n2 := by have := vlen_own g6; simpa [vlen] using this
            subst hNn
            obtain ⟨rfl, rfl⟩ := k9 rfl rfl
            subst hv
            have hbb : blk G st id = some b := by unfold blk; rw [hst]; exact k1
            refine main (upd st id none) NN cs vs p (hinv.drop id) (fun b2 hb2 => ?_) g6 g7 g8 hp hc2.1 hc2.2 (.inr (by simp [Value.ownBlock])) fun G' w' v h1 h2 h3 h4 => hK G' w' v h1 h2 (by simpa [upds] using h3) h4
            obtain rfl : b = b2 := by simpa [Value.ownBlock] using hb2
            refine ⟨fun j c hj hc hcb => ?_, fun o u hu => ?_⟩
            · subst hcb
              by_cases hjd : j = id
              · subst hjd; unfold blk at hc; simp [upd] at hc
              · have : blk G st j = some c := by unfold blk at hc ⊢; simpa [upd, hjd] using hc
                exact hjd (hinv.apart j id c this hbb)
            · obtain ⟨n, e, s, q, _⟩ := hinv.free id b hbb o u hu
              rw [hst] at q; cases q
          · cases hx2
        · cases hx2
      · cases hx2
    · cases hx2
  · rename_i e' he
    rw [he] at hr
    have hx2 := Option.some.inj hx
    clear hx
    rw [Option.bind_eq_some_iff] at hx2
    obtain ⟨p, hp, hx2⟩ := hx2
    obtain ⟨A, cc, hv, _, hn, _⟩ := hr.list_inv
    obtain ⟨_, rfl, rfl⟩ := hn rfl
    have hv : ux = .slice none 0 0 := hv
    split at hx2
    · rename_i hc2
      split at hx2
      · rename_i hm
        obtain rfl := Option.some.inj hx2
        obtain ⟨d, news, hd, hdd, s1, s2, s3, s4, s5⟩ := srcX_ok hinv hi hel hry hty hp
        rw [hm] at s1 s2 s4
        obtain ⟨v', w', hrun, _, hat, hm0⟩ := run_app w G.base t t' o.type e i z (uel_u hel) hd hdd hi hz hzs ux 0 [] (by rw [hv]; exact World.ownsRow_nil w G.base e i.size) uy 0 [] s1 (fun w' hw' => by simpa using s2 0 (Nat.le_refl _) w' hw') (by simp) (by simp) (by simp [maxLen]) (by simp) hinv.size
        have := hm0 rfl
        subst this
        have hw : w' = w := by
          have h2 : (Builtin.append_ #[t, t'] o.type #[v', uy]).run P w = .ok v' w := by
            rw [hv]
            have hf2 := s2 0 (Nat.le_refl _) w rfl
            simp only [Nat.zero_mul, List.take_zero] at hf2
            rcases hdd with ⟨e'', rfl⟩ | rfl <;> simp [Builtin.append_, run_underlying (uel_u hel), run_underlying hd, sizeOf, typeInfo, hi, s1, hf2]
          rw [hrun] at h2
          simpa using h2
        subst hw
        refine good_same hinv hK (v := v') ?_ hr
        refine run_builtin (f := Builtin.append_ c.argTypes o.type (c.args.map a.eval)) ho hc (fun k => rfl) ?_
        rw [hT, hA2]; exact hrun
      · rename_i hm
        obtain rfl := Option.some.inj hx2
        refine main st 0 [] [] p hinv (by rw [hv]; exact nil0) (by rw [hv]; exact World.ownsRow_nil w G.base e i.size) rfl .nil hp (by simpa using hc2.1) (by simpa using hc2.2) (.inl (by omega)) fun G' w' v h1 h2 h3 h4 => hK G' w' v h1 h2 (by simpa [upds] using h3) (by simpa using h4)
    · cases hx2
  · rename_i e' he
    rw [he] at hr
    have hx2 := Option.some.inj hx
    clear hx
    rw [Option.bind_eq_some_iff] at hx2
    obtain ⟨p, hp, hx2⟩ := hx2
    obtain ⟨A, hv⟩ := hr.emp_inv
    subst hv
    obtain ⟨d, news, hd, hdd, s1, s2, s3, s4, s5⟩ := srcX_ok hinv hi hel hry hty hp
    split at hx2
    · rename_i hc2
      split at hx2
      · rename_i hm
        obtain rfl := Option.some.inj hx2
        rw [hm] at s1 s2
        have hf2 := s2 0 (Nat.le_refl _) w rfl
        simp only [Nat.zero_mul, List.take_zero] at hf2
        have hrun : (Builtin.append_ #[t, t'] o.type #[.slice A 0 0, uy]).run P w = .ok (.slice A 0 0) w := by
          cases A with
          | none => rcases hdd with ⟨e'', rfl⟩ | rfl <;> simp [Builtin.append_, run_underlying (uel_u hel), run_underlying hd, sizeOf, typeInfo, hi, s1, hf2]
          | some ad => rcases hdd with ⟨e'', rfl⟩ | rfl <;> simp [Builtin.append_, run_underlying (uel_u hel), run_underlying hd, sizeOf, typeInfo, hi, s1, hf2, storeCells]
        refine good_same hinv hK (v := .slice A 0 0) ?_ hr
        refine run_builtin (f := Builtin.append_ c.argTypes o.type (c.args.map a.eval)) ho hc (fun k => rfl) ?_
        rw [hT, hA2]; exact hrun
      · rename_i hm
        obtain rfl := Option.some.inj hx2
        have hnl : news.length = p.2.1 * i.size := by rw [← s3.length, s4]
        obtain ⟨C, w', hrun, hC, hown', hgr⟩ := run_app0 w G.base t t' o.type e i z (uel_u hel) hd hdd hi hz hzs A uy p.2.1 news s1 (fun w' hw' => by
          have := s2 p.2.1 (Nat.le_refl _) w' hw'
          rwa [List.take_of_length_le (by omega)] at this) hnl (by simp only [maxLen]; exact hc2.2) hc2.1 hinv.size hm
        obtain ⟨hle, hi'⟩ := hinv.rowPut (w' := w') (i := i0) (b := w.heap.size) (C := C) (cs := p.1) hf.1 hf.2 hs h0s hown' (fun k hk hne => hgr.block k hk (by simp)) hgr.size hgr.os hgr.tape hgr.output (fun j c _ hc => by have := (hinv.blk_lt hc).1; omega) (fun o u hu => by have := hinv.pr_lt hu; omega) s5 s3
        refine wp_val ?_ (hK _ _ _ hle (same_put (r8_self i0)) (by simpa [upds] using hi') (Rep.row hs hg h0s hC hgs))
        refine run_builtin (f := Builtin.append_ c.argTypes o.type (c.args.map a.eval)) ho hc (fun k => rfl) ?_
        rw [hT, hA2]; exact hrun
    · cases hx2
  · cases hx
end
section
variable {P : Program} {G G' : Gh} {st : St} {w w' : World} {a : Act} {tm : Nat → V} {N i0 nx' : Nat} {o : Oper} {K : Act → World → Prop} {Q : Exit → Act → World → Prop} {E : Env}
/-- New cells are laid over a part of an object. -/
theorem put_cells (hinv : Inv P G st w) {id b off : Nat} {cs ns : List V} {news : List Value} {ob : Ob} (hcs : obCells (st id) = some cs) (hb : G.bx id = some b) (hob : obSet (st id) (cs.take off ++ ns ++ cs.drop (off + ns.length)) = some ob) (hl : off + ns.length ≤ cs.length) (h1 : ones ns = true) (hr : All2 (Rep P G) ns news) :
    ∃ w', (storeCells ⟨b, off, none⟩ news 0).run P w = .ok () w' ∧ Inv P G (upd st id (some ob)) w' := by
  have hnl := hr.length
  cases hs : st id with
  | none => rw [hs] at hcs; simp [obCells] at hcs
  | some o0 =>
    rw [hs] at hcs hob
    have ho := hinv.objs id o0 hs
    cases o0 with
    | cells c =>
      simp only [obCells, Option.some.injEq] at hcs; subst hcs
      simp only [obSet, Option.some.injEq] at hob; subst hob
      obtain ⟨b', arr, T, g1, g2, g3, g4, g5⟩ := ho
      rw [hb] at g1
      obtain rfl := Option.some.inj g1
      have hla := g5.length
      simp only [Array.length_toList] at hla
      have hst := run_storeCells_at P b off T news 0 arr w g3 (by omega) (ones_vals hr h1)
      simp only [Nat.add_zero] at hst
      refine ⟨_, hst, hinv.set id _ _ b hs hb (by simp) (by simp) g2 (fun k hk => setRow_other w b k _ hk) (by simp) rfl rfl rfl ⟨b, _, T, hb, g2, setRow_heap w b arr _ T (0, 0) g3, ?_, ?_⟩⟩
      · rw [ones_append, ones_append, ones_take g4, h1, ones_drop g4]; rfl
      · rw [← hnl]; exact ((g5.take off).append hr).append (g5.drop _)
    | row e s n c =>
      simp only [obCells, Option.some.injEq] at hcs; subst hcs
      simp only [obSet, Option.some.injEq] at hob; subst hob
      obtain ⟨v, vs, b', g1, g2, g3, g4, g5, g6, g7, g8⟩ := ho
      rw [hb] at g3
      obtain rfl := Option.some.inj g3
      have hla := g8.length
      obtain ⟨w', hst, k1, k2, k3, k4, k5, k6⟩ := own_store (P := P) (off := off) g6 g2 (by omega) (ones_vals hr h1)
      refine ⟨w', hst, hinv.set id _ _ b hs hb (by simp) (by simp) (g6.lt b g2).1 k2 k3 k4 k5 k6 ⟨v, _, b, g1, g2, hb, g4, g5, k1, ?_, ?_⟩⟩
      · rw [ones_append, ones_append, ones_take g7, h1, ones_drop g7]; rfl
      · rw [← hnl]; exact ((g8.take off).append hr).append (g8.drop _)
    | frz ds => simp [obSet] at hob
    | _ => simp [obCells] at hcs
theorem y_cpy (hgl : GlOK P E.gl G.pr) (hinv : Inv P G st w) (ht : TmR P G N tm a) {c : Call} {t t' e s : TypeId} {l : Bool} {xa ya : A} {r : R} (ho : o.op = .call c) (hc : c.callee = .builtin .copy) (hts : c.argTypes.toList = [t, t']) (h0 : c.args.toList.mapM (ca E.gl) = some [xa, ya])
    (hel : uel P t = some e) (hs : usz P e = some s) (hty : (l = true ∧ t' = t) ∨ (l = false ∧ isStr P t' = true ∧ isU8 P e = true ∧ s = 1))
    (hx : kopx E tm st i0 (.cpy e s l xa ya) = some (some r)) (hK : Good P G st i0 nx' a o K Q r) : o.wp P a w K Q := by
  have hA := cas_rep hgl ht h0
  have hA2 := args_arr (a := a) (c := c) rfl
  generalize c.args.toList.map a.eval = us at hA hA2
  cases hA with
  | cons hr hA =>
  cases hA with
  | cons hry hA =>
  cases hA
  rename_i ux uy
  have hT := arr_of_list hts
  obtain ⟨i, hi, hsi⟩ := usz_info hs
  subst hsi
  simp only [kopx] at hx
  split at hx
  · rename_i e' g' s' id off n he
    rw [he] at hr
    have hx2 := Option.some.inj hx
    clear hx
    split at hx2
    · rename_i hee
      subst hee
      rw [Option.bind_eq_some_iff] at hx2
      obtain ⟨p, hp, hx2⟩ := hx2
      rw [Option.bind_eq_some_iff] at hx2
      obtain ⟨cs, hcs, hx2⟩ := hx2
      split at hx2
      · rename_i hl
        rw [Option.map_eq_some_iff] at hx2
        obtain ⟨ob, hob, rfl⟩ := hx2
        obtain ⟨b, NN, C, A, cc, hv, k1, k2, k3, k4, k5, k6, k7, k8, k9, k10⟩ := hr.sl_inv
        rw [hs] at k3
        obtain rfl := Option.some.inj k3
        obtain ⟨d, news, hd, hdd, s1, s2, s3, s4, s5⟩ := srcX_ok hinv hi hel hry hty hp
        have hm1 : min p.2.1 n * i.size ≤ p.2.1 * i.size := Nat.mul_le_mul_right _ (Nat.min_le_left _ _)
        have hm2 : min p.2.1 n * i.size ≤ n * i.size := Nat.mul_le_mul_right _ (Nat.min_le_right _ _)
        have hmul : (off + n) * i.size = off * i.size + n * i.size := Nat.add_mul _ _ _
        have hmul2 : (off + min p.2.1 n) * i.size = off * i.size + min p.2.1 n * i.size := Nat.add_mul _ _ _
        have htl : (p.1.take (min p.2.1 n * i.size)).length = min p.2.1 n * i.size := by rw [List.length_take]; omega
        rw [hmul2, show off * i.size + min p.2.1 n * i.size = off * i.size + (p.1.take (min p.2.1 n * i.size)).length by rw [htl]] at hob
        obtain ⟨w', hst, hinv'⟩ := put_cells hinv hcs k1 hob (by rw [htl]; omega) (ones_take s5 _) (s3.take _)
        have hcells := s2 (min p.2.1 n) (Nat.min_le_left _ _) w rfl
        have hrun : (execOp a.eval o).run P w = .ok (.value (.int .i64 (min p.2.1 n : Nat))) w' := by
          refine run_builtin (f := Builtin.copy_ c.argTypes o.type (c.args.map a.eval)) ho hc (fun k => rfl) ?_
          rw [hT, hA2, hv]
          have hz : (storeCells ⟨b, off * i.size, none⟩ (news.take (min p.2.1 n * i.size)).toArray.toList 0).run P w = .ok () w' := by simpa using hst
          by_cases hn : 0 < n
          · have hA3 := k8 hn
            subst hA3
            simp only [Builtin.copy_, List.getElem?_toArray, List.getElem?_cons_zero, List.getElem?_cons_succ, Sem.run_bind, run_underlying (uel_u hel), Result.andThen_ok, s1, run_size hs]
            rw [show Nat.min p.2.1 n = min p.2.1 n from rfl, hcells]
            simp only [Result.andThen_ok, hz, goInt, Sem.run_bind, Sem.run_pure]
          · have : n = 0 := by omega
            subst this
            simp only [Nat.min_zero, Nat.zero_mul, List.take_zero] at hcells hz ⊢
            have hw : w = w' := by simpa [storeCells] using hz
            subst hw
            cases A with
            | none => simp [Builtin.copy_, run_underlying (uel_u hel), s1, run_size hs, show Nat.min p.2.1 0 = 0 from Nat.min_zero _, hcells, goInt]
            | some ad => simp [Builtin.copy_, run_underlying (uel_u hel), s1, run_size hs, show Nat.min p.2.1 0 = 0 from Nat.min_zero _, hcells, goInt, storeCells]
        exact wp_val hrun (hK G w' _ (.refl G) (.refl G _) (by simpa [upds] using hinv') (.pure (.sc _)))
      · cases hx2
    · cases hx2
  · cases hx
theorem y_asl (hgl : GlOK P E.gl G.pr) (hinv : Inv P G st w) (ht : TmR P G N tm a) (hfr : Fresh G (R8 i0)) {t el s : TypeId} {n : Nat} {g : Bool} {x : Operand} {xa : A} {r : R} (ho : o.op = .slice t x none none none) (h0 : ca E.gl x = some xa) (hu : P.underlying t = some (.array n el)) (hs : usz P el = some s) (hg : uagg P el = some g) (hs0 : 0 < s) (hgs : g = false → s = 1)
    (hx : kopx E tm st i0 (.asl el g s n xa) = some (some r)) (hK : Good P G st i0 nx' a o K Q r) : o.wp P a w K Q := by
  have hr := ca_rep hgl ht h0
  simp only [kopx] at hx
  split at hx
  · rename_i id off he
    rw [he] at hr
    have hx2 := Option.some.inj hx
    clear hx
    split at hx2
    · rename_i cs hst
      split at hx2
      · rename_i hc
        obtain ⟨rfl, c2, c3⟩ := hc
        obtain rfl := Option.some.inj hx2
        obtain ⟨b, hv, hb⟩ := hr.ptr_inv
        obtain ⟨b', ar, T, g1, g2, g3, g4, g5⟩ := hinv.objs id _ hst
        rw [hb] at g1
        obtain rfl := Option.some.inj g1
        have hf := hfr i0 (r8_self i0)
        have hrun : (execOp a.eval o).run P w = .ok (.value (.slice (some ⟨b, 0, none⟩) n n)) w := by
          simp only [execOp, ho, hv, Option.map_none]
          rw [Sem.run_bind]
          have : (Instr.sliceAt t (.pointer (some ⟨b, 0, none⟩)) none none none).run P w = .ok (.slice (some ⟨b, 0, none⟩) n n) w := by
            simp [Instr.sliceAt, run_underlying hu, Instr.sliceBounds, run_size hs, Instr.sureAddr, blk_add]
          rw [this]
          rfl
        have hle := G.put_le (b := b) (v := .slice (some ⟨b, 0, none⟩) n n) hf.1 hf.2
        have hd := hinv.drop id
        have hbb : blk G st id = some b := by unfold blk; rw [hst]; exact hb
        have hap : ∀ j c, j ≠ i0 → blk G (upd st id none) j = some c → c ≠ b := fun j c hj hc hcb => by
          subst hcb
          by_cases hjd : j = id
          · subst hjd; unfold blk at hc; simp [upd] at hc
          · have : blk G st j = some c := by unfold blk at hc ⊢; simpa [upd, hjd] using hc
            exact hjd (hinv.apart j id c this hbb)
        have hnp : ∀ o u, G.pr b o = some u → False := fun o u hu => by
          obtain ⟨n, e, s, q, _⟩ := hinv.free id b hbb o u hu
          rw [hst] at q; cases q
        have hblk : ∀ c, blk (G.put i0 b (.slice (some ⟨b, 0, none⟩) n n)) (upd (upd st id none) i0 (some (.cells cs))) i0 = some c → c = b := fun c hc => by
          unfold blk at hc; simp [upd, Gh.put] at hc; exact hc.symm
        have hi' : Inv P (G.put i0 b (.slice (some ⟨b, 0, none⟩) n n)) (upd (upd st id none) i0 (some (.cells cs))) w := by
          refine hd.go hle (Below.refl _ _) hinv.prot i0 (fun j hj => by simp [upd, hj]) (fun j hj => by simp [Gh.put, upd, hj]) (fun j hj => by simp [Gh.put, upd, hj]) (fun _ _ _ _ => rfl) (fun ob hob => ?_) (fun j c hj hc hc' => hap j c hj hc (hblk c hc')) (fun c hc o v hv => ?_) (fun _ _ _ _ _ _ q => q)
          · simp [upd] at hob; subst hob
            exact ⟨b, ar, T, by simp [Gh.put, upd], g2, g3, g4, g5.rep_mono hle⟩
          · have := hblk c hc
            subst this
            exact (hnp o v hv).elim
        exact wp_val hrun (hK _ _ _ hle (same_put (r8_self i0)) (by simpa [upds] using hi') (Rep.row hs hg hs0 (Nat.le_refl _) hgs))
      · cases hx2
    · cases hx2
  · cases hx
end
section
variable {P : Program} {G G' : Gh} {st : St} {w w' : World} {a : Act} {tm : Nat → V} {N i0 nx' : Nat} {o : Oper} {K : Act → World → Prop} {Q : Exit → Act → World → Prop} {E : Env}
/-- An object whose cells are pure never turns from here on. -/
theorem Inv.freeze (h : Inv P G st w) {id : Nat} {cs ds : List V} (hc : st id = some (.cells cs) ∨ ∃ e s n, st id = some (.row e s n cs)) (hd : cs.mapM V.pur1? = some ds) :
    ∃ G', G.le G' ∧ G'.bx = G.bx ∧ G'.tl = G.tl ∧ Inv P G' (upd st id (some (.frz ds))) w := by
  have hoc : obCells (st id) = some cs := by
    rcases hc with hc | ⟨e, s, n, hc⟩ <;> rw [hc] <;> rfl
  obtain ⟨b, vs, k1, k2, k3, k4⟩ := ob_cells h hoc
  have hbb : blk G st id = some b := by
    unfold blk
    rcases hc with hc | ⟨e, s, n, hc⟩ <;> rw [hc] <;> exact k1
  have hnp : ∀ o u, G.pr b o = some u → False := fun o u hu => by
    obtain ⟨n, e, s, q, _⟩ := h.free id b hbb o u hu
    rcases hc with hc | ⟨_, _, _, hc⟩ <;> (rw [hc] at q; cases q)
  have hbase := (h.blk_lt hbb).2
  have hle : G.le { G with pr := fun c o => if c = b then vs[o]? else G.pr c o } := ⟨rfl, rfl, fun c o v q => by
    show (if _ then _ else _) = _
    rw [if_neg (fun e => by subst e; exact hnp o v q)]; exact q, fun _ _ q => q, fun t v q => ⟨v, q, Nat.le_refl _, fun _ => rfl, fun _ => rfl⟩, fun c o hco => if_neg (by omega)⟩
  refine ⟨_, hle, rfl, rfl, h.go hle (Below.refl _ _) (fun c o v hv => ?_) id (fun j hj => by simp [upd, hj]) (fun _ _ => rfl) (fun _ _ => rfl) (fun _ _ _ _ => rfl) (fun ob hob => ?_) (fun j c hj hc2 hc' => ?_) (fun c hc2 => ?_) (fun j c hj hc2 o v hv => ?_)⟩
  · have hv2 : (if c = b then vs[o]? else G.pr c o) = some v := hv
    by_cases e : c = b
    · rw [if_pos e] at hv2; subst e; exact k4 o v hv2
    · rw [if_neg e] at hv2; exact h.prot c o v hv2
  · simp [upd] at hob; subst hob
    refine ⟨b, vs, k1, pur1_ones hd k2, All2.trans2 (S := Rep P G) (T := RepP P _) (fun x y z hx hz => (rep_pur1 hz hx).mono hle.pr) (mapM_some hd) k3, fun j u hu => ?_⟩
    show (if _ then _ else _) = _
    rw [if_pos rfl]; exact hu
  · unfold blk at hc'; simp [upd] at hc'
  · unfold blk at hc2; simp [upd] at hc2
  · have hv2 : (if c = b then vs[o]? else G.pr c o) = some v := hv
    rwa [if_neg (fun e => by subst e; exact hj (h.apart j id c hc2 hbb))] at hv2
theorem chunk_len (g : Bool) (s : Nat) : ∀ (n : Nat) (l : List V), (chunk g s n l).length = n
  | 0, l => rfl
  | n + 1, l => by rw [chunk, List.length_cons, chunk_len]
theorem chunk_flat {g : Bool} {s : Nat} (hs : g = false → s = 1) : ∀ (n : Nat) (l : List V), n * s ≤ l.length → (∀ x ∈ l, x.one = true) → (chunk g s n l).flatMap V.cells = l.take (n * s) ∧ ∀ x ∈ chunk g s n l, x.cells.length = s
  | 0, l, _, _ => by simp [chunk]
  | n + 1, l, hl, h1 => by
    have hmul : (n + 1) * s = s + n * s := by rw [Nat.succ_mul, Nat.add_comm]
    obtain ⟨e1, e2⟩ := chunk_flat hs n (l.drop s) (by rw [List.length_drop]; omega) fun x hx => h1 x (List.mem_of_mem_drop hx)
    have hd : (if g then V.agg (l.take s) else l.headD default).cells = l.take s := by
      cases g with
      | true => rfl
      | false =>
        have h2 := hs rfl
        subst h2
        cases l with
        | nil => simp at hl
        | cons x l =>
          have := h1 x (by simp)
          simp only [List.headD_cons, Bool.false_eq_true, if_false]
          cases x <;> first | rfl | (simp [V.one] at this)
    rw [chunk]
    refine ⟨?_, fun x hx => ?_⟩
    · rw [List.flatMap_cons, hd, e1, hmul, List.take_add]
    · rcases List.mem_cons.1 hx with rfl | hx
      · rw [hd, List.length_take]; omega
      · exact e2 x hx
theorem frz_list (h : Inv P G st w) {e : TypeId} {g : Bool} {s id off n : Nat} {u : Value} {ds : List V} (hr : Rep P G (.sl e g s id off n) u) (hf : st id = some (.frz ds)) (hl : (off + n) * s ≤ ds.length) : RepP P G.pr (.list e (chunk g s n (ds.drop (off * s))) 0) u := by
  obtain ⟨b, N, C, A, c, rfl, h1, h2, h3, h4, h5, h6, h7, h8, h9, h10⟩ := hr.sl_inv
  obtain ⟨b', vs, k1, k2, k3, k4⟩ := h.objs id _ hf
  rw [h1] at k1
  obtain rfl := Option.some.inj k1
  have hmul : (off + n) * s = off * s + n * s := Nat.add_mul _ _ _
  have hvl := k3.length
  obtain ⟨e1, e2⟩ := chunk_flat h10 n (ds.drop (off * s)) (by rw [List.length_drop]; omega) fun x hx => by obtain ⟨i, hi⟩ := List.getElem?_of_mem hx; exact ones_get (ones_drop k2 _) hi
  refine .list (vs := (vs.drop (off * s)).take (n * s)) (chunk_len _ _ _ _) h7 (.inl rfl) (fun s' hs' x hx => by rw [h3] at hs'; obtain rfl := Option.some.inj hs'; exact e2 x hx) (by rw [e1]; exact ones_take (ones_drop k2 _) _) (fun hne => ⟨_, h8 ?_, fun j u hu => ?_⟩) (.of (by rw [e1]; exact (k3.drop _).take _))
  · rcases Nat.eq_zero_or_pos n with hn | hn
    · subst hn; simp at hne
    · exact hn
  · rw [List.getElem?_take] at hu
    split at hu
    · rw [List.getElem?_drop] at hu
      rw [blk_add]
      exact ⟨rfl, k4 _ u hu⟩
    · cases hu
theorem frz1_sound (h : Inv P G st w) {v y : V} {u : Value} {δ : List (Nat × Option Ob)} (hr : Rep P G v u) (hx : frz1 st v = some (y, δ)) : ∃ G', G.le G' ∧ G'.bx = G.bx ∧ G'.tl = G.tl ∧ Inv P G' (upds δ st) w ∧ RepP P G'.pr y u := by
  have pure : ∀ v, Rep P G v u → v.pur1?.map (fun u => (u, ([] : List (Nat × Option Ob)))) = some (y, δ) → ∃ G', G.le G' ∧ G'.bx = G.bx ∧ G'.tl = G.tl ∧ Inv P G' (upds δ st) w ∧ RepP P G'.pr y u := fun v hr hx => by
    rw [Option.map_eq_some_iff] at hx
    obtain ⟨z, hz, hx⟩ := hx
    simp only [Prod.mk.injEq] at hx
    obtain ⟨rfl, rfl⟩ := hx
    exact ⟨G, .refl G, rfl, rfl, h, rep_pur1 hr hz⟩
  unfold frz1 at hx
  split at hx
  · rename_i e g s id off n
    rw [Option.bind_eq_some_iff] at hx
    obtain ⟨p, hp, hx⟩ := hx
    split at hx
    · rename_i hl
      simp only [Option.some.injEq, Prod.mk.injEq] at hx
      obtain ⟨rfl, rfl⟩ := hx
      have two : ∀ cs, (st id = some (.cells cs) ∨ ∃ e s n, st id = some (.row e s n cs)) → (cs.mapM V.pur1?).map (fun ds => (ds, [(id, some (Ob.frz ds))])) = some p → ∃ G', G.le G' ∧ G'.bx = G.bx ∧ G'.tl = G.tl ∧ Inv P G' (upds p.2 st) w ∧ RepP P G'.pr (.list e (chunk g s n (p.1.drop (off * s))) 0) u := fun cs hc hp => by
        rw [Option.map_eq_some_iff] at hp
        obtain ⟨ds, hds, rfl⟩ := hp
        obtain ⟨G', g1, g2, g3, g4⟩ := h.freeze hc hds
        exact ⟨G', g1, g2, g3, by simpa [upds] using g4, frz_list g4 (hr.mono g1) (by simp [upd]) hl⟩
      split at hp
      · rename_i e2 s2 n2 cs hs; exact two cs (.inr ⟨_, _, _, hs⟩) hp
      · rename_i cs hs; exact two cs (.inl hs) hp
      · rename_i ds hs
        obtain rfl := Option.some.inj hp
        exact ⟨G, .refl G, rfl, rfl, h, frz_list h hr hs hl⟩
      · cases hp
    · cases hx
  · rename_i e
    simp only [Option.some.injEq, Prod.mk.injEq] at hx
    obtain ⟨rfl, rfl⟩ := hx
    obtain ⟨A, rfl⟩ := hr.emp_inv
    exact ⟨G, .refl G, rfl, rfl, h, .list (vs := []) rfl (Nat.le_refl _) (.inl rfl) (by simp) (by simp [ones]) (by simp) .nil⟩
  · exact pure _ hr hx
theorem frzs_sound : ∀ {vs ys : List V} {us : List Value} {δ : List (Nat × Option Ob)} {G : Gh} {st : St}, Inv P G st w → All2 (Rep P G) vs us → frzs st vs = some (ys, δ) → ∃ G', G.le G' ∧ G'.bx = G.bx ∧ G'.tl = G.tl ∧ Inv P G' (upds δ st) w ∧ All2 (RepP P G'.pr) ys us
  | [], ys, us, δ, G, st, h, hr, hx => by
    cases hr
    simp only [frzs, Option.some.injEq, Prod.mk.injEq] at hx
    obtain ⟨rfl, rfl⟩ := hx
    exact ⟨G, .refl G, rfl, rfl, h, .nil⟩
  | v :: vs, ys, us, δ, G, st, h, hr, hx => by
    cases hr with
    | cons h1 h2 =>
      simp only [frzs, Option.bind_eq_some_iff, Option.map_eq_some_iff] at hx
      obtain ⟨⟨y, δ1⟩, hp, ⟨ys', δ2⟩, hq, hx⟩ := hx
      simp only [Prod.mk.injEq] at hx
      obtain ⟨rfl, rfl⟩ := hx
      obtain ⟨G1, g1, g2, g3, g4, g5⟩ := frz1_sound h h1 hp
      obtain ⟨G2, k1, k2, k3, k4, k5⟩ := frzs_sound g4 (h2.mono fun _ _ => Rep.mono g1) hq
      exact ⟨G2, g1.trans k1, k2.trans g2, k3.trans g3, by rw [upds_append]; exact k4, .cons (g5.mono k1.pr) k5⟩
theorem frz1_one {v y : V} {δ : List (Nat × Option Ob)} (h1 : v.one = true) (hx : frz1 st v = some (y, δ)) : y.one = true := by
  have pure : v.pur1?.map (fun u => (u, ([] : List (Nat × Option Ob)))) = some (y, δ) → y.one = true := fun hx => by
    rw [Option.map_eq_some_iff] at hx
    obtain ⟨z, hz, hx⟩ := hx
    simp only [Prod.mk.injEq] at hx
    obtain ⟨rfl, rfl⟩ := hx
    rcases pur1_one hz with h | ⟨v', rfl, rfl⟩
    · exact h
    · exact h1
  unfold frz1 at hx
  split at hx
  · rw [Option.bind_eq_some_iff] at hx
    obtain ⟨p, hp, hx⟩ := hx
    split at hx
    · simp only [Option.some.injEq, Prod.mk.injEq] at hx
      obtain ⟨rfl, rfl⟩ := hx; rfl
    · cases hx
  · simp only [Option.some.injEq, Prod.mk.injEq] at hx
    obtain ⟨rfl, rfl⟩ := hx; rfl
  · exact pure hx
theorem frzs_ones : ∀ {vs ys : List V} {δ : List (Nat × Option Ob)} {st : St}, ones vs = true → frzs st vs = some (ys, δ) → ones ys = true
  | [], ys, δ, st, _, hx => by simp only [frzs, Option.some.injEq, Prod.mk.injEq] at hx; rw [← hx.1]; rfl
  | v :: vs, ys, δ, st, h1, hx => by
    simp only [frzs, Option.bind_eq_some_iff, Option.map_eq_some_iff] at hx
    obtain ⟨⟨y, δ1⟩, hp, ⟨ys', δ2⟩, hq, hx⟩ := hx
    simp only [Prod.mk.injEq] at hx
    obtain ⟨rfl, rfl⟩ := hx
    simp only [ones, List.all_cons, Bool.and_eq_true] at h1 ⊢
    exact ⟨frz1_one h1.1 hp, frzs_ones h1.2 hq⟩
theorem frzV_sound (h : Inv P G st w) {v y : V} {u : Value} {δ : List (Nat × Option Ob)} (hr : Rep P G v u) (hx : frzV st v = some (y, δ)) : ∃ G', G.le G' ∧ G'.bx = G.bx ∧ G'.tl = G.tl ∧ Inv P G' (upds δ st) w ∧ RepP P G'.pr y u := by
  unfold frzV at hx
  split at hx
  · rename_i cs
    rw [Option.map_eq_some_iff] at hx
    obtain ⟨⟨ys, δ1⟩, hp, hx⟩ := hx
    simp only [Prod.mk.injEq] at hx
    obtain ⟨rfl, rfl⟩ := hx
    obtain ⟨us, rfl, h1, h2⟩ := hr.agg_inv
    obtain ⟨G', g1, g2, g3, g4, g5⟩ := frzs_sound h h2 hp
    exact ⟨G', g1, g2, g3, g4, .agg (frzs_ones h1 hp) (.of g5)⟩
  · exact frz1_sound h hr hx
theorem frzA_sound : ∀ {vs ys : List V} {us : List Value} {δ : List (Nat × Option Ob)} {G : Gh} {st : St}, Inv P G st w → All2 (Rep P G) vs us → frzA st vs = some (ys, δ) → ∃ G', G.le G' ∧ G'.bx = G.bx ∧ G'.tl = G.tl ∧ Inv P G' (upds δ st) w ∧ All2 (RepP P G'.pr) ys us
  | [], ys, us, δ, G, st, h, hr, hx => by
    cases hr
    simp only [frzA, Option.some.injEq, Prod.mk.injEq] at hx
    obtain ⟨rfl, rfl⟩ := hx
    exact ⟨G, .refl G, rfl, rfl, h, .nil⟩
  | v :: vs, ys, us, δ, G, st, h, hr, hx => by
    cases hr with
    | cons h1 h2 =>
      simp only [frzA, Option.bind_eq_some_iff, Option.map_eq_some_iff] at hx
      obtain ⟨⟨y, δ1⟩, hp, ⟨ys', δ2⟩, hq, hx⟩ := hx
      simp only [Prod.mk.injEq] at hx
      obtain ⟨rfl, rfl⟩ := hx
      obtain ⟨G1, g1, g2, g3, g4, g5⟩ := frzV_sound h h1 hp
      obtain ⟨G2, k1, k2, k3, k4, k5⟩ := frzA_sound g4 (h2.mono fun _ _ => Rep.mono g1) hq
      exact ⟨G2, g1.trans k1, k2.trans g2, k3.trans g3, by rw [upds_append]; exact k4, .cons (g5.mono k1.pr) k5⟩
theorem frzH_sound : ∀ {vs ys : List V} {us : List Value} {δ : List (Nat × Option Ob)} {G : Gh} {st : St}, Inv P G st w → All2 (Rep P G) vs us → frzH st vs = some (ys, δ) → ∃ G', G.le G' ∧ G'.bx = G.bx ∧ G'.tl = G.tl ∧ Inv P G' (upds δ st) w ∧ All2 (Rep P G') ys us
  | [], ys, us, δ, G, st, h, hr, hx => by
    cases hr
    simp only [frzH, Option.some.injEq, Prod.mk.injEq] at hx
    obtain ⟨rfl, rfl⟩ := hx
    exact ⟨G, .refl G, rfl, rfl, h, .nil⟩
  | v :: vs, ys, us, δ, G, st, h, hr, hx => by
    cases hr with
    | cons h1 h2 =>
      unfold frzH at hx
      split at hx
      · simp only [Option.bind_eq_some_iff, Option.map_eq_some_iff] at hx
        obtain ⟨⟨y, δ1⟩, hp, ⟨ys', δ2⟩, hq, hx⟩ := hx
        simp only [Prod.mk.injEq] at hx
        obtain ⟨rfl, rfl⟩ := hx
        obtain ⟨G1, g1, g2, g3, g4, g5⟩ := frzV_sound h h1 hp
        obtain ⟨G2, k1, k2, k3, k4, k5⟩ := frzH_sound g4 (h2.mono fun _ _ => Rep.mono g1) hq
        exact ⟨G2, g1.trans k1, k2.trans g2, k3.trans g3, by rw [upds_append]; exact k4, .cons (.pure (g5.mono k1.pr)) k5⟩
      · simp only [Option.map_eq_some_iff] at hx
        obtain ⟨⟨ys', δ2⟩, hq, hx⟩ := hx
        simp only [Prod.mk.injEq] at hx
        obtain ⟨rfl, rfl⟩ := hx
        obtain ⟨G2, k1, k2, k3, k4, k5⟩ := frzH_sound h h2 hq
        exact ⟨G2, k1, k2, k3, k4, .cons (h1.mono k1) k5⟩
end
section
variable {P : Program} {G G' : Gh} {st : St} {w w' : World} {a : Act} {tm : Nat → V} {N i0 nx' : Nat} {o : Oper} {K : Act → World → Prop} {Q : Exit → Act → World → Prop} {E : Env}
theorem y_pl (hP : ProgOK P) (hE : EnvOK P E) (hgl : GlOK P E.gl G.pr) (hinv : Inv P G st w) (ht : TmR P G N tm a) (hfr : Fresh G (R8 i0)) (h8 : 8 ≤ i0) {c : Call} {f : FuncId} {as : List A} {r : R} (ho : o.op = .call c) (hc : c.callee = .value (.func f)) (hnb : nobody P f = false) (h0 : c.args.toList.mapM (ca E.gl) = some as)
    (hx : kopx E tm st i0 (.pl f as) = some (some r)) (hK : Good P G st i0 nx' a o K Q r) : o.wp P a w K Q := by
  have hA := cas_rep hgl ht h0
  generalize hg : c.args.toList.map a.eval = ras at hA
  simp only [kopx] at hx
  split at hx
  · have hx2 := Option.some.inj hx
    clear hx
    rw [Option.bind_eq_some_iff] at hx2
    obtain ⟨p, hp, hx2⟩ := hx2
    split at hx2
    · rename_i y hh
      obtain rfl := Option.some.inj hx2
      obtain ⟨G1, g1, g2, g3, g4, g5⟩ := frzA_sound hinv hA hp
      have henter := run_call (P := P) ho hc (us := []) (ws := []) (g := f) rfl hg (run_callFunc_enter hP hnb ([] ++ ras ++ []).toArray w)
      rw [List.nil_append, List.append_nil] at henter
      unfold Oper.wp
      rw [henter]
      refine (hE.pl f p.1 _ hnb hh G1.pr _ w (fun g x h => (hgl g x h).mono g1.pr) g4.prot g5).mono fun e w' he => ?_
      obtain ⟨v, p', rfl, hb, hext, hret⟩ := he
      obtain ⟨q1, q2⟩ := g4.grow hb hext
      obtain ⟨G', k1, k2, k3, k4⟩ := own_sound (G := { G1 with pr := p' }) h8 hret (fun k hk => ⟨by show G1.bx k = none; rw [g2]; exact (hfr k hk).1, by show G1.tl k = none; rw [g3]; exact (hfr k hk).2⟩) q2 g4.size (fun k b hk => (g4.blk_lt (i := k) hk).1)
      refine hK G' w' v (g1.trans (q1.trans k1)) (fun k hk => ?_) (by rw [upds_append]; exact k3) k4
      have := k2 k hk
      exact ⟨fun h => this.1 (by show G1.bx k = none; rw [g2]; exact h), fun h => this.2 (by show G1.tl k = none; rw [g3]; exact h)⟩
    · cases hx2
  · cases hx
theorem yop_sound (hP : ProgOK P) (hE : EnvOK P E) (hgl : GlOK P E.gl G.pr) (hinv : Inv P G st w) (ht : TmR P G N tm a) (hfr : Fresh G (R8 i0)) (h8 : 8 ≤ i0) {r : R} (hx : yop P E tm st i0 o = some (some r)) (hK : Good P G st i0 nx' a o K Q r) : o.wp P a w K Q := by
  unfold yop at hx
  split at hx
  · cases hx
  rw [Option.bind_eq_some_iff] at hx
  obtain ⟨kx, hck, hx⟩ := hx
  cases ho : o.op with
  | makeSlice t n c =>
    simp only [ckx, ho, Option.bind_eq_some_iff] at hck
    obtain ⟨na, hn, ca', hc, e, he, s, hs, g, hg, i, hi, z, hz, hck⟩ := hck
    split at hck
    · rename_i hcc
      obtain rfl := Option.some.inj hck
      exact y_mks hgl hinv ht hfr ho hn hc he hs hg hi hz hcc.1 hcc.2.1 hcc.2.2.1 hcc.2.2.2 hx hK
    · cases hck
  | buildSlice t n ps =>
    simp only [ckx, ho, Option.bind_eq_some_iff] at hck
    obtain ⟨vs, hvs, e, he, s, hs, g, hg, hck⟩ := hck
    split at hck
    · rename_i hcc
      obtain ⟨c1, c2, c3, c4, c5, c6⟩ := hcc
      obtain rfl := Option.some.inj hck
      exact y_lit hgl hinv ht hfr ho hvs he hs hg c1 c2 c3 c4 c5 c6 hx hK
    · cases hck
  | indexAddr t x i =>
    simp only [ckx, ho, Option.bind_eq_some_iff, Option.map_eq_some_iff] at hck
    obtain ⟨xa, h0, ia, h1, el, hel, rfl⟩ := hck
    exact y_ix hgl hinv ht ho h0 h1 hel hx hK
  | slice t x lo hi mx =>
    simp only [ckx, ho, Option.bind_eq_some_iff] at hck
    obtain ⟨xa, h0, hck⟩ := hck
    split at hck
    · rename_i el hu
      split at hck
      · simp only [Option.bind_eq_some_iff, Option.map_eq_some_iff] at hck
        obtain ⟨la, hl, ha, hh, rfl⟩ := hck
        exact y_sll hgl hinv ht ho h0 hl hh hu hx hK
      · split at hck
        · split at hck
          · rename_i hcc
            simp only [Bool.and_eq_true] at hcc
            obtain rfl := Option.some.inj hck
            exact y_sl0 hgl hinv ht ho h0 hcc.1.1 hcc.1.2 hcc.2 hu hx hK
          · cases hck
        · cases hck
    · rename_i n el hu
      split at hck
      · simp only [Option.bind_eq_some_iff] at hck
        obtain ⟨s, hs, g, hg, hck⟩ := hck
        split at hck
        · rename_i hcc
          obtain rfl := Option.some.inj hck
          exact y_asl hgl hinv ht hfr ho h0 hu hs hg hcc.1 hcc.2 hx hK
        · cases hck
      · cases hck
    · cases hck
  | convert s d x =>
    simp only [ckx, ho, Option.bind_eq_some_iff] at hck
    obtain ⟨xa, h0, hck⟩ := hck
    split at hck
    · rename_i e hs hd
      split at hck
      · rename_i hcc
        simp only [Bool.and_eq_true, beq_iff_eq] at hcc
        obtain rfl := Option.some.inj hck
        exact y_b2s hgl hinv ht ho h0 hs hd hcc.1 hcc.2 hx hK
      · cases hck
    · cases hck
  | load t x =>
    simp only [ckx, ho, Option.bind_eq_some_iff, Option.map_eq_some_iff] at hck
    obtain ⟨xa, h0, so, hso, rfl⟩ := hck
    exact y_ld hgl hinv ht ho h0 hso hx hK
  | store t x y =>
    simp only [ckx, ho, Option.bind_eq_some_iff, Option.map_eq_some_iff] at hck
    obtain ⟨xa, h0, ya, h1, n, hn, rfl⟩ := hck
    exact y_sto hgl hinv ht ho h0 h1 hn hx hK
  | call c =>
    simp only [ckx, ho, Option.bind_eq_some_iff] at hck
    obtain ⟨as, has, hck⟩ := hck
    have ty : ∀ {t t' e : TypeId} {s : Nat}, usz P e = some s → ((t' == t) = true) ∨ ((isStr P t' && isU8 P e && (usz P e == some 1)) = true) → True := fun _ _ => trivial
    split at hck
    · rename_i hc
      split at hck
      · rename_i xa ya t t' hts
        simp only [Option.bind_eq_some_iff] at hck
        obtain ⟨e, he, g, hg, i, hi, z, hz, hck⟩ := hck
        split at hck
        · rename_i hcc
          obtain ⟨c1, c2, c3⟩ := hcc
          split at hck
          · rename_i htt
            obtain rfl := Option.some.inj hck
            exact y_app hgl hinv ht hfr ho hc hts has he hg hi hz c1 c2 c3 (.inl ⟨rfl, by simpa using htt⟩) hx hK
          · split at hck
            · rename_i hss
              simp only [Bool.and_eq_true, beq_iff_eq] at hss
              obtain rfl := Option.some.inj hck
              have : i.size = 1 := by have := hss.2; rw [usz, hi] at this; simpa using this
              exact y_app hgl hinv ht hfr ho hc hts has he hg hi hz c1 c2 c3 (.inr ⟨rfl, hss.1.1, hss.1.2, this⟩) hx hK
            · cases hck
        · cases hck
      · cases hck
    · rename_i hc
      split at hck
      · rename_i xa t hts
        rw [Option.map_eq_some_iff] at hck
        obtain ⟨el, hel, rfl⟩ := hck
        exact y_len hgl hinv ht ho hc hts has hel hx hK
      · cases hck
    · rename_i hc
      split at hck
      · rename_i xa ya t t' hts
        simp only [Option.bind_eq_some_iff] at hck
        obtain ⟨e, he, s, hs, hck⟩ := hck
        split at hck
        · split at hck
          · rename_i htt
            obtain rfl := Option.some.inj hck
            exact y_cpy hgl hinv ht ho hc hts has he hs (.inl ⟨rfl, by simpa using htt⟩) hx hK
          · split at hck
            · rename_i hss
              simp only [Bool.and_eq_true, beq_iff_eq] at hss
              obtain rfl := Option.some.inj hck
              have : s = 1 := by have := hss.2; rw [hs] at this; simpa using this
              exact y_cpy hgl hinv ht ho hc hts has he hs (.inr ⟨rfl, hss.1.1, hss.1.2, this⟩) hx hK
            · cases hck
        · cases hck
      · cases hck
    · rename_i f hc
      split at hck
      · cases hck
      · rename_i hcc
        simp only [Bool.or_eq_true, not_or, Bool.not_eq_true] at hcc
        obtain rfl := Option.some.inj hck
        exact y_pl hP hE hgl hinv ht hfr h8 ho hc hcc.1 has hx hK
    · cases hck
  | _ => simp [ckx, ho] at hck
theorem xop_sound (hP : ProgOK P) (hE : EnvOK P E) (hgl : GlOK P E.gl G.pr) (hinv : Inv P G st w) (ht : TmR P G N tm a) (hfr : Fresh G (R8 i0)) (hfr2 : Fresh G (fun k => nx' ≤ k)) (h8 : 8 ≤ i0) (h8' : 8 ≤ nx') {r : R} (hx : xop P E tm st i0 nx' o = some r) (hK : Good P G st i0 nx' a o K Q r) : o.wp P a w K Q := by
  unfold xop at hx
  split at hx
  · rename_i q hq
    subst hx
    exact yop_sound hP hE hgl hinv ht hfr h8 hq hK
  · exact xop0_sound hP hE hgl hinv ht hfr hfr2 h8 h8' hx hK
end
section
variable {P : Program} {E : Env} {tm tm' : Nat → V} {st st' : St} {i0 nx : Nat} {o : Oper}
def KX.as : KX → List A
  | .mks _ _ _ _ _ n c => [n, c]
  | .app _ _ _ _ _ a b => [a, b]
  | .lit _ _ _ as => as
  | .ix _ a i => [a, i]
  | .sll _ a lo hi => a :: (lo.toList ++ hi.toList)
  | .sl0 _ a => [a]
  | .asl _ _ _ _ a => [a]
  | .len a => [a]
  | .b2s _ a => [a]
  | .cpy _ _ _ a b => [a, b]
  | .ld _ a => [a]
  | .sto _ a b => [a, b]
  | .pl _ as => as
theorem kopx_av {kx : KX} (h : ∀ a ∈ kx.as, av tm' a = av tm a) : kopx E tm' st i0 kx = kopx E tm st i0 kx := by
  cases kx with
  | lit e g s as =>
    have h1 : (as.all fun a => (av tm' a).cells.length == s && ones (av tm' a).cells) = as.all fun a => (av tm a).cells.length == s && ones (av tm a).cells := by
      rw [Bool.eq_iff_iff, List.all_eq_true, List.all_eq_true]
      exact ⟨fun q a ha => by have := q a ha; rwa [h a ha] at this, fun q a ha => by rw [h a ha]; exact q a ha⟩
    have h2 : (as.flatMap fun a => (av tm' a).cells) = as.flatMap fun a => (av tm a).cells := by
      rw [List.flatMap_def, List.flatMap_def]
      congr 1
      exact List.map_congr_left fun a ha => by rw [h a ha]
    simp only [kopx, h1, h2]
  | pl f as =>
    have h1 : (as.any fun a => slish (av tm' a)) = as.any fun a => slish (av tm a) := by
      rw [Bool.eq_iff_iff, List.any_eq_true, List.any_eq_true]
      exact ⟨fun ⟨a, ha, q⟩ => ⟨a, ha, by rwa [h a ha] at q⟩, fun ⟨a, ha, q⟩ => ⟨a, ha, by rw [h a ha]; exact q⟩⟩
    have h2 : as.map (av tm') = as.map (av tm) := List.map_congr_left fun a ha => h a ha
    have h3 : (as.flatMap fun a => slIds (av tm' a)) = as.flatMap fun a => slIds (av tm a) := by
      rw [List.flatMap_def, List.flatMap_def]
      congr 1
      exact List.map_congr_left fun a ha => by rw [h a ha]
    simp only [kopx, h1, h2, h3]
  | sll e a lo hi =>
    have h1 := h a (by simp [KX.as])
    have h2 : ∀ d, kint tm' lo d = kint tm lo d := fun d => by
      cases lo with
      | none => rfl
      | some x => simp only [kint]; rw [h x (by simp [KX.as])]
    have h3 : ∀ d, kint tm' hi d = kint tm hi d := fun d => by
      cases hi with
      | none => rfl
      | some x => simp only [kint]; rw [h x (by simp [KX.as])]
    simp only [kopx, h1, h2, h3]
  | _ => simp only [KX.as, List.mem_cons, List.not_mem_nil, or_false, forall_eq_or_imp, forall_eq] at h; simp only [kopx, h]
theorem mapM_mem {α β : Type} {f : α → Option β} {l : List α} {r : List β} (h : l.mapM f = some r) {b : β} (hb : b ∈ r) : ∃ a ∈ l, f a = some b := by
  obtain ⟨i, hi⟩ := List.getElem?_of_mem hb
  obtain ⟨a, ha, hf⟩ := (mapM_some h).get' hi
  exact ⟨a, List.mem_of_getElem? ha, hf⟩
theorem ckx_as {hm : FuncId → Nat} {gl : Nat → Option V} {op : Op} {kx : KX} (h : ckx P hm gl op = some kx) : ∀ a ∈ kx.as, ∃ x ∈ op.operands, ca gl x = some a := by
  cases op with
  | makeSlice t n c =>
    simp only [ckx, Option.bind_eq_some_iff] at h
    obtain ⟨na, hn, ca', hc, e, he, s, hs, g, hg, i, hi, z, hz, hck⟩ := h
    split at hck
    · obtain rfl := Option.some.inj hck
      intro a ha
      simp only [KX.as, List.mem_cons, List.not_mem_nil, or_false] at ha
      rcases ha with rfl | rfl
      · exact ⟨n, by simp [Op.operands], hn⟩
      · exact ⟨c, by simp [Op.operands], hc⟩
    · cases hck
  | buildSlice t n ps =>
    simp only [ckx, Option.bind_eq_some_iff] at h
    obtain ⟨vs, hvs, e, he, s, hs, g, hg, hck⟩ := h
    split at hck
    · obtain rfl := Option.some.inj hck
      intro a ha
      simp only [KX.as] at ha
      obtain ⟨p, hp, rfl⟩ := List.mem_map.1 ha
      obtain ⟨q, hq, hqp⟩ := mapM_mem hvs hp
      rw [Option.map_eq_some_iff] at hqp
      obtain ⟨y, hy, rfl⟩ := hqp
      exact ⟨q.2, by simp [Op.operands]; exact ⟨q.1, by simpa using hq⟩, hy⟩
    · cases hck
  | indexAddr t x i =>
    simp only [ckx, Option.bind_eq_some_iff, Option.map_eq_some_iff] at h
    obtain ⟨xa, h0, ia, h1, el, hel, rfl⟩ := h
    intro a ha
    simp only [KX.as, List.mem_cons, List.not_mem_nil, or_false] at ha
    rcases ha with rfl | rfl
    · exact ⟨x, by simp [Op.operands], h0⟩
    · exact ⟨i, by simp [Op.operands], h1⟩
  | slice t x lo hi mx =>
    simp only [ckx, Option.bind_eq_some_iff] at h
    obtain ⟨xa, h0, hck⟩ := h
    have hx : ∃ z ∈ (Op.slice t x lo hi mx).operands, ca gl z = some xa := ⟨x, by simp [Op.operands], h0⟩
    split at hck
    · rename_i el hu
      split at hck
      · simp only [Option.bind_eq_some_iff, Option.map_eq_some_iff] at hck
        obtain ⟨la, hl, ha, hh, rfl⟩ := hck
        intro a hin
        simp only [KX.as, List.mem_cons, List.mem_append, Option.mem_toList] at hin
        rcases hin with rfl | hin | hin
        · exact hx
        · cases lo with
          | none => simp [cao] at hl; subst hl; simp at hin
          | some y =>
            simp only [cao, Option.map_eq_some_iff] at hl
            obtain ⟨q, hq, rfl⟩ := hl
            obtain rfl := Option.some.inj hin
            exact ⟨y, by simp [Op.operands], hq⟩
        · cases hi with
          | none => simp [cao] at hh; subst hh; simp at hin
          | some y =>
            simp only [cao, Option.map_eq_some_iff] at hh
            obtain ⟨q, hq, rfl⟩ := hh
            obtain rfl := Option.some.inj hin
            exact ⟨y, by simp [Op.operands], hq⟩
      · split at hck
        · split at hck
          · obtain rfl := Option.some.inj hck
            intro a ha
            simp only [KX.as, List.mem_cons, List.not_mem_nil, or_false] at ha
            subst ha; exact hx
          · cases hck
        · cases hck
    · rename_i arr hu
      split at hck
      · simp only [Option.bind_eq_some_iff] at hck
        obtain ⟨s, hs, g, hg, hck⟩ := hck
        split at hck
        · obtain rfl := Option.some.inj hck
          intro a ha
          simp only [KX.as, List.mem_cons, List.not_mem_nil, or_false] at ha
          subst ha; exact hx
        · cases hck
      · cases hck
    · cases hck
  | convert s d x =>
    simp only [ckx, Option.bind_eq_some_iff] at h
    obtain ⟨xa, h0, hck⟩ := h
    split at hck
    · split at hck
      · obtain rfl := Option.some.inj hck
        intro a ha
        simp only [KX.as, List.mem_cons, List.not_mem_nil, or_false] at ha
        subst ha; exact ⟨x, by simp [Op.operands], h0⟩
      · cases hck
    · cases hck
  | load t x =>
    simp only [ckx, Option.bind_eq_some_iff, Option.map_eq_some_iff] at h
    obtain ⟨xa, h0, so, hso, rfl⟩ := h
    intro a ha
    simp only [KX.as, List.mem_cons, List.not_mem_nil, or_false] at ha
    subst ha; exact ⟨x, by simp [Op.operands], h0⟩
  | store t x y =>
    simp only [ckx, Option.bind_eq_some_iff, Option.map_eq_some_iff] at h
    obtain ⟨xa, h0, ya, h1, n, hn, rfl⟩ := h
    intro a ha
    simp only [KX.as, List.mem_cons, List.not_mem_nil, or_false] at ha
    rcases ha with rfl | rfl
    · exact ⟨x, by simp [Op.operands], h0⟩
    · exact ⟨y, by simp [Op.operands], h1⟩
  | call c =>
    simp only [ckx, Option.bind_eq_some_iff] at h
    obtain ⟨as, has, hck⟩ := h
    have all : ∀ a ∈ as, ∃ x ∈ (Op.call c).operands, ca gl x = some a := fun a ha => by
      obtain ⟨x, hx, hxa⟩ := mapM_mem has ha
      exact ⟨x, by simp [Op.operands, Call.operands]; exact .inr (by simpa using hx), hxa⟩
    split at hck
    · split at hck
      · simp only [Option.bind_eq_some_iff] at hck
        obtain ⟨e, he, g, hg, i, hi, z, hz, hck⟩ := hck
        split at hck
        · split at hck
          · obtain rfl := Option.some.inj hck; exact all
          · split at hck
            · obtain rfl := Option.some.inj hck; exact all
            · cases hck
        · cases hck
      · cases hck
    · split at hck
      · rw [Option.map_eq_some_iff] at hck
        obtain ⟨el, hel, rfl⟩ := hck
        exact all
      · cases hck
    · split at hck
      · simp only [Option.bind_eq_some_iff] at hck
        obtain ⟨e, he, s, hs, hck⟩ := hck
        split at hck
        · split at hck
          · obtain rfl := Option.some.inj hck; exact all
          · split at hck
            · obtain rfl := Option.some.inj hck; exact all
            · cases hck
        · cases hck
      · cases hck
    · split at hck
      · cases hck
      · obtain rfl := Option.some.inj hck; exact all
    · cases hck
  | _ => simp [ckx] at h
theorem yop_tm (h : ∀ x ∈ o.op.operands, ev E tm' x = ev E tm x) : yop P E tm' st i0 o = yop P E tm st i0 o := by
  unfold yop
  split
  · rfl
  · cases hc : ckx P E.hm E.gl o.op with
    | none => rfl
    | some kx =>
      simp only [Option.bind_some]
      refine kopx_av fun a ha => ?_
      obtain ⟨x, hx, hxa⟩ := ckx_as hc a ha
      have h1 := h x hx
      rw [ca_ev0 hxa, ca_ev0 hxa] at h1
      exact Option.some.inj h1
theorem xop_tm (h : ∀ x ∈ o.op.operands, ev E tm' x = ev E tm x) : xop P E tm' st i0 nx o = xop P E tm st i0 nx o := by
  unfold xop
  rw [yop_tm h, xop0_tm h]
theorem srcX_st {e : Nat} {l : Bool} {y : V} {p : List V × Nat × List Nat} (h : srcX st e l y = some p) (hs : ∀ k ∈ p.2.2, st' k = st k) : srcX st' e l y = some p := by
  cases y with
  | sl e' g s id off n =>
    simp only [srcX] at h ⊢
    split at h
    · rename_i hc
      rw [if_pos hc]
      have : st' id = st id := by
        rw [Option.bind_eq_some_iff] at h
        obtain ⟨cs, _, h⟩ := h
        split at h
        · obtain rfl := Option.some.inj h; exact hs id (by simp)
        · cases h
      rw [this]; exact h
    · cases h
  | sc v => cases v <;> exact h
  | _ => exact h
theorem frz1_st {v : V} (hs : ∀ k ∈ slIds1 v, st' k = st k) : frz1 st' v = frz1 st v := by
  cases v with
  | sl e g s id off n => simp only [frz1, hs id (by simp [slIds1])]
  | _ => rfl
theorem frz1_dom {v y : V} {δ : List (Nat × Option Ob)} (h : frz1 st v = some (y, δ)) : ∀ k ∈ δ.map (·.1), k ∈ slIds1 v := by
  have pure : ∀ v : V, v.pur1?.map (fun u => (u, ([] : List (Nat × Option Ob)))) = some (y, δ) → ∀ k ∈ δ.map (·.1), k ∈ slIds1 v := fun v hx => by
    rw [Option.map_eq_some_iff] at hx
    obtain ⟨z, hz, hx⟩ := hx
    simp only [Prod.mk.injEq] at hx
    obtain ⟨rfl, rfl⟩ := hx
    simp
  unfold frz1 at h
  split at h
  · rename_i e g s id off n
    rw [Option.bind_eq_some_iff] at h
    obtain ⟨p, hp, h⟩ := h
    split at h
    · simp only [Option.some.injEq, Prod.mk.injEq] at h
      obtain ⟨rfl, rfl⟩ := h
      split at hp
      · rw [Option.map_eq_some_iff] at hp; obtain ⟨ds, _, rfl⟩ := hp; simp [slIds1]
      · rw [Option.map_eq_some_iff] at hp; obtain ⟨ds, _, rfl⟩ := hp; simp [slIds1]
      · obtain rfl := Option.some.inj hp; simp
      · cases hp
    · cases h
  · simp only [Option.some.injEq, Prod.mk.injEq] at h
    obtain ⟨rfl, rfl⟩ := h; simp
  · exact pure _ h
theorem upds_agree {δ : List (Nat × Option Ob)} {k : Nat} (h : st' k = st k) : upds δ st' k = upds δ st k := by
  induction δ generalizing st st' with
  | nil => exact h
  | cons p δ ih =>
    show upds δ (upd st' p.1 p.2) k = upds δ (upd st p.1 p.2) k
    exact ih (by simp only [upd]; split <;> first | rfl | exact h)
theorem frzs_st : ∀ {vs : List V} {st st' : St}, (∀ k ∈ vs.flatMap slIds1, st' k = st k) → frzs st' vs = frzs st vs
  | [], _, _, _ => rfl
  | v :: vs, st, st', h => by
    rw [List.flatMap_cons] at h
    simp only [frzs, frz1_st fun k hk => h k (List.mem_append.2 (.inl hk))]
    cases hf : frz1 st v with
    | none => rfl
    | some p =>
      simp only [Option.bind_some]
      rw [frzs_st fun k hk => upds_agree (h k (List.mem_append.2 (.inr hk)))]
theorem frzV_st {v : V} (hs : ∀ k ∈ slIds v, st' k = st k) : frzV st' v = frzV st v := by
  cases v with
  | agg cs => simp only [frzV, frzs_st (vs := cs) hs]
  | sl e g s id off n => exact (frz1_st (v := .sl e g s id off n) fun k hk => hs k hk : frz1 st' (.sl e g s id off n) = _)
  | _ => rfl
theorem frzA_st : ∀ {vs : List V} {st st' : St}, (∀ k ∈ vs.flatMap slIds, st' k = st k) → frzA st' vs = frzA st vs
  | [], _, _, _ => rfl
  | v :: vs, st, st', h => by
    rw [List.flatMap_cons] at h
    simp only [frzA, frzV_st fun k hk => h k (List.mem_append.2 (.inl hk))]
    cases hf : frzV st v with
    | none => rfl
    | some p =>
      simp only [Option.bind_some]
      rw [frzA_st fun k hk => upds_agree (h k (List.mem_append.2 (.inr hk)))]
end
section
variable {P : Program} {E : Env} {tm tm' : Nat → V} {st st' : St} {i0 nx : Nat} {o : Oper}
theorem kopx_st {kx : KX} {v : V} {δ : List (Nat × Option Ob)} {rd : List Nat} (h : kopx E tm st i0 kx = some (some (.val v δ rd))) (hs : ∀ k ∈ rd, st' k = st k) : kopx E tm st' i0 kx = some (some (.val v δ rd)) := by
  cases kx with
  | app e g s by_ l a b =>
    simp only [kopx] at h ⊢
    have src : ∀ {f : List V × Nat × List Nat → Option R}, (srcX st e l (av tm b)).bind f = some (.val v δ rd) → (∀ p, f p = some (.val v δ rd) → ∀ k ∈ p.2.2, k ∈ rd) → (srcX st' e l (av tm b)).bind f = some (.val v δ rd) := fun {f} h hf => by
      rw [Option.bind_eq_some_iff] at h
      obtain ⟨p, hp, h⟩ := h
      rw [srcX_st hp fun k hk => hs k (hf p h k hk)]
      exact h
    split at h
    · rename_i e' g' s' id off n he
      have h2 := Option.some.inj h
      clear h
      congr 1
      split at h2
      · rename_i hc
        rw [if_pos hc]
        have hid : st' id = st id := by
          split at h2
          · split at h2
            · rw [Option.bind_eq_some_iff] at h2
              obtain ⟨p, _, h2⟩ := h2
              split at h2
              · simp only [Option.some.injEq, R.val.injEq] at h2
                exact hs id (by rw [← h2.2.2]; simp)
              · cases h2
            · cases h2
          · cases h2
        rw [hid]
        split at h2
        · rename_i e2 s2 n2 cs hst
          split at h2
          · rename_i hc2
            simp only [if_pos hc2]
            exact src h2 fun p hp k hk => by
              split at hp
              · simp only [Option.some.injEq, R.val.injEq] at hp
                rw [← hp.2.2]; simp [hk]
              · cases hp
          · cases h2
        · cases h2
      · cases h2
    · have h2 := Option.some.inj h
      congr 1
      exact src h2 fun p hp k hk => by
        split at hp
        · split at hp <;> (simp only [Option.some.injEq, R.val.injEq] at hp; rw [← hp.2.2]; exact hk)
        · cases hp
    · have h2 := Option.some.inj h
      congr 1
      exact src h2 fun p hp k hk => by
        split at hp
        · split at hp <;> (simp only [Option.some.injEq, R.val.injEq] at hp; rw [← hp.2.2]; exact hk)
        · cases hp
    · cases h
  | asl e g s n a =>
    simp only [kopx] at h ⊢
    split at h
    · rename_i id off he
      have h2 := Option.some.inj h
      have hid : st' id = st id := by
        split at h2
        · split at h2
          · simp only [Option.some.injEq, R.val.injEq] at h2
            exact hs id (by rw [← h2.2.2]; simp)
          · cases h2
        · cases h2
      rw [hid]; exact h
    · cases h
  | b2s e a =>
    simp only [kopx] at h ⊢
    split at h
    · rename_i e' g' s' id off n he
      have h2 := Option.some.inj h
      have hid : st' id = st id := by
        split at h2
        · rw [Option.bind_eq_some_iff] at h2
          obtain ⟨cs, _, h2⟩ := h2
          split at h2
          · rw [Option.map_eq_some_iff] at h2
            obtain ⟨l, _, h2⟩ := h2
            simp only [R.val.injEq] at h2
            exact hs id (by rw [← h2.2.2]; simp)
          · cases h2
        · cases h2
      rw [hid]; exact h
    · exact h
    · cases h
  | cpy e s l a b =>
    simp only [kopx] at h ⊢
    split at h
    · rename_i e' g' s' id off n he
      have h2 := Option.some.inj h
      clear h
      congr 1
      split at h2
      · rename_i hc
        rw [if_pos hc]
        rw [Option.bind_eq_some_iff] at h2
        obtain ⟨p, hp, h2⟩ := h2
        have h3 := h2
        rw [Option.bind_eq_some_iff] at h3
        obtain ⟨cs, hcs, h3⟩ := h3
        split at h3
        · rw [Option.map_eq_some_iff] at h3
          obtain ⟨ob, _, h3⟩ := h3
          simp only [R.val.injEq] at h3
          rw [srcX_st hp fun k hk => hs k (by rw [← h3.2.2]; simp [hk])]
          rw [hs id (by rw [← h3.2.2]; simp)]
          exact h2
        · cases h3
      · cases h2
    · cases h
  | ld so a =>
    simp only [kopx] at h ⊢
    split at h
    · rename_i id off he
      have hid : st' id = st id := by
        split at h
        · have h2 := Option.some.inj h
          rw [Option.map_eq_some_iff] at h2
          obtain ⟨z, _, h2⟩ := h2
          simp only [R.val.injEq] at h2
          exact hs id (by rw [← h2.2.2]; simp)
        · have h2 := Option.some.inj h
          rw [Option.map_eq_some_iff] at h2
          obtain ⟨z, _, h2⟩ := h2
          simp only [R.val.injEq] at h2
          exact hs id (by rw [← h2.2.2]; simp)
        · cases h
      rw [hid]; exact h
    · cases h
  | sto n a b =>
    simp only [kopx] at h ⊢
    split at h
    · rename_i id off he
      have hid : st' id = st id := by
        split at h
        · have h2 := Option.some.inj h
          split at h2
          · simp only [Option.some.injEq, R.val.injEq] at h2
            exact hs id (by rw [← h2.2.2]; simp)
          · cases h2
        · cases h
      rw [hid]; exact h
    · cases h
  | pl f as =>
    simp only [kopx] at h ⊢
    split at h
    · rename_i hc
      rw [if_pos hc]
      have h2 := Option.some.inj h
      clear h
      congr 1
      rw [Option.bind_eq_some_iff] at h2
      obtain ⟨p, hp, h2⟩ := h2
      have hrd : (as.flatMap fun a => slIds (av tm a)) = rd := by
        split at h2
        · simp only [Option.some.injEq, R.val.injEq] at h2; exact h2.2.2
        · cases h2
      rw [frzA_st (st := st) fun k hk => hs k (by rw [← hrd]; rw [List.flatMap_map] at hk; exact hk), hp]
      exact h2
    · cases h
  | _ => exact h
/-- What asks no object is the same in another state. -/
theorem kopx_none {kx : KX} (h : kopx E tm st i0 kx = none) (h1 : ∀ so a, kx ≠ .ld so a) (h2 : ∀ n a b, kx ≠ .sto n a b) : kopx E tm st' i0 kx = none := by
  cases kx with
  | ld so a => exact absurd rfl (h1 _ _)
  | sto n a b => exact absurd rfl (h2 _ _ _)
  | app e g s by_ l a b =>
    simp only [kopx] at h ⊢
    split at h <;> first | (cases h; done) | (cases h; rfl) | rfl
  | asl e g s n a =>
    simp only [kopx] at h ⊢
    split at h <;> first | (cases h; done) | (cases h; rfl) | rfl
  | b2s e a =>
    simp only [kopx] at h ⊢
    split at h <;> first | (cases h; done) | (cases h; rfl) | rfl
  | cpy e s l a b =>
    simp only [kopx] at h ⊢
    split at h <;> first | (cases h; done) | (cases h; rfl) | rfl
  | pl f as =>
    simp only [kopx] at h ⊢
    split at h
    · cases h
    · rename_i hc; rw [if_neg hc]
  | _ => exact h
theorem ckx_kind {hm : FuncId → Nat} {gl : Nat → Option V} {op : Op} {kx : KX} (h : ckx P hm gl op = some kx) : ((∀ so a, kx ≠ .ld so a) ∧ ∀ n a b, kx ≠ .sto n a b) ∨ (∃ t x so a, op = .load t x ∧ kx = .ld so a ∧ ca gl x = some a) ∨ ∃ t x y n a b, op = .store t x y ∧ kx = .sto n a b ∧ ca gl x = some a := by
  cases op with
  | makeSlice t n c =>
    simp only [ckx, Option.bind_eq_some_iff] at h
    obtain ⟨na, hn, ca', hc, e, he, s, hs, g, hg, i, hi, z, hz, hck⟩ := h
    split at hck
    · obtain rfl := Option.some.inj hck; exact .inl ⟨by simp, by simp⟩
    · cases hck
  | buildSlice t n ps =>
    simp only [ckx, Option.bind_eq_some_iff] at h
    obtain ⟨vs, hvs, e, he, s, hs, g, hg, hck⟩ := h
    split at hck
    · obtain rfl := Option.some.inj hck; exact .inl ⟨by simp, by simp⟩
    · cases hck
  | indexAddr t x i =>
    simp only [ckx, Option.bind_eq_some_iff, Option.map_eq_some_iff] at h
    obtain ⟨xa, h0, ia, h1, el, hel, rfl⟩ := h
    exact .inl ⟨by simp, by simp⟩
  | slice t x lo hi mx =>
    simp only [ckx, Option.bind_eq_some_iff] at h
    obtain ⟨xa, h0, hck⟩ := h
    split at hck
    · split at hck
      · simp only [Option.bind_eq_some_iff, Option.map_eq_some_iff] at hck
        obtain ⟨la, hl, ha, hh, rfl⟩ := hck
        exact .inl ⟨by simp, by simp⟩
      · split at hck
        · split at hck
          · obtain rfl := Option.some.inj hck; exact .inl ⟨by simp, by simp⟩
          · cases hck
        · cases hck
    · split at hck
      · simp only [Option.bind_eq_some_iff] at hck
        obtain ⟨s, hs, g, hg, hck⟩ := hck
        split at hck
        · obtain rfl := Option.some.inj hck; exact .inl ⟨by simp, by simp⟩
        · cases hck
      · cases hck
    · cases hck
  | convert s d x =>
    simp only [ckx, Option.bind_eq_some_iff] at h
    obtain ⟨xa, h0, hck⟩ := h
    split at hck
    · split at hck
      · obtain rfl := Option.some.inj hck; exact .inl ⟨by simp, by simp⟩
      · cases hck
    · cases hck
  | load t x =>
    simp only [ckx, Option.bind_eq_some_iff, Option.map_eq_some_iff] at h
    obtain ⟨xa, h0, so, hso, rfl⟩ := h
    exact .inr (.inl ⟨t, x, so, xa, rfl, rfl, h0⟩)
  | store t x y =>
    simp only [ckx, Option.bind_eq_some_iff, Option.map_eq_some_iff] at h
    obtain ⟨xa, h0, ya, h1, n, hn, rfl⟩ := h
    exact .inr (.inr ⟨t, x, y, n, xa, ya, rfl, rfl, h0⟩)
  | call c =>
    simp only [ckx, Option.bind_eq_some_iff] at h
    obtain ⟨as, has, hck⟩ := h
    split at hck
    · split at hck
      · simp only [Option.bind_eq_some_iff] at hck
        obtain ⟨e, he, g, hg, i, hi, z, hz, hck⟩ := hck
        split at hck
        · split at hck
          · obtain rfl := Option.some.inj hck; exact .inl ⟨by simp, by simp⟩
          · split at hck
            · obtain rfl := Option.some.inj hck; exact .inl ⟨by simp, by simp⟩
            · cases hck
        · cases hck
      · cases hck
    · split at hck
      · rw [Option.map_eq_some_iff] at hck
        obtain ⟨el, hel, rfl⟩ := hck
        exact .inl ⟨by simp, by simp⟩
      · cases hck
    · split at hck
      · simp only [Option.bind_eq_some_iff] at hck
        obtain ⟨e, he, s, hs, hck⟩ := hck
        split at hck
        · split at hck
          · obtain rfl := Option.some.inj hck; exact .inl ⟨by simp, by simp⟩
          · split at hck
            · obtain rfl := Option.some.inj hck; exact .inl ⟨by simp, by simp⟩
            · cases hck
        · cases hck
      · cases hck
    · split at hck
      · cases hck
      · obtain rfl := Option.some.inj hck; exact .inl ⟨by simp, by simp⟩
    · cases hck
  | _ => simp [ckx] at h
theorem xop_st {nx2 : Nat} {v : V} {δ : List (Nat × Option Ob)} {rd : List Nat} (h : xop P E tm st i0 nx o = some (.val v δ rd)) (hs : ∀ k ∈ rd, st' k = st k) : xop P E tm st' i0 nx2 o = some (.val v δ rd) := by
  unfold xop at h ⊢
  split at h
  · rename_i q hq
    subst h
    have : yop P E tm st' i0 o = some (some (.val v δ rd)) := by
      unfold yop at hq ⊢
      split at hq
      · cases hq
      · rename_i hm
        rw [if_neg hm]
        rw [Option.bind_eq_some_iff] at hq ⊢
        obtain ⟨kx, hk, hq⟩ := hq
        exact ⟨kx, hk, kopx_st hq hs⟩
    rw [this]
  · rename_i hq
    have h0 := xop0_st (nx2 := nx2) h hs
    have : yop P E tm st' i0 o = none := by
      unfold yop at hq ⊢
      split at hq
      · rename_i hm; rw [if_pos hm]
      · rename_i hm
        rw [if_neg hm]
        cases hc : ckx P E.hm E.gl o.op with
        | none => rfl
        | some kx =>
          rw [hc] at hq
          simp only [Option.bind_some] at hq ⊢
          -- a load or a store: xop0 has looked at the object
          have id1 : ∀ (x : Operand) (a : A) (id off : Nat), ca E.gl x = some a → av tm a = .ptr id off → (∀ t, o.op = .load t x → st' id = st id) ∧ ∀ t y, o.op = .store t x y → st' id = st id := fun x a id off hca hav => by
            have hev := ca_ev0 (tm := tm) hca
            rw [hav] at hev
            refine ⟨fun t ho => ?_, fun t y ho => ?_⟩
            · simp only [xop0, ho, hev, Option.bind_some] at h
              split at h
              · rw [Option.map_eq_some_iff] at h
                obtain ⟨z, _, h⟩ := h
                simp only [R.val.injEq] at h
                exact hs id (by rw [← h.2.2]; simp)
              · cases h
            · simp only [xop0, ho, hev, Option.bind_some, Option.bind_eq_some_iff] at h
              obtain ⟨y0, _, h⟩ := h
              split at h
              · split at h
                · simp only [Option.some.injEq, R.val.injEq] at h
                  exact hs id (by rw [← h.2.2]; simp)
                · cases h
              · cases h
          rcases ckx_kind hc with ⟨h1, h2⟩ | ⟨t, x, so, a, ho, rfl, hxa⟩ | ⟨t, x, y, n, a, b, ho, rfl, hxa⟩
          · exact kopx_none hq h1 h2
          · simp only [kopx] at hq ⊢
            cases he : av tm a with
            | ptr id off =>
              rw [he] at hq
              simp only at hq ⊢
              rw [(id1 x a id off hxa he).1 t ho]; exact hq
            | _ => rfl
          · simp only [kopx] at hq ⊢
            cases he : av tm a with
            | ptr id off =>
              rw [he] at hq
              simp only at hq ⊢
              rw [(id1 x a id off hxa he).2 t y ho]; exact hq
            | _ => rfl
    rw [this]
    exact h0
end
end Go.Proofs.YtkbheoganajhaaaDoor.Vm
