/- Proved here: the law, on a machine over pure data, and what it needs, part 2. Conditions: none. -/
import Derived.Test.YthgmhlpjbednpaaDoorZ1
set_option linter.unusedVariables false
set_option linter.unusedSimpArgs false
namespace Go.Proofs.YthgmhlpjbednpaaDoor.Vm
open Go.RowKit
section
variable {P : Program} {G G' : Gh} {st : St} {w w' : World} {a : Act} {tm : Nat → V} {N i0 nx' : Nat} {o : Oper} {K : Act → World → Prop} {Q : Exit → Act → World → Prop} {E : Env}
theorem ca_ev0 {x : Operand} {y : A} (h : ca E.gl x = some y) : ev E tm x = some (av tm y) := by
  cases x <;> simp only [ca] at h
  · simp only [Option.some.injEq] at h; subst h; rfl
  · split at h
    · rename_i h1
      simp only [Option.some.injEq] at h; subst h
      simp only [ev, h1, if_true, av]
    · cases h
  · rw [Option.map_eq_some_iff] at h
    obtain ⟨v, hv, rfl⟩ := h
    simp only [ev, hv, av]
  · simp only [Option.some.injEq] at h; subst h; rfl
theorem ca_rep (hgl : GlOK P E.gl G.pr) (ht : TmR P G N tm a) {x : Operand} {y : A} (h : ca E.gl x = some y) : Rep P G (av tm y) (a.eval x) := ev_sound hgl ht (ca_ev0 h)
theorem cas_rep (hgl : GlOK P E.gl G.pr) (ht : TmR P G N tm a) : ∀ {xs : List Operand} {ys : List A}, xs.mapM (ca E.gl) = some ys → All2 (Rep P G) (ys.map (av tm)) (xs.map a.eval) := fun {xs ys} h => by
  have h1 := mapM_some h
  clear h
  induction h1 with
  | nil => exact .nil
  | cons h2 _ ih => exact .cons (ca_rep hgl ht h2) ih
theorem ob_cells (hinv : Inv P G st w) {id : Nat} {cs : List V} (h : obCells (st id) = some cs) : ∃ b vs, G.bx id = some b ∧ ones cs = true ∧ All2 (Rep P G) cs vs ∧ ∀ j u, vs[j]? = some u → w.cell? ⟨b, j, none⟩ = some u := by
  cases hs : st id with
  | none => rw [hs] at h; simp [obCells] at h
  | some ob =>
    rw [hs] at h
    have ho := hinv.objs id ob hs
    cases ob with
    | cells c =>
      simp only [obCells, Option.some.injEq] at h; subst h
      obtain ⟨b, arr, T, h1, h2, h3, h4, h5⟩ := ho
      exact ⟨b, _, h1, h4, h5, fun j u hu => by simpa [World.cell?, h3] using hu⟩
    | row e s n c =>
      simp only [obCells, Option.some.injEq] at h; subst h
      obtain ⟨v, vs, b, h1, h2, h3, h4, h5, h6, h7, h8⟩ := ho
      exact ⟨b, vs, h3, h7, h8, fun j u hu => own_cells h6 h2 hu⟩
    | frz ds =>
      simp only [obCells, Option.some.injEq] at h; subst h
      obtain ⟨b, vs, h1, h2, h3, h4⟩ := ho
      exact ⟨b, vs, h1, h2, h3.mono fun _ _ => .pure, fun j u hu => hinv.prot _ _ _ (h4 j u hu)⟩
    | _ => simp [obCells] at h
theorem Rep.sl_inv {e : TypeId} {g : Bool} {s id off n : Nat} {v : Value} (h : Rep P G (.sl e g s id off n) v) : ∃ b N C A c, v = .slice A n c ∧ G.bx id = some b ∧ G.tl id = some (.slice (some ⟨b, 0, none⟩) N C) ∧ usz P e = some s ∧ uagg P e = some g ∧ 0 < s ∧ off + n ≤ N ∧ n ≤ c ∧
    (0 < n → A = some ⟨b, off * s, none⟩) ∧ (off = 0 → n = N → A = some ⟨b, 0, none⟩ ∧ c = C) ∧ (g = false → s = 1) := by
  cases h with
  | pure h => cases h
  | sl h1 h2 h3 h4 h5 h6 h7 h8 h9 h10 => exact ⟨_, _, _, _, _, rfl, h1, h2, h3, h4, h5, h6, h7, h8, h9, h10⟩
theorem Rep.emp_inv {e : TypeId} {v : Value} (h : Rep P G (.emp e) v) : ∃ A, v = .slice A 0 0 := by
  cases h with
  | pure h => cases h
  | emp => exact ⟨_, rfl⟩
theorem sl_read (hinv : Inv P G st w) {e : TypeId} {g : Bool} {s id off n : Nat} {v : Value} (hr : Rep P G (.sl e g s id off n) v) {cs : List V} (hc : obCells (st id) = some cs) (hl : (off + n) * s ≤ cs.length) :
    ∃ A c vs, v = .slice A n c ∧ vs.length = n * s ∧ All2 (Rep P G) ((cs.drop (off * s)).take (n * s)) vs ∧ ones ((cs.drop (off * s)).take (n * s)) = true ∧
      (0 < n → ∃ ad, A = some ad ∧ ∀ j u, vs[j]? = some u → w.cell? (ad.add j) = some u) := by
  obtain ⟨b, N, C, A, c, rfl, h1, h2, h3, h4, h5, h6, h7, h8, h9, h10⟩ := hr.sl_inv
  obtain ⟨b', vs, k1, k2, k3, k4⟩ := ob_cells hinv hc
  rw [h1] at k1
  obtain rfl := Option.some.inj k1
  have hvl := k3.length
  have hmul : (off + n) * s = off * s + n * s := Nat.add_mul _ _ _
  refine ⟨A, c, (vs.drop (off * s)).take (n * s), rfl, by rw [List.length_take, List.length_drop]; omega, (k3.drop _).take _, ones_take (ones_drop k2 _) _, fun hn => ⟨_, h8 hn, fun j u hu => ?_⟩⟩
  rw [List.getElem?_take] at hu
  split at hu
  · rw [List.getElem?_drop] at hu
    rw [blk_add]; exact k4 _ u hu
  · cases hu
theorem srcX_ok (hinv : Inv P G st w) {t t' el : TypeId} {l : Bool} {y : V} {u : Value} {i : TypeInfo} {p : List V × Nat × List Nat} (hi : P.info? el = some i) (hel : uel P t = some el) (hr : Rep P G y u)
    (hty : (l = true ∧ t' = t) ∨ (l = false ∧ isStr P t' = true ∧ isU8 P el = true ∧ i.size = 1)) (hx : srcX st el l y = some p) :
    ∃ d news, P.underlying t' = some d ∧ ((∃ e', d = .slice e') ∨ d = .string) ∧ (∀ w', (Builtin.lenOf u).run P w' = .ok p.2.1 w') ∧
      (∀ k, k ≤ p.2.1 → ∀ w' : World, w'.heap = w.heap → (Builtin.firstCells i.size k u).run P w' = .ok (news.take (k * i.size)).toArray w') ∧ All2 (Rep P G) p.1 news ∧ p.1.length = p.2.1 * i.size ∧ ones p.1 = true := by
  have hsz : usz P el = some i.size := by simp [usz, hi]
  cases y with
  | list e' ys r' =>
    simp only [srcX] at hx
    split at hx
    · rename_i hc
      obtain rfl := Option.some.inj hx
      obtain ⟨hc0, hc⟩ := hc
      subst hc0
      obtain rfl : t' = t := by simpa using hty
      obtain ⟨A, c, hv, hp, _⟩ := hr.list_inv
      obtain ⟨A', c', vs, hv', h2, h3, h4, h5, h6, h7⟩ := list_parts hp
      obtain ⟨rfl, rfl⟩ : A = A' ∧ c = c' := by simpa using hv'
      subst hv
      have hall : ∀ x ∈ ys, x.cells.length = i.size := by
        rcases hc with rfl | hc
        · exact h4 _ hsz
        · have : ys = [] := by simpa using hc
          subst this; simp
      have hl : vs.length = ys.length * i.size := by rw [← h7.length, flat_len hall]
      refine ⟨_, vs, uel_u hel, .inl ⟨_, rfl⟩, fun w' => by simp [Builtin.lenOf], fun k hk w' hw => ?_, h7.mono fun _ _ => .pure, flat_len hall, h5⟩
      simp only at hk
      cases A with
      | none =>
        have : vs = [] := by
          rcases vs with _ | ⟨v, vs⟩
          · rfl
          · obtain ⟨ad, h, _⟩ := h6 (by simp); cases h
        subst this
        simp [Builtin.firstCells]
      | some ad =>
        have hmul : k * i.size ≤ ys.length * i.size := Nat.mul_le_mul_right _ hk
        refine run_firstCells_some w' i.size _ ad _ _ (vs.take (k * i.size)) (by rw [List.length_take]; omega) fun j u hu => ?_
        rw [List.getElem?_take] at hu
        split at hu
        · obtain ⟨ad', h, hlies⟩ := h6 (by intro e; rw [e] at hu; simp at hu)
          obtain rfl := Option.some.inj h
          have := cell_lies hinv hlies hu
          rw [← this]
          simp only [World.cell?, hw]
        · cases hu
    · cases hx
  | sl e' g' s' id off n =>
    simp only [srcX] at hx
    split at hx
    · rename_i hc
      obtain ⟨rfl, rfl⟩ := hc
      obtain rfl : t' = t := by simpa using hty
      rw [Option.bind_eq_some_iff] at hx
      obtain ⟨cs, hcs, hx⟩ := hx
      split at hx
      · rename_i hl
        obtain rfl := Option.some.inj hx
        obtain ⟨_, _, _, _, _, _, _, _, hs', _⟩ := hr.sl_inv
        rw [hsz] at hs'
        obtain rfl := Option.some.inj hs'
        obtain ⟨A, c, vs, rfl, k1, k2, k3, k4⟩ := sl_read hinv hr hcs hl
        refine ⟨_, vs, uel_u hel, .inl ⟨_, rfl⟩, fun w' => by simp [Builtin.lenOf], fun k hk w' hw => ?_, k2, ?_, k3⟩
        · simp only at hk
          have hmul : k * i.size ≤ n * i.size := Nat.mul_le_mul_right _ hk
          by_cases hn : 0 < n
          · obtain ⟨ad, rfl, hl⟩ := k4 hn
            refine run_firstCells_some w' i.size _ ad _ _ (vs.take (k * i.size)) (by rw [List.length_take]; omega) fun j u hu => ?_
            rw [List.getElem?_take] at hu
            split at hu
            · rw [← hl j u hu]; simp only [World.cell?, hw]
            · cases hu
          · have : k = 0 := by omega
            subst this
            cases A with
            | none => simp [Builtin.firstCells]
            | some ad => exact run_firstCells_some w' i.size 0 ad _ _ (vs.take (0 * i.size)) (by simp) fun j u hu => by simp at hu
        · rw [k2.length, k1]
      · cases hx
    · cases hx
  | emp e' =>
    simp only [srcX] at hx
    split at hx
    · rename_i hc
      obtain ⟨rfl, rfl⟩ := hc
      obtain rfl : t' = t := by simpa using hty
      obtain rfl := Option.some.inj hx
      obtain ⟨A, rfl⟩ := hr.emp_inv
      refine ⟨_, [], uel_u hel, .inl ⟨_, rfl⟩, fun w' => by simp [Builtin.lenOf], fun k hk w' hw => ?_, .nil, by simp, rfl⟩
      simp only [Nat.le_zero] at hk
      subst hk
      cases A with
      | none => simp [Builtin.firstCells]
      | some ad => simpa using run_firstCells_some (P := P) w' i.size 0 ad 0 0 [] (by simp) fun j u hu => by simp at hu
    · cases hx
  | sc v =>
    cases v with
    | string s =>
      simp only [srcX] at hx
      split at hx
      · cases hx
      · rename_i hl
        obtain rfl := Option.some.inj hx
        have hl : l = false := by simpa using hl
        subst hl
        obtain ⟨h1, h2, h3⟩ : isStr P t' = true ∧ isU8 P el = true ∧ i.size = 1 := by simpa using hty
        have hv := hr.sc_inv
        subst hv
        refine ⟨_, s.data.toList.map fun b => Value.int .u8 b.toNat, isStr_u h1, .inr rfl, fun w' => by simp [Builtin.lenOf], fun k hk w' _ => ?_, (bytes_all2 (p := G.pr) _).mono fun _ _ => .pure, by simp [bytesV_length, h3], ?_⟩
        · simp only at hk
          have e : ((List.map (fun b : UInt8 => Value.int IntKind.u8 (b.toNat : Int)) s.data.toList).take (k * i.size)).toArray = Array.map (fun b : UInt8 => Value.int IntKind.u8 (b.toNat : Int)) (s.extract 0 k).data := by
            apply Array.ext'
            rw [h3]
            have h4 : (s.extract 0 k).data = s.data.extract 0 k := ByteArray.data_extract
            simp [h4, List.map_take]
          rw [e]
          simp [Builtin.firstCells]
        · refine List.all_eq_true.2 fun x hx => ?_
          simp only [bytesV, List.mem_map] at hx
          obtain ⟨b, _, rfl⟩ := hx
          rfl
    | _ => simp [srcX] at hx
  | _ => simp [srcX] at hx
end
section
variable {P : Program} {G G' : Gh} {st : St} {w w' : World} {a : Act} {tm : Nat → V} {N i0 nx' : Nat} {o : Oper} {K : Act → World → Prop} {Q : Exit → Act → World → Prop} {E : Env}
theorem kty_ld {t : TypeId} {s : Option Nat} (h : kty P t = some s) (cs : List V) (off : Nat) : ld P t cs off = kld s cs off := by
  unfold kty at h
  unfold ld
  split at h
  · rename_i z h1 h2
    simp only [Option.some.injEq] at h; subst h
    rfl
  · rename_i z h1 h2
    simp only [Option.some.injEq] at h; subst h
    rfl
  · cases h
theorem y_ld (hgl : GlOK P E.gl G.pr) (hinv : Inv P G st w) (ht : TmR P G N tm a) {t : TypeId} {x : Operand} {y : A} {so : Option Nat} {r : R} (ho : o.op = .load t x) (h0 : ca E.gl x = some y) (hso : kty P t = some so) (hx : kopx E tm st i0 (.ld so y) = some (some r)) (hK : Good P G st i0 nx' a o K Q r) : o.wp P a w K Q := by
  have hr := ca_rep hgl ht h0
  simp only [kopx] at hx
  split at hx
  · rename_i id off he
    rw [he] at hr
    obtain ⟨b, hv, hb⟩ := hr.ptr_inv
    have main : ∀ cs, obCells (st id) = some cs → (kld so cs off).map (fun v => R.val v [] [id]) = some r → o.wp P a w K Q := fun cs hcs hx => by
      rw [Option.map_eq_some_iff] at hx
      obtain ⟨z, hz, rfl⟩ := hx
      obtain ⟨b', vs, k1, k2, k3, k4⟩ := ob_cells hinv hcs
      rw [hb] at k1
      obtain rfl := Option.some.inj k1
      rw [← kty_ld hso] at hz
      obtain ⟨v, hv2, hrep⟩ := ld_loadVar (w := w) hz k3 k2 (ad := ⟨b, off, none⟩) (fun j u hu => by rw [blk_add]; exact k4 _ u hu)
      refine good_same hinv hK (v := v) ?_ hrep
      simp [execOp, ho, hv, Instr.loadAt, Instr.sureAddr, hv2]
    split at hx
    · rename_i cs hs
      exact main cs (by rw [hs]; rfl) (Option.some.inj hx)
    · rename_i cs hs
      exact main cs (by rw [hs]; rfl) (Option.some.inj hx)
    · cases hx
  · cases hx
theorem own_store {base e s n b off : Nat} {v : Value} {vs news : List Value} (hown : w.ownsRow base e s v n vs) (hb : v.ownBlock = some b) (hl : off + news.length ≤ vs.length) (h1 : ∀ u ∈ news, u.oneCell' = true) :
    ∃ w', (storeCells ⟨b, off, none⟩ news 0).run P w = .ok () w' ∧ w'.ownsRow base e s v n (vs.take off ++ news ++ vs.drop (off + news.length)) ∧ (∀ k, k ≠ b → w'.heap[k]? = w.heap[k]?) ∧ w.heap.size = w'.heap.size ∧ w'.os = w.os ∧ w'.tape = w.tape ∧ w'.output = w.output := by
  obtain ⟨hn, h2⟩ := hown
  rcases h2 with ⟨rfl, _⟩ | ⟨g, cap, cur, rfl, hbg, hg, hnc, hcm, hcs, htk⟩
  · simp [Value.ownBlock] at hb
  · obtain rfl : g = b := by simpa [Value.ownBlock] using hb
    have hmul : n * s ≤ cap * s := Nat.mul_le_mul_right _ hnc
    have hst := run_storeCells_at P g off e news 0 cur w hg (by omega) h1
    simp only [Nat.add_zero] at hst
    refine ⟨_, hst, ⟨?_, .inr ⟨g, cap, _, rfl, hbg, setRow_heap w g cur _ e (0, 0) hg, hnc, hcm, ?_, ?_⟩⟩, fun k hk => setRow_other w g k _ hk, by simp, rfl, rfl, rfl⟩
    · simp only [List.length_append, List.length_take, List.length_drop]; omega
    · simp only [List.size_toArray, List.length_append, List.length_take, List.length_drop, Array.length_toList]; omega
    · have e1 : (cur.toList.take off ++ news ++ cur.toList.drop (off + news.length)).take (n * s) = (cur.toList.take (n * s)).take off ++ news ++ (cur.toList.take (n * s)).drop (off + news.length) := by
        rw [List.take_append, List.take_of_length_le (l := cur.toList.take off ++ news) (by simp; omega), List.take_take, Nat.min_eq_left (show off ≤ n * s by omega)]
        congr 1
        rw [List.drop_take]
        congr 1
        simp only [List.length_append, List.length_take, Array.length_toList]; omega
      rw [e1, htk]
theorem y_sto (hgl : GlOK P E.gl G.pr) (hinv : Inv P G st w) (ht : TmR P G N tm a) {t : TypeId} {x y : Operand} {xa ya : A} {n : Nat} {r : R} (ho : o.op = .store t x y) (h0 : ca E.gl x = some xa) (h1 : ca E.gl y = some ya) (hn : usz P t = some n) (hx : kopx E tm st i0 (.sto n xa ya) = some (some r)) (hK : Good P G st i0 nx' a o K Q r) : o.wp P a w K Q := by
  have hr := ca_rep hgl ht h0
  have hr1 := ca_rep hgl ht h1
  simp only [kopx] at hx
  split at hx
  · rename_i id off he
    rw [he] at hr
    split at hx
    · rename_i e s m cs hs
      have hx := Option.some.inj hx
      split at hx
      · rename_i hc
        obtain rfl := Option.some.inj (by assumption : some _ = some r)
        obtain ⟨rfl, hc2, hc3⟩ := hc
        obtain ⟨b, hv, hb⟩ := hr.ptr_inv
        obtain ⟨v, vs, b', g1, g2, g3, g4, g5, g6, g7, g8⟩ := hinv.objs id _ hs
        rw [hb] at g3
        obtain rfl := Option.some.inj g3
        have hy := rep_cells hr1 hc3
        have hl := hy.length
        have hla := g8.length
        obtain ⟨w', hst, k1, k2, k3, k4, k5, k6⟩ := own_store (P := P) (off := off) g6 g2 (by omega) (ones_vals hy hc3)
        refine wp_skip0 (w' := w') ?_ (hK G _ undef (.refl G) (.refl G _) ?_ (.pure (.sc _)))
        · have hsz : ((a.eval y).cells.size) = (av tm ya).cells.length := by simpa using hl.symm
          simp [execOp, ho, hv, Instr.storeAt, Instr.sureAddr, storeVar, run_size hn, hsz, hst]
        · refine hinv.set id _ _ b hs hb (by simp) (by simp) (g6.lt b g2).1 k2 k3 k4 k5 k6 ⟨v, _, b, g1, g2, hb, g4, g5, k1, ?_, ?_⟩
          · rw [ones_append, ones_append, ones_take g7, hc3, ones_drop g7]; rfl
          · rw [← hl]; exact ((g8.take off).append hy).append (g8.drop _)
      · cases hx
    · cases hx
  · cases hx
theorem y_ix (hgl : GlOK P E.gl G.pr) (hinv : Inv P G st w) (ht : TmR P G N tm a) {t el : TypeId} {x y : Operand} {xa ya : A} {r : R} (ho : o.op = .indexAddr t x y) (h0 : ca E.gl x = some xa) (h1 : ca E.gl y = some ya) (hel : uel P t = some el) (hx : kopx E tm st i0 (.ix el xa ya) = some (some r)) (hK : Good P G st i0 nx' a o K Q r) : o.wp P a w K Q := by
  have hr := ca_rep hgl ht h0
  have hr1 := ca_rep hgl ht h1
  simp only [kopx] at hx
  split at hx
  · rename_i e g s id off n he
    have hx2 := Option.some.inj hx
    clear hx
    split at hx2
    · rename_i kk k hk
      split at hx2
      · rename_i hc
        obtain ⟨rfl, hc1, hc2⟩ := hc
        obtain rfl := Option.some.inj hx2
        rw [he] at hr
        rw [hk] at hr1
        have hv1 := hr1.sc_inv
        obtain ⟨b, N, C, A, c, hv, k1, k2, k3, k4, k5, k6, k7, k8, k9, k10⟩ := hr.sl_inv
        have := k8 (by omega)
        subst this
        have hu := uel_u hel
        refine good_same hinv hK (v := .pointer (some ⟨b, (off + k.toNat) * s, none⟩)) ?_ (.ptr k1)
        simp [execOp, ho, hv, hv1, Instr.indexAt, asIntOf, run_underlying hu, run_size k3, hc1, hc2, blk_add, Nat.add_mul]
      · cases hx2
    · cases hx2
  · cases hx
theorem y_len (hgl : GlOK P E.gl G.pr) (hinv : Inv P G st w) (ht : TmR P G N tm a) {c : Call} {t el : TypeId} {xa : A} {r : R} (ho : o.op = .call c) (hc : c.callee = .builtin .len) (hts : c.argTypes.toList = [t]) (h0 : c.args.toList.mapM (ca E.gl) = some [xa]) (hel : uel P t = some el) (hx : kopx E tm st i0 (.len xa) = some (some r)) (hK : Good P G st i0 nx' a o K Q r) : o.wp P a w K Q := by
  have hA := cas_rep hgl ht h0
  have hA2 := args_arr (a := a) (c := c) rfl
  generalize c.args.toList.map a.eval = us at hA hA2
  cases hA with
  | cons hr h2 =>
  rename_i u0 us0
  cases h2
  have hu := uel_u hel
  simp only [kopx] at hx
  have main : ∀ (A : Option Addr) (n cc : Nat), u0 = .slice A n cc → some (R.val (.i64 n) [] []) = some r → o.wp P a w K Q := fun A n cc hv hx => by
    obtain rfl := Option.some.inj hx
    refine good_same hinv hK (v := .int .i64 n) ?_ (.pure (.sc _))
    refine run_builtin (f := Builtin.len_ c.argTypes o.type (c.args.map a.eval)) ho hc (fun k => rfl) ?_
    rw [arr_of_list hts, hA2, hv]
    simp [Builtin.len_, run_underlying hu, goInt]
  split at hx
  · rename_i he
    rw [he] at hr
    obtain ⟨b, N, C, A, c', hv, _⟩ := hr.sl_inv
    exact main A _ c' hv (Option.some.inj hx)
  · rename_i he
    rw [he] at hr
    obtain ⟨A, hv⟩ := hr.emp_inv
    exact main A 0 0 hv (Option.some.inj hx)
  · cases hx
end
section
variable {P : Program} {G G' : Gh} {st : St} {w w' : World} {a : Act} {tm : Nat → V} {N i0 nx' : Nat} {o : Oper} {K : Act → World → Prop} {Q : Exit → Act → World → Prop} {E : Env}
theorem kint_inv (hgl : GlOK P E.gl G.pr) (ht : TmR P G N tm a) {x : Option Operand} {y : Option A} {d n : Int} (hc : cao E.gl x = some y) (h : kint tm y d = some n) : (x = none ∧ n = d) ∨ ∃ z k, x = some z ∧ a.eval z = .int k n := by
  cases x with
  | none => simp only [cao, Option.some.injEq] at hc; subst hc; simp [kint] at h; exact .inl ⟨rfl, h.symm⟩
  | some z =>
    simp only [cao, Option.map_eq_some_iff] at hc
    obtain ⟨q, hq, rfl⟩ := hc
    simp only [kint] at h
    obtain ⟨k, hk⟩ := vint_inv h
    have := ca_rep hgl ht hq
    rw [hk] at this
    exact .inr ⟨z, k, rfl, this.sc_inv⟩
theorem y_sll (hgl : GlOK P E.gl G.pr) (hinv : Inv P G st w) (ht : TmR P G N tm a) {t el : TypeId} {x : Operand} {lo hi : Option Operand} {xa : A} {la ha : Option A} {r : R} (ho : o.op = .slice t x lo hi none) (h0 : ca E.gl x = some xa) (hl : cao E.gl lo = some la) (hh : cao E.gl hi = some ha) (hu : P.underlying t = some (.slice el)) (hx : kopx E tm st i0 (.sll el xa la ha) = some (some r)) (hK : Good P G st i0 nx' a o K Q r) : o.wp P a w K Q := by
  have hr := ca_rep hgl ht h0
  simp only [kopx] at hx
  split at hx
  · rename_i e g s id off n he
    rw [he] at hr
    have hx2 := Option.some.inj hx
    clear hx
    rw [Option.bind_eq_some_iff] at hx2
    obtain ⟨l, hl2, hx2⟩ := hx2
    rw [Option.bind_eq_some_iff] at hx2
    obtain ⟨h, hh2, hx2⟩ := hx2
    split at hx2
    · rename_i hc
      obtain ⟨rfl, c1, c2, c3⟩ := hc
      obtain rfl := Option.some.inj hx2
      obtain ⟨b, NN, C, A, c, hv, k1, k2, k3, k4, k5, k6, k7, k8, k9, k10⟩ := hr.sl_inv
      obtain ⟨ln, rfl⟩ := Int.eq_ofNat_of_zero_le c1
      obtain ⟨hn, rfl⟩ := Int.eq_ofNat_of_zero_le (show (0 : Int) ≤ h by omega)
      have b1 : ln ≤ hn := by omega
      have b2 : hn ≤ n := by omega
      have gl := kint_inv hgl ht hl hl2
      have gh := kint_inv hgl ht hh hh2
      have main : (Instr.sliceAt t (.slice A n c) (lo.map a.eval) (hi.map a.eval) none).run P w = .ok (.slice (if c = ln then A else A.map (·.add (ln * s))) (hn - ln) (c - ln)) w := by
        rcases gh with ⟨rfl, e2⟩ | ⟨hy, hk, rfl, eh⟩
        · obtain rfl : hn = n := by omega
          rcases gl with ⟨rfl, e1⟩ | ⟨ly, lk, rfl, elo⟩
          · obtain rfl : ln = 0 := by omega
            simp [Instr.sliceAt, run_underlying hu, Instr.slice, Instr.sliceBounds, run_size k3]
          · simp [Instr.sliceAt, run_underlying hu, Instr.slice, Instr.sliceBounds, Instr.sliceBound, asIntOf, elo, b1, run_size k3]
        · have bh : hn ≤ c := by omega
          rcases gl with ⟨rfl, e1⟩ | ⟨ly, lk, rfl, elo⟩
          · obtain rfl : ln = 0 := by omega
            simp [Instr.sliceAt, run_underlying hu, Instr.slice, Instr.sliceBounds, Instr.sliceBound, asIntOf, eh, bh, run_size k3]
          · simp [Instr.sliceAt, run_underlying hu, Instr.slice, Instr.sliceBounds, Instr.sliceBound, asIntOf, elo, eh, b1, bh, run_size k3]
      refine good_same hinv hK (v := .slice (if c = ln then A else A.map (·.add (ln * s))) (hn - ln) (c - ln)) ?_ ?_
      · simp only [execOp, ho, hv, Option.map_none]
        rw [Sem.run_bind, main]
        rfl
      · simp only [Int.ofNat_eq_natCast, Int.toNat_natCast]
        refine .sl k1 k2 k3 k4 k5 (by omega) (by omega) (fun hp => ?_) (fun e1 e2 => ?_) ?_
        · rw [if_neg (by omega), k8 (by omega)]
          simp [blk_add, Nat.add_mul]
        · obtain ⟨rfl, rfl⟩ := k9 (by omega) (by omega)
          have : ln = 0 := by omega
          subst this
          exact ⟨by split <;> simp [blk_add], by omega⟩
        · exact k10
    · cases hx2
  · cases hx
theorem zeroC_eval {x : Operand} (h : zeroC x = true) : ∃ k, a.eval x = .int k 0 := by
  unfold zeroC at h
  split at h
  · rename_i k n
    have : n = 0 := by simpa using h
    subst this
    exact ⟨k, rfl⟩
  · cases h
theorem y_sl0 (hgl : GlOK P E.gl G.pr) (hinv : Inv P G st w) (ht : TmR P G N tm a) {t el : TypeId} {x hi mx : Operand} {xa : A} {r : R} (ho : o.op = .slice t x none (some hi) (some mx)) (h0 : ca E.gl x = some xa) (z1 : zeroC hi = true) (z2 : zeroC mx = true) (hsz : (usz P el).isSome = true) (hu : P.underlying t = some (.slice el)) (hx : kopx E tm st i0 (.sl0 el xa) = some (some r)) (hK : Good P G st i0 nx' a o K Q r) : o.wp P a w K Q := by
  have hr := ca_rep hgl ht h0
  obtain ⟨s, hs⟩ := Option.isSome_iff_exists.1 hsz
  obtain ⟨ka, e1⟩ := zeroC_eval (a := a) z1
  obtain ⟨kb, e2⟩ := zeroC_eval (a := a) z2
  have main : ∀ (A : Option Addr) (n c : Nat), a.eval x = .slice A n c → Good P G st i0 nx' a o K Q (.val (.emp el) [] []) → o.wp P a w K Q := fun A n c hv hK => by
    refine good_same hinv hK (v := .slice A 0 0) ?_ .emp
    have : (Instr.sliceAt t (.slice A n c) none (some (a.eval hi)) (some (a.eval mx))).run P w = .ok (.slice A 0 0) w := by
      simp [Instr.sliceAt, run_underlying hu, Instr.slice, Instr.sliceBounds, Instr.sliceBound, asIntOf, e1, e2, run_size hs]
    simp only [execOp, ho, hv, Option.map_none, Option.map_some]
    rw [Sem.run_bind, this]
    rfl
  simp only [kopx] at hx
  split at hx
  · rename_i he
    rw [he] at hr
    obtain ⟨b, NN, C, A, c, hv, _⟩ := hr.sl_inv
    have hx2 := Option.some.inj hx
    split at hx2
    · obtain rfl := Option.some.inj hx2
      exact main A _ c hv hK
    · cases hx2
  · rename_i he
    rw [he] at hr
    obtain ⟨A, hv⟩ := hr.emp_inv
    have hx2 := Option.some.inj hx
    split at hx2
    · obtain rfl := Option.some.inj hx2
      exact main A _ 0 hv hK
    · cases hx2
  · rename_i he
    rw [he] at hr
    obtain ⟨A, c, hv, _⟩ := hr.list_inv
    have hx2 := Option.some.inj hx
    split at hx2
    · obtain rfl := Option.some.inj hx2
      exact main A _ c hv hK
    · cases hx2
  · cases hx
theorem scs_rep {ns : List Int} {vs : List Value} (h : All2 (Rep P G) (ns.map fun n => V.sc (.int .u8 n)) vs) : vs = ns.map (Value.int .u8) := by
  induction ns generalizing vs with
  | nil => cases h; rfl
  | cons n ns ih => cases h with | cons h1 h2 => rw [h1.sc_inv, ih h2]; rfl
theorem y_b2s (hgl : GlOK P E.gl G.pr) (hinv : Inv P G st w) (ht : TmR P G N tm a) {s0 d el : TypeId} {x : Operand} {xa : A} {r : R} (ho : o.op = .convert s0 d x) (h0 : ca E.gl x = some xa) (hs0 : P.underlying s0 = some (.slice el)) (hd : P.underlying d = some .string) (hu8 : isU8 P el = true) (hsz : usz P el = some 1) (hx : kopx E tm st i0 (.b2s el xa) = some (some r)) (hK : Good P G st i0 nx' a o K Q r) : o.wp P a w K Q := by
  have hr := ca_rep hgl ht h0
  simp only [kopx] at hx
  split at hx
  · rename_i e g s id off n he
    rw [he] at hr
    have hx2 := Option.some.inj hx
    clear hx
    split at hx2
    · rename_i hee
      subst hee
      rw [Option.bind_eq_some_iff] at hx2
      obtain ⟨cs, hcs, hx2⟩ := hx2
      split at hx2
      · rename_i hl
        rw [Option.map_eq_some_iff] at hx2
        obtain ⟨l, hl2, rfl⟩ := hx2
        obtain ⟨ns, hns, rfl⟩ := bytesOfV_inv hl2
        obtain ⟨_, _, _, _, _, _, _, _, hs', _⟩ := hr.sl_inv
        rw [hsz] at hs'
        obtain rfl := Option.some.inj hs'
        obtain ⟨A, c, vs, hv, k1, k2, k3, k4⟩ := sl_read hinv hr hcs hl
        rw [hns] at k2
        have hvs := scs_rep k2
        subst hvs
        have hnl : ns.length = n := by simpa using k1
        have hrun : (convert s0 d (.slice A n c)).run P w = .ok (.string ⟨(ns.map fun n => UInt8.ofNat n.toNat).toArray⟩) w := by
          rw [run_convert_bytes_string w s0 d e A n c hs0 (isU8_u hu8) hd]
          by_cases hn : 0 < n
          · obtain ⟨ad, rfl, hlies⟩ := k4 hn
            have hl : (loadCells ad n).run P w = .ok (ns.map (Value.int .u8)).toArray w := by
              have := run_loadCells_list (P := P) w ad (ns.map (Value.int .u8)) hlies
              simpa [hnl] using this
            rw [run_bytesToString w ad _ _ ns hl, foldl_push_bytes]
            simp [ByteArray.empty, ByteArray.emptyWithCapacity]
            rfl
          · have : n = 0 := by omega
            subst this
            have : ns = [] := List.eq_nil_of_length_eq_zero hnl
            subst this
            cases A with
            | none => simp [Conv.bytesToString]; rfl
            | some ad =>
              have hl : (loadCells ad 0).run P w = .ok (([] : List Int).map (Value.int .u8)).toArray w := run_loadCells_list (P := P) w ad [] (fun j u hu => by simp at hu)
              rw [run_bytesToString w ad _ _ [] hl]
              rfl
        refine good_same hinv hK (v := .string _) ?_ (.pure (.sc _))
        simp only [execOp, ho, hv]
        rw [Sem.run_bind, hrun]
        rfl
      · cases hx2
    · cases hx2
  · rename_i e he
    rw [he] at hr
    have hx2 := Option.some.inj hx
    split at hx2
    · rename_i hee
      subst hee
      obtain rfl := Option.some.inj hx2
      obtain ⟨A, hv⟩ := hr.emp_inv
      have hrun : (convert s0 d (.slice A 0 0)).run P w = .ok (.string ⟨#[]⟩) w := by
        rw [run_convert_bytes_string w s0 d e A 0 0 hs0 (isU8_u hu8) hd]
        cases A with
        | none => simp [Conv.bytesToString]; rfl
        | some ad =>
          have hl : (loadCells ad 0).run P w = .ok (([] : List Int).map (Value.int .u8)).toArray w := run_loadCells_list (P := P) w ad [] (fun j u hu => by simp at hu)
          rw [run_bytesToString w ad _ _ [] hl]
          rfl
      refine good_same hinv hK (v := .string _) ?_ (.pure (.sc _))
      simp only [execOp, ho, hv]
      rw [Sem.run_bind, hrun]
      rfl
    · cases hx2
  · cases hx
end
section
variable {P : Program} {G G' : Gh} {st : St} {w w' : World} {a : Act} {tm : Nat → V} {N i0 nx' : Nat} {o : Oper} {K : Act → World → Prop} {Q : Exit → Act → World → Prop} {E : Env}
theorem Inv.drop (h : Inv P G st w) (i : Nat) : Inv P G (upd st i none) w := by
  refine h.go (.refl G) (Below.refl _ _) h.prot i (fun j hj => by simp [upd, hj]) (fun _ _ => rfl) (fun _ _ => rfl) (fun _ _ _ _ => rfl) (fun ob hob => by simp [upd] at hob) (fun j b hj hb hb' => ?_) (fun b hb => ?_) (fun _ _ _ _ _ _ q => q)
  · unfold blk at hb'; simp [upd] at hb'
  · unfold blk at hb; simp [upd] at hb
def Gh.put (G : Gh) (i b : Nat) (v : Value) : Gh := { G with bx := upd G.bx i (some b), tl := upd G.tl i (some v) }
theorem Gh.put_le {i b : Nat} {v : Value} (hbx : G.bx i = none) (htl : G.tl i = none) : G.le (G.put i b v) := by
  refine ⟨rfl, rfl, fun _ _ _ q => q, fun j c q => ?_, fun t u q => ?_, fun _ _ _ => rfl⟩
  · show upd G.bx i (some b) j = some c
    simp only [upd]; split
    · rename_i e; subst e; rw [hbx] at q; cases q
    · exact q
  · refine ⟨u, ?_, Nat.le_refl _, fun _ => rfl, fun _ => rfl⟩
    show upd G.tl i (some v) t = some u
    simp only [upd]; split
    · rename_i e; subst e; rw [htl] at q; cases q
    · exact q
theorem same_put {i b : Nat} {v : Value} (hi : R8 i0 i) : Same G (G.put i b v) (R8 i0) := fun k hk => by
  have : k ≠ i := fun e => hk (by subst e; exact hi)
  exact ⟨fun h => by show upd G.bx i _ k = none; simpa [upd, this] using h, fun h => by show upd G.tl i _ k = none; simpa [upd, this] using h⟩
theorem Inv.rowPut (h : Inv P G st w) {i e s n b C : Nat} {cs : List V} {vs : List Value} (hbx : G.bx i = none) (htl : G.tl i = none) (hs : usz P e = some s) (h0 : 0 < s) (hown : w'.ownsRow G.base e s (.slice (some ⟨b, 0, none⟩) n C) n vs)
    (hg : ∀ k, k < w.heap.size → k ≠ b → w'.heap[k]? = w.heap[k]?) (hsz : w.heap.size ≤ w'.heap.size) (hos : w'.os = w.os) (hta : w'.tape = w.tape) (hou : w'.output = w.output) (hb : ∀ j c, j ≠ i → blk G st j = some c → c ≠ b) (hnp : ∀ o u, G.pr b o = some u → False) (h1 : ones cs = true) (hr : All2 (Rep P G) cs vs) :
    G.le (G.put i b (.slice (some ⟨b, 0, none⟩) n C)) ∧ Inv P (G.put i b (.slice (some ⟨b, 0, none⟩) n C)) (upd st i (some (.row e s n cs))) w' := by
  have hle := G.put_le (b := b) (v := .slice (some ⟨b, 0, none⟩) n C) hbx htl
  have hbb := (hown.lt b rfl).1
  have hblk : ∀ c, blk (G.put i b (.slice (some ⟨b, 0, none⟩) n C)) (upd st i (some (.row e s n cs))) i = some c → c = b := fun c hc => by
    unfold blk at hc; simp [upd, Gh.put] at hc; exact hc.symm
  refine ⟨hle, h.go hle ⟨hos, hta, hou, hsz, fun k hk => hg k (by have := h.size; omega) (by omega)⟩ (fun c o v hv => ?_) i (fun j hj => by simp [upd, hj]) (fun j hj => by simp [Gh.put, upd, hj]) (fun j hj => by simp [Gh.put, upd, hj]) (fun j c hj hc => hg c (h.blk_lt hc).1 (hb j c hj hc))
    (fun ob hob => ?_) (fun j c hj hc hc' => hb j c hj hc (hblk c hc')) (fun c hc o v hv => ?_) (fun _ _ _ _ _ _ q => q)⟩
  · have hv : G.pr c o = some v := hv
    have hcb : c ≠ b := fun e => by subst e; exact hnp o v hv
    rw [cell_same (hg c (h.pr_lt hv) hcb)]; exact h.prot c o v hv
  · simp [upd] at hob; subst hob
    exact ⟨_, vs, b, by simp [Gh.put, upd], rfl, by simp [Gh.put, upd], hs, h0, hown, h1, hr.rep_mono hle⟩
  · have := hblk c hc
    subst this
    exact (hnp o v hv).elim
theorem Rep.row {i e s n b C : Nat} {g : Bool} (hs : usz P e = some s) (hg : uagg P e = some g) (h0 : 0 < s) (hn : n ≤ C) (hgs : g = false → s = 1) : Rep P (G.put i b (.slice (some ⟨b, 0, none⟩) n C)) (.sl e g s i 0 n) (.slice (some ⟨b, 0, none⟩) n C) :=
  .sl (b := b) (N := n) (C := C) (by simp [Gh.put, upd]) (by simp [Gh.put, upd]) hs hg h0 (by omega) hn (fun _ => by simp) (fun _ _ => ⟨rfl, rfl⟩) hgs
theorem newRow_good (hinv : Inv P G st w) (hfr : Fresh G (R8 i0)) {e s n C : Nat} {g : Bool} {arr : Array Value} {cs : List V} {rd : List Nat} (hs : usz P e = some s) (hg : uagg P e = some g) (h0 : 0 < s) (hgs : g = false → s = 1) (hn : n ≤ C) (hC : C ≤ maxLen) (ha : arr.size = C * s) (h1 : ones cs = true) (hr : All2 (Rep P G) cs (arr.toList.take (n * s)))
    (hK : Good P G st i0 nx' a o K Q (.val (.sl e g s i0 0 n) [(i0, some (.row e s n cs))] rd)) (hrun : (execOp a.eval o).run P w = .ok (.value (.slice (some ⟨w.heap.size, 0, none⟩) n C)) (w.alloc (.cells arr e))) : o.wp P a w K Q := by
  have hf := hfr i0 (r8_self i0)
  have hmul : n * s ≤ C * s := Nat.mul_le_mul_right _ hn
  obtain ⟨hle, hi⟩ := hinv.rowPut (w' := w.alloc (.cells arr e)) (i := i0) (b := w.heap.size) (C := C) (cs := cs) hf.1 hf.2 hs h0 ⟨by rw [List.length_take, Array.length_toList]; omega, .inr ⟨_, C, arr, rfl, hinv.size, heap_alloc_new w _, hn, hC, ha, rfl⟩⟩ (fun k hk _ => Below.heap_alloc w _ k hk) (by simp) rfl rfl rfl (fun j c _ hc => by have := (hinv.blk_lt hc).1; omega) (fun o u hu => by have := hinv.pr_lt hu; omega) h1 hr
  exact wp_val hrun (hK _ _ _ hle (same_put (r8_self i0)) (by simpa [upds] using hi) (Rep.row hs hg h0 hn hgs))
theorem made_toList (z : Array Value) (h0 : 0 < z.size) : ∀ n, (madeCells z (n * z.size)).toList = (List.replicate n z.toList).flatten := by
  intro n
  unfold madeCells
  rw [Array.toList_map, Array.toList_range]
  induction n with
  | zero => simp
  | succ n ih =>
    rw [Nat.succ_mul, Nat.add_comm, List.range_add, List.map_append, List.map_map, List.replicate_succ, List.flatten_cons, ← ih]
    congr 1
    · apply List.ext_getElem
      · simp
      · intro j h1 h2
        have hj : j < z.size := by simpa using h1
        simp [Nat.mod_eq_of_lt hj, hj]
    · apply List.map_congr_left
      intro j _
      simp [Nat.add_mod_left]
theorem all2_flatten {R : V → Value → Prop} {xs : List V} {ys : List Value} (h : All2 R xs ys) : ∀ n, All2 R (List.replicate n xs).flatten (List.replicate n ys).flatten
  | 0 => .nil
  | n + 1 => by rw [List.replicate_succ, List.replicate_succ, List.flatten_cons, List.flatten_cons]; exact h.append (all2_flatten h n)
theorem ones_flatten {xs : List V} (h : ones xs = true) : ∀ n, ones (List.replicate n xs).flatten = true
  | 0 => rfl
  | n + 1 => by rw [List.replicate_succ, List.flatten_cons, ones_append, h, ones_flatten h n]; rfl
theorem y_mks (hgl : GlOK P E.gl G.pr) (hinv : Inv P G st w) (ht : TmR P G N tm a) (hfr : Fresh G (R8 i0)) {t e s : TypeId} {g : Bool} {x y : Operand} {xa ya : A} {i : TypeInfo} {z : Value} {r : R} (ho : o.op = .makeSlice t x y) (h0 : ca E.gl x = some xa) (h1 : ca E.gl y = some ya) (hel : uel P t = some e) (hs : usz P e = some s) (hg : uagg P e = some g)
    (hi : P.info? e = some i) (hz : uzero P e = some z) (hs0 : 0 < s) (hgs : g = false → s = 1) (hzo : ones (V.ofV z).cells = true) (hzl : (V.ofV z).cells.length = s) (hx : kopx E tm st i0 (.mks e g s i.bytes (V.ofV z).cells xa ya) = some (some r)) (hK : Good P G st i0 nx' a o K Q r) : o.wp P a w K Q := by
  have hr := ca_rep hgl ht h0
  have hr1 := ca_rep hgl ht h1
  simp only [kopx] at hx
  split at hx
  · rename_i k1 n k2 c he1 he2
    rw [he1] at hr
    rw [he2] at hr1
    have hx2 := Option.some.inj hx
    split at hx2
    · rename_i hc
      obtain ⟨rfl, c1, c2, c3⟩ := hc
      obtain rfl := Option.some.inj hx2
      have hv := hr.sc_inv
      have hv1 := hr1.sc_inv
      have hzi : i.zero = some z := by simpa [uzero, hi] using hz
      have hsi : i.size = s := by simpa [usz, hi] using hs
      have hrz := rep_cells (P := P) (G := G) (.pure (rep_ofV G.pr z hzo)) hzo
      have hzs : z.cells.size = s := by have := hrz.length; rw [hzl] at this; simpa using this.symm
      obtain ⟨m, rfl⟩ := Int.eq_ofNat_of_zero_le c1
      have hb' : ((i.bytes : Int) * ((m : Nat) : Int)) ≤ 281474976710656 := Int.le_trans (Int.le_of_eq (Int.mul_comm _ _)) (Int.le_trans c2 (by decide))
      have hrun := run_make (P := P) w t e i z (uel_u hel) hi hzi k1 k2 m m (by omega) (by omega) hb' (by have : (Int.ofNat m) ≤ 9223372036854775807 := c3; omega)
      simp only [Int.toNat_natCast, hsi] at hrun
      have hmt := made_toList z.cells (by rw [hzs]; exact hs0) m
      rw [hzs] at hmt
      refine newRow_good (g := g) (arr := madeCells z.cells (m * s)) (n := m) (C := m) hinv hfr hs hg hs0 hgs (Nat.le_refl _) (by have : (Int.ofNat m) ≤ 9223372036854775807 := c3; simp only [maxLen]; omega) (size_madeCells _ _) (ones_flatten hzo m) ?_ hK ?_
      · rw [hmt, List.take_of_length_le (by simp [hzs])]
        exact all2_flatten hrz m
      · simp only [execOp, ho, hv, hv1]
        rw [Sem.run_bind]
        rw [hrun]
        rfl
    · cases hx2
  · cases hx
end
section
variable {P : Program} {G G' : Gh} {st : St} {w w' : World} {a : Act} {tm : Nat → V} {N i0 nx' : Nat} {o : Oper} {K : Act → World → Prop} {Q : Exit → Act → World → Prop} {E : Env}
theorem parts_rep (hgl : GlOK P E.gl G.pr) (ht : TmR P G N tm a) : ∀ {l : List (Nat × Operand)} {vs : List (Nat × A)}, (l.mapM fun (p : Nat × Operand) => (ca E.gl p.2).map fun v => (p.1, v)) = some vs → All2 (fun p q => p.1 = q.1 ∧ Rep P G p.2 q.2) (vs.map fun p => (p.1, av tm p.2)) (l.map fun (i, x) => (i, a.eval x)) := fun {l vs} h => by
  have h1 := mapM_some h
  clear h
  induction h1 with
  | nil => exact .nil
  | cons h2 _ ih =>
    rw [Option.map_eq_some_iff] at h2
    obtain ⟨y, hy, rfl⟩ := h2
    exact .cons ⟨rfl, ca_rep hgl ht hy⟩ ih
theorem all2_parts {vs : List (Nat × V)} {us : List (Nat × Value)} (h : All2 (fun p q => p.1 = q.1 ∧ Rep P G p.2 q.2) vs us) (h1 : ∀ p ∈ vs, ones p.2.cells = true) : All2 (Rep P G) (vs.flatMap fun p => p.2.cells) (us.flatMap fun q => q.2.cells.toList) := by
  induction h with
  | nil => exact .nil
  | cons h2 _ ih =>
    rw [List.flatMap_cons, List.flatMap_cons]
    exact (rep_cells h2.2 (h1 _ (by simp))).append (ih fun p hp => h1 p (by simp [hp]))
theorem y_lit (hgl : GlOK P E.gl G.pr) (hinv : Inv P G st w) (ht : TmR P G N tm a) (hfr : Fresh G (R8 i0)) {t e s : TypeId} {n : Nat} {g : Bool} {ps : Array (Nat × Operand)} {vs : List (Nat × A)} {r : R} (ho : o.op = .buildSlice t n ps)
    (hvs : (ps.toList.mapM fun (p : Nat × Operand) => (ca E.gl p.2).map fun a => (p.1, a)) = some vs) (hel : uel P t = some e) (hs : usz P e = some s) (hg : uagg P e = some g) (c1 : vs.map (·.1) = List.range n) (c2 : n ≤ 1000) (c3 : s ≤ 1000) (c4 : 0 < s) (hgs : g = false → s = 1) (c5 : (uzero P e).isSome = true)
    (hx : kopx E tm st i0 (.lit e g s (vs.map (·.2))) = some (some r)) (hK : Good P G st i0 nx' a o K Q r) : o.wp P a w K Q := by
  simp only [kopx] at hx
  have hx2 := Option.some.inj hx
  split at hx2
  · rename_i hall
    obtain rfl := Option.some.inj hx2
    have hp := parts_rep hgl ht hvs
    obtain ⟨z, hz⟩ := Option.isSome_iff_exists.1 c5
    have hu := uel_u hel
    have hlen : vs.length = n := by have := congrArg List.length c1; simpa using this
    have hparts : ∀ p ∈ vs.map (fun p => (p.1, av tm p.2)), p.2.cells.length = s ∧ ones p.2.cells = true := fun p hp => by
      obtain ⟨q, hq, rfl⟩ := List.mem_map.1 hp
      have := List.all_eq_true.1 hall q.2 (List.mem_map.2 ⟨q, hq, rfl⟩)
      simpa only [Bool.and_eq_true, beq_iff_eq] using this
    have hsz1 : ∀ init : Array Value, init.size = n * s → ∃ arr, Instr.fill (fun i => some (i * s, s)) init (ps.toList.map fun (i, x) => (i, a.eval x)) = some arr ∧ arr.toList = (ps.toList.map fun (i, x) => (i, a.eval x)).flatMap fun q => q.2.cells.toList := fun init hinit => by
      obtain ⟨arr, h1, h2⟩ := fill_slice (s := s) (k := 0) (done := []) (cells := init) hp (by rw [List.map_map, List.length_map, hlen, ← List.range_eq_range', ← c1]; rfl) hparts (by simp) (by rw [hinit, List.length_map, hlen]; simp) (by simp)
      exact ⟨arr, h1, by simpa using h2⟩
    have hrep := all2_parts hp fun p hp => (hparts p hp).2
    have hcs : (vs.map fun p => (p.1, av tm p.2)).flatMap (fun p => p.2.cells) = (vs.map (·.2)).flatMap fun a => (av tm a).cells := by
      rw [List.flatMap_map, List.flatMap_map]
    rw [hcs] at hrep
    have hnm : ¬ (16777216 < n * s) := by have : n * s ≤ 1000 * 1000 := Nat.mul_le_mul c2 c3; omega
    have e1 : (ps.map fun x => (x.1, a.eval x.2)).toList = ps.toList.map fun (i, x) => (i, a.eval x) := by simp
    have hcl : ((vs.map (·.2)).flatMap fun a => (av tm a).cells).length = n * s := by
      rw [← hcs, ← hlen]
      have : ∀ l : List (Nat × V), (∀ p ∈ l, p.2.cells.length = s ∧ ones p.2.cells = true) → (l.flatMap fun p => p.2.cells).length = l.length * s := fun l hl => by
        induction l with
        | nil => simp
        | cons x l ih => rw [List.flatMap_cons, List.length_append, ih fun p hp => hl p (by simp [hp]), (hl x (by simp)).1, List.length_cons, Nat.succ_mul]; omega
      rw [this _ hparts, List.length_map]
    have h1s : ones ((vs.map (·.2)).flatMap fun a => (av tm a).cells) = true := List.all_eq_true.2 fun c hc => by
      obtain ⟨x, hx, hcx⟩ := List.mem_flatMap.1 hc
      obtain ⟨p, hp, rfl⟩ := List.mem_map.1 hx
      exact List.all_eq_true.1 (hparts (p.1, av tm p.2) (List.mem_map.2 ⟨p, hp, rfl⟩)).2 c hcx
    have run : ∃ arr, (execOp a.eval o).run P w = .ok (.value (.slice (some ⟨w.heap.size, 0, none⟩) n n)) (w.alloc (.cells arr e)) ∧ arr.size = n * s ∧ arr.toList = (ps.toList.map fun (i, x) => (i, a.eval x)).flatMap fun q => q.2.cells.toList := by
      by_cases h0 : n * s = 0
      · obtain ⟨arr, h1, h2⟩ := hsz1 ((Array.range (n * s)).map fun i => (#[] : Array Value)[i % (#[] : Array Value).size]!) (by simp)
        refine ⟨arr, ?_, ?_, h2⟩
        · simp only [execOp, ho, Instr.buildSlice, Sem.run_bind, run_underlying hu, Result.andThen_ok, run_size hs]
          rw [if_neg (by simpa using hnm), if_pos h0]
          simp only [pure_bind, Sem.run_pure, Result.andThen_ok, e1, h1, Sem.run_bind, newRow, run_newObj]
          rfl
        · have := hrep.length
          rw [hcl, ← h2] at this
          simpa using this.symm
      · obtain ⟨arr, h1, h2⟩ := hsz1 ((Array.range (n * s)).map fun i => z.cells[i % z.cells.size]!) (by simp)
        refine ⟨arr, ?_, ?_, h2⟩
        · simp only [execOp, ho, Instr.buildSlice, Sem.run_bind, run_underlying hu, Result.andThen_ok, run_size hs]
          rw [if_neg (by simpa using hnm), if_neg h0]
          simp only [pure_bind, Sem.run_pure, Result.andThen_ok, e1, h1, Sem.run_bind, newRow, run_newObj, run_zero hz]
          rfl
        · have := hrep.length
          rw [hcl, ← h2] at this
          simpa using this.symm
    obtain ⟨arr, hrun, hasz, hal⟩ := run
    rw [List.length_map, hlen] at hK
    exact newRow_good (g := g) (arr := arr) (n := n) (C := n) hinv hfr hs hg c4 hgs (Nat.le_refl _) (by simp only [maxLen]; omega) hasz h1s (by rw [hal, List.take_of_length_le (by rw [← hal, Array.length_toList, hasz]; exact Nat.le_refl _)]; exact hrep) hK hrun
  · cases hx2
theorem run_app0 (w : World) (base : Nat) (t t' ty e : TypeId) (i : TypeInfo) (z : Value) (ht : P.underlying t = some (.slice e)) {d : TypeDesc} (ht' : P.underlying t' = some d) (hd : (∃ e', d = .slice e') ∨ d = .string) (hi : P.info? e = some i) (hz : i.zero = some z)
    (hzs : z.cells.size = i.size) (A : Option Addr) (x : Value) (m : Nat) (news : List Value) (hx1 : ∀ w', (Builtin.lenOf x).run P w' = .ok m w')
    (hx2 : ∀ w' : World, w'.heap = w.heap → (Builtin.firstCells i.size m x).run P w' = .ok news.toArray w') (hl : news.length = m * i.size) (h63 : m ≤ maxLen) (hbytes : m * i.bytes ≤ 140737488355328)
    (hbase : base ≤ w.heap.size) (hm0 : m ≠ 0) :
    ∃ C w', (Builtin.append_ #[t, t'] ty #[.slice A 0 0, x]).run P w = .ok (.slice (some ⟨w.heap.size, 0, none⟩) m C) w' ∧ m ≤ C ∧ w'.ownsRow base e i.size (.slice (some ⟨w.heap.size, 0, none⟩) m C) m news ∧ w.grownBy w' none := by
  have hge := grownCap_ge w m 0 e
  have hgr : (w.drew.alloc (.cells (news.toArray ++ Builtin.zeroCells z.cells (grownCap w m 0 e - m)) e)).ownsRow base e i.size (.slice (some ⟨w.heap.size, 0, none⟩) m (grownCap w m 0 e)) m news ∧
      w.grownBy (w.drew.alloc (.cells (news.toArray ++ Builtin.zeroCells z.cells (grownCap w m 0 e - m)) e)) none := by
    refine ⟨⟨hl, .inr ⟨w.heap.size, _, _, rfl, hbase, heap_alloc_new w.drew _, hge, grownCap_le_maxLen w m 0 e h63, ?_, ?_⟩⟩, ⟨rfl, rfl, rfl, by simp, fun k hk _ => heap_alloc_old w.drew _ hk⟩⟩
    · simp only [Array.size_append, List.size_toArray, size_zeroCells, hzs, hl, ← Nat.add_mul]
      congr 1
      omega
    · simp only [Array.toList_append]
      rw [← hl]
      exact List.take_left
  have h63' : m ≤ 9223372036854775807 := by simp only [maxLen] at h63; omega
  have hf := hx2 w.drew rfl
  have hfo : (Builtin.firstCells i.size 0 (.slice A 0 0)).run P w.drew = .ok #[] w.drew := by
    cases A with
    | none => simp [Builtin.firstCells]
    | some ad => simpa using run_firstCells_some (P := P) w.drew i.size 0 ad 0 0 [] (by simp) fun j u hu => by simp at hu
  have h63'' : ¬ (9223372036854775807 < (m : Int)) := by omega
  have h48' : ¬ (281474976710656 < Builtin.nextslicecap m 0 * i.bytes) := by rw [nextslicecap_zero (by omega)]; omega
  refine ⟨_, _, ?_, hge, hgr.1, hgr.2⟩
  rcases hd with ⟨e', rfl⟩ | rfl <;> simp [Builtin.append_, run_underlying ht, run_underlying ht', sizeOf, typeInfo, zeroValue, hi, hz, hx1, hm0, h63'', h48', Question.forced, hf, hfo, newRow, grownCap]
theorem y_app (hgl : GlOK P E.gl G.pr) (hinv : Inv P G st w) (ht : TmR P G N tm a) (hfr : Fresh G (R8 i0)) {c : Call} {t t' e : TypeId} {g l : Bool} {i : TypeInfo} {z : Value} {xa ya : A} {r : R} (ho : o.op = .call c) (hc : c.callee = .builtin .append) (hts : c.argTypes.toList = [t, t']) (h0 : c.args.toList.mapM (ca E.gl) = some [xa, ya])
    (hel : uel P t = some e) (hg : uagg P e = some g) (hi : P.info? e = some i) (hz : i.zero = some z) (hzs : z.cells.size = i.size) (h0s : 0 < i.size) (hgs : g = false → i.size = 1) (hty : (l = true ∧ t' = t) ∨ (l = false ∧ isStr P t' = true ∧ isU8 P e = true ∧ i.size = 1))
    (hx : kopx E tm st i0 (.app e g i.size i.bytes l xa ya) = some (some r)) (hK : Good P G st i0 nx' a o K Q r) : o.wp P a w K Q := by
  have hA := cas_rep hgl ht h0
  have hA2 := args_arr (a := a) (c := c) rfl
  generalize c.args.toList.map a.eval = us at hA hA2
  cases hA with
  | cons hr hA =>
  cases hA with
  | cons hry hA =>
  cases hA
  rename_i ux uy
  have hT := arr_of_list hts
  have hs : usz P e = some i.size := by simp [usz, hi]
  have hf := hfr i0 (r8_self i0)
  -- a row, old or none, of n elements vs; the source p
  have main : ∀ (st1 : St) (n : Nat) (cs : List V) (vs : List Value) (p : List V × Nat × List Nat), Inv P G st1 w → (∀ b, ux.ownBlock = some b → (∀ j c, j ≠ i0 → blk G st1 j = some c → c ≠ b) ∧ ∀ o u, G.pr b o = some u → False) → w.ownsRow G.base e i.size ux n vs → ones cs = true → All2 (Rep P G) cs vs →
      srcX st e l (av tm ya) = some p → (n + p.2.1) * i.bytes ≤ 140737488355328 → n + p.2.1 ≤ 9223372036854775807 → 0 < n + p.2.1 ∨ ux.ownBlock ≠ none →
      (∀ G' w' v, G.le G' → Same G G' (R8 i0) → Inv P G' (upd st1 i0 (some (.row e i.size (n + p.2.1) (cs ++ p.1)))) w' → Rep P G' (.sl e g i.size i0 0 (n + p.2.1)) v → K (a.put o.dst v) w') → o.wp P a w K Q := by
    intro st1 n cs vs p hin hown1 hown h1 hcs hp hb hm hpos hk
    obtain ⟨d, news, hd, hdd, s1, s2, s3, s4, s5⟩ := srcX_ok hinv hi hel hry hty hp
    have hnl : news.length = p.2.1 * i.size := by rw [← s3.length, s4]
    have s2' : ∀ w' : World, w'.heap = w.heap → (Builtin.firstCells i.size p.2.1 uy).run P w' = .ok news.toArray w' := fun w' hw' => by
      have := s2 p.2.1 (Nat.le_refl _) w' hw'
      rwa [List.take_of_length_le (by omega)] at this
    obtain ⟨v', w', hrun, hown', hat, hm0⟩ := run_app w G.base t t' o.type e i z (uel_u hel) hd hdd hi hz hzs ux n vs hown uy p.2.1 news s1 s2' hnl (fun u hu => by
      obtain ⟨j, hj⟩ := List.getElem?_of_mem hu
      obtain ⟨q, hq, hqr⟩ := s3.get' hj
      exact hqr.one (ones_get s5 hq)) hm hb hinv.size
    have hrun' : (execOp a.eval o).run P w = .ok (.value v') w' := by
      refine run_builtin (f := Builtin.append_ c.argTypes o.type (c.args.map a.eval)) ho hc (fun k => rfl) ?_
      rw [hT, hA2]; exact hrun
    obtain ⟨b, C, hv', hnC, hown2⟩ : ∃ b C, v' = .slice (some ⟨b, 0, none⟩) (n + p.2.1) C ∧ n + p.2.1 ≤ C ∧ w'.ownsRow G.base e i.size v' (n + p.2.1) (vs ++ news) := by
      rcases hown'.2 with ⟨h1, h2⟩ | ⟨gb, cap, cur, h1, _, _, h2, _⟩
      · exfalso
        rcases hat with ⟨h3, _⟩ | ⟨h3, _⟩
        · rcases hpos with h4 | h4
          · omega
          · rw [← h3, h1] at h4; exact h4 rfl
        · rw [h1] at h3; simp [Value.ownBlock] at h3
      · exact ⟨gb, cap, h1, h2, hown'⟩
    subst hv'
    have fr : (∀ k, k < w.heap.size → k ≠ b → w'.heap[k]? = w.heap[k]?) ∧ w.heap.size ≤ w'.heap.size ∧ w'.os = w.os ∧ w'.tape = w.tape ∧ w'.output = w.output ∧ (∀ j c, j ≠ i0 → blk G st1 j = some c → c ≠ b) ∧ (∀ o u, G.pr b o = some u → False) := by
      rcases hat with ⟨h3, h4⟩ | ⟨h3, h4⟩
      · have hb : ux.ownBlock = some b := by rw [← h3]; rfl
        obtain ⟨q1, q2⟩ := hown1 b hb
        exact ⟨fun k hk hne => h4.block k hk (by rw [hb]; simpa using hne), h4.size, h4.os, h4.tape, h4.output, q1, q2⟩
      · have hb : b = w.heap.size := by simpa [Value.ownBlock] using h3
        exact ⟨fun k hk hne => h4.block k hk (by simp), h4.size, h4.os, h4.tape, h4.output, fun j c _ hc => by have := (hin.blk_lt hc).1; omega, fun o u hu => by have := hin.pr_lt hu; omega⟩
    obtain ⟨f1, f2, f3, f4, f5, f6, f7⟩ := fr
    obtain ⟨hle, hi'⟩ := hin.rowPut (w' := w') (i := i0) (b := b) (C := C) (cs := cs ++ p.1) hf.1 hf.2 hs h0s hown2 f1 f2 f3 f4 f5 f6 f7 (by rw [ones_append, h1, s5]; rfl) (hcs.append s3)
    exact wp_val hrun' (hk _ _ _ hle (same_put (r8_self i0)) hi' (Rep.row hs hg h0s hnC hgs))
  have nil0 : ∀ (b : Nat), (Value.slice none 0 0).ownBlock = some b → (∀ j c, j ≠ i0 → blk G st j = some c → c ≠ b) ∧ ∀ o u, G.pr b o = some u → False := fun b hb => by simp [Value.ownBlock] at hb
  simp only [kopx] at hx
  split at hx
  · rename_i e' g' s' id off n he
    rw [he] at hr
    have hx2 := Option.some.inj hx
    clear hx
    split at hx2
    · rename_i hc0
      obtain ⟨rfl, rfl⟩ := hc0
      split at hx2
      · rename_i e2 s2 n2 cs hst
        split at hx2
        · rename_i hc1
          obtain ⟨rfl, rfl⟩ := hc1
          rw [Option.bind_eq_some_iff] at hx2
          obtain ⟨p, hp, hx2⟩ := hx2
          split at hx2
          · rename_i hc2
            obtain rfl := Option.some.inj hx2
            obtain ⟨b, NN, C, A, cc, hv, k1, k2, k3, k4, k5, k6, k7, k8, k9, k10⟩ := hr.sl_inv
            obtain ⟨v, vs, b', g1, g2, g3, g4, g5, g6, g7, g8⟩ := hinv.objs id _ hst
            rw [k2] at g1
            obtain rfl := Option.some.inj g1
            rw [hs] at g4
            obtain rfl := Option.some.inj g4
            have hNn : NN = n2 := by have := vlen_own g6; simpa [vlen] using this
            subst hNn
            obtain ⟨rfl, rfl⟩ := k9 rfl rfl
            subst hv
            have hbb : blk G st id = some b := by unfold blk; rw [hst]; exact k1
            refine main (upd st id none) NN cs vs p (hinv.drop id) (fun b2 hb2 => ?_) g6 g7 g8 hp hc2.1 hc2.2 (.inr (by simp [Value.ownBlock])) fun G' w' v h1 h2 h3 h4 => hK G' w' v h1 h2 (by simpa [upds] using h3) h4
            obtain rfl : b = b2 := by simpa [Value.ownBlock] using hb2
            refine ⟨fun j c hj hc hcb => ?_, fun o u hu => ?_⟩
            · subst hcb
              by_cases hjd : j = id
              · subst hjd; unfold blk at hc; simp [upd] at hc
              · have : blk G st j = some c := by unfold blk at hc ⊢; simpa [upd, hjd] using hc
                exact hjd (hinv.apart j id c this hbb)
            · obtain ⟨n, e, s, q, _⟩ := hinv.free id b hbb o u hu
              rw [hst] at q; cases q
          · cases hx2
        · cases hx2
      · cases hx2
    · cases hx2
  · rename_i e' he
    rw [he] at hr
    have hx2 := Option.some.inj hx
    clear hx
    rw [Option.bind_eq_some_iff] at hx2
    obtain ⟨p, hp, hx2⟩ := hx2
    obtain ⟨A, cc, hv, _, hn, _⟩ := hr.list_inv
    obtain ⟨_, rfl, rfl⟩ := hn rfl
    have hv : ux = .slice none 0 0 := hv
    split at hx2
    · rename_i hc2
      split at hx2
      · rename_i hm
        obtain rfl := Option.some.inj hx2
        obtain ⟨d, news, hd, hdd, s1, s2, s3, s4, s5⟩ := srcX_ok hinv hi hel hry hty hp
        rw [hm] at s1 s2 s4
        obtain ⟨v', w', hrun, _, hat, hm0⟩ := run_app w G.base t t' o.type e i z (uel_u hel) hd hdd hi hz hzs ux 0 [] (by rw [hv]; exact World.ownsRow_nil w G.base e i.size) uy 0 [] s1 (fun w' hw' => by simpa using s2 0 (Nat.le_refl _) w' hw') (by simp) (by simp) (by simp [maxLen]) (by simp) hinv.size
        have := hm0 rfl
        subst this
        have hw : w' = w := by
          have h2 : (Builtin.append_ #[t, t'] o.type #[v', uy]).run P w = .ok v' w := by
            rw [hv]
            have hf2 := s2 0 (Nat.le_refl _) w rfl
            simp only [Nat.zero_mul, List.take_zero] at hf2
            rcases hdd with ⟨e'', rfl⟩ | rfl <;> simp [Builtin.append_, run_underlying (uel_u hel), run_underlying hd, sizeOf, typeInfo, hi, s1, hf2]
          rw [hrun] at h2
          simpa using h2
        subst hw
        refine good_same hinv hK (v := v') ?_ hr
        refine run_builtin (f := Builtin.append_ c.argTypes o.type (c.args.map a.eval)) ho hc (fun k => rfl) ?_
        rw [hT, hA2]; exact hrun
      · rename_i hm
        obtain rfl := Option.some.inj hx2
        refine main st 0 [] [] p hinv (by rw [hv]; exact nil0) (by rw [hv]; exact World.ownsRow_nil w G.base e i.size) rfl .nil hp (by simpa using hc2.1) (by simpa using hc2.2) (.inl (by omega)) fun G' w' v h1 h2 h3 h4 => hK G' w' v h1 h2 (by simpa [upds] using h3) (by simpa using h4)
    · cases hx2
  · rename_i e' he
    rw [he] at hr
    have hx2 := Option.some.inj hx
    clear hx
    rw [Option.bind_eq_some_iff] at hx2
    obtain ⟨p, hp, hx2⟩ := hx2
    obtain ⟨A, hv⟩ := hr.emp_inv
    subst hv
    obtain ⟨d, news, hd, hdd, s1, s2, s3, s4, s5⟩ := srcX_ok hinv hi hel hry hty hp
    split at hx2
    · rename_i hc2
      split at hx2
      · rename_i hm
        obtain rfl := Option.some.inj hx2
        rw [hm] at s1 s2
        have hf2 := s2 0 (Nat.le_refl _) w rfl
        simp only [Nat.zero_mul, List.take_zero] at hf2
        have hrun : (Builtin.append_ #[t, t'] o.type #[.slice A 0 0, uy]).run P w = .ok (.slice A 0 0) w := by
          cases A with
          | none => rcases hdd with ⟨e'', rfl⟩ | rfl <;> simp [Builtin.append_, run_underlying (uel_u hel), run_underlying hd, sizeOf, typeInfo, hi, s1, hf2]
          | some ad => rcases hdd with ⟨e'', rfl⟩ | rfl <;> simp [Builtin.append_, run_underlying (uel_u hel), run_underlying hd, sizeOf, typeInfo, hi, s1, hf2, storeCells]
        refine good_same hinv hK (v := .slice A 0 0) ?_ hr
        refine run_builtin (f := Builtin.append_ c.argTypes o.type (c.args.map a.eval)) ho hc (fun k => rfl) ?_
        rw [hT, hA2]; exact hrun
      · rename_i hm
        obtain rfl := Option.some.inj hx2
        have hnl : news.length = p.2.1 * i.size := by rw [← s3.length, s4]
        obtain ⟨C, w', hrun, hC, hown', hgr⟩ := run_app0 w G.base t t' o.type e i z (uel_u hel) hd hdd hi hz hzs A uy p.2.1 news s1 (fun w' hw' => by
          have := s2 p.2.1 (Nat.le_refl _) w' hw'
          rwa [List.take_of_length_le (by omega)] at this) hnl (by simp only [maxLen]; exact hc2.2) hc2.1 hinv.size hm
        obtain ⟨hle, hi'⟩ := hinv.rowPut (w' := w') (i := i0) (b := w.heap.size) (C := C) (cs := p.1) hf.1 hf.2 hs h0s hown' (fun k hk hne => hgr.block k hk (by simp)) hgr.size hgr.os hgr.tape hgr.output (fun j c _ hc => by have := (hinv.blk_lt hc).1; omega) (fun o u hu => by have := hinv.pr_lt hu; omega) s5 s3
        refine wp_val ?_ (hK _ _ _ hle (same_put (r8_self i0)) (by simpa [upds] using hi') (Rep.row hs hg h0s hC hgs))
        refine run_builtin (f := Builtin.append_ c.argTypes o.type (c.args.map a.eval)) ho hc (fun k => rfl) ?_
        rw [hT, hA2]; exact hrun
    · cases hx2
  · cases hx
end
section
variable {P : Program} {G G' : Gh} {st : St} {w w' : World} {a : Act} {tm : Nat → V} {N i0 nx' : Nat} {o : Oper} {K : Act → World → Prop} {Q : Exit → Act → World → Prop} {E : Env}
theorem put_cells (hinv : Inv P G st w) {id b off : Nat} {cs ns : List V} {news : List Value} {ob : Ob} (hcs : obCells (st id) = some cs) (hb : G.bx id = some b) (hob : obSet (st id) (cs.take off ++ ns ++ cs.drop (off + ns.length)) = some ob) (hl : off + ns.length ≤ cs.length) (h1 : ones ns = true) (hr : All2 (Rep P G) ns news) :
    ∃ w', (storeCells ⟨b, off, none⟩ news 0).run P w = .ok () w' ∧ Inv P G (upd st id (some ob)) w' := by
  have hnl := hr.length
  cases hs : st id with
  | none => rw [hs] at hcs; simp [obCells] at hcs
  | some o0 =>
    rw [hs] at hcs hob
    have ho := hinv.objs id o0 hs
    cases o0 with
    | cells c =>
      simp only [obCells, Option.some.injEq] at hcs; subst hcs
      simp only [obSet, Option.some.injEq] at hob; subst hob
      obtain ⟨b', arr, T, g1, g2, g3, g4, g5⟩ := ho
      rw [hb] at g1
      obtain rfl := Option.some.inj g1
      have hla := g5.length
      simp only [Array.length_toList] at hla
      have hst := run_storeCells_at P b off T news 0 arr w g3 (by omega) (ones_vals hr h1)
      simp only [Nat.add_zero] at hst
      refine ⟨_, hst, hinv.set id _ _ b hs hb (by simp) (by simp) g2 (fun k hk => setRow_other w b k _ hk) (by simp) rfl rfl rfl ⟨b, _, T, hb, g2, setRow_heap w b arr _ T (0, 0) g3, ?_, ?_⟩⟩
      · rw [ones_append, ones_append, ones_take g4, h1, ones_drop g4]; rfl
      · rw [← hnl]; exact ((g5.take off).append hr).append (g5.drop _)
    | row e s n c =>
      simp only [obCells, Option.some.injEq] at hcs; subst hcs
      simp only [obSet, Option.some.injEq] at hob; subst hob
      obtain ⟨v, vs, b', g1, g2, g3, g4, g5, g6, g7, g8⟩ := ho
      rw [hb] at g3
      obtain rfl := Option.some.inj g3
      have hla := g8.length
      obtain ⟨w', hst, k1, k2, k3, k4, k5, k6⟩ := own_store (P := P) (off := off) g6 g2 (by omega) (ones_vals hr h1)
      refine ⟨w', hst, hinv.set id _ _ b hs hb (by simp) (by simp) (g6.lt b g2).1 k2 k3 k4 k5 k6 ⟨v, _, b, g1, g2, hb, g4, g5, k1, ?_, ?_⟩⟩
      · rw [ones_append, ones_append, ones_take g7, h1, ones_drop g7]; rfl
      · rw [← hnl]; exact ((g8.take off).append hr).append (g8.drop _)
    | frz ds => simp [obSet] at hob
    | _ => simp [obCells] at hcs
theorem y_cpy (hgl : GlOK P E.gl G.pr) (hinv : Inv P G st w) (ht : TmR P G N tm a) {c : Call} {t t' e s : TypeId} {l : Bool} {xa ya : A} {r : R} (ho : o.op = .call c) (hc : c.callee = .builtin .copy) (hts : c.argTypes.toList = [t, t']) (h0 : c.args.toList.mapM (ca E.gl) = some [xa, ya])
    (hel : uel P t = some e) (hs : usz P e = some s) (hty : (l = true ∧ t' = t) ∨ (l = false ∧ isStr P t' = true ∧ isU8 P e = true ∧ s = 1))
    (hx : kopx E tm st i0 (.cpy e s l xa ya) = some (some r)) (hK : Good P G st i0 nx' a o K Q r) : o.wp P a w K Q := by
  have hA := cas_rep hgl ht h0
  have hA2 := args_arr (a := a) (c := c) rfl
  generalize c.args.toList.map a.eval = us at hA hA2
  cases hA with
  | cons hr hA =>
  cases hA with
  | cons hry hA =>
  cases hA
  rename_i ux uy
  have hT := arr_of_list hts
  obtain ⟨i, hi, hsi⟩ := usz_info hs
  subst hsi
  simp only [kopx] at hx
  split at hx
  · rename_i e' g' s' id off n he
    rw [he] at hr
    have hx2 := Option.some.inj hx
    clear hx
    split at hx2
    · rename_i hee
      subst hee
      rw [Option.bind_eq_some_iff] at hx2
      obtain ⟨p, hp, hx2⟩ := hx2
      rw [Option.bind_eq_some_iff] at hx2
      obtain ⟨cs, hcs, hx2⟩ := hx2
      split at hx2
      · rename_i hl
        rw [Option.map_eq_some_iff] at hx2
        obtain ⟨ob, hob, rfl⟩ := hx2
        obtain ⟨b, NN, C, A, cc, hv, k1, k2, k3, k4, k5, k6, k7, k8, k9, k10⟩ := hr.sl_inv
        rw [hs] at k3
        obtain rfl := Option.some.inj k3
        obtain ⟨d, news, hd, hdd, s1, s2, s3, s4, s5⟩ := srcX_ok hinv hi hel hry hty hp
        have hm1 : min p.2.1 n * i.size ≤ p.2.1 * i.size := Nat.mul_le_mul_right _ (Nat.min_le_left _ _)
        have hm2 : min p.2.1 n * i.size ≤ n * i.size := Nat.mul_le_mul_right _ (Nat.min_le_right _ _)
        have hmul : (off + n) * i.size = off * i.size + n * i.size := Nat.add_mul _ _ _
        have hmul2 : (off + min p.2.1 n) * i.size = off * i.size + min p.2.1 n * i.size := Nat.add_mul _ _ _
        have htl : (p.1.take (min p.2.1 n * i.size)).length = min p.2.1 n * i.size := by rw [List.length_take]; omega
        rw [hmul2, show off * i.size + min p.2.1 n * i.size = off * i.size + (p.1.take (min p.2.1 n * i.size)).length by rw [htl]] at hob
        obtain ⟨w', hst, hinv'⟩ := put_cells hinv hcs k1 hob (by rw [htl]; omega) (ones_take s5 _) (s3.take _)
        have hcells := s2 (min p.2.1 n) (Nat.min_le_left _ _) w rfl
        have hrun : (execOp a.eval o).run P w = .ok (.value (.int .i64 (min p.2.1 n : Nat))) w' := by
          refine run_builtin (f := Builtin.copy_ c.argTypes o.type (c.args.map a.eval)) ho hc (fun k => rfl) ?_
          rw [hT, hA2, hv]
          have hz : (storeCells ⟨b, off * i.size, none⟩ (news.take (min p.2.1 n * i.size)).toArray.toList 0).run P w = .ok () w' := by simpa using hst
          by_cases hn : 0 < n
          · have hA3 := k8 hn
            subst hA3
            simp only [Builtin.copy_, List.getElem?_toArray, List.getElem?_cons_zero, List.getElem?_cons_succ, Sem.run_bind, run_underlying (uel_u hel), Result.andThen_ok, s1, run_size hs]
            rw [show Nat.min p.2.1 n = min p.2.1 n from rfl, hcells]
            simp only [Result.andThen_ok, hz, goInt, Sem.run_bind, Sem.run_pure]
          · have : n = 0 := by omega
            subst this
            simp only [Nat.min_zero, Nat.zero_mul, List.take_zero] at hcells hz ⊢
            have hw : w = w' := by simpa [storeCells] using hz
            subst hw
            cases A with
            | none => simp [Builtin.copy_, run_underlying (uel_u hel), s1, run_size hs, show Nat.min p.2.1 0 = 0 from Nat.min_zero _, hcells, goInt]
            | some ad => simp [Builtin.copy_, run_underlying (uel_u hel), s1, run_size hs, show Nat.min p.2.1 0 = 0 from Nat.min_zero _, hcells, goInt, storeCells]
        exact wp_val hrun (hK G w' _ (.refl G) (.refl G _) (by simpa [upds] using hinv') (.pure (.sc _)))
      · cases hx2
    · cases hx2
  · cases hx
theorem y_asl (hgl : GlOK P E.gl G.pr) (hinv : Inv P G st w) (ht : TmR P G N tm a) (hfr : Fresh G (R8 i0)) {t el s : TypeId} {n : Nat} {g : Bool} {x : Operand} {xa : A} {r : R} (ho : o.op = .slice t x none none none) (h0 : ca E.gl x = some xa) (hu : P.underlying t = some (.array n el)) (hs : usz P el = some s) (hg : uagg P el = some g) (hs0 : 0 < s) (hgs : g = false → s = 1)
    (hx : kopx E tm st i0 (.asl el g s n xa) = some (some r)) (hK : Good P G st i0 nx' a o K Q r) : o.wp P a w K Q := by
  have hr := ca_rep hgl ht h0
  simp only [kopx] at hx
  split at hx
  · rename_i id off he
    rw [he] at hr
    have hx2 := Option.some.inj hx
    clear hx
    split at hx2
    · rename_i cs hst
      split at hx2
      · rename_i hc
        obtain ⟨rfl, c2, c3⟩ := hc
        obtain rfl := Option.some.inj hx2
        obtain ⟨b, hv, hb⟩ := hr.ptr_inv
        obtain ⟨b', ar, T, g1, g2, g3, g4, g5⟩ := hinv.objs id _ hst
        rw [hb] at g1
        obtain rfl := Option.some.inj g1
        have hf := hfr i0 (r8_self i0)
        have hrun : (execOp a.eval o).run P w = .ok (.value (.slice (some ⟨b, 0, none⟩) n n)) w := by
          simp only [execOp, ho, hv, Option.map_none]
          rw [Sem.run_bind]
          have : (Instr.sliceAt t (.pointer (some ⟨b, 0, none⟩)) none none none).run P w = .ok (.slice (some ⟨b, 0, none⟩) n n) w := by
            simp [Instr.sliceAt, run_underlying hu, Instr.sliceBounds, run_size hs, Instr.sureAddr, blk_add]
          rw [this]
          rfl
        have hle := G.put_le (b := b) (v := .slice (some ⟨b, 0, none⟩) n n) hf.1 hf.2
        have hd := hinv.drop id
        have hbb : blk G st id = some b := by unfold blk; rw [hst]; exact hb
        have hap : ∀ j c, j ≠ i0 → blk G (upd st id none) j = some c → c ≠ b := fun j c hj hc hcb => by
          subst hcb
          by_cases hjd : j = id
          · subst hjd; unfold blk at hc; simp [upd] at hc
          · have : blk G st j = some c := by unfold blk at hc ⊢; simpa [upd, hjd] using hc
            exact hjd (hinv.apart j id c this hbb)
        have hnp : ∀ o u, G.pr b o = some u → False := fun o u hu => by
          obtain ⟨n, e, s, q, _⟩ := hinv.free id b hbb o u hu
          rw [hst] at q; cases q
        have hblk : ∀ c, blk (G.put i0 b (.slice (some ⟨b, 0, none⟩) n n)) (upd (upd st id none) i0 (some (.cells cs))) i0 = some c → c = b := fun c hc => by
          unfold blk at hc; simp [upd, Gh.put] at hc; exact hc.symm
        have hi' : Inv P (G.put i0 b (.slice (some ⟨b, 0, none⟩) n n)) (upd (upd st id none) i0 (some (.cells cs))) w := by
          refine hd.go hle (Below.refl _ _) hinv.prot i0 (fun j hj => by simp [upd, hj]) (fun j hj => by simp [Gh.put, upd, hj]) (fun j hj => by simp [Gh.put, upd, hj]) (fun _ _ _ _ => rfl) (fun ob hob => ?_) (fun j c hj hc hc' => hap j c hj hc (hblk c hc')) (fun c hc o v hv => ?_) (fun _ _ _ _ _ _ q => q)
          · simp [upd] at hob; subst hob
            exact ⟨b, ar, T, by simp [Gh.put, upd], g2, g3, g4, g5.rep_mono hle⟩
          · have := hblk c hc
            subst this
            exact (hnp o v hv).elim
        exact wp_val hrun (hK _ _ _ hle (same_put (r8_self i0)) (by simpa [upds] using hi') (Rep.row hs hg hs0 (Nat.le_refl _) hgs))
      · cases hx2
    · cases hx2
  · cases hx
end
section
variable {P : Program} {G G' : Gh} {st : St} {w w' : World} {a : Act} {tm : Nat → V} {N i0 nx' : Nat} {o : Oper} {K : Act → World → Prop} {Q : Exit → Act → World → Prop} {E : Env}
theorem y_asx (hgl : GlOK P E.gl G.pr) (hinv : Inv P G st w) (ht : TmR P G N tm a) (hfr : Fresh G (R8 i0)) {t el s : TypeId} {n : Nat} {g : Bool} {x : Operand} {xa la : A} {lo : Operand} {r : R} (ho : o.op = .slice t x (some lo) none none) (h0 : ca E.gl x = some xa) (h1 : ca E.gl lo = some la) (hu : P.underlying t = some (.array n el)) (hs : usz P el = some s) (hg : uagg P el = some g) (hs0 : 0 < s) (hgs : g = false → s = 1)
    (hx : kopx E tm st i0 (.asx el g s n xa la) = some (some r)) (hK : Good P G st i0 nx' a o K Q r) : o.wp P a w K Q := by
  have hr := ca_rep hgl ht h0
  simp only [kopx] at hx
  split at hx
  · rename_i id off he
    rw [he] at hr
    have hx2 := Option.some.inj hx
    clear hx
    split at hx2
    · rename_i cs hst
      rw [Option.bind_eq_some_iff] at hx2
      obtain ⟨l, hl, hx2⟩ := hx2
      split at hx2
      · rename_i hc
        obtain ⟨rfl, c0, c1, c2, c3⟩ := hc
        obtain ⟨ln, rfl⟩ := Int.eq_ofNat_of_zero_le c0
        have b1 : ln ≤ n := by omega
        have hr1 := ca_rep hgl ht h1
        obtain ⟨lk, elo⟩ : ∃ k, a.eval lo = .int k ln := by
          obtain ⟨k, hk⟩ := vint_inv hl
          rw [hk] at hr1
          exact ⟨k, hr1.sc_inv⟩
        obtain rfl := Option.some.inj hx2
        obtain ⟨b, hv, hb⟩ := hr.ptr_inv
        obtain ⟨b', ar, T, g1, g2, g3, g4, g5⟩ := hinv.objs id _ hst
        rw [hb] at g1
        obtain rfl := Option.some.inj g1
        have hf := hfr i0 (r8_self i0)
        have hrun : (execOp a.eval o).run P w = .ok (.value (.slice (if n = ln then some ⟨b, 0, none⟩ else some ⟨b, ln * s, none⟩) (n - ln) (n - ln))) w := by
          simp only [execOp, ho, hv, Option.map_none, Option.map_some]
          rw [Sem.run_bind]
          have : (Instr.sliceAt t (.pointer (some ⟨b, 0, none⟩)) (some (a.eval lo)) none none).run P w = .ok (.slice (if n = ln then some ⟨b, 0, none⟩ else some ⟨b, ln * s, none⟩) (n - ln) (n - ln)) w := by
            simp [Instr.sliceAt, run_underlying hu, Instr.sliceBounds, Instr.sliceBound, asIntOf, elo, b1, run_size hs, Instr.sureAddr, blk_add]
            split <;> simp_all
          rw [this]
          rfl
        have hle := G.put_le (b := b) (v := .slice (some ⟨b, 0, none⟩) n n) hf.1 hf.2
        have hd := hinv.drop id
        have hbb : blk G st id = some b := by unfold blk; rw [hst]; exact hb
        have hap : ∀ j c, j ≠ i0 → blk G (upd st id none) j = some c → c ≠ b := fun j c hj hc hcb => by
          subst hcb
          by_cases hjd : j = id
          · subst hjd; unfold blk at hc; simp [upd] at hc
          · have : blk G st j = some c := by unfold blk at hc ⊢; simpa [upd, hjd] using hc
            exact hjd (hinv.apart j id c this hbb)
        have hnp : ∀ o u, G.pr b o = some u → False := fun o u hu => by
          obtain ⟨n, e, s, q, _⟩ := hinv.free id b hbb o u hu
          rw [hst] at q; cases q
        have hblk : ∀ c, blk (G.put i0 b (.slice (some ⟨b, 0, none⟩) n n)) (upd (upd st id none) i0 (some (.cells cs))) i0 = some c → c = b := fun c hc => by
          unfold blk at hc; simp [upd, Gh.put] at hc; exact hc.symm
        have hi' : Inv P (G.put i0 b (.slice (some ⟨b, 0, none⟩) n n)) (upd (upd st id none) i0 (some (.cells cs))) w := by
          refine hd.go hle (Below.refl _ _) hinv.prot i0 (fun j hj => by simp [upd, hj]) (fun j hj => by simp [Gh.put, upd, hj]) (fun j hj => by simp [Gh.put, upd, hj]) (fun _ _ _ _ => rfl) (fun ob hob => ?_) (fun j c hj hc hc' => hap j c hj hc (hblk c hc')) (fun c hc o v hv => ?_) (fun _ _ _ _ _ _ q => q)
          · simp [upd] at hob; subst hob
            exact ⟨b, ar, T, by simp [Gh.put, upd], g2, g3, g4, g5.rep_mono hle⟩
          · have := hblk c hc
            subst this
            exact (hnp o v hv).elim
        exact wp_val hrun (hK _ _ _ hle (same_put (r8_self i0)) (by simpa [upds] using hi') (Rep.sl (id := i0) (off := (Int.ofNat ln).toNat) (n := n - (Int.ofNat ln).toNat) (b := b) (N := n) (C := n) (c := n - ln) (by simp [Gh.put, upd]) (by simp [Gh.put, upd]) hs hg hs0 (by simp; omega) (by simp) (fun hp => by simp at hp; rw [if_neg (by omega)]; simp) (fun e1 e2 => by simp at e1; subst e1; by_cases hn : n = 0 <;> simp [hn]) hgs))
      · cases hx2
    · cases hx2
  · cases hx
end
section
variable {P : Program} {G G' : Gh} {st : St} {w w' : World} {a : Act} {tm : Nat → V} {N i0 nx' : Nat} {o : Oper} {K : Act → World → Prop} {Q : Exit → Act → World → Prop} {E : Env}
theorem Inv.freeze (h : Inv P G st w) {id : Nat} {cs ds : List V} (hc : st id = some (.cells cs) ∨ ∃ e s n, st id = some (.row e s n cs)) (hd : cs.mapM V.pur1? = some ds) :
    ∃ G', G.le G' ∧ G'.bx = G.bx ∧ G'.tl = G.tl ∧ Inv P G' (upd st id (some (.frz ds))) w := by
  have hoc : obCells (st id) = some cs := by
    rcases hc with hc | ⟨e, s, n, hc⟩ <;> rw [hc] <;> rfl
  obtain ⟨b, vs, k1, k2, k3, k4⟩ := ob_cells h hoc
  have hbb : blk G st id = some b := by
    unfold blk
    rcases hc with hc | ⟨e, s, n, hc⟩ <;> rw [hc] <;> exact k1
  have hnp : ∀ o u, G.pr b o = some u → False := fun o u hu => by
    obtain ⟨n, e, s, q, _⟩ := h.free id b hbb o u hu
    rcases hc with hc | ⟨_, _, _, hc⟩ <;> (rw [hc] at q; cases q)
  have hbase := (h.blk_lt hbb).2
  have hle : G.le { G with pr := fun c o => if c = b then vs[o]? else G.pr c o } := ⟨rfl, rfl, fun c o v q => by
    show (if _ then _ else _) = _
    rw [if_neg (fun e => by subst e; exact hnp o v q)]; exact q, fun _ _ q => q, fun t v q => ⟨v, q, Nat.le_refl _, fun _ => rfl, fun _ => rfl⟩, fun c o hco => if_neg (by omega)⟩
  refine ⟨_, hle, rfl, rfl, h.go hle (Below.refl _ _) (fun c o v hv => ?_) id (fun j hj => by simp [upd, hj]) (fun _ _ => rfl) (fun _ _ => rfl) (fun _ _ _ _ => rfl) (fun ob hob => ?_) (fun j c hj hc2 hc' => ?_) (fun c hc2 => ?_) (fun j c hj hc2 o v hv => ?_)⟩
  · have hv2 : (if c = b then vs[o]? else G.pr c o) = some v := hv
    by_cases e : c = b
    · rw [if_pos e] at hv2; subst e; exact k4 o v hv2
    · rw [if_neg e] at hv2; exact h.prot c o v hv2
  · simp [upd] at hob; subst hob
    refine ⟨b, vs, k1, pur1_ones hd k2, All2.trans2 (S := Rep P G) (T := RepP P _) (fun x y z hx hz => (rep_pur1 hz hx).mono hle.pr) (mapM_some hd) k3, fun j u hu => ?_⟩
    show (if _ then _ else _) = _
    rw [if_pos rfl]; exact hu
  · unfold blk at hc'; simp [upd] at hc'
  · unfold blk at hc2; simp [upd] at hc2
  · have hv2 : (if c = b then vs[o]? else G.pr c o) = some v := hv
    rwa [if_neg (fun e => by subst e; exact hj (h.apart j id c hc2 hbb))] at hv2
theorem chunk_len (g : Bool) (s : Nat) : ∀ (n : Nat) (l : List V), (chunk g s n l).length = n
  | 0, l => rfl
  | n + 1, l => by rw [chunk, List.length_cons, chunk_len]
theorem chunk_flat {g : Bool} {s : Nat} (hs : g = false → s = 1) : ∀ (n : Nat) (l : List V), n * s ≤ l.length → (∀ x ∈ l, x.one = true) → (chunk g s n l).flatMap V.cells = l.take (n * s) ∧ ∀ x ∈ chunk g s n l, x.cells.length = s
  | 0, l, _, _ => by simp [chunk]
  | n + 1, l, hl, h1 => by
    have hmul : (n + 1) * s = s + n * s := by rw [Nat.succ_mul, Nat.add_comm]
    obtain ⟨e1, e2⟩ := chunk_flat hs n (l.drop s) (by rw [List.length_drop]; omega) fun x hx => h1 x (List.mem_of_mem_drop hx)
    have hd : (if g then V.agg (l.take s) else l.headD default).cells = l.take s := by
      cases g with
      | true => rfl
      | false =>
        have h2 := hs rfl
        subst h2
        cases l with
        | nil => simp at hl
        | cons x l =>
          have := h1 x (by simp)
          simp only [List.headD_cons, Bool.false_eq_true, if_false]
          cases x <;> first | rfl | (simp [V.one] at this)
    rw [chunk]
    refine ⟨?_, fun x hx => ?_⟩
    · rw [List.flatMap_cons, hd, e1, hmul, List.take_add]
    · rcases List.mem_cons.1 hx with rfl | hx
      · rw [hd, List.length_take]; omega
      · exact e2 x hx
theorem frz_list (h : Inv P G st w) {e : TypeId} {g : Bool} {s id off n : Nat} {u : Value} {ds : List V} (hr : Rep P G (.sl e g s id off n) u) (hf : st id = some (.frz ds)) (hl : (off + n) * s ≤ ds.length) : RepP P G.pr (.list e (chunk g s n (ds.drop (off * s))) 0) u := by
  obtain ⟨b, N, C, A, c, rfl, h1, h2, h3, h4, h5, h6, h7, h8, h9, h10⟩ := hr.sl_inv
  obtain ⟨b', vs, k1, k2, k3, k4⟩ := h.objs id _ hf
  rw [h1] at k1
  obtain rfl := Option.some.inj k1
  have hmul : (off + n) * s = off * s + n * s := Nat.add_mul _ _ _
  have hvl := k3.length
  obtain ⟨e1, e2⟩ := chunk_flat h10 n (ds.drop (off * s)) (by rw [List.length_drop]; omega) fun x hx => by obtain ⟨i, hi⟩ := List.getElem?_of_mem hx; exact ones_get (ones_drop k2 _) hi
  refine .list (vs := (vs.drop (off * s)).take (n * s)) (chunk_len _ _ _ _) h7 (.inl rfl) (fun s' hs' x hx => by rw [h3] at hs'; obtain rfl := Option.some.inj hs'; exact e2 x hx) (by rw [e1]; exact ones_take (ones_drop k2 _) _) (fun hne => ⟨_, h8 ?_, fun j u hu => ?_⟩) (.of (by rw [e1]; exact (k3.drop _).take _))
  · rcases Nat.eq_zero_or_pos n with hn | hn
    · subst hn; simp at hne
    · exact hn
  · rw [List.getElem?_take] at hu
    split at hu
    · rw [List.getElem?_drop] at hu
      rw [blk_add]
      exact ⟨rfl, k4 _ u hu⟩
    · cases hu
theorem frz1_sound (h : Inv P G st w) {v y : V} {u : Value} {δ : List (Nat × Option Ob)} (hr : Rep P G v u) (hx : frz1 st v = some (y, δ)) : ∃ G', G.le G' ∧ G'.bx = G.bx ∧ G'.tl = G.tl ∧ Inv P G' (upds δ st) w ∧ RepP P G'.pr y u := by
  have pure : ∀ v, Rep P G v u → v.pur1?.map (fun u => (u, ([] : List (Nat × Option Ob)))) = some (y, δ) → ∃ G', G.le G' ∧ G'.bx = G.bx ∧ G'.tl = G.tl ∧ Inv P G' (upds δ st) w ∧ RepP P G'.pr y u := fun v hr hx => by
    rw [Option.map_eq_some_iff] at hx
    obtain ⟨z, hz, hx⟩ := hx
    simp only [Prod.mk.injEq] at hx
    obtain ⟨rfl, rfl⟩ := hx
    exact ⟨G, .refl G, rfl, rfl, h, rep_pur1 hr hz⟩
  unfold frz1 at hx
  split at hx
  · rename_i e g s id off n
    rw [Option.bind_eq_some_iff] at hx
    obtain ⟨p, hp, hx⟩ := hx
    split at hx
    · rename_i hl
      simp only [Option.some.injEq, Prod.mk.injEq] at hx
      obtain ⟨rfl, rfl⟩ := hx
      have two : ∀ cs, (st id = some (.cells cs) ∨ ∃ e s n, st id = some (.row e s n cs)) → (cs.mapM V.pur1?).map (fun ds => (ds, [(id, some (Ob.frz ds))])) = some p → ∃ G', G.le G' ∧ G'.bx = G.bx ∧ G'.tl = G.tl ∧ Inv P G' (upds p.2 st) w ∧ RepP P G'.pr (.list e (chunk g s n (p.1.drop (off * s))) 0) u := fun cs hc hp => by
        rw [Option.map_eq_some_iff] at hp
        obtain ⟨ds, hds, rfl⟩ := hp
        obtain ⟨G', g1, g2, g3, g4⟩ := h.freeze hc hds
        exact ⟨G', g1, g2, g3, by simpa [upds] using g4, frz_list g4 (hr.mono g1) (by simp [upd]) hl⟩
      split at hp
      · rename_i e2 s2 n2 cs hs; exact two cs (.inr ⟨_, _, _, hs⟩) hp
      · rename_i cs hs; exact two cs (.inl hs) hp
      · rename_i ds hs
        obtain rfl := Option.some.inj hp
        exact ⟨G, .refl G, rfl, rfl, h, frz_list h hr hs hl⟩
      · cases hp
    · cases hx
  · rename_i e
    simp only [Option.some.injEq, Prod.mk.injEq] at hx
    obtain ⟨rfl, rfl⟩ := hx
    obtain ⟨A, rfl⟩ := hr.emp_inv
    exact ⟨G, .refl G, rfl, rfl, h, .list (vs := []) rfl (Nat.le_refl _) (.inl rfl) (by simp) (by simp [ones]) (by simp) .nil⟩
  · exact pure _ hr hx
theorem frzs_sound : ∀ {vs ys : List V} {us : List Value} {δ : List (Nat × Option Ob)} {G : Gh} {st : St}, Inv P G st w → All2 (Rep P G) vs us → frzs st vs = some (ys, δ) → ∃ G', G.le G' ∧ G'.bx = G.bx ∧ G'.tl = G.tl ∧ Inv P G' (upds δ st) w ∧ All2 (RepP P G'.pr) ys us
  | [], ys, us, δ, G, st, h, hr, hx => by
    cases hr
    simp only [frzs, Option.some.injEq, Prod.mk.injEq] at hx
    obtain ⟨rfl, rfl⟩ := hx
    exact ⟨G, .refl G, rfl, rfl, h, .nil⟩
  | v :: vs, ys, us, δ, G, st, h, hr, hx => by
    cases hr with
    | cons h1 h2 =>
      simp only [frzs, Option.bind_eq_some_iff, Option.map_eq_some_iff] at hx
      obtain ⟨⟨y, δ1⟩, hp, ⟨ys', δ2⟩, hq, hx⟩ := hx
      simp only [Prod.mk.injEq] at hx
      obtain ⟨rfl, rfl⟩ := hx
      obtain ⟨G1, g1, g2, g3, g4, g5⟩ := frz1_sound h h1 hp
      obtain ⟨G2, k1, k2, k3, k4, k5⟩ := frzs_sound g4 (h2.mono fun _ _ => Rep.mono g1) hq
      exact ⟨G2, g1.trans k1, k2.trans g2, k3.trans g3, by rw [upds_append]; exact k4, .cons (g5.mono k1.pr) k5⟩
theorem frz1_one {v y : V} {δ : List (Nat × Option Ob)} (h1 : v.one = true) (hx : frz1 st v = some (y, δ)) : y.one = true := by
  have pure : v.pur1?.map (fun u => (u, ([] : List (Nat × Option Ob)))) = some (y, δ) → y.one = true := fun hx => by
    rw [Option.map_eq_some_iff] at hx
    obtain ⟨z, hz, hx⟩ := hx
    simp only [Prod.mk.injEq] at hx
    obtain ⟨rfl, rfl⟩ := hx
    rcases pur1_one hz with h | ⟨v', rfl, rfl⟩
    · exact h
    · exact h1
  unfold frz1 at hx
  split at hx
  · rw [Option.bind_eq_some_iff] at hx
    obtain ⟨p, hp, hx⟩ := hx
    split at hx
    · simp only [Option.some.injEq, Prod.mk.injEq] at hx
      obtain ⟨rfl, rfl⟩ := hx; rfl
    · cases hx
  · simp only [Option.some.injEq, Prod.mk.injEq] at hx
    obtain ⟨rfl, rfl⟩ := hx; rfl
  · exact pure hx
theorem frzs_ones : ∀ {vs ys : List V} {δ : List (Nat × Option Ob)} {st : St}, ones vs = true → frzs st vs = some (ys, δ) → ones ys = true
  | [], ys, δ, st, _, hx => by simp only [frzs, Option.some.injEq, Prod.mk.injEq] at hx; rw [← hx.1]; rfl
  | v :: vs, ys, δ, st, h1, hx => by
    simp only [frzs, Option.bind_eq_some_iff, Option.map_eq_some_iff] at hx
    obtain ⟨⟨y, δ1⟩, hp, ⟨ys', δ2⟩, hq, hx⟩ := hx
    simp only [Prod.mk.injEq] at hx
    obtain ⟨rfl, rfl⟩ := hx
    simp only [ones, List.all_cons, Bool.and_eq_true] at h1 ⊢
    exact ⟨frz1_one h1.1 hp, frzs_ones h1.2 hq⟩
theorem frzV_sound (h : Inv P G st w) {v y : V} {u : Value} {δ : List (Nat × Option Ob)} (hr : Rep P G v u) (hx : frzV st v = some (y, δ)) : ∃ G', G.le G' ∧ G'.bx = G.bx ∧ G'.tl = G.tl ∧ Inv P G' (upds δ st) w ∧ RepP P G'.pr y u := by
  unfold frzV at hx
  split at hx
  · rename_i cs
    rw [Option.map_eq_some_iff] at hx
    obtain ⟨⟨ys, δ1⟩, hp, hx⟩ := hx
    simp only [Prod.mk.injEq] at hx
    obtain ⟨rfl, rfl⟩ := hx
    obtain ⟨us, rfl, h1, h2⟩ := hr.agg_inv
    obtain ⟨G', g1, g2, g3, g4, g5⟩ := frzs_sound h h2 hp
    exact ⟨G', g1, g2, g3, g4, .agg (frzs_ones h1 hp) (.of g5)⟩
  · exact frz1_sound h hr hx
theorem frzA_sound : ∀ {vs ys : List V} {us : List Value} {δ : List (Nat × Option Ob)} {G : Gh} {st : St}, Inv P G st w → All2 (Rep P G) vs us → frzA st vs = some (ys, δ) → ∃ G', G.le G' ∧ G'.bx = G.bx ∧ G'.tl = G.tl ∧ Inv P G' (upds δ st) w ∧ All2 (RepP P G'.pr) ys us
  | [], ys, us, δ, G, st, h, hr, hx => by
    cases hr
    simp only [frzA, Option.some.injEq, Prod.mk.injEq] at hx
    obtain ⟨rfl, rfl⟩ := hx
    exact ⟨G, .refl G, rfl, rfl, h, .nil⟩
  | v :: vs, ys, us, δ, G, st, h, hr, hx => by
    cases hr with
    | cons h1 h2 =>
      simp only [frzA, Option.bind_eq_some_iff, Option.map_eq_some_iff] at hx
      obtain ⟨⟨y, δ1⟩, hp, ⟨ys', δ2⟩, hq, hx⟩ := hx
      simp only [Prod.mk.injEq] at hx
      obtain ⟨rfl, rfl⟩ := hx
      obtain ⟨G1, g1, g2, g3, g4, g5⟩ := frzV_sound h h1 hp
      obtain ⟨G2, k1, k2, k3, k4, k5⟩ := frzA_sound g4 (h2.mono fun _ _ => Rep.mono g1) hq
      exact ⟨G2, g1.trans k1, k2.trans g2, k3.trans g3, by rw [upds_append]; exact k4, .cons (g5.mono k1.pr) k5⟩
theorem frzH_sound : ∀ {vs ys : List V} {us : List Value} {δ : List (Nat × Option Ob)} {G : Gh} {st : St}, Inv P G st w → All2 (Rep P G) vs us → frzH st vs = some (ys, δ) → ∃ G', G.le G' ∧ G'.bx = G.bx ∧ G'.tl = G.tl ∧ Inv P G' (upds δ st) w ∧ All2 (Rep P G') ys us
  | [], ys, us, δ, G, st, h, hr, hx => by
    cases hr
    simp only [frzH, Option.some.injEq, Prod.mk.injEq] at hx
    obtain ⟨rfl, rfl⟩ := hx
    exact ⟨G, .refl G, rfl, rfl, h, .nil⟩
  | v :: vs, ys, us, δ, G, st, h, hr, hx => by
    cases hr with
    | cons h1 h2 =>
      unfold frzH at hx
      split at hx
      · simp only [Option.bind_eq_some_iff, Option.map_eq_some_iff] at hx
        obtain ⟨⟨y, δ1⟩, hp, ⟨ys', δ2⟩, hq, hx⟩ := hx
        simp only [Prod.mk.injEq] at hx
        obtain ⟨rfl, rfl⟩ := hx
        obtain ⟨G1, g1, g2, g3, g4, g5⟩ := frzV_sound h h1 hp
        obtain ⟨G2, k1, k2, k3, k4, k5⟩ := frzH_sound g4 (h2.mono fun _ _ => Rep.mono g1) hq
        exact ⟨G2, g1.trans k1, k2.trans g2, k3.trans g3, by rw [upds_append]; exact k4, .cons (.pure (g5.mono k1.pr)) k5⟩
      · simp only [Option.map_eq_some_iff] at hx
        obtain ⟨⟨ys', δ2⟩, hq, hx⟩ := hx
        simp only [Prod.mk.injEq] at hx
        obtain ⟨rfl, rfl⟩ := hx
        obtain ⟨G2, k1, k2, k3, k4, k5⟩ := frzH_sound h h2 hq
        exact ⟨G2, k1, k2, k3, k4, .cons (h1.mono k1) k5⟩
end
section
variable {P : Program} {G G' : Gh} {st : St} {w w' : World} {a : Act} {tm : Nat → V} {N i0 nx' : Nat} {o : Oper} {K : Act → World → Prop} {Q : Exit → Act → World → Prop} {E : Env}
theorem y_pl (hP : ProgOK P) (hE : EnvOK P E) (hgl : GlOK P E.gl G.pr) (hinv : Inv P G st w) (ht : TmR P G N tm a) (hfr : Fresh G (R8 i0)) (h8 : 8 ≤ i0) {c : Call} {f : FuncId} {zas : List A} {r : R} (ho : o.op = .call c) (hc : c.callee = .value (.func f)) (hnb : nobody P f = false) (h0 : c.args.toList.mapM (ca E.gl) = some zas)
    (hx : kopx E tm st i0 (.pl f zas) = some (some r)) (hK : Good P G st i0 nx' a o K Q r) : o.wp P a w K Q := by
  have hA := cas_rep hgl ht h0
  generalize hg : c.args.toList.map a.eval = ras at hA
  simp only [kopx] at hx
  split at hx
  · have hx2 := Option.some.inj hx
    clear hx
    rw [Option.bind_eq_some_iff] at hx2
    obtain ⟨p, hp, hx2⟩ := hx2
    split at hx2
    · rename_i y hh
      obtain rfl := Option.some.inj hx2
      obtain ⟨G1, g1, g2, g3, g4, g5⟩ := frzA_sound hinv hA hp
      have henter := run_call (P := P) ho hc (us := []) (ws := []) (g := f) rfl hg (run_callFunc_enter hP hnb ([] ++ ras ++ []).toArray w)
      rw [List.nil_append, List.append_nil] at henter
      unfold Oper.wp
      rw [henter]
      refine (hE.pl f p.1 _ hnb hh G1.pr _ w (fun g x h => (hgl g x h).mono g1.pr) g4.prot g5).mono fun e w' he => ?_
      obtain ⟨v, p', rfl, hb, hext, hret⟩ := he
      obtain ⟨q1, q2⟩ := g4.grow hb hext
      obtain ⟨G', k1, k2, k3, k4⟩ := own_sound (G := { G1 with pr := p' }) h8 hret (fun k hk => ⟨by show G1.bx k = none; rw [g2]; exact (hfr k hk).1, by show G1.tl k = none; rw [g3]; exact (hfr k hk).2⟩) q2 g4.size (fun k b hk => (g4.blk_lt (i := k) hk).1)
      refine hK G' w' v (g1.trans (q1.trans k1)) (fun k hk => ?_) (by rw [upds_append]; exact k3) k4
      have := k2 k hk
      exact ⟨fun h => this.1 (by show G1.bx k = none; rw [g2]; exact h), fun h => this.2 (by show G1.tl k = none; rw [g3]; exact h)⟩
    · cases hx2
  · cases hx
theorem yop_sound (hP : ProgOK P) (hE : EnvOK P E) (hgl : GlOK P E.gl G.pr) (hinv : Inv P G st w) (ht : TmR P G N tm a) (hfr : Fresh G (R8 i0)) (h8 : 8 ≤ i0) {r : R} (hx : yop P E tm st i0 o = some (some r)) (hK : Good P G st i0 nx' a o K Q r) : o.wp P a w K Q := by
  unfold yop at hx
  split at hx
  · cases hx
  rw [Option.bind_eq_some_iff] at hx
  obtain ⟨kx, hck, hx⟩ := hx
  cases ho : o.op with
  | makeSlice t n c =>
    simp only [ckx, ho, Option.bind_eq_some_iff] at hck
    obtain ⟨na, hn, ca', hc, e, he, s, hs, g, hg, i, hi, z, hz, hck⟩ := hck
    split at hck
    · rename_i hcc
      obtain rfl := Option.some.inj hck
      exact y_mks hgl hinv ht hfr ho hn hc he hs hg hi hz hcc.1 hcc.2.1 hcc.2.2.1 hcc.2.2.2 hx hK
    · cases hck
  | buildSlice t n ps =>
    simp only [ckx, ho, Option.bind_eq_some_iff] at hck
    obtain ⟨vs, hvs, e, he, s, hs, g, hg, hck⟩ := hck
    split at hck
    · rename_i hcc
      obtain ⟨c1, c2, c3, c4, c5, c6⟩ := hcc
      obtain rfl := Option.some.inj hck
      exact y_lit hgl hinv ht hfr ho hvs he hs hg c1 c2 c3 c4 c5 c6 hx hK
    · cases hck
  | indexAddr t x i =>
    simp only [ckx, ho, Option.bind_eq_some_iff, Option.map_eq_some_iff] at hck
    obtain ⟨xa, h0, ia, h1, el, hel, rfl⟩ := hck
    exact y_ix hgl hinv ht ho h0 h1 hel hx hK
  | slice t x lo hi mx =>
    simp only [ckx, ho, Option.bind_eq_some_iff] at hck
    obtain ⟨xa, h0, hck⟩ := hck
    split at hck
    · rename_i el hu
      split at hck
      · simp only [Option.bind_eq_some_iff, Option.map_eq_some_iff] at hck
        obtain ⟨la, hl, ha, hh, rfl⟩ := hck
        exact y_sll hgl hinv ht ho h0 hl hh hu hx hK
      · split at hck
        · split at hck
          · rename_i hcc
            simp only [Bool.and_eq_true] at hcc
            obtain rfl := Option.some.inj hck
            exact y_sl0 hgl hinv ht ho h0 hcc.1.1 hcc.1.2 hcc.2 hu hx hK
          · cases hck
        · cases hck
    · rename_i n el hu
      split at hck
      · simp only [Option.bind_eq_some_iff] at hck
        obtain ⟨s, hs, g, hg, hck⟩ := hck
        split at hck
        · rename_i hcc
          obtain rfl := Option.some.inj hck
          exact y_asl hgl hinv ht hfr ho h0 hu hs hg hcc.1 hcc.2 hx hK
        · cases hck
      · rename_i lo
        simp only [Option.bind_eq_some_iff] at hck
        obtain ⟨la, h1, s, hs, g, hg, hck⟩ := hck
        split at hck
        · rename_i hcc
          obtain rfl := Option.some.inj hck
          exact y_asx hgl hinv ht hfr ho h0 h1 hu hs hg hcc.1 hcc.2 hx hK
        · cases hck
      · cases hck
    · cases hck
  | convert s d x =>
    simp only [ckx, ho, Option.bind_eq_some_iff] at hck
    obtain ⟨xa, h0, hck⟩ := hck
    split at hck
    · rename_i e hs hd
      split at hck
      · rename_i hcc
        simp only [Bool.and_eq_true, beq_iff_eq] at hcc
        obtain rfl := Option.some.inj hck
        exact y_b2s hgl hinv ht ho h0 hs hd hcc.1 hcc.2 hx hK
      · cases hck
    · cases hck
  | load t x =>
    simp only [ckx, ho, Option.bind_eq_some_iff, Option.map_eq_some_iff] at hck
    obtain ⟨xa, h0, so, hso, rfl⟩ := hck
    exact y_ld hgl hinv ht ho h0 hso hx hK
  | store t x y =>
    simp only [ckx, ho, Option.bind_eq_some_iff, Option.map_eq_some_iff] at hck
    obtain ⟨xa, h0, ya, h1, n, hn, rfl⟩ := hck
    exact y_sto hgl hinv ht ho h0 h1 hn hx hK
  | call c =>
    simp only [ckx, ho, Option.bind_eq_some_iff] at hck
    obtain ⟨zas, has, hck⟩ := hck
    have ty : ∀ {t t' e : TypeId} {s : Nat}, usz P e = some s → ((t' == t) = true) ∨ ((isStr P t' && isU8 P e && (usz P e == some 1)) = true) → True := fun _ _ => trivial
    split at hck
    · rename_i hc
      split at hck
      · rename_i xa ya t t' hts
        simp only [Option.bind_eq_some_iff] at hck
        obtain ⟨e, he, g, hg, i, hi, z, hz, hck⟩ := hck
        split at hck
        · rename_i hcc
          obtain ⟨c1, c2, c3⟩ := hcc
          split at hck
          · rename_i htt
            obtain rfl := Option.some.inj hck
            exact y_app hgl hinv ht hfr ho hc hts has he hg hi hz c1 c2 c3 (.inl ⟨rfl, by simpa using htt⟩) hx hK
          · split at hck
            · rename_i hss
              simp only [Bool.and_eq_true, beq_iff_eq] at hss
              obtain rfl := Option.some.inj hck
              have : i.size = 1 := by have := hss.2; rw [usz, hi] at this; simpa using this
              exact y_app hgl hinv ht hfr ho hc hts has he hg hi hz c1 c2 c3 (.inr ⟨rfl, hss.1.1, hss.1.2, this⟩) hx hK
            · cases hck
        · cases hck
      · cases hck
    · rename_i hc
      split at hck
      · rename_i xa t hts
        rw [Option.map_eq_some_iff] at hck
        obtain ⟨el, hel, rfl⟩ := hck
        exact y_len hgl hinv ht ho hc hts has hel hx hK
      · cases hck
    · rename_i hc
      split at hck
      · rename_i xa ya t t' hts
        simp only [Option.bind_eq_some_iff] at hck
        obtain ⟨e, he, s, hs, hck⟩ := hck
        split at hck
        · split at hck
          · rename_i htt
            obtain rfl := Option.some.inj hck
            exact y_cpy hgl hinv ht ho hc hts has he hs (.inl ⟨rfl, by simpa using htt⟩) hx hK
          · split at hck
            · rename_i hss
              simp only [Bool.and_eq_true, beq_iff_eq] at hss
              obtain rfl := Option.some.inj hck
              have : s = 1 := by have := hss.2; rw [hs] at this; simpa using this
              exact y_cpy hgl hinv ht ho hc hts has he hs (.inr ⟨rfl, hss.1.1, hss.1.2, this⟩) hx hK
            · cases hck
        · cases hck
      · cases hck
    · rename_i f hc
      split at hck
      · cases hck
      · rename_i hcc
        simp only [Bool.or_eq_true, not_or, Bool.not_eq_true] at hcc
        obtain rfl := Option.some.inj hck
        exact y_pl hP hE hgl hinv ht hfr h8 ho hc hcc.1 has hx hK
    · cases hck
  | _ => simp [ckx, ho] at hck
theorem xop_sound (hP : ProgOK P) (hE : EnvOK P E) (hgl : GlOK P E.gl G.pr) (hinv : Inv P G st w) (ht : TmR P G N tm a) (hfr : Fresh G (R8 i0)) (hfr2 : Fresh G (fun k => nx' ≤ k)) (h8 : 8 ≤ i0) (h8' : 8 ≤ nx') {r : R} (hx : xop P E tm st i0 nx' o = some r) (hK : Good P G st i0 nx' a o K Q r) : o.wp P a w K Q := by
  unfold xop at hx
  split at hx
  · rename_i q hq
    subst hx
    exact yop_sound hP hE hgl hinv ht hfr h8 hq hK
  · exact xop0_sound hP hE hgl hinv ht hfr hfr2 h8 h8' hx hK
end
section
variable {P : Program} {E : Env} {tm tm' : Nat → V} {st st' : St} {i0 nx : Nat} {o : Oper}
def KX.as : KX → List A
  | .mks _ _ _ _ _ n c => [n, c]
  | .app _ _ _ _ _ a b => [a, b]
  | .lit _ _ _ zas => zas
  | .ix _ a i => [a, i]
  | .sll _ a lo hi => a :: (lo.toList ++ hi.toList)
  | .sl0 _ a => [a]
  | .asl _ _ _ _ a => [a]
  | .asx _ _ _ _ a lo => [a, lo]
  | .len a => [a]
  | .b2s _ a => [a]
  | .cpy _ _ _ a b => [a, b]
  | .ld _ a => [a]
  | .sto _ a b => [a, b]
  | .pl _ zas => zas
theorem kopx_av {kx : KX} (h : ∀ a ∈ kx.as, av tm' a = av tm a) : kopx E tm' st i0 kx = kopx E tm st i0 kx := by
  cases kx with
  | lit e g s zas =>
    have h1 : (zas.all fun a => (av tm' a).cells.length == s && ones (av tm' a).cells) = zas.all fun a => (av tm a).cells.length == s && ones (av tm a).cells := by
      rw [Bool.eq_iff_iff, List.all_eq_true, List.all_eq_true]
      exact ⟨fun q a ha => by have := q a ha; rwa [h a ha] at this, fun q a ha => by rw [h a ha]; exact q a ha⟩
    have h2 : (zas.flatMap fun a => (av tm' a).cells) = zas.flatMap fun a => (av tm a).cells := by
      rw [List.flatMap_def, List.flatMap_def]
      congr 1
      exact List.map_congr_left fun a ha => by rw [h a ha]
    simp only [kopx, h1, h2]
  | pl f zas =>
    have h1 : (zas.any fun a => slish (av tm' a)) = zas.any fun a => slish (av tm a) := by
      rw [Bool.eq_iff_iff, List.any_eq_true, List.any_eq_true]
      exact ⟨fun ⟨a, ha, q⟩ => ⟨a, ha, by rwa [h a ha] at q⟩, fun ⟨a, ha, q⟩ => ⟨a, ha, by rw [h a ha]; exact q⟩⟩
    have h2 : zas.map (av tm') = zas.map (av tm) := List.map_congr_left fun a ha => h a ha
    have h3 : (zas.flatMap fun a => slIds (av tm' a)) = zas.flatMap fun a => slIds (av tm a) := by
      rw [List.flatMap_def, List.flatMap_def]
      congr 1
      exact List.map_congr_left fun a ha => by rw [h a ha]
    simp only [kopx, h1, h2, h3]
  | sll e a lo hi =>
    have h1 := h a (by simp [KX.as])
    have h2 : ∀ d, kint tm' lo d = kint tm lo d := fun d => by
      cases lo with
      | none => rfl
      | some x => simp only [kint]; rw [h x (by simp [KX.as])]
    have h3 : ∀ d, kint tm' hi d = kint tm hi d := fun d => by
      cases hi with
      | none => rfl
      | some x => simp only [kint]; rw [h x (by simp [KX.as])]
    simp only [kopx, h1, h2, h3]
  | _ => simp only [KX.as, List.mem_cons, List.not_mem_nil, or_false, forall_eq_or_imp, forall_eq] at h; simp only [kopx, h]
theorem mapM_mem {α β : Type} {f : α → Option β} {l : List α} {r : List β} (h : l.mapM f = some r) {b : β} (hb : b ∈ r) : ∃ a ∈ l, f a = some b := by
  obtain ⟨i, hi⟩ := List.getElem?_of_mem hb
  obtain ⟨a, ha, hf⟩ := (mapM_some h).get' hi
  exact ⟨a, List.mem_of_getElem? ha, hf⟩
theorem ckx_as {hm : FuncId → Nat} {gl : Nat → Option V} {op : Op} {kx : KX} (h : ckx P hm gl op = some kx) : ∀ a ∈ kx.as, ∃ x ∈ op.operands, ca gl x = some a := by
  cases op with
  | makeSlice t n c =>
    simp only [ckx, Option.bind_eq_some_iff] at h
    obtain ⟨na, hn, ca', hc, e, he, s, hs, g, hg, i, hi, z, hz, hck⟩ := h
    split at hck
    · obtain rfl := Option.some.inj hck
      intro a ha
      simp only [KX.as, List.mem_cons, List.not_mem_nil, or_false] at ha
      rcases ha with rfl | rfl
      · exact ⟨n, by simp [Op.operands], hn⟩
      · exact ⟨c, by simp [Op.operands], hc⟩
    · cases hck
  | buildSlice t n ps =>
    simp only [ckx, Option.bind_eq_some_iff] at h
    obtain ⟨vs, hvs, e, he, s, hs, g, hg, hck⟩ := h
    split at hck
    · obtain rfl := Option.some.inj hck
      intro a ha
      simp only [KX.as] at ha
      obtain ⟨p, hp, rfl⟩ := List.mem_map.1 ha
      obtain ⟨q, hq, hqp⟩ := mapM_mem hvs hp
      rw [Option.map_eq_some_iff] at hqp
      obtain ⟨y, hy, rfl⟩ := hqp
      exact ⟨q.2, by simp [Op.operands]; exact ⟨q.1, by simpa using hq⟩, hy⟩
    · cases hck
  | indexAddr t x i =>
    simp only [ckx, Option.bind_eq_some_iff, Option.map_eq_some_iff] at h
    obtain ⟨xa, h0, ia, h1, el, hel, rfl⟩ := h
    intro a ha
    simp only [KX.as, List.mem_cons, List.not_mem_nil, or_false] at ha
    rcases ha with rfl | rfl
    · exact ⟨x, by simp [Op.operands], h0⟩
    · exact ⟨i, by simp [Op.operands], h1⟩
  | slice t x lo hi mx =>
    simp only [ckx, Option.bind_eq_some_iff] at h
    obtain ⟨xa, h0, hck⟩ := h
    have hx : ∃ z ∈ (Op.slice t x lo hi mx).operands, ca gl z = some xa := ⟨x, by simp [Op.operands], h0⟩
    split at hck
    · rename_i el hu
      split at hck
      · simp only [Option.bind_eq_some_iff, Option.map_eq_some_iff] at hck
        obtain ⟨la, hl, ha, hh, rfl⟩ := hck
        intro a hin
        simp only [KX.as, List.mem_cons, List.mem_append, Option.mem_toList] at hin
        rcases hin with rfl | hin | hin
        · exact hx
        · cases lo with
          | none => simp [cao] at hl; subst hl; simp at hin
          | some y =>
            simp only [cao, Option.map_eq_some_iff] at hl
            obtain ⟨q, hq, rfl⟩ := hl
            obtain rfl := Option.some.inj hin
            exact ⟨y, by simp [Op.operands], hq⟩
        · cases hi with
          | none => simp [cao] at hh; subst hh; simp at hin
          | some y =>
            simp only [cao, Option.map_eq_some_iff] at hh
            obtain ⟨q, hq, rfl⟩ := hh
            obtain rfl := Option.some.inj hin
            exact ⟨y, by simp [Op.operands], hq⟩
      · split at hck
        · split at hck
          · obtain rfl := Option.some.inj hck
            intro a ha
            simp only [KX.as, List.mem_cons, List.not_mem_nil, or_false] at ha
            subst ha; exact hx
          · cases hck
        · cases hck
    · rename_i arr hu
      split at hck
      · simp only [Option.bind_eq_some_iff] at hck
        obtain ⟨s, hs, g, hg, hck⟩ := hck
        split at hck
        · obtain rfl := Option.some.inj hck
          intro a ha
          simp only [KX.as, List.mem_cons, List.not_mem_nil, or_false] at ha
          subst ha; exact hx
        · cases hck
      · rename_i lo
        simp only [Option.bind_eq_some_iff] at hck
        obtain ⟨la, hla, s, hs, g, hg, hck⟩ := hck
        split at hck
        · obtain rfl := Option.some.inj hck
          intro a ha
          simp only [KX.as, List.mem_cons, List.not_mem_nil, or_false] at ha
          rcases ha with rfl | rfl
          · exact hx
          · exact ⟨lo, by simp [Op.operands], hla⟩
        · cases hck
      · cases hck
    · cases hck
  | convert s d x =>
    simp only [ckx, Option.bind_eq_some_iff] at h
    obtain ⟨xa, h0, hck⟩ := h
    split at hck
    · split at hck
      · obtain rfl := Option.some.inj hck
        intro a ha
        simp only [KX.as, List.mem_cons, List.not_mem_nil, or_false] at ha
        subst ha; exact ⟨x, by simp [Op.operands], h0⟩
      · cases hck
    · cases hck
  | load t x =>
    simp only [ckx, Option.bind_eq_some_iff, Option.map_eq_some_iff] at h
    obtain ⟨xa, h0, so, hso, rfl⟩ := h
    intro a ha
    simp only [KX.as, List.mem_cons, List.not_mem_nil, or_false] at ha
    subst ha; exact ⟨x, by simp [Op.operands], h0⟩
  | store t x y =>
    simp only [ckx, Option.bind_eq_some_iff, Option.map_eq_some_iff] at h
    obtain ⟨xa, h0, ya, h1, n, hn, rfl⟩ := h
    intro a ha
    simp only [KX.as, List.mem_cons, List.not_mem_nil, or_false] at ha
    rcases ha with rfl | rfl
    · exact ⟨x, by simp [Op.operands], h0⟩
    · exact ⟨y, by simp [Op.operands], h1⟩
  | call c =>
    simp only [ckx, Option.bind_eq_some_iff] at h
    obtain ⟨zas, has, hck⟩ := h
    have all : ∀ a ∈ zas, ∃ x ∈ (Op.call c).operands, ca gl x = some a := fun a ha => by
      obtain ⟨x, hx, hxa⟩ := mapM_mem has ha
      exact ⟨x, by simp [Op.operands, Call.operands]; exact .inr (by simpa using hx), hxa⟩
    split at hck
    · split at hck
      · simp only [Option.bind_eq_some_iff] at hck
        obtain ⟨e, he, g, hg, i, hi, z, hz, hck⟩ := hck
        split at hck
        · split at hck
          · obtain rfl := Option.some.inj hck; exact all
          · split at hck
            · obtain rfl := Option.some.inj hck; exact all
            · cases hck
        · cases hck
      · cases hck
    · split at hck
      · rw [Option.map_eq_some_iff] at hck
        obtain ⟨el, hel, rfl⟩ := hck
        exact all
      · cases hck
    · split at hck
      · simp only [Option.bind_eq_some_iff] at hck
        obtain ⟨e, he, s, hs, hck⟩ := hck
        split at hck
        · split at hck
          · obtain rfl := Option.some.inj hck; exact all
          · split at hck
            · obtain rfl := Option.some.inj hck; exact all
            · cases hck
        · cases hck
      · cases hck
    · split at hck
      · cases hck
      · obtain rfl := Option.some.inj hck; exact all
    · cases hck
  | _ => simp [ckx] at h
theorem yop_tm (h : ∀ x ∈ o.op.operands, ev E tm' x = ev E tm x) : yop P E tm' st i0 o = yop P E tm st i0 o := by
  unfold yop
  split
  · rfl
  · cases hc : ckx P E.hm E.gl o.op with
    | none => rfl
    | some kx =>
      simp only [Option.bind_some]
      refine kopx_av fun a ha => ?_
      obtain ⟨x, hx, hxa⟩ := ckx_as hc a ha
      have h1 := h x hx
      rw [ca_ev0 hxa, ca_ev0 hxa] at h1
      exact Option.some.inj h1
theorem xop_tm (h : ∀ x ∈ o.op.operands, ev E tm' x = ev E tm x) : xop P E tm' st i0 nx o = xop P E tm st i0 nx o := by
  unfold xop
  rw [yop_tm h, xop0_tm h]
theorem srcX_st {e : Nat} {l : Bool} {y : V} {p : List V × Nat × List Nat} (h : srcX st e l y = some p) (hs : ∀ k ∈ p.2.2, st' k = st k) : srcX st' e l y = some p := by
  cases y with
  | sl e' g s id off n =>
    simp only [srcX] at h ⊢
    split at h
    · rename_i hc
      rw [if_pos hc]
      have : st' id = st id := by
        rw [Option.bind_eq_some_iff] at h
        obtain ⟨cs, _, h⟩ := h
        split at h
        · obtain rfl := Option.some.inj h; exact hs id (by simp)
        · cases h
      rw [this]; exact h
    · cases h
  | sc v => cases v <;> exact h
  | _ => exact h
theorem frz1_st {v : V} (hs : ∀ k ∈ slIds1 v, st' k = st k) : frz1 st' v = frz1 st v := by
  cases v with
  | sl e g s id off n => simp only [frz1, hs id (by simp [slIds1])]
  | _ => rfl
theorem upds_agree {δ : List (Nat × Option Ob)} {k : Nat} (h : st' k = st k) : upds δ st' k = upds δ st k := by
  induction δ generalizing st st' with
  | nil => exact h
  | cons p δ ih =>
    show upds δ (upd st' p.1 p.2) k = upds δ (upd st p.1 p.2) k
    exact ih (by simp only [upd]; split <;> first | rfl | exact h)
theorem frzs_st : ∀ {vs : List V} {st st' : St}, (∀ k ∈ vs.flatMap slIds1, st' k = st k) → frzs st' vs = frzs st vs
  | [], _, _, _ => rfl
  | v :: vs, st, st', h => by
    rw [List.flatMap_cons] at h
    simp only [frzs, frz1_st fun k hk => h k (List.mem_append.2 (.inl hk))]
    cases hf : frz1 st v with
    | none => rfl
    | some p =>
      simp only [Option.bind_some]
      rw [frzs_st fun k hk => upds_agree (h k (List.mem_append.2 (.inr hk)))]
theorem frzV_st {v : V} (hs : ∀ k ∈ slIds v, st' k = st k) : frzV st' v = frzV st v := by
  cases v with
  | agg cs => simp only [frzV, frzs_st (vs := cs) hs]
  | sl e g s id off n => exact (frz1_st (v := .sl e g s id off n) fun k hk => hs k hk : frz1 st' (.sl e g s id off n) = _)
  | _ => rfl
theorem frzA_st : ∀ {vs : List V} {st st' : St}, (∀ k ∈ vs.flatMap slIds, st' k = st k) → frzA st' vs = frzA st vs
  | [], _, _, _ => rfl
  | v :: vs, st, st', h => by
    rw [List.flatMap_cons] at h
    simp only [frzA, frzV_st fun k hk => h k (List.mem_append.2 (.inl hk))]
    cases hf : frzV st v with
    | none => rfl
    | some p =>
      simp only [Option.bind_some]
      rw [frzA_st fun k hk => upds_agree (h k (List.mem_append.2 (.inr hk)))]
end
section
variable {P : Program} {E : Env} {tm tm' : Nat → V} {st st' : St} {i0 nx : Nat} {o : Oper}
theorem kopx_st {kx : KX} {v : V} {δ : List (Nat × Option Ob)} {rd : List Nat} (h : kopx E tm st i0 kx = some (some (.val v δ rd))) (hs : ∀ k ∈ rd, st' k = st k) : kopx E tm st' i0 kx = some (some (.val v δ rd)) := by
  cases kx with
  | app e g s by_ l a b =>
    simp only [kopx] at h ⊢
    have src : ∀ {f : List V × Nat × List Nat → Option R}, (srcX st e l (av tm b)).bind f = some (.val v δ rd) → (∀ p, f p = some (.val v δ rd) → ∀ k ∈ p.2.2, k ∈ rd) → (srcX st' e l (av tm b)).bind f = some (.val v δ rd) := fun {f} h hf => by
      rw [Option.bind_eq_some_iff] at h
      obtain ⟨p, hp, h⟩ := h
      rw [srcX_st hp fun k hk => hs k (hf p h k hk)]
      exact h
    split at h
    · rename_i e' g' s' id off n he
      have h2 := Option.some.inj h
      clear h
      congr 1
      split at h2
      · rename_i hc
        rw [if_pos hc]
        have hid : st' id = st id := by
          split at h2
          · split at h2
            · rw [Option.bind_eq_some_iff] at h2
              obtain ⟨p, _, h2⟩ := h2
              split at h2
              · simp only [Option.some.injEq, R.val.injEq] at h2
                exact hs id (by rw [← h2.2.2]; simp)
              · cases h2
            · cases h2
          · cases h2
        rw [hid]
        split at h2
        · rename_i e2 s2 n2 cs hst
          split at h2
          · rename_i hc2
            simp only [if_pos hc2]
            exact src h2 fun p hp k hk => by
              split at hp
              · simp only [Option.some.injEq, R.val.injEq] at hp
                rw [← hp.2.2]; simp [hk]
              · cases hp
          · cases h2
        · cases h2
      · cases h2
    · have h2 := Option.some.inj h
      congr 1
      exact src h2 fun p hp k hk => by
        split at hp
        · split at hp <;> (simp only [Option.some.injEq, R.val.injEq] at hp; rw [← hp.2.2]; exact hk)
        · cases hp
    · have h2 := Option.some.inj h
      congr 1
      exact src h2 fun p hp k hk => by
        split at hp
        · split at hp <;> (simp only [Option.some.injEq, R.val.injEq] at hp; rw [← hp.2.2]; exact hk)
        · cases hp
    · cases h
  | asl e g s n a =>
    simp only [kopx] at h ⊢
    split at h
    · rename_i id off he
      have h2 := Option.some.inj h
      have hid : st' id = st id := by
        split at h2
        · split at h2
          · simp only [Option.some.injEq, R.val.injEq] at h2
            exact hs id (by rw [← h2.2.2]; simp)
          · cases h2
        · cases h2
      rw [hid]; exact h
    · cases h
  | asx e g s n a lo =>
    simp only [kopx] at h ⊢
    split at h
    · rename_i id off he
      have h2 := Option.some.inj h
      have hid : st' id = st id := by
        split at h2
        · rw [Option.bind_eq_some_iff] at h2
          obtain ⟨l, _, h2⟩ := h2
          split at h2
          · simp only [Option.some.injEq, R.val.injEq] at h2
            exact hs id (by rw [← h2.2.2]; simp)
          · cases h2
        · cases h2
      rw [hid]; exact h
    · cases h
  | b2s e a =>
    simp only [kopx] at h ⊢
    split at h
    · rename_i e' g' s' id off n he
      have h2 := Option.some.inj h
      have hid : st' id = st id := by
        split at h2
        · rw [Option.bind_eq_some_iff] at h2
          obtain ⟨cs, _, h2⟩ := h2
          split at h2
          · rw [Option.map_eq_some_iff] at h2
            obtain ⟨l, _, h2⟩ := h2
            simp only [R.val.injEq] at h2
            exact hs id (by rw [← h2.2.2]; simp)
          · cases h2
        · cases h2
      rw [hid]; exact h
    · exact h
    · cases h
  | cpy e s l a b =>
    simp only [kopx] at h ⊢
    split at h
    · rename_i e' g' s' id off n he
      have h2 := Option.some.inj h
      clear h
      congr 1
      split at h2
      · rename_i hc
        rw [if_pos hc]
        rw [Option.bind_eq_some_iff] at h2
        obtain ⟨p, hp, h2⟩ := h2
        have h3 := h2
        rw [Option.bind_eq_some_iff] at h3
        obtain ⟨cs, hcs, h3⟩ := h3
        split at h3
        · rw [Option.map_eq_some_iff] at h3
          obtain ⟨ob, _, h3⟩ := h3
          simp only [R.val.injEq] at h3
          rw [srcX_st hp fun k hk => hs k (by rw [← h3.2.2]; simp [hk])]
          rw [hs id (by rw [← h3.2.2]; simp)]
          exact h2
        · cases h3
      · cases h2
    · cases h
  | ld so a =>
    simp only [kopx] at h ⊢
    split at h
    · rename_i id off he
      have hid : st' id = st id := by
        split at h
        · have h2 := Option.some.inj h
          rw [Option.map_eq_some_iff] at h2
          obtain ⟨z, _, h2⟩ := h2
          simp only [R.val.injEq] at h2
          exact hs id (by rw [← h2.2.2]; simp)
        · have h2 := Option.some.inj h
          rw [Option.map_eq_some_iff] at h2
          obtain ⟨z, _, h2⟩ := h2
          simp only [R.val.injEq] at h2
          exact hs id (by rw [← h2.2.2]; simp)
        · cases h
      rw [hid]; exact h
    · cases h
  | sto n a b =>
    simp only [kopx] at h ⊢
    split at h
    · rename_i id off he
      have hid : st' id = st id := by
        split at h
        · have h2 := Option.some.inj h
          split at h2
          · simp only [Option.some.injEq, R.val.injEq] at h2
            exact hs id (by rw [← h2.2.2]; simp)
          · cases h2
        · cases h
      rw [hid]; exact h
    · cases h
  | pl f zas =>
    simp only [kopx] at h ⊢
    split at h
    · rename_i hc
      rw [if_pos hc]
      have h2 := Option.some.inj h
      clear h
      congr 1
      rw [Option.bind_eq_some_iff] at h2
      obtain ⟨p, hp, h2⟩ := h2
      have hrd : (zas.flatMap fun a => slIds (av tm a)) = rd := by
        split at h2
        · simp only [Option.some.injEq, R.val.injEq] at h2; exact h2.2.2
        · cases h2
      rw [frzA_st (st := st) fun k hk => hs k (by rw [← hrd]; rw [List.flatMap_map] at hk; exact hk), hp]
      exact h2
    · cases h
  | _ => exact h
theorem kopx_none {kx : KX} (h : kopx E tm st i0 kx = none) (h1 : ∀ so a, kx ≠ .ld so a) (h2 : ∀ n a b, kx ≠ .sto n a b) : kopx E tm st' i0 kx = none := by
  cases kx with
  | ld so a => exact absurd rfl (h1 _ _)
  | sto n a b => exact absurd rfl (h2 _ _ _)
  | app e g s by_ l a b =>
    simp only [kopx] at h ⊢
    split at h <;> first | (cases h; done) | (cases h; rfl) | rfl
  | asl e g s n a =>
    simp only [kopx] at h ⊢
    split at h <;> first | (cases h; done) | (cases h; rfl) | rfl
  | asx e g s n a lo =>
    simp only [kopx] at h ⊢
    split at h <;> first | (cases h; done) | (cases h; rfl) | rfl
  | b2s e a =>
    simp only [kopx] at h ⊢
    split at h <;> first | (cases h; done) | (cases h; rfl) | rfl
  | cpy e s l a b =>
    simp only [kopx] at h ⊢
    split at h <;> first | (cases h; done) | (cases h; rfl) | rfl
  | pl f zas =>
    simp only [kopx] at h ⊢
    split at h
    · cases h
    · rename_i hc; rw [if_neg hc]
  | _ => exact h
theorem ckx_kind {hm : FuncId → Nat} {gl : Nat → Option V} {op : Op} {kx : KX} (h : ckx P hm gl op = some kx) : ((∀ so a, kx ≠ .ld so a) ∧ ∀ n a b, kx ≠ .sto n a b) ∨ (∃ t x so a, op = .load t x ∧ kx = .ld so a ∧ ca gl x = some a) ∨ ∃ t x y n a b, op = .store t x y ∧ kx = .sto n a b ∧ ca gl x = some a := by
  cases op with
  | makeSlice t n c =>
    simp only [ckx, Option.bind_eq_some_iff] at h
    obtain ⟨na, hn, ca', hc, e, he, s, hs, g, hg, i, hi, z, hz, hck⟩ := h
    split at hck
    · obtain rfl := Option.some.inj hck; exact .inl ⟨by simp, by simp⟩
    · cases hck
  | buildSlice t n ps =>
    simp only [ckx, Option.bind_eq_some_iff] at h
    obtain ⟨vs, hvs, e, he, s, hs, g, hg, hck⟩ := h
    split at hck
    · obtain rfl := Option.some.inj hck; exact .inl ⟨by simp, by simp⟩
    · cases hck
  | indexAddr t x i =>
    simp only [ckx, Option.bind_eq_some_iff, Option.map_eq_some_iff] at h
    obtain ⟨xa, h0, ia, h1, el, hel, rfl⟩ := h
    exact .inl ⟨by simp, by simp⟩
  | slice t x lo hi mx =>
    simp only [ckx, Option.bind_eq_some_iff] at h
    obtain ⟨xa, h0, hck⟩ := h
    split at hck
    · split at hck
      · simp only [Option.bind_eq_some_iff, Option.map_eq_some_iff] at hck
        obtain ⟨la, hl, ha, hh, rfl⟩ := hck
        exact .inl ⟨by simp, by simp⟩
      · split at hck
        · split at hck
          · obtain rfl := Option.some.inj hck; exact .inl ⟨by simp, by simp⟩
          · cases hck
        · cases hck
    · split at hck
      · simp only [Option.bind_eq_some_iff] at hck
        obtain ⟨s, hs, g, hg, hck⟩ := hck
        split at hck
        · obtain rfl := Option.some.inj hck; exact .inl ⟨by simp, by simp⟩
        · cases hck
      · simp only [Option.bind_eq_some_iff] at hck
        obtain ⟨la, hla, s, hs, g, hg, hck⟩ := hck
        split at hck
        · obtain rfl := Option.some.inj hck; exact .inl ⟨by simp, by simp⟩
        · cases hck
      · cases hck
    · cases hck
  | convert s d x =>
    simp only [ckx, Option.bind_eq_some_iff] at h
    obtain ⟨xa, h0, hck⟩ := h
    split at hck
    · split at hck
      · obtain rfl := Option.some.inj hck; exact .inl ⟨by simp, by simp⟩
      · cases hck
    · cases hck
  | load t x =>
    simp only [ckx, Option.bind_eq_some_iff, Option.map_eq_some_iff] at h
    obtain ⟨xa, h0, so, hso, rfl⟩ := h
    exact .inr (.inl ⟨t, x, so, xa, rfl, rfl, h0⟩)
  | store t x y =>
    simp only [ckx, Option.bind_eq_some_iff, Option.map_eq_some_iff] at h
    obtain ⟨xa, h0, ya, h1, n, hn, rfl⟩ := h
    exact .inr (.inr ⟨t, x, y, n, xa, ya, rfl, rfl, h0⟩)
  | call c =>
    simp only [ckx, Option.bind_eq_some_iff] at h
    obtain ⟨zas, has, hck⟩ := h
    split at hck
    · split at hck
      · simp only [Option.bind_eq_some_iff] at hck
        obtain ⟨e, he, g, hg, i, hi, z, hz, hck⟩ := hck
        split at hck
        · split at hck
          · obtain rfl := Option.some.inj hck; exact .inl ⟨by simp, by simp⟩
          · split at hck
            · obtain rfl := Option.some.inj hck; exact .inl ⟨by simp, by simp⟩
            · cases hck
        · cases hck
      · cases hck
    · split at hck
      · rw [Option.map_eq_some_iff] at hck
        obtain ⟨el, hel, rfl⟩ := hck
        exact .inl ⟨by simp, by simp⟩
      · cases hck
    · split at hck
      · simp only [Option.bind_eq_some_iff] at hck
        obtain ⟨e, he, s, hs, hck⟩ := hck
        split at hck
        · split at hck
          · obtain rfl := Option.some.inj hck; exact .inl ⟨by simp, by simp⟩
          · split at hck
            · obtain rfl := Option.some.inj hck; exact .inl ⟨by simp, by simp⟩
            · cases hck
        · cases hck
      · cases hck
    · split at hck
      · cases hck
      · obtain rfl := Option.some.inj hck; exact .inl ⟨by simp, by simp⟩
    · cases hck
  | _ => simp [ckx] at h
theorem xop_st {nx2 : Nat} {v : V} {δ : List (Nat × Option Ob)} {rd : List Nat} (h : xop P E tm st i0 nx o = some (.val v δ rd)) (hs : ∀ k ∈ rd, st' k = st k) : xop P E tm st' i0 nx2 o = some (.val v δ rd) := by
  unfold xop at h ⊢
  split at h
  · rename_i q hq
    subst h
    have : yop P E tm st' i0 o = some (some (.val v δ rd)) := by
      unfold yop at hq ⊢
      split at hq
      · cases hq
      · rename_i hm
        rw [if_neg hm]
        rw [Option.bind_eq_some_iff] at hq ⊢
        obtain ⟨kx, hk, hq⟩ := hq
        exact ⟨kx, hk, kopx_st hq hs⟩
    rw [this]
  · rename_i hq
    have h0 := xop0_st (nx2 := nx2) h hs
    have : yop P E tm st' i0 o = none := by
      unfold yop at hq ⊢
      split at hq
      · rename_i hm; rw [if_pos hm]
      · rename_i hm
        rw [if_neg hm]
        cases hc : ckx P E.hm E.gl o.op with
        | none => rfl
        | some kx =>
          rw [hc] at hq
          simp only [Option.bind_some] at hq ⊢
          -- a load or a store: xop0 has looked at the object
          have id1 : ∀ (x : Operand) (a : A) (id off : Nat), ca E.gl x = some a → av tm a = .ptr id off → (∀ t, o.op = .load t x → st' id = st id) ∧ ∀ t y, o.op = .store t x y → st' id = st id := fun x a id off hca hav => by
            have hev := ca_ev0 (tm := tm) hca
            rw [hav] at hev
            refine ⟨fun t ho => ?_, fun t y ho => ?_⟩
            · simp only [xop0, ho, hev, Option.bind_some] at h
              split at h
              · rw [Option.map_eq_some_iff] at h
                obtain ⟨z, _, h⟩ := h
                simp only [R.val.injEq] at h
                exact hs id (by rw [← h.2.2]; simp)
              · cases h
            · simp only [xop0, ho, hev, Option.bind_some, Option.bind_eq_some_iff] at h
              obtain ⟨y0, _, h⟩ := h
              split at h
              · split at h
                · simp only [Option.some.injEq, R.val.injEq] at h
                  exact hs id (by rw [← h.2.2]; simp)
                · cases h
              · cases h
          rcases ckx_kind hc with ⟨h1, h2⟩ | ⟨t, x, so, a, ho, rfl, hxa⟩ | ⟨t, x, y, n, a, b, ho, rfl, hxa⟩
          · exact kopx_none hq h1 h2
          · simp only [kopx] at hq ⊢
            cases he : av tm a with
            | ptr id off =>
              rw [he] at hq
              simp only at hq ⊢
              rw [(id1 x a id off hxa he).1 t ho]; exact hq
            | _ => rfl
          · simp only [kopx] at hq ⊢
            cases he : av tm a with
            | ptr id off =>
              rw [he] at hq
              simp only at hq ⊢
              rw [(id1 x a id off hxa he).2 t y ho]; exact hq
            | _ => rfl
    rw [this]
    exact h0
end
end Go.Proofs.YthgmhlpjbednpaaDoor.Vm
set_option linter.unusedVariables false
set_option linter.unusedSimpArgs false
namespace Go.Proofs.YthgmhlpjbednpaaDoor.Vm
open Go.RowKit
section
variable {P : Program} {E : Env} {G G' : Gh} {st st' : St} {tm tm' tm0 : Nat → V} {st0 : St} {w w' : World} {a : Act} {N n0 nx nx' : Nat} {ops : Array Oper} {Q : Exit → Act → World → Prop}
theorem want_sound (ht : TmR P G N tm a) {o : Oper} {b : Bool} (h : xwant ops tm o = some b) : Region.wanted o (yielded ops a.tmps) = b := by
  unfold xwant at h
  unfold Region.wanted
  split at h
  · rename_i hg; rw [hg]; simpa using h
  · rename_i j wn hg
    rw [hg]
    simp only
    split at h
    · rename_i d hd
      have hr := ht.rep d
      have hy : yielded ops a.tmps j = match a.tmps[d]? with | some (.bool b) => some b | _ => none := by unfold yielded; rw [hd]; rfl
      rw [hy]
      rw [Array.getD_eq_getD_getElem?] at hr
      split at h
      · rename_i b' hb
        rw [hb] at hr
        have e := hr.sc_inv
        cases hq : a.tmps[d]? with
        | none => rw [hq] at e; simp [undef] at e
        | some v =>
          rw [hq] at e
          simp at e
          subst e
          simp at h
          subst h
          cases b' <;> cases wn <;> rfl
      · rename_i v hb hv
        rw [hv] at hr
        have e := hr.sc_inv
        obtain rfl := Option.some.inj h
        cases hq : a.tmps[d]? with
        | none => rfl
        | some u =>
          rw [hq] at e
          simp at e
          subst e
          cases u <;> first | rfl | exact absurd rfl (hb _)
      · cases h
    · cases h
def tmAt (d : Nat → Option Tmp) (v : Nat → V) (b : Nat → Bool) (tm0 : Nat → V) : Nat → Nat → V
  | 0 => tm0
  | j + 1 => if b j then putT (tmAt d v b tm0 j) (d j) (v j) else tmAt d v b tm0 j
def stAt (δ : Nat → List (Nat × Option Ob)) (b : Nat → Bool) (st0 : St) : Nat → St
  | 0 => st0
  | j + 1 => if b j then upds (δ j) (stAt δ b st0 j) else stAt δ b st0 j
theorem putT_get (f : Nat → V) (d : Option Tmp) (v : V) (t : Nat) : putT f d v t = if d = some t then v else f t := by
  cases d with
  | none => simp [putT]
  | some k => simp only [putT, upd, Option.some.injEq]; by_cases h : t = k <;> simp [h, eq_comm]
theorem tmAt_agree {d : Nat → Option Tmp} {v : Nat → V} {b b' : Nat → Bool} {t : Nat} : ∀ {n : Nat}, (∀ j, j < n → b j ≠ b' j → d j ≠ some t) → tmAt d v b tm0 n t = tmAt d v b' tm0 n t
  | 0, _ => rfl
  | n + 1, h => by
    have ih := tmAt_agree (v := v) (n := n) fun j hj => h j (by omega)
    simp only [tmAt]
    by_cases hb : b n = b' n
    · rw [hb]
      split
      · rw [putT_get, putT_get, ih]
      · exact ih
    · have hd := h n (by omega) hb
      split <;> split <;> simp only [putT_get, if_neg hd, ih]
theorem upds_notin {α : Type} {δ : List (Nat × α)} {f : Nat → α} {k : Nat} (h : k ∉ δ.map (·.1)) : upds δ f k = f k := by
  induction δ generalizing f with
  | nil => rfl
  | cons p δ ih =>
    simp only [List.map_cons, List.mem_cons, not_or] at h
    show upds δ (upd f p.1 p.2) k = f k
    rw [ih h.2]; simp [upd, h.1]
theorem upds_in {α : Type} {δ : List (Nat × α)} {f g : Nat → α} {k : Nat} (h : k ∈ δ.map (·.1)) : upds δ f k = upds δ g k := by
  induction δ generalizing f g with
  | nil => simp at h
  | cons p δ ih =>
    show upds δ (upd f p.1 p.2) k = upds δ (upd g p.1 p.2) k
    by_cases hk : k ∈ δ.map (·.1)
    · exact ih hk
    · rw [upds_notin hk, upds_notin hk]
      simp only [List.map_cons, List.mem_cons] at h
      rcases h with h | h
      · simp [upd, h]
      · exact absurd h hk
theorem stAt_agree {δ : Nat → List (Nat × Option Ob)} {b b' : Nat → Bool} {k : Nat} : ∀ {n : Nat}, (∀ j, j < n → b j ≠ b' j → k ∉ (δ j).map (·.1)) → stAt δ b st0 n k = stAt δ b' st0 n k
  | 0, _ => rfl
  | n + 1, h => by
    have ih := stAt_agree (n := n) fun j hj => h j (by omega)
    simp only [stAt]
    have go : ∀ (f g : St), f k = g k → upds (δ n) f k = upds (δ n) g k := fun f g e => by
      by_cases hk : k ∈ (δ n).map (·.1)
      · exact upds_in hk
      · rw [upds_notin hk, upds_notin hk]; exact e
    by_cases hb : b n = b' n
    · rw [hb]
      split
      · exact go _ _ ih
      · exact ih
    · have hd := h n (by omega) hb
      split <;> split <;> simp only [upds_notin hd, ih]
def upB (b : Nat → Bool) (i : Nat) : Nat → Bool := fun j => if j = i then true else b j
theorem tmAt_insert {d : Nat → Option Tmp} {v : Nat → V} {b : Nat → Bool} {i : Nat} (hi : b i = false) : ∀ {n : Nat}, i < n → (∀ j, i < j → j < n → b j = true → ∀ t, d i = some t → d j ≠ some t) →
    tmAt d v (upB b i) tm0 n = putT (tmAt d v b tm0 n) (d i) (v i)
  | 0, h, _ => by omega
  | n + 1, h, hd => by
    funext t
    by_cases hin : i = n
    · subst hin
      simp only [tmAt, show upB b i i = true by simp [upB], if_true, hi, Bool.false_eq_true, if_false]
      rw [putT_get, putT_get]
      have := tmAt_agree (d := d) (v := v) (tm0 := tm0) (b := upB b i) (b' := b) (t := t) (n := i) fun j hj hne => absurd (by simp [upB, Nat.ne_of_lt hj]) hne
      rw [this]
    · have ih := tmAt_insert (d := d) (v := v) hi (n := n) (by omega) fun j h1 h2 => hd j h1 (by omega)
      have hb : upB b i n = b n := by simp [upB]; intro e; exact absurd e.symm hin
      simp only [tmAt, hb]
      by_cases hbn : b n = true
      · rw [if_pos hbn, if_pos hbn, ih]
        simp only [putT_get]
        by_cases h1 : d n = some t
        · rw [if_pos h1]
          by_cases h2 : d i = some t
          · exact absurd h1 (hd n (by omega) (by omega) hbn t h2)
          · rw [if_neg h2, if_pos h1]
        · rw [if_neg h1]
          by_cases h2 : d i = some t
          · rw [if_pos h2, if_pos h2]
          · rw [if_neg h2, if_neg h2, if_neg h1]
      · rw [if_neg hbn, if_neg hbn, ih]
theorem stAt_insert {δ : Nat → List (Nat × Option Ob)} {b : Nat → Bool} {i : Nat} (hi : b i = false) : ∀ {n : Nat}, i < n → (∀ j, i < j → j < n → b j = true → ∀ k, k ∈ (δ i).map (·.1) → k ∉ (δ j).map (·.1)) →
    stAt δ (upB b i) st0 n = upds (δ i) (stAt δ b st0 n)
  | 0, h, _ => by omega
  | n + 1, h, hd => by
    funext k
    by_cases hin : i = n
    · subst hin
      simp only [stAt, show upB b i i = true by simp [upB], if_true, hi, Bool.false_eq_true, if_false]
      by_cases hk : k ∈ (δ i).map (·.1)
      · exact upds_in hk
      · rw [upds_notin hk, upds_notin hk]
        have := stAt_agree (δ := δ) (st0 := st0) (b := upB b i) (b' := b) (k := k) (n := i) fun j hj hne => absurd (by simp [upB, Nat.ne_of_lt hj]) hne
        exact this
    · have ih := stAt_insert (δ := δ) hi (n := n) (by omega) fun j h1 h2 => hd j h1 (by omega)
      have hb : upB b i n = b n := by simp [upB]; intro e; exact absurd e.symm hin
      simp only [stAt, hb]
      by_cases hbn : b n = true
      · rw [if_pos hbn, if_pos hbn, ih]
        by_cases h1 : k ∈ (δ n).map (·.1)
        · by_cases h2 : k ∈ (δ i).map (·.1)
          · exact absurd h1 (hd n (by omega) (by omega) hbn k h2)
          · rw [upds_notin h2]; exact upds_in h1
        · rw [upds_notin h1]
          by_cases h2 : k ∈ (δ i).map (·.1)
          · exact upds_in h2
          · rw [upds_notin h2, upds_notin h2, upds_notin h1]
      · rw [if_neg hbn, if_neg hbn, ih]
def Fact (P : Program) (E : Env) (ops : Array Oper) (N n0 nx : Nat) (recs : List Rec) (tm0 : Nat → V) (st0 : St) (j : Nat) : Prop :=
  ∃ o, ops[j]? = some o ∧ dstOk N o.dst = true ∧
    ((xwant ops (tmAt (dF ops) (vF recs) (fun _ => true) tm0 j) o = some true ∧ xop P E (tmAt (dF ops) (vF recs) (fun _ => true) tm0 j) (stAt (δF recs) (fun _ => true) st0 j) (n0 + 8 * j) nx o = some (.val (vF recs j) (δF recs j) (rF recs j))) ∨
     (xwant ops (tmAt (dF ops) (vF recs) (fun _ => true) tm0 j) o = some false ∧ vF recs j = .sc undef ∧ δF recs j = [] ∧ rF recs j = []))
theorem drop_cons {α : Type} {l : List α} {i : Nat} {x : α} {r : List α} (h : l.drop i = x :: r) : l[i]? = some x ∧ l.drop (i + 1) = r := by
  have hlt : i < l.length := by
    rcases Nat.lt_or_ge i l.length with q | q
    · exact q
    · rw [List.drop_eq_nil_of_le q] at h; cases h
  rw [List.drop_eq_getElem_cons hlt] at h
  simp only [List.cons.injEq] at h
  exact ⟨by rw [List.getElem?_eq_getElem hlt, h.1], h.2⟩
theorem facts {recs : List Rec} (hbig : recs.all (fun r => r.big.isNone) = true) : ∀ {rest : List Oper} {i : Nat} {tm : Nat → V} {st : St}, ops.toList.drop i = rest → i ≤ ops.size → xops P E ops N n0 i rest tm st nx = some (.ok tm' st' nx' (recs.drop i)) →
    tm = tmAt (dF ops) (vF recs) (fun _ => true) tm0 i → st = stAt (δF recs) (fun _ => true) st0 i → i ≤ recs.length →
    nx' = nx ∧ recs.length = ops.size ∧ tm' = tmAt (dF ops) (vF recs) (fun _ => true) tm0 ops.size ∧ st' = stAt (δF recs) (fun _ => true) st0 ops.size ∧ ∀ j, i ≤ j → j < ops.size → Fact P E ops N n0 nx recs tm0 st0 j
  | [], i, tm, st, hd, hi, h, ht, hs, hir => by
    simp only [xops, Option.some.injEq, RR.ok.injEq] at h
    obtain ⟨h1, h2, h3, h4⟩ := h
    have hisz : ops.size ≤ i := by
      have := List.drop_eq_nil_iff.1 hd
      simpa using this
    have hrec : recs.length ≤ i := List.drop_eq_nil_iff.1 h4.symm
    have : i = ops.size := by omega
    subst this
    exact ⟨h3.symm, by omega, by rw [← h1]; exact ht, by rw [← h2]; exact hs, fun j _ _ => by omega⟩
  | o :: rest, i, tm, st, hd, hi, h, ht, hs, hir => by
    obtain ⟨ho, hd'⟩ := drop_cons hd
    have ho' : ops[i]? = some o := by simpa using ho
    have hlt : i < ops.size := (Array.getElem?_eq_some_iff.1 ho').1
    have hdF : dF ops i = o.dst := by simp [dF, ho']
    unfold xops at h
    split at h
    · rename_i hdst
      have step : ∀ {v : V} {δ : List (Nat × Option Ob)} {rd : List Nat} {recs' : List Rec}, recs.drop i = ⟨v, δ, rd, none⟩ :: recs' → vF recs i = v ∧ δF recs i = δ ∧ rF recs i = rd ∧ recs.drop (i + 1) = recs' ∧ i + 1 ≤ recs.length := fun {v δ rd recs'} hr => by
        obtain ⟨h1, h2⟩ := drop_cons hr
        exact ⟨by simp [vF, h1], by simp [δF, h1], by simp [rF, h1], h2, (List.getElem?_eq_some_iff.1 h1).1⟩
      split at h
      · rename_i hw
        split at h
        · rename_i v δ rd hx
          split at h
          · rename_i tm1 st1 nx1 recs' hr
            simp only [Option.some.injEq, RR.ok.injEq] at h
            obtain ⟨h1, h2, h3, h4⟩ := h
            obtain ⟨e1, e2, e3, e4, e5⟩ := step h4.symm
            rw [h1, h2, h3] at hr
            obtain ⟨k1, k2, k3, k4, k5⟩ := facts hbig (i := i + 1) hd' hlt (by rw [e4]; exact hr) (by simp only [tmAt, if_true, hdF, e1, ht]) (by simp only [stAt, if_true, e2, hs]) e5
            refine ⟨k1, k2, k3, k4, fun j hj hjs => ?_⟩
            by_cases hji : j = i
            · subst hji
              exact ⟨o, ho', hdst, .inl ⟨by rw [← ht]; exact hw, by rw [← ht, ← hs, e1, e2, e3]; exact hx⟩⟩
            · exact k5 j (by omega) hjs
          · rename_i hne; exact absurd h (fun h => hne _ _ _ _ h)
        · rename_i v st1 nx1 hx
          split at h
          · simp only [Option.some.injEq, RR.ok.injEq] at h
            obtain ⟨h1, h2, h3, h4⟩ := h
            obtain ⟨h5, _⟩ := drop_cons h4.symm
            have := List.all_eq_true.1 hbig _ (List.mem_of_getElem? h5)
            simp at this
          · rename_i hne; exact absurd h (fun h => hne _ _ _ _ h)
        · cases h
        · cases h
        · cases h
      · rename_i hw
        split at h
        · rename_i tm1 st1 nx1 recs' hr
          simp only [Option.some.injEq, RR.ok.injEq] at h
          obtain ⟨h1, h2, h3, h4⟩ := h
          obtain ⟨e1, e2, e3, e4, e5⟩ := step h4.symm
          rw [h1, h2, h3] at hr
          obtain ⟨k1, k2, k3, k4, k5⟩ := facts hbig (i := i + 1) hd' hlt (by rw [e4]; exact hr) (by simp only [tmAt, if_true, hdF, e1, ht]) (by simp only [stAt, if_true, e2, hs]; rfl) e5
          refine ⟨k1, k2, k3, k4, fun j hj hjs => ?_⟩
          by_cases hji : j = i
          · subst hji
            exact ⟨o, ho', hdst, .inr ⟨by rw [← ht]; exact hw, e1, e2, e3⟩⟩
          · exact k5 j (by omega) hjs
        · rename_i hne; exact absurd h (fun h => hne _ _ _ _ h)
      · cases h
    · cases h
end
end Go.Proofs.YthgmhlpjbednpaaDoor.Vm
set_option linter.unusedVariables false
set_option linter.unusedSimpArgs false
namespace Go.Proofs.YthgmhlpjbednpaaDoor.Vm
open Go.RowKit
section
variable {P : Program} {S : Nat → Prop} {E : Env} {G G' : Gh} {st st' : St} {tm tm' tm0 : Nat → V} {st0 : St} {w w' : World} {a : Act} {N n0 nx nx' : Nat} {ops : Array Oper} {Q : Exit → Act → World → Prop}
theorem tmAt_trunc {d : Nat → Option Tmp} {v : Nat → V} {i : Nat} : ∀ {n : Nat}, i ≤ n → tmAt d v (fun j => decide (j < i)) tm0 n = tmAt d v (fun _ => true) tm0 i
  | 0, h => by have : i = 0 := by omega
               subst this; rfl
  | n + 1, h => by
    by_cases hi : i ≤ n
    · simp only [tmAt]
      rw [if_neg (by simpa using hi)]
      exact tmAt_trunc hi
    · have : i = n + 1 := by omega
      subst this
      simp only [tmAt]
      rw [if_pos (by simp)]
      congr 1
      funext t
      exact tmAt_agree fun j hj hne => absurd (by simp; omega) hne
theorem stAt_trunc {δ : Nat → List (Nat × Option Ob)} {i : Nat} : ∀ {n : Nat}, i ≤ n → stAt δ (fun j => decide (j < i)) st0 n = stAt δ (fun _ => true) st0 i
  | 0, h => by have : i = 0 := by omega
               subst this; rfl
  | n + 1, h => by
    by_cases hi : i ≤ n
    · simp only [stAt]
      rw [if_neg (by simpa using hi)]
      exact stAt_trunc hi
    · have : i = n + 1 := by omega
      subst this
      simp only [stAt]
      rw [if_pos (by simp)]
      congr 1
      funext t
      exact stAt_agree fun j hj hne => absurd (by simp; omega) hne
theorem mask1_bit {B : List Nat} : ∀ {es : List Nat} {s i : Nat}, (es.foldl (fun s e => s ||| 2 ^ e ||| B.getD e 0) s).testBit i = true → s.testBit i = true ∨ ∃ e ∈ es, e = i ∨ (B.getD e 0).testBit i = true
  | [], s, i, h => .inl h
  | e :: es, s, i, h => by
    rcases mask1_bit (es := es) h with h | ⟨e', he, h⟩
    · simp only [Nat.testBit_or, Bool.or_eq_true] at h
      rcases h with (h | h) | h
      · exact .inl h
      · refine .inr ⟨e, by simp, .inl ?_⟩
        rw [Nat.testBit_two_pow] at h; simpa using h
      · exact .inr ⟨e, by simp, .inr h⟩
    · exact .inr ⟨e', by simp [he], h⟩
theorem masksOk_at {os : List Oper} {B : List Nat} (h : masksOk os B = true) {d : Nat} {o : Oper} (ho : os[d]? = some o) : (∀ e ∈ edges o, e < d) ∧ B.getD d 0 = mask1 B (edges o) := by
  have := List.all_eq_true.1 h d (List.mem_range.2 (List.getElem?_eq_some_iff.1 ho).1)
  rw [ho] at this
  simp only [Bool.and_eq_true, beq_iff_eq] at this
  exact ⟨fun e he => by simpa using List.all_eq_true.1 this.1 e he, this.2⟩
def Closed (ops : Array Oper) (b : Nat → Bool) : Prop := ∀ j o, ops[j]? = some o → b j = true → ∀ e ∈ edges o, b e = true
theorem ord_in {B : List Nat} (hB : masksOk ops.toList B = true) {b : Nat → Bool} (hc : Closed ops b) : ∀ (n j : Nat), j < n → ∀ o, ops[j]? = some o → (∀ e ∈ edges o, b e = true) → ∀ i, ordB B i j = true → b i = true
  | 0, j, h, _, _, _, _, _ => by omega
  | n + 1, j, h, o, ho, hp, i, hi => by
    obtain ⟨h1, h2⟩ := masksOk_at hB (by simpa using ho)
    unfold ordB at hi
    rw [h2] at hi
    unfold mask1 at hi
    rcases mask1_bit hi with hi | ⟨e, he, rfl | hi⟩
    · simp at hi
    · exact hp _ he
    · have hlt := h1 e he
      have hej : j < ops.size := (Array.getElem?_eq_some_iff.1 ho).1
      have heo : ops[e]? = some ops[e] := Array.getElem?_eq_getElem (by omega)
      exact ord_in hB hc n e (by omega) _ heo (hc e _ heo (hp e he)) i hi
theorem slots_at {B : List Nat} (h : slotsOk ops B = true) {i j : Nat} {x y : Oper} (hij : i < j) (hx : ops[i]? = some x) (hy : ops[j]? = some y) : ordB B i j = true ∨ x.apart ops y = true := by
  unfold slotsOk at h
  simp only [Bool.and_eq_true] at h
  have h1 := List.all_eq_true.1 h.2 j (List.mem_range.2 (Array.getElem?_eq_some_iff.1 hy).1)
  have h2 := List.all_eq_true.1 h1 i (List.mem_range.2 hij)
  rw [hx, hy] at h2
  simpa using h2
theorem recs_at {B : List Nat} {recs : List Rec} (h : recsOk B recs = true) {i j : Nat} (hij : i < j) (hj : j < recs.length) : ordB B i j = true ∨ ((∀ k, k ∈ (δF recs i).map (·.1) → k ∉ rF recs j ∧ k ∉ (δF recs j).map (·.1)) ∧ ∀ k, k ∈ rF recs i → k ∉ (δF recs j).map (·.1)) := by
  unfold recsOk at h
  simp only [Bool.and_eq_true] at h
  have h1 := List.all_eq_true.1 h.2 j (List.mem_range.2 hj)
  have hyj : recs[j]? = some recs[j] := List.getElem?_eq_getElem hj
  have hxi : recs[i]? = some recs[i] := List.getElem?_eq_getElem (by omega)
  rw [hyj] at h1
  simp only [Bool.or_eq_true, Bool.and_eq_true] at h1
  have e1 : δF recs i = recs[i].δ := by simp [δF, hxi]
  have e2 : δF recs j = recs[j].δ := by simp [δF, hyj]
  have e3 : rF recs i = recs[i].rd := by simp [rF, hxi]
  have e4 : rF recs j = recs[j].rd := by simp [rF, hyj]
  rw [e1, e2, e3, e4]
  rcases h1 with ⟨h2, h3⟩ | h1
  · right
    have h2' : recs[j].rd = [] := by simpa using h2
    have h3' : recs[j].δ = [] := by simpa using h3
    rw [h2', h3']; simp
  · have h2 := List.all_eq_true.1 h1 i (List.mem_range.2 hij)
    rw [hxi] at h2
    simp only [Bool.or_eq_true] at h2
    rcases h2 with h2 | h2
    · exact .inl h2
    · right
      simp only [Rec.free, Bool.and_eq_true, disj, Rec.wr] at h2
      refine ⟨fun k hk => ?_, fun k hk => ?_⟩
      · have := List.all_eq_true.1 h2.1 k hk
        simp at this ⊢
        exact this
      · have := List.all_eq_true.1 h2.2 k hk
        simp at this ⊢
        exact this
def Post (P : Program) (S : Nat → Prop) (G : Gh) (n0 N : Nat) (Q : Exit → Act → World → Prop) : Ex × Fr → Prop
  | (.norm, fr) => ∀ G' a' w', G.le G' → Same G G' (fun k => n0 ≤ k ∧ k < fr.nx) → n0 ≤ fr.nx → Inv P G' fr.st w' → TmR P G' N fr.tm a' → Q .normal a' w'
  | (.exit id, fr) => ∀ G' a' w', G.le G' → Same G G' (fun k => n0 ≤ k ∧ k < fr.nx) → n0 ≤ fr.nx → Inv P G' fr.st w' → TmR P G' N fr.tm a' → Q (.exit id) a' w'
  | (.ret, fr) => ∀ G' a' w', G.le G' → Same G G' (fun k => n0 ≤ k ∧ k < fr.nx) → n0 ≤ fr.nx → Inv P G' fr.st w' → TmR P G' N fr.tm a' → Q .ret a' w'
  | (.pan v, fr) => ∀ G' a' w' u, G.le G' → Same G G' (fun k => n0 ≤ k ∧ k < fr.nx) → n0 ≤ fr.nx → Inv P G' fr.st w' → a'.defers = G.w0.2 → (∀ t, S t → Rep P G' (fr.tm t) (a'.tmps.getD t undef)) → Rep P G' v u → Q (.panic [{ v := u, recovered := false }]) a' w'
theorem ev_same {o : Oper} (h : ∀ t ∈ o.looksAt ops, tm' t = tm t) : ∀ x ∈ o.op.operands, ev E tm' x = ev E tm x := fun x hx => by
  cases x with
  | tmp t =>
    simp only [ev]
    rw [h t]
    unfold Oper.looksAt
    refine List.mem_append_left _ (List.mem_filterMap.2 ⟨.tmp t, by simpa using hx, rfl⟩)
  | _ => rfl
theorem want_same {o : Oper} (h : ∀ t ∈ o.looksAt ops, tm' t = tm t) : xwant ops tm' o = xwant ops tm o := by
  unfold xwant
  split
  · rfl
  · rename_i j wn hg
    split
    · rename_i d hd
      rw [h d]
      unfold Oper.looksAt
      refine List.mem_append_right _ ?_
      rw [hg]; simp [hd]
    · rfl
theorem getD_tf {l : Array Bool} {j : Nat} : l.getD j true = false ↔ j < l.size ∧ l.getD j false = false := by
  simp only [Array.getD_eq_getD_getElem?]
  cases h : l[j]? with
  | none =>
    have := Array.getElem?_eq_none_iff.1 h
    simp
    omega
  | some b =>
    have := (Array.getElem?_eq_some_iff.1 h).1
    simp [this]
theorem countP_less {α : Type} {p p' : α → Bool} : ∀ {l : List α}, (∀ x ∈ l, p' x = true → p x = true) → (∃ x ∈ l, p x = true ∧ p' x = false) → l.countP p' < l.countP p
  | [], _, ⟨_, h, _⟩ => by cases h
  | x :: l, h, ⟨y, hy, h1, h2⟩ => by
    have hle : l.countP p' ≤ l.countP p := List.countP_mono_left fun z hz => h z (by simp [hz])
    rw [List.countP_cons, List.countP_cons]
    rcases List.mem_cons.1 hy with rfl | hy
    · simp [h1, h2]; omega
    · have := countP_less (fun z hz => h z (by simp [hz])) ⟨y, hy, h1, h2⟩
      have hx := h x (by simp)
      by_cases hp : p' x = true
      · simp [hp, hx hp]; omega
      · simp [hp]; omega
theorem tmAt_none {d : Nat → Option Tmp} {v : Nat → V} {b : Nat → Bool} (h : ∀ j, b j = false) : ∀ {n : Nat}, tmAt d v b tm0 n = tm0
  | 0 => rfl
  | n + 1 => by simp only [tmAt]; rw [h n]; exact tmAt_none h
theorem stAt_none {δ : Nat → List (Nat × Option Ob)} {b : Nat → Bool} (h : ∀ j, b j = false) : ∀ {n : Nat}, stAt δ b st0 n = st0
  | 0 => rfl
  | n + 1 => by simp only [stAt]; rw [h n]; exact stAt_none h
theorem region_draw (hP : ProgOK P) (hE : EnvOK P E) (hgl : GlOK P E.gl G.pr) {id : Nat} {recs : List Rec} (hinv : Inv P G st0 w) (ht : TmR P G N tm0 a) (hfr0 : Fresh G (fun k => n0 ≤ k)) (h8 : 8 ≤ n0) {B : List Nat}
    (hB : masksOk ops.toList B = true) (hS : slotsOk ops B = true) (hR : recsOk B recs = true) (hx : xops P E ops N n0 0 ops.toList tm0 st0 (n0 + 8 * ops.size) = some (.ok tm' st' nx' recs))
    (hK : Post P S G n0 N Q (.norm, ⟨tm', st', nx'⟩)) : (Code.region id ops true).wp P Q a w := by
  have hbig : recs.all (fun r => r.big.isNone) = true := by unfold recsOk at hR; simp only [Bool.and_eq_true] at hR; exact hR.1
  obtain ⟨rfl, hlen, htm, hst, hF⟩ := facts (ops := ops) (rest := ops.toList) (i := 0) (tm := tm0) (st := st0) (tm0 := tm0) (st0 := st0) (recs := recs) hbig rfl (Nat.zero_le _) (by rw [List.drop_zero]; exact hx) rfl rfl (Nat.zero_le _)
  refine wp_region_any hP.mix ?_
  have key : ∀ (fuel : Nat) (listed : Array Bool) (G' : Gh) (a : Act) (w : World), listed.size = ops.size → ((List.range ops.size).countP fun j => !listed.getD j false) ≤ fuel → Closed ops (fun j => listed.getD j false) → G.le G' → Same G G' (fun k => n0 ≤ k ∧ k < n0 + 8 * ops.size) →
      Inv P G' (stAt (δF recs) (fun j => listed.getD j false) st0 ops.size) w → TmR P G' N (tmAt (dF ops) (vF recs) (fun j => listed.getD j false) tm0 ops.size) a → (∀ j, j < ops.size → listed.getD j false = false → Fresh G' (R8 (n0 + 8 * j))) →
      wpAny P .any ops Q fuel listed a w := by
    intro fuel
    induction fuel with
    | zero =>
      intro listed G' a w hsz hcnt hcl hle hsame hinv ht hfr
      have hall : ∀ j, j < ops.size → listed.getD j false = true := fun j hj => by
        have := List.countP_eq_zero.1 (Nat.le_zero.1 hcnt) j (List.mem_range.2 hj)
        simpa using this
      have e1 : tmAt (dF ops) (vF recs) (fun j => listed.getD j false) tm0 ops.size = tm' := by
        rw [htm]; funext t; exact tmAt_agree fun j hj hne => absurd (hall j hj) hne
      have e2 : stAt (δF recs) (fun j => listed.getD j false) st0 ops.size = st' := by
        rw [hst]; funext t; exact stAt_agree fun j hj hne => absurd (hall j hj) hne
      rw [e1] at ht; rw [e2] at hinv
      refine ⟨?_, hK G' a w hle hsame (by show n0 ≤ n0 + 8 * ops.size; omega) hinv ht⟩
      rw [List.eq_nil_iff_forall_not_mem]
      intro j hj
      obtain ⟨h1, h2⟩ := getD_tf.1 (mem_ready.1 hj).1
      rw [hall j (by omega)] at h2; cases h2
    | succ fuel ih =>
      intro listed G' a w hsz hcnt hcl hle hsame hinv ht hfr
      refine ⟨fun hnil => ?_, fun i hi => ?_⟩
      · have hall : ∀ n j, j < n → j < ops.size → listed.getD j false = true := by
          intro n
          induction n with
          | zero => intro j h; omega
          | succ n ihn =>
            intro j hj hjs
            by_cases hl : listed.getD j false = true
            · exact hl
            · exfalso
              have hl : listed.getD j false = false := by simpa using hl
              have hoj : ops[j]? = some ops[j] := Array.getElem?_eq_getElem hjs
              have : j ∈ Region.ready .any ops listed := mem_ready.2 ⟨getD_tf.2 ⟨by omega, hl⟩, _, hoj, fun e he hb => by
                have hlt := (masksOk_at hB (d := j) (o := ops[j]) (by simp [hjs])).1 e.on (List.mem_map.2 ⟨e, List.mem_filter.2 ⟨by simpa using he, hb⟩, rfl⟩)
                exact ihn e.on (by omega) (by omega)⟩
              rw [hnil] at this; cases this
        have hall := fun j hj => hall (j + 1) j (by omega) hj
        have e1 : tmAt (dF ops) (vF recs) (fun j => listed.getD j false) tm0 ops.size = tm' := by
          rw [htm]; funext t; exact tmAt_agree fun j hj hne => absurd (hall j hj) hne
        have e2 : stAt (δF recs) (fun j => listed.getD j false) st0 ops.size = st' := by
          rw [hst]; funext t; exact stAt_agree fun j hj hne => absurd (hall j hj) hne
        rw [e1] at ht; rw [e2] at hinv
        exact hK G' a w hle hsame (by show n0 ≤ n0 + 8 * ops.size; omega) hinv ht
      · obtain ⟨hi1, o, ho, hpre'⟩ := mem_ready.1 hi
        obtain ⟨hil, hib⟩ := getD_tf.1 hi1
        have him : i < ops.size := (Array.getElem?_eq_some_iff.1 ho).1
        have hpre : ∀ e ∈ edges o, listed.getD e false = true := fun e he => by
          obtain ⟨x, hx, rfl⟩ := List.mem_map.1 he
          obtain ⟨h1, h2⟩ := List.mem_filter.1 hx
          exact hpre' x (by simpa using h1) h2
        have hord1 : ∀ j, ordB B j i = true → listed.getD j false = true := fun j hj => ord_in hB hcl (i + 1) i (by omega) o ho hpre j hj
        have hord2 : ∀ j, j < ops.size → listed.getD j false = true → ordB B i j = true → False := fun j hj hb ho2 => by
          have hoj : ops[j]? = some ops[j] := Array.getElem?_eq_getElem hj
          have := ord_in hB hcl (j + 1) j (by omega) _ hoj (hcl j _ hoj hb) i ho2
          rw [hib] at this; cases this
        have hdF : ∀ j y, ops[j]? = some y → dF ops j = y.dst := fun j y hy => by simp [dF, hy]
        have hapart : ∀ j, j < ops.size → listed.getD j false ≠ decide (j < i) → ∃ y, ops[j]? = some y ∧ ((j < i ∧ y.apart ops o = true) ∨ (i < j ∧ o.apart ops y = true)) := fun j hj hne => by
          have hoj : ops[j]? = some ops[j] := Array.getElem?_eq_getElem hj
          refine ⟨_, hoj, ?_⟩
          rcases Nat.lt_trichotomy j i with h | h | h
          · left
            refine ⟨h, ?_⟩
            rcases slots_at hS h hoj ho with q | q
            · exact absurd (by rw [hord1 j q]; simp [h]) hne
            · exact q
          · subst h; exact absurd (by rw [hib]; simp) hne
          · right
            refine ⟨h, ?_⟩
            have hb : listed.getD j false = true := by
              cases hq : listed.getD j false with
              | true => rfl
              | false => exact absurd (by rw [hq]; simp; omega) hne
            rcases slots_at hS h ho hoj with q | q
            · exact (hord2 j hj hb q).elim
            · exact q
        have htmA : ∀ t ∈ o.looksAt ops, tmAt (dF ops) (vF recs) (fun j => listed.getD j false) tm0 ops.size t = tmAt (dF ops) (vF recs) (fun _ => true) tm0 i t := fun t htl => by
          rw [← tmAt_trunc (n := ops.size) (Nat.le_of_lt him)]
          refine tmAt_agree fun j hj hne hd => ?_
          obtain ⟨y, hy, h | h⟩ := hapart j hj hne
          · rw [hdF j y hy] at hd; exact (Oper.apart_spec h.2).1 t hd htl
          · rw [hdF j y hy] at hd; exact (Oper.apart_spec h.2).2.2 t hd htl
        have hstA : ∀ k ∈ rF recs i, stAt (δF recs) (fun j => listed.getD j false) st0 ops.size k = stAt (δF recs) (fun _ => true) st0 i k := fun k hk => by
          rw [← stAt_trunc (n := ops.size) (Nat.le_of_lt him)]
          refine stAt_agree fun j hj hne hd => ?_
          rcases Nat.lt_trichotomy j i with h | h | h
          · rcases recs_at hR h (by omega) with q | q
            · exact absurd (by rw [hord1 j q]; simp [h]) hne
            · exact (q.1 k hd).1 hk
          · subst h; exact absurd (by rw [hib]; simp) hne
          · have hb : listed.getD j false = true := by
              cases hq : listed.getD j false with
              | true => rfl
              | false => exact absurd (by rw [hq]; simp; omega) hne
            rcases recs_at hR h (by omega) with q | q
            · exact hord2 j hj hb q
            · exact q.2 k hk hd
        have hins1 := tmAt_insert (d := dF ops) (v := vF recs) (tm0 := tm0) (b := fun j => listed.getD j false) (i := i) hib (n := ops.size) him fun j hij hj hb t hd1 hd2 => by
          have hoj : ops[j]? = some ops[j] := Array.getElem?_eq_getElem hj
          rcases slots_at hS hij ho hoj with q | q
          · exact hord2 j hj hb q
          · rw [hdF i o ho] at hd1; rw [hdF j _ hoj] at hd2
            exact (Oper.apart_spec q).2.1 t hd1 hd2
        have hins2 := stAt_insert (δ := δF recs) (st0 := st0) (b := fun j => listed.getD j false) (i := i) hib (n := ops.size) him fun j hij hj hb k hk1 hk2 => by
          rcases recs_at hR hij (by omega) with q | q
          · exact hord2 j hj hb q
          · exact (q.1 k hk1).2 hk2
        have hupd : (fun j => (listed.setIfInBounds i true).getD j false) = upB (fun j => listed.getD j false) i := by
          funext j
          simp only [upB]
          by_cases hji : j = i
          · subst hji; simp [Array.getD_eq_getD_getElem?, hil]
          · rw [if_neg hji, getD_set_ne _ (fun e => hji e.symm)]
        obtain ⟨o', ho', hdst, hcase⟩ := hF i (Nat.zero_le _) him
        rw [ho] at ho'
        obtain rfl := Option.some.inj ho'
        have hw2 : ∀ b, xwant ops (tmAt (dF ops) (vF recs) (fun _ => true) tm0 i) o = some b → Region.wanted o (yielded ops a.tmps) = b := fun b hb => want_sound ht (by rw [want_same htmA]; exact hb)
        have cont : ∀ G'' w'' v, G'.le G'' → Same G' G'' (R8 (n0 + 8 * i)) → Inv P G'' (upds (δF recs i) (stAt (δF recs) (fun j => listed.getD j false) st0 ops.size)) w'' → Rep P G'' (vF recs i) v → wpAny P .any ops Q fuel (listed.setIfInBounds i true) (a.put o.dst v) w'' := fun G'' w'' v g1 g2 g3 g4 => by
          refine ih (listed.setIfInBounds i true) G'' (a.put o.dst v) w'' (by simpa using hsz) ?_ ?_ (hle.trans g1) (hsame.trans (g2.mono fun k hk => ⟨by have := hk.1; omega, by have := hk.2; omega⟩)) ?_ ?_ fun j hj hjb => ?_
          · have := countP_less (p := fun j => !listed.getD j false) (p' := fun j => !(listed.setIfInBounds i true).getD j false) (l := List.range ops.size) (fun j _ hj => by
              have e := congrFun hupd j
              rw [e] at hj
              simp only [upB] at hj
              split at hj
              · cases hj
              · exact hj) ⟨i, List.mem_range.2 him, by simp [hib], by
              have e := congrFun hupd i
              rw [e]; simp [upB]⟩
            omega
          · rw [hupd]
            intro j y hy hb e he
            simp only [upB] at hb ⊢
            split
            · rfl
            · split at hb
              · rename_i h; subst h; rw [ho] at hy; obtain rfl := Option.some.inj hy; exact hpre e he
              · exact hcl j y hy hb e he
          · rw [hupd, hins2]; exact g3
          · rw [hupd, hins1]
            have := (ht.mono g1).put hdst g4
            rw [hdF i o ho]; exact this
          · have e := congrFun hupd j
            rw [e] at hjb
            simp only [upB] at hjb
            split at hjb
            · cases hjb
            · rename_i hji
              have h1 := hfr j hj hjb
              intro k hk
              have hnk : ¬ R8 (n0 + 8 * i) k := fun q => hji (by have := hk.1; have := hk.2; have := q.1; have := q.2; omega)
              exact ⟨(g2 k hnk).1 (h1 k hk).1, (g2 k hnk).2 (h1 k hk).2⟩
        have hgl' : GlOK P E.gl G'.pr := fun g x hg => (hgl g x hg).mono hle.pr
        unfold wpOp
        simp only [ho]
        rcases hcase with ⟨hw, hxo⟩ | ⟨hw, e1, e2, e3⟩
        · rw [hw2 true hw]
          simp only [if_true]
          refine .inl (xop_sound (i0 := n0 + 8 * i) (nx' := n0 + 8 * ops.size) hP hE hgl' hinv ht (hfr i him hib) (fun k hk => ?_) (by omega) (by omega) (r := .val (vF recs i) (δF recs i) (rF recs i)) ?_ fun G'' w'' v g1 g2 g3 g4 => cont G'' w'' v g1 g2 g3 g4)
          · have h1 := hfr0 k (by omega)
            have hn : ¬ (n0 ≤ k ∧ k < n0 + 8 * ops.size) := by omega
            exact ⟨(hsame k hn).1 h1.1, (hsame k hn).2 h1.2⟩
          · rw [xop_tm (ev_same htmA)]
            exact xop_st hxo hstA
        · rw [hw2 false hw]
          simp only [Bool.false_eq_true, if_false]
          refine cont G' w undef (.refl G') (.refl G' _) ?_ (by rw [e1]; exact .pure (.sc _))
          rw [e2]; exact hinv
  refine key ops.size (Array.replicate ops.size false) G a _ (by simp) (by
    refine Nat.le_trans (List.countP_le_length ..) ?_
    simp) (fun j o _ hb => by
    exfalso
    simp only [Array.getD_eq_getD_getElem?, Array.getElem?_replicate] at hb
    split at hb <;> simp at hb) (.refl G) (.refl G _) ?_ ?_ fun j hj _ k hk => hfr0 k (by have := hk.1; omega)
  · have : stAt (δF recs) (fun j => (Array.replicate ops.size false).getD j false) st0 ops.size = st0 := stAt_none fun j => by
      simp only [Array.getD_eq_getD_getElem?, Array.getElem?_replicate]; split <;> rfl
    rw [this]; exact hinv.heap rfl rfl rfl rfl
  · have : tmAt (dF ops) (vF recs) (fun j => (Array.replicate ops.size false).getD j false) tm0 ops.size = tm0 := tmAt_none fun j => by
      simp only [Array.getD_eq_getD_getElem?, Array.getElem?_replicate]; split <;> rfl
    rw [this]; exact ht
end
end Go.Proofs.YthgmhlpjbednpaaDoor.Vm
set_option linter.unusedVariables false
set_option linter.unusedSimpArgs false
namespace Go.Proofs.YthgmhlpjbednpaaDoor.Vm
open Go.RowKit
section
variable {P : Program} {S : Nat → Prop} {E : Env} {G G' : Gh} {st st' : St} {tm tm' tm0 : Nat → V} {st0 : St} {w w' : World} {a : Act} {N n0 nx nx' nx0 : Nat} {ops : Array Oper} {Q : Exit → Act → World → Prop}
def ov (D : Nat → Option (Option Ob)) (s : St) : St := fun k => (D k).getD (s k)
def stD (D : Nat → Nat → Option (Option Ob)) (b : Nat → Bool) (st0 : St) : Nat → St
  | 0 => st0
  | j + 1 => if b j then ov (D j) (stD D b st0 j) else stD D b st0 j
theorem ov_none {D : Nat → Option (Option Ob)} {s : St} {k : Nat} (h : D k = none) : ov D s k = s k := by simp [ov, h]
theorem ov_congr {D : Nat → Option (Option Ob)} {s s' : St} {k : Nat} (h : s k = s' k) : ov D s k = ov D s' k := by simp [ov, h]
theorem ov_some {D : Nat → Option (Option Ob)} {s s' : St} {k : Nat} (h : D k ≠ none) : ov D s k = ov D s' k := by
  cases hd : D k with
  | none => exact absurd hd h
  | some v => simp [ov, hd]
theorem stD_agree {D : Nat → Nat → Option (Option Ob)} {b b' : Nat → Bool} {k : Nat} : ∀ {n : Nat}, (∀ j, j < n → b j ≠ b' j → D j k = none) → stD D b st0 n k = stD D b' st0 n k
  | 0, _ => rfl
  | n + 1, h => by
    have ih := stD_agree (n := n) fun j hj => h j (by omega)
    simp only [stD]
    by_cases hb : b n = b' n
    · rw [hb]
      split
      · exact ov_congr ih
      · exact ih
    · have hd := h n (by omega) hb
      split <;> split <;> simp only [ov_none hd, ih]
theorem stD_insert {D : Nat → Nat → Option (Option Ob)} {b : Nat → Bool} {i : Nat} (hi : b i = false) : ∀ {n : Nat}, i < n → (∀ j, i < j → j < n → b j = true → ∀ k, D i k ≠ none → D j k = none) → stD D (upB b i) st0 n = ov (D i) (stD D b st0 n)
  | 0, h, _ => by omega
  | n + 1, h, hd => by
    funext k
    by_cases hin : i = n
    · subst hin
      simp only [stD, show upB b i i = true by simp [upB], if_true, hi, Bool.false_eq_true, if_false]
      exact ov_congr (stD_agree (b := upB b i) (b' := b) fun j hj hne => absurd (by simp [upB, Nat.ne_of_lt hj]) hne)
    · have ih := stD_insert (D := D) hi (n := n) (by omega) fun j h1 h2 => hd j h1 (by omega)
      have hb : upB b i n = b n := by simp [upB]; intro e; exact absurd e.symm hin
      simp only [stD, hb]
      by_cases hbn : b n = true
      · rw [if_pos hbn, if_pos hbn, ih]
        by_cases h2 : D i k = none
        · rw [ov_none (D := D i) h2]
          exact ov_congr (ov_none h2)
        · have h1 := hd n (by omega) (by omega) hbn k h2
          rw [ov_none h1]
          exact ov_some h2
      · rw [if_neg hbn, if_neg hbn, ih]
theorem stD_trunc {D : Nat → Nat → Option (Option Ob)} {i : Nat} : ∀ {n : Nat}, i ≤ n → stD D (fun j => decide (j < i)) st0 n = stD D (fun _ => true) st0 i
  | 0, h => by have : i = 0 := by omega
               subst this; rfl
  | n + 1, h => by
    by_cases hi : i ≤ n
    · simp only [stD]
      rw [if_neg (by simpa using hi)]
      exact stD_trunc hi
    · have : i = n + 1 := by omega
      subst this
      simp only [stD]
      rw [if_pos (by simp)]
      congr 1
      funext t
      exact stD_agree fun j hj hne => absurd (by simp; omega) hne
open Classical in
noncomputable def DF (st0 : St) (recs : List Rec) (j k : Nat) : Option (Option Ob) := match bigF recs j with
  | some p => if p.1 k = seqSt st0 recs j k then none else some (p.1 k)
  | none => if k ∈ (δF recs j).map (·.1) then some (upds (δF recs j) (fun _ => none) k) else none
theorem DF_nil {recs : List Rec} {j : Nat} (h : bigF recs j = none) (h2 : δF recs j = []) (k : Nat) : DF st0 recs j k = none := by simp [DF, h, h2]
theorem DF_big {recs : List Rec} {j : Nat} {p : St × Nat} (h : bigF recs j = some p) {k : Nat} (hk : p.1 k = seqSt st0 recs j k) : DF st0 recs j k = none := by simp [DF, h, hk]
theorem DF_val {recs : List Rec} {j k : Nat} (h : bigF recs j = none) (hk : k ∉ (δF recs j).map (·.1)) : DF st0 recs j k = none := by
  simp only [DF, h]; rw [if_neg hk]
theorem ov_val {recs : List Rec} {j : Nat} (h : bigF recs j = none) (s : St) : ov (DF st0 recs j) s = upds (δF recs j) s := by
  funext k
  by_cases hk : k ∈ (δF recs j).map (·.1)
  · have : DF st0 recs j k = some (upds (δF recs j) (fun _ => none) k) := by simp only [DF, h]; rw [if_pos hk]
    simp only [ov, this, Option.getD_some]
    exact upds_in hk
  · rw [ov_none (DF_val h hk), upds_notin hk]
theorem ov_big {recs : List Rec} {j : Nat} {p : St × Nat} (h : bigF recs j = some p) : ov (DF st0 recs j) (seqSt st0 recs j) = p.1 := by
  funext k
  by_cases hk : p.1 k = seqSt st0 recs j k
  · rw [ov_none (DF_big h hk), hk]
  · have : DF st0 recs j k = some (p.1 k) := by simp only [DF, h]; rw [if_neg hk]
    simp only [ov, this, Option.getD_some]
theorem stD_seq {recs : List Rec} : ∀ j, stD (DF st0 recs) (fun _ => true) st0 j = seqSt st0 recs j
  | 0 => rfl
  | j + 1 => by
    simp only [stD, if_true, stD_seq j, seqSt]
    cases h : bigF recs j with
    | none => exact ov_val h _
    | some p => exact ov_big h
def NX (nx0 : Nat) (recs : List Rec) : Nat → Nat
  | 0 => nx0
  | j + 1 => match bigF recs j with
    | some p => p.2
    | none => NX nx0 recs j
def Fact2 (P : Program) (E : Env) (ops : Array Oper) (N n0 nx0 : Nat) (recs : List Rec) (tm0 : Nat → V) (st0 : St) (j : Nat) : Prop :=
  ∃ o, ops[j]? = some o ∧ dstOk N o.dst = true ∧
    ((xwant ops (tmAt (dF ops) (vF recs) (fun _ => true) tm0 j) o = some true ∧ bigF recs j = none ∧ xop P E (tmAt (dF ops) (vF recs) (fun _ => true) tm0 j) (seqSt st0 recs j) (n0 + 8 * j) (NX nx0 recs j) o = some (.val (vF recs j) (δF recs j) (rF recs j))) ∨
     (∃ s n, xwant ops (tmAt (dF ops) (vF recs) (fun _ => true) tm0 j) o = some true ∧ bigF recs j = some (s, n) ∧ xop P E (tmAt (dF ops) (vF recs) (fun _ => true) tm0 j) (seqSt st0 recs j) (n0 + 8 * j) (NX nx0 recs j) o = some (.big (vF recs j) s n)) ∨
     (xwant ops (tmAt (dF ops) (vF recs) (fun _ => true) tm0 j) o = some false ∧ bigF recs j = none ∧ vF recs j = .sc undef ∧ δF recs j = [] ∧ rF recs j = []))
theorem facts2 {recs : List Rec} {m : Nat} (hm : m ≤ ops.size) : ∀ {rest : List Oper} {i : Nat} {tm : Nat → V} {st : St}, (ops.toList.take m).drop i = rest → i ≤ m → xops P E ops N n0 i rest tm st nx = some (.ok tm' st' nx' (recs.drop i)) →
    tm = tmAt (dF ops) (vF recs) (fun _ => true) tm0 i → st = seqSt st0 recs i → nx = NX nx0 recs i → i ≤ recs.length →
    nx' = NX nx0 recs m ∧ recs.length = m ∧ tm' = tmAt (dF ops) (vF recs) (fun _ => true) tm0 m ∧ st' = seqSt st0 recs m ∧ ∀ j, i ≤ j → j < m → Fact2 P E ops N n0 nx0 recs tm0 st0 j
  | rest, i, tm, st, hd, hi, h, ht, hs, hx, hir => by
    induction rest generalizing i tm st nx with
    | nil =>
      simp only [xops, Option.some.injEq, RR.ok.injEq] at h
      obtain ⟨h1, h2, h3, h4⟩ := h
      have hisz : m ≤ i := by
        have := List.drop_eq_nil_iff.1 hd
        rw [List.length_take, Array.length_toList] at this
        omega
      have hrec : recs.length ≤ i := List.drop_eq_nil_iff.1 h4.symm
      have : i = m := by omega
      subst this
      exact ⟨h3.symm.trans hx, by omega, by rw [← h1]; exact ht, by rw [← h2]; exact hs, fun j _ _ => by omega⟩
    | cons o rest ih =>
      obtain ⟨ho, hd'⟩ := drop_cons hd
      have hlt : i < m := by
        rcases Nat.lt_or_ge i m with q | q
        · exact q
        · rw [List.getElem?_eq_none (by rw [List.length_take]; omega)] at ho; cases ho
      have ho' : ops[i]? = some o := by
        rw [List.getElem?_take_of_lt hlt] at ho
        simpa using ho
      have hdF : dF ops i = o.dst := by simp [dF, ho']
      unfold xops at h
      split at h
      · rename_i hdst
        have step : ∀ {v : V} {δ : List (Nat × Option Ob)} {rd : List Nat} {big : Option (St × Nat)} {recs' : List Rec}, recs.drop i = ⟨v, δ, rd, big⟩ :: recs' → vF recs i = v ∧ δF recs i = δ ∧ rF recs i = rd ∧ bigF recs i = big ∧ recs.drop (i + 1) = recs' ∧ i + 1 ≤ recs.length := fun {v δ rd big recs'} hr => by
          obtain ⟨h1, h2⟩ := drop_cons hr
          exact ⟨by simp [vF, h1], by simp [δF, h1], by simp [rF, h1], by simp [bigF, h1], h2, (List.getElem?_eq_some_iff.1 h1).1⟩
        split at h
        · rename_i hw
          split at h
          · rename_i v δ rd hxo
            split at h
            · rename_i tm1 st1 nx1 recs' hr
              simp only [Option.some.injEq, RR.ok.injEq] at h
              obtain ⟨h1, h2, h3, h4⟩ := h
              obtain ⟨e1, e2, e3, eb, e4, e5⟩ := step h4.symm
              rw [h1, h2, h3] at hr
              obtain ⟨k1, k2, k3, k4, k5⟩ := ih (i + 1) _ _ hd' hlt (by rw [e4]; exact hr) (by simp only [tmAt, if_true, hdF, e1, ht]) (by simp only [seqSt, eb, e2, hs]) (by simp only [NX, eb, hx]) e5
              refine ⟨k1, k2, k3, k4, fun j hj hjs => ?_⟩
              by_cases hji : j = i
              · subst hji
                exact ⟨o, ho', hdst, .inl ⟨by rw [← ht]; exact hw, eb, by rw [← ht, ← hs, ← hx, e1, e2, e3]; exact hxo⟩⟩
              · exact k5 j (by omega) hjs
            · rename_i hne; exact absurd h (fun h => hne _ _ _ _ h)
          · rename_i v s n hxo
            split at h
            · rename_i tm1 st1 nx1 recs' hr
              simp only [Option.some.injEq, RR.ok.injEq] at h
              obtain ⟨h1, h2, h3, h4⟩ := h
              obtain ⟨e1, e2, e3, eb, e4, e5⟩ := step h4.symm
              rw [h1, h2, h3] at hr
              obtain ⟨k1, k2, k3, k4, k5⟩ := ih (i + 1) _ _ hd' hlt (by rw [e4]; exact hr) (by simp only [tmAt, if_true, hdF, e1, ht]) (by simp only [seqSt, eb]) (by simp only [NX, eb]) e5
              refine ⟨k1, k2, k3, k4, fun j hj hjs => ?_⟩
              by_cases hji : j = i
              · subst hji
                exact ⟨o, ho', hdst, .inr (.inl ⟨s, n, by rw [← ht]; exact hw, eb, by rw [← ht, ← hs, ← hx, e1]; exact hxo⟩)⟩
              · exact k5 j (by omega) hjs
            · rename_i hne; exact absurd h (fun h => hne _ _ _ _ h)
          · cases h
          · cases h
          · cases h
        · rename_i hw
          split at h
          · rename_i tm1 st1 nx1 recs' hr
            simp only [Option.some.injEq, RR.ok.injEq] at h
            obtain ⟨h1, h2, h3, h4⟩ := h
            obtain ⟨e1, e2, e3, eb, e4, e5⟩ := step h4.symm
            rw [h1, h2, h3] at hr
            obtain ⟨k1, k2, k3, k4, k5⟩ := ih (i + 1) _ _ hd' hlt (by rw [e4]; exact hr) (by simp only [tmAt, if_true, hdF, e1, ht]) (by simp only [seqSt, eb, e2, hs]; rfl) (by simp only [NX, eb, hx]) e5
            refine ⟨k1, k2, k3, k4, fun j hj hjs => ?_⟩
            by_cases hji : j = i
            · subst hji
              exact ⟨o, ho', hdst, .inr (.inr ⟨by rw [← ht]; exact hw, eb, e1, e2, e3⟩)⟩
            · exact k5 j (by omega) hjs
          · rename_i hne; exact absurd h (fun h => hne _ _ _ _ h)
        · cases h
      · cases h
theorem mem_disj {a b : List Nat} (h : disj a b = true) {k : Nat} (hk : k ∈ a) : k ∉ b := by
  unfold disj at h
  have := List.all_eq_true.1 h k hk
  simpa using this
theorem pair_at {recs : List Rec} {B : List Nat} (h : recsOk2 st0 B recs) {i j : Nat} (hij : i < j) (hj : j < recs.length) : ordB B i j = true ∨
    ((bigF recs i = none ∨ bigF recs j = none) ∧ (∀ k, DF st0 recs i k ≠ none → DF st0 recs j k = none) ∧ (bigF recs i = none → ∀ k ∈ rF recs i, DF st0 recs j k = none) ∧ (bigF recs j = none → ∀ k ∈ rF recs j, DF st0 recs i k = none) ∧
     ((bigF recs i).isSome = true → ∀ k, DF st0 recs j k = none) ∧ ((bigF recs j).isSome = true → ∀ k, DF st0 recs i k = none)) := by
  rcases h j (List.mem_range.2 hj) i (List.mem_range.2 hij) with h | h
  · exact .inl h
  · right
    unfold pairOk at h
    cases hi : bigF recs i with
    | none =>
      cases hb : bigF recs j with
      | none =>
        simp only [hi, hb, Bool.and_eq_true] at h
        refine ⟨.inl rfl, fun k hk => ?_, fun _ k hk => DF_val hb (mem_disj h.2 hk), fun _ k hk => ?_, fun q => by simp at q, fun q => by simp at q⟩
        · have : k ∈ (δF recs i).map (·.1) := by
            refine Classical.byContradiction fun hn => hk (DF_val hi hn)
          exact DF_val hb fun q => mem_disj h.1 this (List.mem_append.2 (.inr q))
        · exact DF_val hi fun q => mem_disj h.1 q (List.mem_append.2 (.inl hk))
      | some p =>
        simp only [hi, hb] at h
        have hd : ∀ k, DF st0 recs i k = none := DF_nil hi h.1
        exact ⟨.inl rfl, fun k hk => absurd (hd k) hk, fun _ k hk => DF_big hb (h.2 k hk), fun q => by simp at q, fun q => by simp at q, fun _ => hd⟩
    | some p =>
      cases hb : bigF recs j with
      | none =>
        simp only [hi, hb] at h
        have hd : ∀ k, DF st0 recs j k = none := DF_nil hb h.1
        exact ⟨.inr rfl, fun k _ => hd k, fun q => by simp at q, fun _ k hk => DF_big hi (h.2 k hk), fun _ => hd, fun q => by simp at q⟩
      | some p' => simp only [hi, hb] at h
theorem stD_none {D : Nat → Nat → Option (Option Ob)} {b : Nat → Bool} (h : ∀ j, b j = false) : ∀ {n : Nat}, stD D b st0 n = st0
  | 0 => rfl
  | n + 1 => by simp only [stD, h n, Bool.false_eq_true, if_false]; exact stD_none h
theorem nx_eq {recs : List Rec} {c : Nat} : ∀ {n : Nat}, c ≤ n → (∀ j, c ≤ j → j < n → bigF recs j = none) → NX nx0 recs n = NX nx0 recs c
  | 0, h, _ => by have : c = 0 := by omega
                  subst this; rfl
  | n + 1, h, hb => by
    by_cases hc : c = n + 1
    · subst hc; rfl
    · simp only [NX, hb n (by omega) (by omega)]
      exact nx_eq (by omega) fun j h1 h2 => hb j h1 (by omega)
theorem region_draw2 (hP : ProgOK P) (hE : EnvOK P E) (hgl : GlOK P E.gl G.pr) {id : Nat} {recs : List Rec} (hinv : Inv P G st0 w) (ht : TmR P G N tm0 a) (hfr0 : Fresh G (fun k => n0 ≤ k)) (h8 : 8 ≤ n0) {B : List Nat}
    (hB : masksOk ops.toList B = true) (hS : slotsOk ops B = true) (hR : recsOk2 st0 B recs) (hx : xops P E ops N n0 0 ops.toList tm0 st0 (n0 + 8 * ops.size) = some (.ok tm' st' nx' recs))
    (hK : Post P S G n0 N Q (.norm, ⟨tm', st', nx'⟩)) : (Code.region id ops true).wp P Q a w := by
  obtain ⟨hnx, hlen, htm, hst, hF⟩ := facts2 (ops := ops) (m := ops.size) (rest := ops.toList) (i := 0) (tm := tm0) (st := st0) (tm0 := tm0) (st0 := st0) (recs := recs) (nx0 := n0 + 8 * ops.size) (Nat.le_refl _) (by rw [List.drop_zero, ← Array.length_toList, List.take_length]) (Nat.zero_le _) (by rw [List.drop_zero]; exact hx) rfl rfl rfl (Nat.zero_le _)
  refine wp_region_any hP.mix ?_
  have done : ∀ (listed : Array Bool) (G' : Gh), (∀ j, j < ops.size → listed.getD j false = true) → (∃ c, c ≤ ops.size ∧ (∀ j, j < ops.size → (bigF recs j).isSome = true → (listed.getD j false = true ↔ j < c)) ∧ n0 + 8 * ops.size ≤ NX (n0 + 8 * ops.size) recs c ∧ Same G G' (fun k => n0 ≤ k ∧ k < NX (n0 + 8 * ops.size) recs c) ∧ Fresh G' (fun k => NX (n0 + 8 * ops.size) recs c ≤ k)) →
      Same G G' (fun k => n0 ≤ k ∧ k < nx') ∧ n0 ≤ nx' := fun listed G' hall ⟨c, hc, hb, h1, h2, h3⟩ => by
    have e : NX (n0 + 8 * ops.size) recs ops.size = NX (n0 + 8 * ops.size) recs c := nx_eq hc fun j hj1 hj2 => by
      cases hbj : bigF recs j with
      | none => rfl
      | some p => have := (hb j hj2 (by rw [hbj]; rfl)).1 (hall j hj2); omega
    rw [hnx, e]
    exact ⟨h2, by omega⟩
  have key : ∀ (fuel : Nat) (listed : Array Bool) (G' : Gh) (a : Act) (w : World), listed.size = ops.size → ((List.range ops.size).countP fun j => !listed.getD j false) ≤ fuel → Closed ops (fun j => listed.getD j false) → G.le G' → (∃ c, c ≤ ops.size ∧ (∀ j, j < ops.size → (bigF recs j).isSome = true → (listed.getD j false = true ↔ j < c)) ∧ n0 + 8 * ops.size ≤ NX (n0 + 8 * ops.size) recs c ∧ Same G G' (fun k => n0 ≤ k ∧ k < NX (n0 + 8 * ops.size) recs c) ∧ Fresh G' (fun k => NX (n0 + 8 * ops.size) recs c ≤ k)) →
      Inv P G' (stD (DF st0 recs) (fun j => listed.getD j false) st0 ops.size) w → TmR P G' N (tmAt (dF ops) (vF recs) (fun j => listed.getD j false) tm0 ops.size) a → (∀ j, j < ops.size → listed.getD j false = false → Fresh G' (R8 (n0 + 8 * j))) →
      wpAny P .any ops Q fuel listed a w := by
    intro fuel
    induction fuel with
    | zero =>
      intro listed G' a w hsz hcnt hcl hle hsame hinv ht hfr
      have hall : ∀ j, j < ops.size → listed.getD j false = true := fun j hj => by
        have := List.countP_eq_zero.1 (Nat.le_zero.1 hcnt) j (List.mem_range.2 hj)
        simpa using this
      have e1 : tmAt (dF ops) (vF recs) (fun j => listed.getD j false) tm0 ops.size = tm' := by
        rw [htm]; funext t; exact tmAt_agree fun j hj hne => absurd (hall j hj) hne
      have e2 : stD (DF st0 recs) (fun j => listed.getD j false) st0 ops.size = st' := by
        rw [hst, ← stD_seq]; funext t; exact stD_agree fun j hj hne => absurd (hall j hj) hne
      rw [e1] at ht; rw [e2] at hinv
      obtain ⟨hs1, hs2⟩ := done listed G' hall hsame
      refine ⟨?_, hK G' a w hle hs1 hs2 hinv ht⟩
      rw [List.eq_nil_iff_forall_not_mem]
      intro j hj
      obtain ⟨h1, h2⟩ := getD_tf.1 (mem_ready.1 hj).1
      rw [hall j (by omega)] at h2; cases h2
    | succ fuel ih =>
      intro listed G' a w hsz hcnt hcl hle hsame hinv ht hfr
      refine ⟨fun hnil => ?_, fun i hi => ?_⟩
      · have hall : ∀ n j, j < n → j < ops.size → listed.getD j false = true := by
          intro n
          induction n with
          | zero => intro j h; omega
          | succ n ihn =>
            intro j hj hjs
            by_cases hl : listed.getD j false = true
            · exact hl
            · exfalso
              have hl : listed.getD j false = false := by simpa using hl
              have hoj : ops[j]? = some ops[j] := Array.getElem?_eq_getElem hjs
              have : j ∈ Region.ready .any ops listed := mem_ready.2 ⟨getD_tf.2 ⟨by omega, hl⟩, _, hoj, fun e he hb => by
                have hlt := (masksOk_at hB (d := j) (o := ops[j]) (by simp [hjs])).1 e.on (List.mem_map.2 ⟨e, List.mem_filter.2 ⟨by simpa using he, hb⟩, rfl⟩)
                exact ihn e.on (by omega) (by omega)⟩
              rw [hnil] at this; cases this
        have hall := fun j hj => hall (j + 1) j (by omega) hj
        have e1 : tmAt (dF ops) (vF recs) (fun j => listed.getD j false) tm0 ops.size = tm' := by
          rw [htm]; funext t; exact tmAt_agree fun j hj hne => absurd (hall j hj) hne
        have e2 : stD (DF st0 recs) (fun j => listed.getD j false) st0 ops.size = st' := by
          rw [hst, ← stD_seq]; funext t; exact stD_agree fun j hj hne => absurd (hall j hj) hne
        rw [e1] at ht; rw [e2] at hinv
        obtain ⟨hs1, hs2⟩ := done listed G' hall hsame
        exact hK G' a w hle hs1 hs2 hinv ht
      · obtain ⟨hi1, o, ho, hpre'⟩ := mem_ready.1 hi
        obtain ⟨hil, hib⟩ := getD_tf.1 hi1
        have him : i < ops.size := (Array.getElem?_eq_some_iff.1 ho).1
        have hpre : ∀ e ∈ edges o, listed.getD e false = true := fun e he => by
          obtain ⟨x, hx, rfl⟩ := List.mem_map.1 he
          obtain ⟨h1, h2⟩ := List.mem_filter.1 hx
          exact hpre' x (by simpa using h1) h2
        have hord1 : ∀ j, ordB B j i = true → listed.getD j false = true := fun j hj => ord_in hB hcl (i + 1) i (by omega) o ho hpre j hj
        have hord2 : ∀ j, j < ops.size → listed.getD j false = true → ordB B i j = true → False := fun j hj hb ho2 => by
          have hoj : ops[j]? = some ops[j] := Array.getElem?_eq_getElem hj
          have := ord_in hB hcl (j + 1) j (by omega) _ hoj (hcl j _ hoj hb) i ho2
          rw [hib] at this; cases this
        have hdF : ∀ j y, ops[j]? = some y → dF ops j = y.dst := fun j y hy => by simp [dF, hy]
        have hapart : ∀ j, j < ops.size → listed.getD j false ≠ decide (j < i) → ∃ y, ops[j]? = some y ∧ ((j < i ∧ y.apart ops o = true) ∨ (i < j ∧ o.apart ops y = true)) := fun j hj hne => by
          have hoj : ops[j]? = some ops[j] := Array.getElem?_eq_getElem hj
          refine ⟨_, hoj, ?_⟩
          rcases Nat.lt_trichotomy j i with h | h | h
          · left
            refine ⟨h, ?_⟩
            rcases slots_at hS h hoj ho with q | q
            · exact absurd (by rw [hord1 j q]; simp [h]) hne
            · exact q
          · subst h; exact absurd (by rw [hib]; simp) hne
          · right
            refine ⟨h, ?_⟩
            have hb : listed.getD j false = true := by
              cases hq : listed.getD j false with
              | true => rfl
              | false => exact absurd (by rw [hq]; simp; omega) hne
            rcases slots_at hS h ho hoj with q | q
            · exact (hord2 j hj hb q).elim
            · exact q
        have htmA : ∀ t ∈ o.looksAt ops, tmAt (dF ops) (vF recs) (fun j => listed.getD j false) tm0 ops.size t = tmAt (dF ops) (vF recs) (fun _ => true) tm0 i t := fun t htl => by
          rw [← tmAt_trunc (n := ops.size) (Nat.le_of_lt him)]
          refine tmAt_agree fun j hj hne hd => ?_
          obtain ⟨y, hy, h | h⟩ := hapart j hj hne
          · rw [hdF j y hy] at hd; exact (Oper.apart_spec h.2).1 t hd htl
          · rw [hdF j y hy] at hd; exact (Oper.apart_spec h.2).2.2 t hd htl
        have hlisted : ∀ j, j < ops.size → listed.getD j false ≠ decide (j < i) → ((j < i ∧ ordB B j i ≠ true) ∨ (i < j ∧ ordB B i j ≠ true)) := fun j hj hne => by
          rcases Nat.lt_trichotomy j i with h | h | h
          · exact .inl ⟨h, fun q => hne (by rw [hord1 j q]; simp [h])⟩
          · subst h; exact absurd (by rw [hib]; simp) hne
          · have hb : listed.getD j false = true := by
              cases hq : listed.getD j false with
              | true => rfl
              | false => exact absurd (by rw [hq]; simp; omega) hne
            exact .inr ⟨h, fun q => hord2 j hj hb q⟩
        have hstA : bigF recs i = none → ∀ k ∈ rF recs i, stD (DF st0 recs) (fun j => listed.getD j false) st0 ops.size k = seqSt st0 recs i k := fun hbi k hk => by
          rw [← stD_seq, ← stD_trunc (n := ops.size) (Nat.le_of_lt him)]
          refine stD_agree fun j hj hne => ?_
          rcases hlisted j hj hne with ⟨h, hno⟩ | ⟨h, hno⟩
          · rcases pair_at hR h (by omega) with q | ⟨_, _, _, q, _, _⟩
            · exact absurd q hno
            · exact q hbi k hk
          · rcases pair_at hR h (by omega) with q | ⟨_, _, q, _, _, _⟩
            · exact absurd q hno
            · exact q hbi k hk
        have hstB : (bigF recs i).isSome = true → stD (DF st0 recs) (fun j => listed.getD j false) st0 ops.size = seqSt st0 recs i := fun hbi => by
          funext k
          rw [← stD_seq, ← stD_trunc (n := ops.size) (Nat.le_of_lt him)]
          refine stD_agree fun j hj hne => ?_
          rcases hlisted j hj hne with ⟨h, hno⟩ | ⟨h, hno⟩
          · rcases pair_at hR h (by omega) with q | ⟨_, _, _, _, _, q⟩
            · exact absurd q hno
            · exact q hbi k
          · rcases pair_at hR h (by omega) with q | ⟨_, _, _, _, q, _⟩
            · exact absurd q hno
            · exact q hbi k
        have hins1 := tmAt_insert (d := dF ops) (v := vF recs) (tm0 := tm0) (b := fun j => listed.getD j false) (i := i) hib (n := ops.size) him fun j hij hj hb t hd1 hd2 => by
          have hoj : ops[j]? = some ops[j] := Array.getElem?_eq_getElem hj
          rcases slots_at hS hij ho hoj with q | q
          · exact hord2 j hj hb q
          · rw [hdF i o ho] at hd1; rw [hdF j _ hoj] at hd2
            exact (Oper.apart_spec q).2.1 t hd1 hd2
        have hins2 := stD_insert (D := DF st0 recs) (st0 := st0) (b := fun j => listed.getD j false) (i := i) hib (n := ops.size) him fun j hij hj hb k hk1 => by
          rcases pair_at hR hij (by omega) with q | ⟨_, q, _⟩
          · exact (hord2 j hj hb q).elim
          · exact q k hk1
        have hupd : (fun j => (listed.setIfInBounds i true).getD j false) = upB (fun j => listed.getD j false) i := by
          funext j
          simp only [upB]
          by_cases hji : j = i
          · subst hji; simp [Array.getD_eq_getD_getElem?, hil]
          · rw [if_neg hji, getD_set_ne _ (fun e => hji e.symm)]
        obtain ⟨o', ho', hdst, hcase⟩ := hF i (Nat.zero_le _) him
        rw [ho] at ho'
        obtain rfl := Option.some.inj ho'
        have hw2 : ∀ b, xwant ops (tmAt (dF ops) (vF recs) (fun _ => true) tm0 i) o = some b → Region.wanted o (yielded ops a.tmps) = b := fun b hb => want_sound ht (by rw [want_same htmA]; exact hb)
        have cont : ∀ G'' w'' v (S : Nat → Prop), G'.le G'' → Same G' G'' S → (∀ k, S k → R8 (n0 + 8 * i) k ∨ n0 + 8 * ops.size ≤ k) → (∃ c, c ≤ ops.size ∧ (∀ j, j < ops.size → (bigF recs j).isSome = true → ((listed.setIfInBounds i true).getD j false = true ↔ j < c)) ∧ n0 + 8 * ops.size ≤ NX (n0 + 8 * ops.size) recs c ∧ Same G G'' (fun k => n0 ≤ k ∧ k < NX (n0 + 8 * ops.size) recs c) ∧ Fresh G'' (fun k => NX (n0 + 8 * ops.size) recs c ≤ k)) → Inv P G'' (ov (DF st0 recs i) (stD (DF st0 recs) (fun j => listed.getD j false) st0 ops.size)) w'' → Rep P G'' (vF recs i) v → wpAny P .any ops Q fuel (listed.setIfInBounds i true) (a.put o.dst v) w'' := fun G'' w'' v S g1 g2 g2' gS g3 g4 => by
          refine ih (listed.setIfInBounds i true) G'' (a.put o.dst v) w'' (by simpa using hsz) ?_ ?_ (hle.trans g1) gS ?_ ?_ fun j hj hjb => ?_
          · have := countP_less (p := fun j => !listed.getD j false) (p' := fun j => !(listed.setIfInBounds i true).getD j false) (l := List.range ops.size) (fun j _ hj => by
              have e := congrFun hupd j
              rw [e] at hj
              simp only [upB] at hj
              split at hj
              · cases hj
              · exact hj) ⟨i, List.mem_range.2 him, by simp [hib], by
              have e := congrFun hupd i
              rw [e]; simp [upB]⟩
            omega
          · rw [hupd]
            intro j y hy hb e he
            simp only [upB] at hb ⊢
            split
            · rfl
            · split at hb
              · rename_i h; subst h; rw [ho] at hy; obtain rfl := Option.some.inj hy; exact hpre e he
              · exact hcl j y hy hb e he
          · rw [hupd, hins2]; exact g3
          · rw [hupd, hins1]
            have := (ht.mono g1).put hdst g4
            rw [hdF i o ho]; exact this
          · have e := congrFun hupd j
            rw [e] at hjb
            simp only [upB] at hjb
            split at hjb
            · cases hjb
            · rename_i hji
              have h1 := hfr j hj hjb
              intro k hk
              have hnk : ¬ S k := fun q => by
                rcases g2' k q with q | q
                · exact hji (by have := hk.1; have := hk.2; have := q.1; have := q.2; omega)
                · have := hk.2; omega
              exact ⟨(g2 k hnk).1 (h1 k hk).1, (g2 k hnk).2 (h1 k hk).2⟩
        have hgl' : GlOK P E.gl G'.pr := fun g x hg => (hgl g x hg).mono hle.pr
        unfold wpOp
        simp only [ho]
        obtain ⟨c, hc1, hc2, hc3, hc4, hc5⟩ := hsame
        have hsame2 : ∀ G'', Same G' G'' (R8 (n0 + 8 * i)) → bigF recs i = none → (∃ c, c ≤ ops.size ∧ (∀ j, j < ops.size → (bigF recs j).isSome = true → ((listed.setIfInBounds i true).getD j false = true ↔ j < c)) ∧ n0 + 8 * ops.size ≤ NX (n0 + 8 * ops.size) recs c ∧ Same G G'' (fun k => n0 ≤ k ∧ k < NX (n0 + 8 * ops.size) recs c) ∧ Fresh G'' (fun k => NX (n0 + 8 * ops.size) recs c ≤ k)) := fun G'' g2 hbi => by
          refine ⟨c, hc1, fun j hj hbj => ?_, hc3, hc4.trans (g2.mono fun k hk => ⟨by have := hk.1; omega, by have := hk.2; omega⟩), fun k hk => ?_⟩
          · have e := congrFun hupd j
            rw [e]
            simp only [upB]
            split
            · rename_i h; subst h; rw [hbi] at hbj; cases hbj
            · exact hc2 j hj hbj
          · have hnk : ¬ R8 (n0 + 8 * i) k := fun q => by have := q.2; omega
            have h1 := hc5 k hk
            exact ⟨(g2 k hnk).1 h1.1, (g2 k hnk).2 h1.2⟩
        rcases hcase with ⟨hw, hbi, hxo⟩ | ⟨s1, n1, hw, hbi, hxo⟩ | ⟨hw, hbi, e1, e2, e3⟩
        · rw [hw2 true hw]
          simp only [if_true]
          refine .inl (xop_sound (i0 := n0 + 8 * i) (nx' := NX (n0 + 8 * ops.size) recs c) hP hE hgl' hinv ht (hfr i him hib) hc5 (by omega) (by omega) (r := .val (vF recs i) (δF recs i) (rF recs i)) ?_ fun G'' w'' v g1 g2 g3 g4 => cont G'' w'' v _ g1 g2 (fun k hk => .inl hk) (hsame2 G'' g2 hbi) (by rw [ov_val hbi]; exact g3) g4)
          rw [xop_tm (ev_same htmA)]
          exact xop_st hxo (hstA hbi)
        · rw [hw2 true hw]
          simp only [if_true]
          have hsm : (bigF recs i).isSome = true := by rw [hbi]; rfl
          have hstE := hstB hsm
          have hci : c ≤ i := by
            rcases Nat.lt_or_ge i c with h | h
            · have := (hc2 i him hsm).2 h; rw [hib] at this; cases this
            · exact h
          have hnxe : NX (n0 + 8 * ops.size) recs i = NX (n0 + 8 * ops.size) recs c := nx_eq hci fun j hj1 hj2 => by
            cases hbj : bigF recs j with
            | none => rfl
            | some p =>
              have hjs : (bigF recs j).isSome = true := by rw [hbj]; rfl
              have hnl : ¬ listed.getD j false = true := fun q => by have := (hc2 j (by omega) hjs).1 q; omega
              rcases pair_at hR hj2 (by omega) with q | ⟨q, _⟩
              · exact absurd (hord1 j q) hnl
              · rcases q with q | q
                · rw [hbj] at q; cases q
                · rw [hbi] at q; cases q
          have hx2 : xop P E (tmAt (dF ops) (vF recs) (fun j => listed.getD j false) tm0 ops.size) (stD (DF st0 recs) (fun j => listed.getD j false) st0 ops.size) (n0 + 8 * i) (NX (n0 + 8 * ops.size) recs c) o = some (.big (vF recs i) s1 n1) := by
            rw [xop_tm (ev_same htmA), hstE, ← hnxe]; exact hxo
          refine .inl (xop_sound (i0 := n0 + 8 * i) (nx' := NX (n0 + 8 * ops.size) recs c) hP hE hgl' hinv ht (hfr i him hib) hc5 (by omega) (by omega) hx2 fun G'' w'' v g1 g2 g3 g4 g5 => cont G'' w'' v _ g1 g2 (fun k hk => .inr (by have := hk.1; omega)) ?_ (by rw [hstE, ov_big hbi]; exact g4) g5)
          have hN1 : NX (n0 + 8 * ops.size) recs (i + 1) = n1 := by simp only [NX, hbi]
          refine ⟨i + 1, him, fun j hj hbj => ?_, by rw [hN1]; omega, ?_, ?_⟩
          · have e := congrFun hupd j
            rw [e]
            simp only [upB]
            split
            · rename_i h; subst h; simp
            · rename_i hji
              rw [hc2 j hj hbj]
              constructor
              · intro h; omega
              · intro h
                have hji' : j < i := by omega
                rcases pair_at hR hji' (by omega) with q | ⟨q, _⟩
                · exact (hc2 j hj hbj).1 (hord1 j q)
                · rcases q with q | q
                  · rw [q] at hbj; cases hbj
                  · rw [hbi] at q; cases q
          · rw [hN1]
            exact (hc4.mono fun k hk => ⟨hk.1, by omega⟩).trans (g2.mono fun k hk => ⟨by omega, hk.2⟩)
          · rw [hN1]
            intro k hk
            have h1 := hc5 k (by omega)
            have hnk : ¬ (NX (n0 + 8 * ops.size) recs c ≤ k ∧ k < n1) := by omega
            exact ⟨(g2 k hnk).1 h1.1, (g2 k hnk).2 h1.2⟩
        · rw [hw2 false hw]
          simp only [Bool.false_eq_true, if_false]
          refine cont G' w undef (R8 (n0 + 8 * i)) (.refl G') (.refl G' _) (fun k hk => .inl hk) (hsame2 G' (.refl G' _) hbi) ?_ (by rw [e1]; exact .pure (.sc _))
          rw [ov_val hbi, e2]; exact hinv
  refine key ops.size (Array.replicate ops.size false) G a _ (by simp) (by
    refine Nat.le_trans (List.countP_le_length ..) ?_
    simp) (fun j o _ hb => by
    exfalso
    simp only [Array.getD_eq_getD_getElem?, Array.getElem?_replicate] at hb
    split at hb <;> simp at hb) (.refl G) ⟨0, Nat.zero_le _, fun j hj _ => by simp [Array.getD_eq_getD_getElem?, Array.getElem?_replicate, hj], Nat.le_refl _, .refl G _, fun k hk => hfr0 k (by have : n0 + 8 * ops.size ≤ k := hk; omega)⟩ ?_ ?_ fun j hj _ k hk => hfr0 k (by have := hk.1; omega)
  · have : stD (DF st0 recs) (fun j => (Array.replicate ops.size false).getD j false) st0 ops.size = st0 := stD_none fun j => by
      simp only [Array.getD_eq_getD_getElem?, Array.getElem?_replicate]; split <;> rfl
    rw [this]; exact hinv.heap rfl rfl rfl rfl
  · have : tmAt (dF ops) (vF recs) (fun j => (Array.replicate ops.size false).getD j false) tm0 ops.size = tm0 := tmAt_none fun j => by
      simp only [Array.getD_eq_getD_getElem?, Array.getElem?_replicate]; split <;> rfl
    rw [this]; exact ht
theorem region_drawP (hP : ProgOK P) (hE : EnvOK P E) (hgl : GlOK P E.gl G.pr) {id : Nat} {recs : List Rec} (hinv : Inv P G st0 w) (ht : TmR P G N tm0 a) (hfr0 : Fresh G (fun k => n0 ≤ k)) (h8 : 8 ≤ n0) {B : List Nat}
    (hB : masksOk ops.toList B = true) (hS : slotsOk ops B = true) (hR : recsOk2 st0 B recs) {i0 : Nat} {o0 : Oper} {pv : V} {s1 : St} {n1 : Nat} (hlen : recs.length = i0) (ho0 : ops[i0]? = some o0) (hx : xops P E ops N n0 0 (ops.toList.take i0) tm0 st0 (n0 + 8 * ops.size) = some (.ok tm' st' nx' recs))
    (hw0 : xwant ops tm' o0 = some true) (hpx : xop P E tm' st' (n0 + 8 * i0) nx' o0 = some (.bpan pv s1 n1) ∨ (xop P E tm' st' (n0 + 8 * i0) nx' o0 = some (.pan pv) ∧ s1 = st' ∧ n1 = nx')) (hpo : pansOk B recs ops.size = true) (hSd : ∀ (j : Nat) (o : Oper), ops[j]? = some o → ∀ d, o.dst = some d → ¬ S d)
    (hK : Post P S G n0 N Q (.pan pv, ⟨tm0, s1, n1⟩)) : (Code.region id ops true).wp P Q a w := by
  have hi0 : i0 < ops.size := (Array.getElem?_eq_some_iff.1 ho0).1
  obtain ⟨hnx, _, htm, hst, hF⟩ := facts2 (ops := ops) (m := i0) (rest := ops.toList.take i0) (i := 0) (tm := tm0) (st := st0) (tm0 := tm0) (st0 := st0) (recs := recs) (nx0 := n0 + 8 * ops.size) (Nat.le_of_lt hi0) (by rw [List.drop_zero]) (Nat.zero_le _) (by rw [List.drop_zero]; exact hx) rfl rfl rfl (Nat.zero_le _)
  have hpo1 : ∀ j, i0 < j → j < ops.size → ordB B i0 j = true := fun j hj hjs => by
    unfold pansOk at hpo
    rw [hlen] at hpo
    simp only [Bool.and_eq_true] at hpo
    have := List.all_eq_true.1 hpo.1 j (List.mem_range.2 hjs)
    simp only [Bool.or_eq_true, decide_eq_true_eq] at this
    rcases this with h | h
    · omega
    · exact h
  have hpo2 : ∀ j, j < i0 → ordB B j i0 = true ∨ (bigF recs j = none ∧ ∀ k, DF st0 recs j k = none) := fun j hj => by
    unfold pansOk at hpo
    rw [hlen] at hpo
    simp only [Bool.and_eq_true] at hpo
    have := List.all_eq_true.1 hpo.2 j (List.mem_range.2 hj)
    simp only [Bool.or_eq_true, Bool.and_eq_true, List.isEmpty_iff, Option.isNone_iff_eq_none] at this
    rcases this with h | h
    · exact .inl h
    · exact .inr ⟨h.2, DF_nil h.2 h.1⟩
  refine wp_region_any hP.mix ?_
  have key : ∀ (fuel : Nat) (listed : Array Bool) (G' : Gh) (a : Act) (w : World), listed.size = ops.size → ((List.range ops.size).countP fun j => !listed.getD j false) ≤ fuel → Closed ops (fun j => listed.getD j false) → (∀ j, i0 ≤ j → listed.getD j false = false) → G.le G' → (∃ c, c ≤ ops.size ∧ (∀ j, j < ops.size → (bigF recs j).isSome = true → (listed.getD j false = true ↔ j < c)) ∧ n0 + 8 * ops.size ≤ NX (n0 + 8 * ops.size) recs c ∧ Same G G' (fun k => n0 ≤ k ∧ k < NX (n0 + 8 * ops.size) recs c) ∧ Fresh G' (fun k => NX (n0 + 8 * ops.size) recs c ≤ k)) →
      Inv P G' (stD (DF st0 recs) (fun j => listed.getD j false) st0 ops.size) w → TmR P G' N (tmAt (dF ops) (vF recs) (fun j => listed.getD j false) tm0 ops.size) a → (∀ j, j < ops.size → listed.getD j false = false → Fresh G' (R8 (n0 + 8 * j))) →
      wpAny P .any ops Q fuel listed a w := by
    intro fuel
    induction fuel with
    | zero =>
      intro listed G' a w hsz hcnt hcl hun hle hsame hinv ht hfr
      exfalso
      have := List.countP_eq_zero.1 (Nat.le_zero.1 hcnt) i0 (List.mem_range.2 hi0)
      rw [hun i0 (Nat.le_refl _)] at this
      simp at this
    | succ fuel ih =>
      intro listed G' a w hsz hcnt hcl hun hle hsame hinv ht hfr
      refine ⟨fun hnil => ?_, fun i hi => ?_⟩
      · have hall : ∀ n j, j < n → j < ops.size → listed.getD j false = true := by
          intro n
          induction n with
          | zero => intro j h; omega
          | succ n ihn =>
            intro j hj hjs
            by_cases hl : listed.getD j false = true
            · exact hl
            · exfalso
              have hl : listed.getD j false = false := by simpa using hl
              have hoj : ops[j]? = some ops[j] := Array.getElem?_eq_getElem hjs
              have : j ∈ Region.ready .any ops listed := mem_ready.2 ⟨getD_tf.2 ⟨by omega, hl⟩, _, hoj, fun e he hb => by
                have hlt := (masksOk_at hB (d := j) (o := ops[j]) (by simp [hjs])).1 e.on (List.mem_map.2 ⟨e, List.mem_filter.2 ⟨by simpa using he, hb⟩, rfl⟩)
                exact ihn e.on (by omega) (by omega)⟩
              rw [hnil] at this; cases this
        have h1 := hall (i0 + 1) i0 (by omega) hi0
        rw [hun i0 (Nat.le_refl _)] at h1
        cases h1
      · obtain ⟨hi1, o, ho, hpre'⟩ := mem_ready.1 hi
        obtain ⟨hil, hib⟩ := getD_tf.1 hi1
        have him : i < ops.size := (Array.getElem?_eq_some_iff.1 ho).1
        have hpre : ∀ e ∈ edges o, listed.getD e false = true := fun e he => by
          obtain ⟨x, hx, rfl⟩ := List.mem_map.1 he
          obtain ⟨h1, h2⟩ := List.mem_filter.1 hx
          exact hpre' x (by simpa using h1) h2
        have hord1 : ∀ j, ordB B j i = true → listed.getD j false = true := fun j hj => ord_in hB hcl (i + 1) i (by omega) o ho hpre j hj
        have hord2 : ∀ j, j < ops.size → listed.getD j false = true → ordB B i j = true → False := fun j hj hb ho2 => by
          have hoj : ops[j]? = some ops[j] := Array.getElem?_eq_getElem hj
          have := ord_in hB hcl (j + 1) j (by omega) _ hoj (hcl j _ hoj hb) i ho2
          rw [hib] at this; cases this
        have hdF : ∀ j y, ops[j]? = some y → dF ops j = y.dst := fun j y hy => by simp [dF, hy]
        have hapart : ∀ j, j < ops.size → listed.getD j false ≠ decide (j < i) → ∃ y, ops[j]? = some y ∧ ((j < i ∧ y.apart ops o = true) ∨ (i < j ∧ o.apart ops y = true)) := fun j hj hne => by
          have hoj : ops[j]? = some ops[j] := Array.getElem?_eq_getElem hj
          refine ⟨_, hoj, ?_⟩
          rcases Nat.lt_trichotomy j i with h | h | h
          · left
            refine ⟨h, ?_⟩
            rcases slots_at hS h hoj ho with q | q
            · exact absurd (by rw [hord1 j q]; simp [h]) hne
            · exact q
          · subst h; exact absurd (by rw [hib]; simp) hne
          · right
            refine ⟨h, ?_⟩
            have hb : listed.getD j false = true := by
              cases hq : listed.getD j false with
              | true => rfl
              | false => exact absurd (by rw [hq]; simp; omega) hne
            rcases slots_at hS h ho hoj with q | q
            · exact (hord2 j hj hb q).elim
            · exact q
        have htmA : ∀ t ∈ o.looksAt ops, tmAt (dF ops) (vF recs) (fun j => listed.getD j false) tm0 ops.size t = tmAt (dF ops) (vF recs) (fun _ => true) tm0 i t := fun t htl => by
          rw [← tmAt_trunc (n := ops.size) (Nat.le_of_lt him)]
          refine tmAt_agree fun j hj hne hd => ?_
          obtain ⟨y, hy, h | h⟩ := hapart j hj hne
          · rw [hdF j y hy] at hd; exact (Oper.apart_spec h.2).1 t hd htl
          · rw [hdF j y hy] at hd; exact (Oper.apart_spec h.2).2.2 t hd htl
        have hile : i ≤ i0 := by
          rcases Nat.lt_or_ge i0 i with h | h
          · have := hord1 i0 (hpo1 i h him)
            rw [hun i0 (Nat.le_refl _)] at this
            cases this
          · exact h
        have hjlt : ∀ j, listed.getD j false ≠ decide (j < i) → j < i0 := fun j hne => by
          rcases Nat.lt_or_ge j i0 with h | h
          · exact h
          · rw [hun j h] at hne
            exact absurd (by simp; omega) hne
        have hlisted : ∀ j, j < ops.size → listed.getD j false ≠ decide (j < i) → ((j < i ∧ ordB B j i ≠ true) ∨ (i < j ∧ ordB B i j ≠ true)) := fun j hj hne => by
          rcases Nat.lt_trichotomy j i with h | h | h
          · exact .inl ⟨h, fun q => hne (by rw [hord1 j q]; simp [h])⟩
          · subst h; exact absurd (by rw [hib]; simp) hne
          · have hb : listed.getD j false = true := by
              cases hq : listed.getD j false with
              | true => rfl
              | false => exact absurd (by rw [hq]; simp; omega) hne
            exact .inr ⟨h, fun q => hord2 j hj hb q⟩
        have hagr : (∀ j, j < i0 → listed.getD j false ≠ decide (j < i) → ∀ k, (k ∈ rF recs i ∨ i = i0) → DF st0 recs j k = none) → ∀ k, (k ∈ rF recs i ∨ i = i0) → stD (DF st0 recs) (fun j => listed.getD j false) st0 ops.size k = seqSt st0 recs i k := fun h k hk => by
          rw [← stD_seq, ← stD_trunc (n := ops.size) (Nat.le_of_lt him)]
          exact stD_agree fun j hj hne => h j (hjlt j hne) hne k hk
        have hstA : i < i0 → bigF recs i = none → ∀ k ∈ rF recs i, stD (DF st0 recs) (fun j => listed.getD j false) st0 ops.size k = seqSt st0 recs i k := fun hii hbi k hk => by
          refine hagr (fun j hj hne k hk => ?_) k (.inl hk)
          have hk : k ∈ rF recs i := by rcases hk with h | h
                                        · exact h
                                        · omega
          rcases hlisted j (by omega) hne with ⟨h, hno⟩ | ⟨h, hno⟩
          · rcases pair_at hR h (by omega) with q | ⟨_, _, _, q, _, _⟩
            · exact absurd q hno
            · exact q hbi k hk
          · rcases pair_at hR h (by omega) with q | ⟨_, _, q, _, _, _⟩
            · exact absurd q hno
            · exact q hbi k hk
        have hstB : i < i0 → (bigF recs i).isSome = true → stD (DF st0 recs) (fun j => listed.getD j false) st0 ops.size = seqSt st0 recs i := fun hii hbi => by
          funext k
          rw [← stD_seq, ← stD_trunc (n := ops.size) (Nat.le_of_lt him)]
          refine stD_agree fun j hj hne => ?_
          have hji := hjlt j hne
          rcases hlisted j hj hne with ⟨h, hno⟩ | ⟨h, hno⟩
          · rcases pair_at hR h (by omega) with q | ⟨_, _, _, _, _, q⟩
            · exact absurd q hno
            · exact q hbi k
          · rcases pair_at hR h (by omega) with q | ⟨_, _, _, _, q, _⟩
            · exact absurd q hno
            · exact q hbi k
        have hstC : i = i0 → stD (DF st0 recs) (fun j => listed.getD j false) st0 ops.size = seqSt st0 recs i := fun hii => by
          funext k
          refine hagr (fun j hj hne k _ => ?_) k (.inr hii)
          rcases hlisted j (by omega) hne with ⟨h, hno⟩ | ⟨h, hno⟩
          · rcases hpo2 j hj with q | q
            · rw [← hii] at q; exact absurd q hno
            · exact q.2 k
          · omega
        have hins1 := tmAt_insert (d := dF ops) (v := vF recs) (tm0 := tm0) (b := fun j => listed.getD j false) (i := i) hib (n := ops.size) him fun j hij hj hb t hd1 hd2 => by
          have hoj : ops[j]? = some ops[j] := Array.getElem?_eq_getElem hj
          rcases slots_at hS hij ho hoj with q | q
          · exact hord2 j hj hb q
          · rw [hdF i o ho] at hd1; rw [hdF j _ hoj] at hd2
            exact (Oper.apart_spec q).2.1 t hd1 hd2
        have hins2 : i < i0 → stD (DF st0 recs) (upB (fun j => listed.getD j false) i) st0 ops.size = ov (DF st0 recs i) (stD (DF st0 recs) (fun j => listed.getD j false) st0 ops.size) := fun hii => stD_insert (D := DF st0 recs) (st0 := st0) (b := fun j => listed.getD j false) (i := i) hib (n := ops.size) him fun j hij hj hb k hk1 => by
          have hji : j < i0 := by
            rcases Nat.lt_or_ge j i0 with h | h
            · exact h
            · rw [hun j h] at hb; cases hb
          rcases pair_at hR hij (by omega) with q | ⟨_, q, _⟩
          · exact (hord2 j hj hb q).elim
          · exact q k hk1
        have hupd : (fun j => (listed.setIfInBounds i true).getD j false) = upB (fun j => listed.getD j false) i := by
          funext j
          simp only [upB]
          by_cases hji : j = i
          · subst hji; simp [Array.getD_eq_getD_getElem?, hil]
          · rw [if_neg hji, getD_set_ne _ (fun e => hji e.symm)]
        have hw2 : ∀ b, xwant ops (tmAt (dF ops) (vF recs) (fun _ => true) tm0 i) o = some b → Region.wanted o (yielded ops a.tmps) = b := fun b hb => want_sound ht (by rw [want_same htmA]; exact hb)
        have hgl' : GlOK P E.gl G'.pr := fun g x hg => (hgl g x hg).mono hle.pr
        obtain ⟨c, hc1, hc2, hc3, hc4, hc5⟩ := hsame
        rcases Nat.lt_or_eq_of_le hile with hii | hii
        · obtain ⟨o', ho', hdst, hcase⟩ := hF i (Nat.zero_le _) hii
          rw [ho] at ho'
          obtain rfl := Option.some.inj ho'
          have cont : ∀ G'' w'' v (S : Nat → Prop), G'.le G'' → Same G' G'' S → (∀ k, S k → R8 (n0 + 8 * i) k ∨ n0 + 8 * ops.size ≤ k) → (∃ c, c ≤ ops.size ∧ (∀ j, j < ops.size → (bigF recs j).isSome = true → ((listed.setIfInBounds i true).getD j false = true ↔ j < c)) ∧ n0 + 8 * ops.size ≤ NX (n0 + 8 * ops.size) recs c ∧ Same G G'' (fun k => n0 ≤ k ∧ k < NX (n0 + 8 * ops.size) recs c) ∧ Fresh G'' (fun k => NX (n0 + 8 * ops.size) recs c ≤ k)) → Inv P G'' (ov (DF st0 recs i) (stD (DF st0 recs) (fun j => listed.getD j false) st0 ops.size)) w'' → Rep P G'' (vF recs i) v → wpAny P .any ops Q fuel (listed.setIfInBounds i true) (a.put o.dst v) w'' := fun G'' w'' v S g1 g2 g2' gS g3 g4 => by
            refine ih (listed.setIfInBounds i true) G'' (a.put o.dst v) w'' (by simpa using hsz) ?_ ?_ ?_ (hle.trans g1) gS ?_ ?_ fun j hj hjb => ?_
            · have := countP_less (p := fun j => !listed.getD j false) (p' := fun j => !(listed.setIfInBounds i true).getD j false) (l := List.range ops.size) (fun j _ hj => by
                have e := congrFun hupd j
                rw [e] at hj
                simp only [upB] at hj
                split at hj
                · cases hj
                · exact hj) ⟨i, List.mem_range.2 him, by simp [hib], by
                have e := congrFun hupd i
                rw [e]; simp [upB]⟩
              omega
            · rw [hupd]
              intro j y hy hb e he
              simp only [upB] at hb ⊢
              split
              · rfl
              · split at hb
                · rename_i h; subst h; rw [ho] at hy; obtain rfl := Option.some.inj hy; exact hpre e he
                · exact hcl j y hy hb e he
            · intro j hj
              have e := congrFun hupd j
              rw [e]
              simp only [upB]
              rw [if_neg (by omega)]
              exact hun j hj
            · rw [hupd, hins2 hii]; exact g3
            · rw [hupd, hins1]
              have := (ht.mono g1).put hdst g4
              rw [hdF i o ho]; exact this
            · have e := congrFun hupd j
              rw [e] at hjb
              simp only [upB] at hjb
              split at hjb
              · cases hjb
              · rename_i hji
                have h1 := hfr j hj hjb
                intro k hk
                have hnk : ¬ S k := fun q => by
                  rcases g2' k q with q | q
                  · exact hji (by have := hk.1; have := hk.2; have := q.1; have := q.2; omega)
                  · have := hk.2; omega
                exact ⟨(g2 k hnk).1 (h1 k hk).1, (g2 k hnk).2 (h1 k hk).2⟩
          unfold wpOp
          simp only [ho]
          have hsame2 : ∀ G'', Same G' G'' (R8 (n0 + 8 * i)) → bigF recs i = none → (∃ c, c ≤ ops.size ∧ (∀ j, j < ops.size → (bigF recs j).isSome = true → ((listed.setIfInBounds i true).getD j false = true ↔ j < c)) ∧ n0 + 8 * ops.size ≤ NX (n0 + 8 * ops.size) recs c ∧ Same G G'' (fun k => n0 ≤ k ∧ k < NX (n0 + 8 * ops.size) recs c) ∧ Fresh G'' (fun k => NX (n0 + 8 * ops.size) recs c ≤ k)) := fun G'' g2 hbi => by
            refine ⟨c, hc1, fun j hj hbj => ?_, hc3, hc4.trans (g2.mono fun k hk => ⟨by have := hk.1; omega, by have := hk.2; omega⟩), fun k hk => ?_⟩
            · have e := congrFun hupd j
              rw [e]
              simp only [upB]
              split
              · rename_i h; subst h; rw [hbi] at hbj; cases hbj
              · exact hc2 j hj hbj
            · have hnk : ¬ R8 (n0 + 8 * i) k := fun q => by have := q.2; omega
              have h1 := hc5 k hk
              exact ⟨(g2 k hnk).1 h1.1, (g2 k hnk).2 h1.2⟩
          rcases hcase with ⟨hw, hbi, hxo⟩ | ⟨s1, n1, hw, hbi, hxo⟩ | ⟨hw, hbi, e1, e2, e3⟩
          · rw [hw2 true hw]
            simp only [if_true]
            refine .inl (xop_sound (i0 := n0 + 8 * i) (nx' := NX (n0 + 8 * ops.size) recs c) hP hE hgl' hinv ht (hfr i him hib) hc5 (by omega) (by omega) (r := .val (vF recs i) (δF recs i) (rF recs i)) ?_ fun G'' w'' v g1 g2 g3 g4 => cont G'' w'' v _ g1 g2 (fun k hk => .inl hk) (hsame2 G'' g2 hbi) (by rw [ov_val hbi]; exact g3) g4)
            rw [xop_tm (ev_same htmA)]
            exact xop_st hxo (hstA hii hbi)
          · rw [hw2 true hw]
            simp only [if_true]
            have hsm : (bigF recs i).isSome = true := by rw [hbi]; rfl
            have hstE := hstB hii hsm
            have hci : c ≤ i := by
              rcases Nat.lt_or_ge i c with h | h
              · have := (hc2 i him hsm).2 h; rw [hib] at this; cases this
              · exact h
            have hnxe : NX (n0 + 8 * ops.size) recs i = NX (n0 + 8 * ops.size) recs c := nx_eq hci fun j hj1 hj2 => by
              cases hbj : bigF recs j with
              | none => rfl
              | some p =>
                have hjs : (bigF recs j).isSome = true := by rw [hbj]; rfl
                have hnl : ¬ listed.getD j false = true := fun q => by have := (hc2 j (by omega) hjs).1 q; omega
                rcases pair_at hR hj2 (by omega) with q | ⟨q, _⟩
                · exact absurd (hord1 j q) hnl
                · rcases q with q | q
                  · rw [hbj] at q; cases q
                  · rw [hbi] at q; cases q
            have hx2 : xop P E (tmAt (dF ops) (vF recs) (fun j => listed.getD j false) tm0 ops.size) (stD (DF st0 recs) (fun j => listed.getD j false) st0 ops.size) (n0 + 8 * i) (NX (n0 + 8 * ops.size) recs c) o = some (.big (vF recs i) s1 n1) := by
              rw [xop_tm (ev_same htmA), hstE, ← hnxe]; exact hxo
            refine .inl (xop_sound (i0 := n0 + 8 * i) (nx' := NX (n0 + 8 * ops.size) recs c) hP hE hgl' hinv ht (hfr i him hib) hc5 (by omega) (by omega) hx2 fun G'' w'' v g1 g2 g3 g4 g5 => cont G'' w'' v _ g1 g2 (fun k hk => .inr (by have := hk.1; omega)) ?_ (by rw [hstE, ov_big hbi]; exact g4) g5)
            have hN1 : NX (n0 + 8 * ops.size) recs (i + 1) = n1 := by simp only [NX, hbi]
            refine ⟨i + 1, him, fun j hj hbj => ?_, by rw [hN1]; omega, ?_, ?_⟩
            · have e := congrFun hupd j
              rw [e]
              simp only [upB]
              split
              · rename_i h; subst h; simp
              · rename_i hji
                rw [hc2 j hj hbj]
                constructor
                · intro h; omega
                · intro h
                  have hji' : j < i := by omega
                  rcases pair_at hR hji' (by omega) with q | ⟨q, _⟩
                  · exact (hc2 j hj hbj).1 (hord1 j q)
                  · rcases q with q | q
                    · rw [q] at hbj; cases hbj
                    · rw [hbi] at q; cases q
            · rw [hN1]
              exact (hc4.mono fun k hk => ⟨hk.1, by omega⟩).trans (g2.mono fun k hk => ⟨by omega, hk.2⟩)
            · rw [hN1]
              intro k hk
              have h1 := hc5 k (by omega)
              have hnk : ¬ (NX (n0 + 8 * ops.size) recs c ≤ k ∧ k < n1) := by omega
              exact ⟨(g2 k hnk).1 h1.1, (g2 k hnk).2 h1.2⟩
          · rw [hw2 false hw]
            simp only [Bool.false_eq_true, if_false]
            refine cont G' w undef (R8 (n0 + 8 * i)) (.refl G') (.refl G' _) (fun k hk => .inl hk) (hsame2 G' (.refl G' _) hbi) ?_ (by rw [e1]; exact .pure (.sc _))
            rw [ov_val hbi, e2]; exact hinv
        · subst hii
          rw [ho0] at ho
          obtain rfl := Option.some.inj ho
          have hstE := hstC rfl
          have hnxe : NX (n0 + 8 * ops.size) recs i = NX (n0 + 8 * ops.size) recs c := by
            rcases Nat.le_total c i with h | h
            · exact nx_eq h fun j hj1 hj2 => by
                rcases hpo2 j hj2 with q | q
                · cases hbj : bigF recs j with
                  | none => rfl
                  | some p =>
                    have := (hc2 j (by omega) (by rw [hbj]; rfl)).1 (hord1 j q)
                    omega
                · exact q.1
            · exact (nx_eq h fun j hj1 hj2 => by
                cases hbj : bigF recs j with
                | none => rfl
                | some p =>
                  have := (hc2 j (by omega) (by rw [hbj]; rfl)).2 hj2
                  rw [hun j hj1] at this; cases this).symm
          unfold wpOp
          simp only [ho0]
          rw [hw2 true (by rw [← htm]; exact hw0)]
          simp only [if_true]
          have hS0 : ∀ t, S t → Rep P G' (tm0 t) (a.tmps.getD t undef) := fun t ht0 => by
            have h1 := ht.rep t
            have h2 : tmAt (dF ops) (vF recs) (fun j => listed.getD j false) tm0 ops.size t = tmAt (dF ops) (vF recs) (fun _ => false) tm0 ops.size t := tmAt_agree fun j hj _ hd => by
              have hoj : ops[j]? = some ops[j] := Array.getElem?_eq_getElem hj
              rw [hdF j _ hoj] at hd
              exact hSd j _ hoj t hd ht0
            rw [h2, tmAt_none fun _ => rfl] at h1
            exact h1
          have hdf : a.defers = G.w0.2 := by rw [ht.df, hle.w0]
          rcases hpx with hpx | ⟨hpx, rfl, rfl⟩
          · have hx2 : xop P E (tmAt (dF ops) (vF recs) (fun j => listed.getD j false) tm0 ops.size) (stD (DF st0 recs) (fun j => listed.getD j false) st0 ops.size) (n0 + 8 * i) (NX (n0 + 8 * ops.size) recs c) o0 = some (.bpan pv s1 n1) := by
              rw [xop_tm (ev_same htmA), hstE, ← hnxe, ← hst, ← htm, ← hnx]; exact hpx
            refine .inl (xop_sound (i0 := n0 + 8 * i) (nx' := NX (n0 + 8 * ops.size) recs c) hP hE hgl' hinv ht (hfr i him hib) hc5 (by omega) (by omega) hx2 fun G'' w'' u g1 g2 g3 g4 g5 => ?_)
            exact hK G'' a w'' u (hle.trans g1) ((hc4.mono fun k hk => ⟨hk.1, by show k < n1; omega⟩).trans (g2.mono fun k hk => ⟨by omega, hk.2⟩)) (by show n0 ≤ n1; omega) g4 hdf (fun t h => (hS0 t h).mono g1) g5
          · have hx2 : xop P E (tmAt (dF ops) (vF recs) (fun j => listed.getD j false) tm0 ops.size) (stD (DF st0 recs) (fun j => listed.getD j false) st0 ops.size) (n0 + 8 * i) (NX (n0 + 8 * ops.size) recs c) o0 = some (.pan pv) := by
              rw [xop_tm (ev_same htmA), hstE, ← hnxe, ← hst, ← htm, ← hnx]; exact hpx
            refine .inl (xop_sound (i0 := n0 + 8 * i) (nx' := NX (n0 + 8 * ops.size) recs c) hP hE hgl' hinv ht (hfr i him hib) hc5 (by omega) (by omega) hx2 fun G'' w'' u g1 g2 g3 g4 => ?_)
            have hn : n1 = NX (n0 + 8 * ops.size) recs c := hnx.trans hnxe
            refine hK G'' a w'' u (hle.trans g1) ((hc4.mono fun k hk => ⟨hk.1, by show k < n1; omega⟩).trans (g2.mono fun k hk => ⟨by have := hk.1; omega, by have := hk.2; show k < n1; omega⟩)) (by show n0 ≤ n1; omega) ?_ hdf (fun t h => (hS0 t h).mono g1) g4
            show Inv P G'' s1 w''
            rw [hst, ← hstE]; exact g3
  refine key ops.size (Array.replicate ops.size false) G a _ (by simp) (by
    refine Nat.le_trans (List.countP_le_length ..) ?_
    simp) (fun j o _ hb => by
    exfalso
    simp only [Array.getD_eq_getD_getElem?, Array.getElem?_replicate] at hb
    split at hb <;> simp at hb) (fun j _ => by simp only [Array.getD_eq_getD_getElem?, Array.getElem?_replicate]; split <;> rfl) (.refl G) ⟨0, Nat.zero_le _, fun j hj _ => by simp [Array.getD_eq_getD_getElem?, Array.getElem?_replicate, hj], Nat.le_refl _, .refl G _, fun k hk => hfr0 k (by have : n0 + 8 * ops.size ≤ k := hk; omega)⟩ ?_ ?_ fun j hj _ k hk => hfr0 k (by have := hk.1; omega)
  · have : stD (DF st0 recs) (fun j => (Array.replicate ops.size false).getD j false) st0 ops.size = st0 := stD_none fun j => by
      simp only [Array.getD_eq_getD_getElem?, Array.getElem?_replicate]; split <;> rfl
    rw [this]; exact hinv.heap rfl rfl rfl rfl
  · have : tmAt (dF ops) (vF recs) (fun j => (Array.replicate ops.size false).getD j false) tm0 ops.size = tm0 := tmAt_none fun j => by
      simp only [Array.getD_eq_getD_getElem?, Array.getElem?_replicate]; split <;> rfl
    rw [this]; exact ht
end
end Go.Proofs.YthgmhlpjbednpaaDoor.Vm
set_option linter.unusedVariables false
set_option linter.unusedSimpArgs false
namespace Go.Proofs.YthgmhlpjbednpaaDoor.Vm
open Go.RowKit
section
variable {P : Program} {S : Nat → Prop} {E : Env} {G G' : Gh} {st st' : St} {tm tm' tm0 : Nat → V} {st0 : St} {w w' : World} {a : Act} {N n0 nx nx' k : Nat} {ops : Array Oper} {Q : Exit → Act → World → Prop}
theorem wpOp_of {i : Nat} {o : Oper} {K : Act → World → Prop} (ho : ops[i]? = some o) (hw : Region.wanted o (yielded ops a.tmps) = true) (h : o.wp P a w K Q) : wpOp P ops Q i K a w := by
  unfold wpOp; rw [ho]; simp only [hw, if_true]; exact .inl h
theorem wpOp_skip {i : Nat} {o : Oper} {K : Act → World → Prop} (ho : ops[i]? = some o) (hw : Region.wanted o (yielded ops a.tmps) = false) (h : K (a.put o.dst undef) w) : wpOp P ops Q i K a w := by
  unfold wpOp; rw [ho]; simp only [hw, Bool.false_eq_true, if_false]; exact h
def Owed (P : Program) (G : Gh) (lo N nx : Nat) (Q : Exit → Act → World → Prop) : RR → Prop
  | .ok tm' st' nx' _ => ∀ G' a' w', G.le G' → Same G G' (fun k => lo ≤ k ∧ k < nx') → nx ≤ nx' → Inv P G' st' w' → TmR P G' N tm' a' → Q .normal a' w'
  | .pan tm' v st' nx' => ∀ G' a' w' u, G.le G' → Same G G' (fun k => lo ≤ k ∧ k < nx') → nx ≤ nx' → Inv P G' st' w' → TmR P G' N tm' a' → Rep P G' v u → Q (.panic [{ v := u, recovered := false }]) a' w'
theorem Owed.step {lo lo' nx1 : Nat} {r : RR} (h : Owed P G lo N nx Q r) (hg : G.le G') (hs : ∀ n, nx1 ≤ n → Same G G' (fun k => lo ≤ k ∧ k < n)) (hl : lo ≤ lo') (hn : nx ≤ nx1) : Owed P G' lo' N nx1 Q r := by
  cases r with
  | ok tm st nx' recs => exact fun G'' a' w' h1 h2 h3 h4 h5 => h G'' a' w' (hg.trans h1) ((hs nx' h3).trans (h2.mono fun k hk => ⟨by omega, hk.2⟩)) (by omega) h4 h5
  | pan tm v st nx' => exact fun G'' a' w' u h1 h2 h3 h4 h5 h6 => h G'' a' w' u (hg.trans h1) ((hs nx' h3).trans (h2.mono fun k hk => ⟨by omega, hk.2⟩)) (by omega) h4 h5 h6
theorem xops_seq (hP : ProgOK P) (hE : EnvOK P E) (h8 : 8 ≤ n0) : ∀ {rest : List Oper} {i : Nat} {tm : Nat → V} {st : St} {nx : Nat} {G : Gh} {a : Act} {w : World} {rr : RR}, ops.toList.drop i = rest → xops P E ops N n0 i rest tm st nx = some rr → GlOK P E.gl G.pr → Inv P G st w → TmR P G N tm a →
    Fresh G (fun k => (n0 + 8 * i ≤ k ∧ k < n0 + 8 * ops.size) ∨ nx ≤ k) → n0 + 8 * ops.size ≤ nx → Owed P G (n0 + 8 * i) N nx Q rr → wpOps P ops Q (List.range' i rest.length) a w
  | [], i, tm, st, nx, G, a, w, rr, hd, hx, hgl, hinv, ht, hfr, hn, hK => by
    simp only [xops, Option.some.injEq] at hx
    subst hx
    exact hK G a w (.refl G) (.refl G _) (Nat.le_refl _) hinv ht
  | o :: rest, i, tm, st, nx, G, a, w, rr, hd, hx, hgl, hinv, ht, hfr, hn, hK => by
    obtain ⟨ho, hd'⟩ := drop_cons hd
    have ho' : ops[i]? = some o := by simpa using ho
    have hlt : i < ops.size := (Array.getElem?_eq_some_iff.1 ho').1
    rw [List.length_cons, List.range'_succ, wpOps_cons]
    unfold xops at hx
    split at hx
    · rename_i hdst
      have hfr8 : Fresh G (R8 (n0 + 8 * i)) := fun q hq => hfr q (.inl ⟨hq.1, by have := hq.2; omega⟩)
      have hfrn : Fresh G (fun q => nx ≤ q) := fun q hq => hfr q (.inr hq)
      -- a value, and what comes behind it
      have val : ∀ (G' : Gh) (a' : Act) (w' : World) (tm' : Nat → V) (st' : St) (nx1 : Nat) (rr' : RR), G.le G' → (∀ q, ¬ R8 (n0 + 8 * i) q → ¬ (nx ≤ q ∧ q < nx1) → (G.bx q = none → G'.bx q = none) ∧ (G.tl q = none → G'.tl q = none)) → nx ≤ nx1 → Inv P G' st' w' → TmR P G' N tm' a' → xops P E ops N n0 (i + 1) rest tm' st' nx1 = some rr' → Owed P G (n0 + 8 * i) N nx Q rr' →
          wpOps P ops Q (List.range' (i + 1) rest.length) a' w' := fun G' a' w' tm' st' nx1 rr' g1 g2 g3 g4 g5 hr hk => by
        refine xops_seq hP hE h8 hd' hr (fun g x hg => (hgl g x hg).mono g1.pr) g4 g5 (fun q hq => ?_) (by omega) (hk.step g1 (fun n hn1 q hq => g2 q (fun h => hq ⟨h.1, by have := h.2; omega⟩) fun h => hq ⟨by omega, by omega⟩) (by omega) g3)
        have hn1 : ¬ R8 (n0 + 8 * i) q := fun h => by have := h.1; have := h.2; omega
        have hn2 : ¬ (nx ≤ q ∧ q < nx1) := fun h => by omega
        have h1 := hfr q (by omega)
        exact ⟨(g2 q hn1 hn2).1 h1.1, (g2 q hn1 hn2).2 h1.2⟩
      split at hx
      · rename_i hw
        have hw := want_sound ht hw
        split at hx
        · rename_i v δ rd hxo
          refine wpOp_of ho' hw (xop_sound (i0 := n0 + 8 * i) (nx' := nx) hP hE hgl hinv ht hfr8 hfrn (by omega) (by omega) hxo fun G' w' u g1 g2 g3 g4 => ?_)
          have ht' := (ht.mono g1).put hdst g4
          split at hx
          · rename_i tm1 st1 nx1 recs hr
            obtain rfl := Option.some.inj hx
            exact val G' _ w' _ _ nx _ g1 (fun q h1 _ => g2 q h1) (Nat.le_refl _) g3 ht' hr hK
          · rename_i hne
            exact val G' _ w' _ _ nx _ g1 (fun q h1 _ => g2 q h1) (Nat.le_refl _) g3 ht' hx hK
        · rename_i v st1 nx1 hxo
          refine wpOp_of ho' hw (xop_sound (i0 := n0 + 8 * i) (nx' := nx) hP hE hgl hinv ht hfr8 hfrn (by omega) (by omega) hxo fun G' w' u g1 g2 g3 g4 g5 => ?_)
          have ht' := (ht.mono g1).put hdst g5
          split at hx
          · rename_i tm1 st2 nx2 recs hr
            obtain rfl := Option.some.inj hx
            exact val G' _ w' _ _ nx1 _ g1 (fun q _ h2 => g2 q h2) g3 g4 ht' hr hK
          · rename_i hne
            exact val G' _ w' _ _ nx1 _ g1 (fun q _ h2 => g2 q h2) g3 g4 ht' hx hK
        · rename_i v hxo
          obtain rfl := Option.some.inj hx
          refine wpOp_of ho' hw (xop_sound (i0 := n0 + 8 * i) (nx' := nx) hP hE hgl hinv ht hfr8 hfrn (by omega) (by omega) hxo fun G' w' u g1 g2 g3 g4 => ?_)
          exact hK G' a w' u g1 (g2.mono fun q hq => ⟨hq.1, by have := hq.2; omega⟩) (Nat.le_refl _) g3 (ht.mono g1) g4
        · rename_i v st1 nx1 hxo
          obtain rfl := Option.some.inj hx
          refine wpOp_of ho' hw (xop_sound (i0 := n0 + 8 * i) (nx' := nx) hP hE hgl hinv ht hfr8 hfrn (by omega) (by omega) hxo fun G' w' u g1 g2 g3 g4 g5 => ?_)
          exact hK G' a w' u g1 (g2.mono fun q hq => ⟨by omega, hq.2⟩) g3 g4 (ht.mono g1) g5
        · cases hx
      · rename_i hw
        have hw := want_sound ht hw
        have ht' := ht.put hdst (Rep.pure (P := P) (G := G) (RepP.sc undef))
        refine wpOp_skip ho' hw ?_
        split at hx
        · rename_i tm1 st1 nx1 recs hr
          obtain rfl := Option.some.inj hx
          exact val G _ w _ _ nx _ (.refl G) (fun _ _ _ => ⟨id, id⟩) (Nat.le_refl _) hinv ht' hr hK
        · exact val G _ w _ _ nx _ (.refl G) (fun _ _ _ => ⟨id, id⟩) (Nat.le_refl _) hinv ht' hx hK
      · cases hx
    · cases hx
theorem vlit_ok {a b : Value} (h : vlit a b = true) : a = b := by
  unfold vlit at h
  split at h
  · simp only [Bool.and_eq_true, decide_eq_true_eq] at h; rw [h.1, h.2]
  · rw [of_decide_eq_true h]
  · rw [eq_of_beq h]
  · rfl
  · cases h
mutual
theorem veq_ok : ∀ (a b : V), veq a b = true → a = b
  | .sc a, b, h => by
    cases b <;> simp only [veq, Bool.false_eq_true] at h
    rw [vlit_ok h]
  | .list e xs r, b, h => by
    cases b <;> simp only [veq, Bool.false_eq_true, Bool.and_eq_true, decide_eq_true_eq] at h
    rw [h.1.1, h.1.2, veqs_ok _ _ h.2]
  | .agg a, b, h => by
    cases b <;> simp only [veq, Bool.false_eq_true] at h
    rw [veqs_ok _ _ h]
  | .tup a, b, h => by
    cases b <;> simp only [veq, Bool.false_eq_true] at h
    rw [veqs_ok _ _ h]
  | .ptr i o, b, h => by
    cases b <;> simp only [veq, Bool.false_eq_true, Bool.and_eq_true, decide_eq_true_eq] at h
    rw [h.1, h.2]
  | .cp a, b, h => by
    cases b <;> simp only [veq, Bool.false_eq_true] at h
    rw [veqs_ok _ _ h]
  | .map i, b, h => by
    cases b <;> simp only [veq, Bool.false_eq_true, decide_eq_true_eq] at h
    rw [h]
  | .ifc t v, b, h => by
    cases b <;> simp only [veq, Bool.false_eq_true, Bool.and_eq_true, decide_eq_true_eq] at h
    rw [h.1, veq_ok _ _ h.2]
  | .fn f a c, b, h => by cases b <;> simp only [veq, Bool.false_eq_true] at h
  | .sl e g s i o n, b, h => by
    cases b <;> simp only [veq, Bool.false_eq_true, Bool.and_eq_true, decide_eq_true_eq, beq_iff_eq] at h
    rw [h.1.1.1.1.1, h.1.1.1.1.2, h.1.1.1.2, h.1.1.2, h.1.2, h.2]
  | .emp e, b, h => by cases b <;> simp only [veq, Bool.false_eq_true] at h
theorem veqs_ok : ∀ (a b : List V), veqs a b = true → a = b
  | [], b, h => by
    cases b
    · rfl
    · simp only [veqs, Bool.false_eq_true] at h
  | x :: xs, b, h => by
    cases b
    · simp only [veqs, Bool.false_eq_true] at h
    · simp only [veqs, Bool.and_eq_true] at h
      rw [veq_ok _ _ h.1, veqs_ok _ _ h.2]
end
theorem obEq_ok {a b : Option Ob} (h : obEq a b = true) : a = b := by
  unfold obEq at h
  split at h
  · rfl
  · rw [veqs_ok _ _ h]
  · simp only [Bool.and_eq_true, decide_eq_true_eq] at h; rw [h.1, h.2]
  · simp only [Bool.and_eq_true, decide_eq_true_eq] at h; rw [h.1, h.2]
  · cases h
theorem recsOk3_ok {st0 : St} {B : List Nat} {recs : List Rec} (h : recsOk3 st0 B recs = true) : recsOk2 st0 B recs := by
  intro j hj i hi
  have h1 := List.all_eq_true.1 (List.all_eq_true.1 h j hj) i hi
  simp only [Bool.or_eq_true] at h1
  rcases h1 with h1 | h1
  · exact .inl h1
  · right
    unfold pairOkB at h1
    unfold pairOk
    split at h1 <;> rename_i e1 e2
    · exact h1
    · simp only [Bool.and_eq_true, List.isEmpty_iff] at h1
      exact ⟨h1.1, fun k hk => obEq_ok (List.all_eq_true.1 h1.2 k hk)⟩
    · simp only [Bool.and_eq_true, List.isEmpty_iff] at h1
      exact ⟨h1.1, fun k hk => obEq_ok (List.all_eq_true.1 h1.2 k hk)⟩
    · cases h1
theorem xregion_sound (hP : ProgOK P) (hE : EnvOK P E) {id : Nat} {draw : Bool} {fr : Fr} {res : Ex × Fr} (hx : xregion P E N ops draw fr = some res) (hgl : GlOK P E.gl G.pr) (hinv : Inv P G fr.st w) (ht : TmR P G N fr.tm a) (hfr : Fresh G (fun q => fr.nx ≤ q)) (h8 : 8 ≤ fr.nx)
    (hSd : ∀ (j : Nat) (o : Oper), ops[j]? = some o → ∀ d, o.dst = some d → ¬ S d) (hK : Post P S G fr.nx N Q res) : (Code.region id ops draw).wp P Q a w := by
  have seq : draw = false → ∀ rr, xops P E ops N fr.nx 0 ops.toList fr.tm fr.st (fr.nx + 8 * ops.size) = some rr → Owed P G (fr.nx + 8 * 0) N (fr.nx + 8 * ops.size) Q rr → (Code.region id ops draw).wp P Q a w := fun hd rr hr hk => by
    subst hd
    refine wp_region ?_
    have := xops_seq (Q := Q) hP hE h8 (i := 0) (List.drop_zero) hr hgl hinv ht (fun q hq => hfr q (by omega)) (Nat.le_refl _) hk
    rw [List.range_eq_range']
    simpa using this
  unfold xregion at hx
  split at hx
  · rename_i tm1 st1 nx1 recs hr
    split at hx
    · rename_i hd
      split at hx
      · rename_i hc
        simp only [Bool.and_eq_true] at hc
        obtain rfl := Option.some.inj hx
        have hd : draw = true := hd
        subst hd
        exact region_draw hP hE hgl hinv ht hfr h8 hc.1.1 hc.1.2 hc.2 hr hK
      · split at hx
        · rename_i hc
          simp only [Bool.and_eq_true] at hc
          obtain rfl := Option.some.inj hx
          have hd : draw = true := hd
          subst hd
          exact region_draw2 hP hE hgl hinv ht hfr h8 hc.1.1 hc.1.2 (recsOk3_ok hc.2) hr hK
        split at hx
        · rename_i hc
          simp only [Bool.and_eq_true] at hc
          split at hx
          · rename_i hc2
            obtain rfl := Option.some.inj hx
            have hd : draw = true := hd
            subst hd
            exact region_draw2 hP hE hgl hinv ht hfr h8 hc.1 hc.2 hc2 hr hK
          · cases hx
        · cases hx
    · rename_i hd
      obtain rfl := Option.some.inj hx
      exact seq (by simpa using hd) _ hr fun G' a' w' h1 h2 h3 h4 h5 => hK G' a' w' h1 (h2.mono fun q hq => ⟨by omega, hq.2⟩) (by show fr.nx ≤ nx1; omega) h4 h5
  · rename_i tmp v st1 nx1 hr
    split at hx
    · rename_i hd
      have hd : draw = true := hd
      subst hd
      split at hx
      · rename_i hp
        obtain rfl := Option.some.inj hx
        obtain ⟨i, o, tm1, s, n, recs, e1, e2, e3, e4, e5, e6, e7, e8, e9⟩ := hp
        exact region_drawP hP hE hgl hinv ht hfr h8 e6 e7 e8 e2 e1 e3 e4 e5 e9 hSd hK
      · cases hx
    · rename_i hd
      obtain rfl := Option.some.inj hx
      exact seq (by simpa using hd) _ hr fun G' a' w' u h1 h2 h3 h4 h5 h6 => hK G' a' w' u h1 (h2.mono fun q hq => ⟨by omega, hq.2⟩) (by show fr.nx ≤ nx1; omega) h4 (by rw [h5.df, h1.w0]) (fun t _ => h5.rep t) h6
  · cases hx
theorem Post.step {n1 : Nat} {res : Ex × Fr} (h : Post P S G n0 N Q res) (hg : G.le G') (hs : Same G G' (fun k => n0 ≤ k ∧ k < n1)) (hn : n0 ≤ n1) : Post P S G' n1 N Q res := by
  obtain ⟨e, fr⟩ := res
  have sm : ∀ {G'' : Gh}, n1 ≤ fr.nx → Same G' G'' (fun k => n1 ≤ k ∧ k < fr.nx) → Same G G'' (fun k => n0 ≤ k ∧ k < fr.nx) := fun h3 h2 => (hs.mono fun k hk => ⟨hk.1, by omega⟩).trans (h2.mono fun k hk => ⟨by omega, hk.2⟩)
  cases e with
  | norm => exact fun G'' a' w' h1 h2 h3 h4 h5 => h G'' a' w' (hg.trans h1) (sm h3 h2) (by omega) h4 h5
  | exit id => exact fun G'' a' w' h1 h2 h3 h4 h5 => h G'' a' w' (hg.trans h1) (sm h3 h2) (by omega) h4 h5
  | ret => exact fun G'' a' w' h1 h2 h3 h4 h5 => h G'' a' w' (hg.trans h1) (sm h3 h2) (by omega) h4 h5
  | pan v => exact fun G'' a' w' u h1 h2 h3 h4 h5 h6 h7 => h G'' a' w' u (hg.trans h1) (sm h3 h2) (by omega) h4 (by rw [h5, hg.w0]) h6 h7
theorem fresh_step {n1 : Nat} (hfr : Fresh G (fun q => n0 ≤ q)) (hs : Same G G' (fun k => n0 ≤ k ∧ k < n1)) (hn : n0 ≤ n1) : Fresh G' (fun q => n1 ≤ q) := fun q hq => by
  have h1 := hfr q (by omega)
  have h2 := hs q (by omega)
  exact ⟨h2.1 h1.1, h2.2 h1.2⟩
theorem gl_step (hgl : GlOK P E.gl G.pr) (hg : G.le G') : GlOK P E.gl G'.pr := fun g x h => (hgl g x h).mono hg.pr
theorem xcode_sound (hP : ProgOK P) (hE : EnvOK P E) : ∀ (c : Code) {fr : Fr} {res : Ex × Fr} {G : Gh} {a : Act} {w : World} {Q : Exit → Act → World → Prop}, (∀ d ∈ wrs c, ¬ S d) → xcode P E N k c fr = some res → GlOK P E.gl G.pr → Inv P G fr.st w → TmR P G N fr.tm a → Fresh G (fun q => fr.nx ≤ q) → 8 ≤ fr.nx →
    Post P S G fr.nx N Q res → c.wp P Q a w := by
  intro c
  induction c with
  | skip =>
    intro fr res G a w Q hS hx hgl hinv ht hfr h8 hK
    simp only [xcode, Option.some.injEq] at hx; subst hx
    exact wp_skip (hK G a w (.refl G) (.refl G _) (Nat.le_refl _) hinv ht)
  | region id ops draw =>
    intro fr res G a w Q hS hx hgl hinv ht hfr h8 hK
    exact xregion_sound hP hE (by simpa only [xcode] using hx) hgl hinv ht hfr h8 (fun j o ho d hd => hS d (List.mem_filterMap.2 ⟨o, by have := Array.mem_of_getElem? ho; simpa using this, hd⟩)) hK
  | seq x y ihx ihy =>
    intro fr res G a w Q hS hx hgl hinv ht hfr h8 hK
    simp only [xcode] at hx
    refine wp_seq ?_
    split at hx
    · rename_i fr' hx1
      refine ihx (fun d hd => hS d (List.mem_append.2 (.inl hd))) hx1 hgl hinv ht hfr h8 fun G' a' w' h1 h2 h3 h4 h5 => ?_
      exact ihy (fun d hd => hS d (List.mem_append.2 (.inr hd))) hx (gl_step hgl h1) h4 h5 (fresh_step hfr h2 h3) (Nat.le_trans h8 h3) (hK.step h1 h2 h3)
    · rename_i r hne
      refine ihx (fun d hd => hS d (List.mem_append.2 (.inl hd))) hx hgl hinv ht hfr h8 ?_
      obtain ⟨e, fr'⟩ := res
      cases e with
      | norm => exact absurd hx (fun h => hne _ h)
      | exit id => exact hK
      | ret => exact hK
      | pan v => exact hK
  | cond c x y ihx ihy =>
    intro fr res G a w Q hS hx hgl hinv ht hfr h8 hK
    simp only [xcode] at hx
    split at hx
    · rename_i b hb
      have hc := (ev_sound hgl ht hb).sc_inv
      refine wp_cond hc ?_
      cases b with
      | true => exact ihx (fun d hd => hS d (List.mem_append.2 (.inl hd))) hx hgl hinv ht hfr h8 hK
      | false => exact ihy (fun d hd => hS d (List.mem_append.2 (.inr hd))) hx hgl hinv ht hfr h8 hK
    · cases hx
  | block id b ih =>
    intro fr res G a w Q hS hx hgl hinv ht hfr h8 hK
    simp only [xcode] at hx
    refine wp_block ?_
    split at hx
    · rename_i j fr' hx1
      refine ih hS hx1 hgl hinv ht hfr h8 fun G' a' w' h1 h2 h3 h4 h5 => ?_
      show (if j = id then Q .normal a' w' else Q (.exit j) a' w')
      split at hx
      · rename_i hj; rw [if_pos hj]; obtain rfl := Option.some.inj hx; exact hK G' a' w' h1 h2 h3 h4 h5
      · rename_i hj; rw [if_neg hj]; obtain rfl := Option.some.inj hx; exact hK G' a' w' h1 h2 h3 h4 h5
    · rename_i r hne
      refine ih hS hx hgl hinv ht hfr h8 ?_
      obtain ⟨e, fr'⟩ := res
      cases e with
      | norm => exact hK
      | exit id => exact absurd hx (fun h => hne _ _ h)
      | ret => exact hK
      | pan v => exact hK
  | loop b ih =>
    intro fr res G a w Q hS hx hgl hinv ht hfr h8 hK
    simp only [xcode] at hx
    refine wp_loop_rounds k ?_
    have key : ∀ (n : Nat) {fr : Fr} {G : Gh} {a : Act} {w : World}, iter (xcode P E N k b) n fr = some res → GlOK P E.gl G.pr → Inv P G fr.st w → TmR P G N fr.tm a → Fresh G (fun q => fr.nx ≤ q) → 8 ≤ fr.nx → Post P S G fr.nx N Q res → Code.rounds P b Q n a w := by
      intro n
      induction n with
      | zero => intro fr G a w hx; simp [iter] at hx
      | succ n ihn =>
        intro fr G a w hx hgl hinv ht hfr h8 hK
        simp only [iter] at hx
        rw [rounds_succ]
        split at hx
        · rename_i fr' hx1
          refine ih hS hx1 hgl hinv ht hfr h8 fun G' a' w' h1 h2 h3 h4 h5 => ?_
          exact ihn hx (gl_step hgl h1) h4 h5 (fresh_step hfr h2 h3) (Nat.le_trans h8 h3) (hK.step h1 h2 h3)
        · rename_i r hne
          refine ih hS hx hgl hinv ht hfr h8 ?_
          obtain ⟨e, fr'⟩ := res
          cases e with
          | norm => exact absurd hx (fun h => hne _ h)
          | exit id => exact hK
          | ret => exact hK
          | pan v => exact hK
    exact key k hx hgl hinv ht hfr h8 hK
  | exit id =>
    intro fr res G a w Q hS hx hgl hinv ht hfr h8 hK
    simp only [xcode, Option.some.injEq] at hx; subst hx
    exact wp_exit (hK G a w (.refl G) (.refl G _) (Nat.le_refl _) hinv ht)
  | ret =>
    intro fr res G a w Q hS hx hgl hinv ht hfr h8 hK
    simp only [xcode, Option.some.injEq] at hx; subst hx
    exact wp_ret (hK G a w (.refl G) (.refl G _) (Nat.le_refl _) hinv ht)
  | label l =>
    intro fr res G a w Q hS hx hgl hinv ht hfr h8 hK
    simp only [xcode, Option.some.injEq] at hx; subst hx
    exact wp_label (hK G a w (.refl G) (.refl G _) (Nat.le_refl _) hinv ht)
  | _ => intro fr res G a w Q hS hx; simp [xcode] at hx
end
end Go.Proofs.YthgmhlpjbednpaaDoor.Vm
set_option linter.unusedVariables false
set_option linter.unusedSimpArgs false
namespace Go.Proofs.YthgmhlpjbednpaaDoor.Vm
open Go.RowKit
section
variable {P : Program} {E : Env} {G G' : Gh} {st st' : St} {tm tm' tm0 : Nat → V} {st0 : St} {w w' : World} {a : Act} {N n0 nx nx' k : Nat} {ops : Array Oper} {Q : Exit → Act → World → Prop}
def resOf (a : Act) : ResultVar → Sem Value
  | .tmp t => pure (a.tmps.getD t undef)
  | .cell b t => do loadVar t (← asAddr (a.tmps.getD b undef))
theorem res1_sound (hinv : Inv P G st w) {r : ResultVar} (ht : Rep P G (tm (resT r)) (a.tmps.getD (resT r) undef)) {v : V} (h : xres1 P ⟨tm, st, nx⟩ r = some v) : ∃ u, ((resOf a r).run P w = .ok u w) ∧ Rep P G v u := by
  cases r with
  | tmp t => simp only [xres1, Option.some.injEq] at h; subst h; exact ⟨_, rfl, ht⟩
  | cell b t =>
    simp only [xres1] at h
    split at h
    · rename_i id off htm
      split at h
      · rename_i cs hs
        have hr : Rep P G (tm b) (a.tmps.getD b undef) := ht
        rw [htm] at hr
        obtain ⟨bb, hv, hb⟩ := hr.ptr_inv
        obtain ⟨b', arr, T, h1, h2, h3, h4, h5⟩ := hinv.objs id _ hs
        rw [hb] at h1
        obtain rfl := Option.some.inj h1
        obtain ⟨u, hu, hrep⟩ := ld_loadVar (w := w) h h5 h4 (ad := ⟨bb, off, none⟩) (fun j u hu => by rw [cell_blk h3]; simpa using hu)
        refine ⟨u, ?_, hrep⟩
        simp only [resOf, hv, asAddr, pure_bind]
        exact hu
      · cases h
    · cases h
theorem ress_sound (hinv : Inv P G st w) : ∀ {rs : List ResultVar} {vs : List V}, (∀ r ∈ rs, Rep P G (tm (resT r)) (a.tmps.getD (resT r) undef)) → rs.mapM (xres1 P ⟨tm, st, nx⟩) = some vs → ∃ us, (rs.mapM (resOf a)).run P w = .ok us w ∧ All2 (Rep P G) vs us
  | [], vs, _, h => by simp at h; subst h; exact ⟨[], by simp, .nil⟩
  | r :: rs, vs, ht, h => by
    rw [List.mapM_cons] at h
    simp only [Option.bind_eq_bind, Option.bind_eq_some_iff] at h
    obtain ⟨v, hv, vs', hvs, h⟩ := h
    simp at h; subst h
    obtain ⟨u, hu, hr⟩ := res1_sound hinv (ht r (by simp)) hv
    obtain ⟨us, hus, hrs⟩ := ress_sound hinv (fun r hr => ht r (by simp [hr])) hvs
    refine ⟨u :: us, ?_, .cons hr hrs⟩
    rw [List.mapM_cons]
    simp only [Sem.run_bind, hu, Result.andThen_ok, hus, Sem.run_pure]
theorem results_sound' (hinv : Inv P G st w) {fn : Func} (ht : ∀ r ∈ fn.results.toList, Rep P G (tm (resT r)) (a.tmps.getD (resT r) undef)) {v : V} (h : xres P ⟨tm, st, nx⟩ fn.results.toList = some v) : ∃ u, (results fn a.tmps).run P w = .ok u w ∧ Rep P G v u := by
  unfold xres at h
  rw [Option.map_eq_some_iff] at h
  obtain ⟨vs, hvs, rfl⟩ := h
  obtain ⟨us, hus, hr⟩ := ress_sound hinv ht hvs
  have hrun : (results fn a.tmps).run P w = .ok (if h : us.toArray.size = 1 then us.toArray[0] else .tuple us.toArray) w := by
    have e : results fn a.tmps = (do let vs ← fn.results.mapM (resOf a); pure (if h : vs.size = 1 then vs[0] else .tuple vs)) := rfl
    rw [e, Sem.run_bind]
    have : (fn.results.mapM (resOf a)).run P w = .ok us.toArray w := by
      rw [Array.mapM_eq_mapM_toList, Sem.run_map, hus]; rfl
    rw [this]
    rfl
  refine ⟨_, hrun, ?_⟩
  cases hr with
  | nil => exact .tup .nil
  | cons h1 h2 =>
    cases h2 with
    | nil => exact h1
    | cons h3 h4 =>
      rw [dif_neg (by simp)]
      exact .tup (.cons h1 (.cons h3 (.of h4)))
theorem results_sound (hinv : Inv P G st w) (ht : TmR P G N tm a) {fn : Func} {v : V} (h : xres P ⟨tm, st, nx⟩ fn.results.toList = some v) : ∃ u, (results fn a.tmps).run P w = .ok u w ∧ Rep P G v u := results_sound' hinv (fun r _ => ht.rep _) h
def noS (_ : Nat) : Prop := False
theorem noS_ok (c : Code) : ∀ d ∈ wrs c, ¬ noS d := fun _ _ h => h
def Gh.sw (G : Gh) (ds : List Deferred) : Gh := { G with w0 := (G.w0.1, ds) }
theorem Rep.sw (ds : List Deferred) {x : V} {v : Value} (h : Rep P G x v) : Rep P (G.sw ds) x v :=
  Rep.rec (G := G) (motive_1 := fun x v _ => Rep P (G.sw ds) x v) (motive_2 := fun xs vs _ => Reps P (G.sw ds) xs vs)
    (fun h => .pure h) (fun h1 h2 h3 h4 h5 => .tok h1 h2 h3 h4 h5) (fun h => .ptr h) (fun h => .map h) (fun h1 _ ih => .agg h1 ih) (fun _ ih => .tup ih) (fun _ _ h1 h2 => .fn h1 h2) (fun _ ih => .ifc ih) (fun h1 h2 h3 h4 h5 h6 h7 h8 h9 h10 => .sl h1 h2 h3 h4 h5 h6 h7 h8 h9 h10) .emp .nil (fun _ _ h1 h2 => .cons h1 h2) h
theorem ObOK.sw (ds : List Deferred) {i : Nat} {ob : Ob} (h : ObOK P G w i ob) : ObOK P (G.sw ds) w i ob := by
  cases ob with
  | cells cs =>
    obtain ⟨b, arr, T, h1, h2, h3, h4, h5⟩ := h
    exact ⟨b, arr, T, h1, h2, h3, h4, h5.mono fun _ _ => Rep.sw ds⟩
  | map es d =>
    obtain ⟨b, arr, T, h1, h2, h3, h4, h5⟩ := h
    exact ⟨b, arr, T, h1, h2, h3, h4.mono fun _ _ q => ⟨q.1.sw ds, q.2.sw ds⟩, h5⟩
  | miter m n rem => exact h
  | iter s pos => exact h
  | tok n e => exact h
  | row e s n cs =>
    obtain ⟨v, vs, b, h1, h2, h3, h4, h5, h6, h7, h8⟩ := h
    exact ⟨v, vs, b, h1, h2, h3, h4, h5, h6, h7, h8.mono fun _ _ => Rep.sw ds⟩
  | frz ds => exact h
theorem Inv.sw (ds : List Deferred) (h : Inv P G st w) : Inv P (G.sw ds) st w := ⟨h.below, h.size, h.prot, fun i ob hi => (h.objs i ob hi).sw ds, h.apart, h.free⟩
theorem Gh.le.sw {ds : List Deferred} (h : (G.sw ds).le G') : G.le (G'.sw G.w0.2) := by
  refine ⟨h.base, ?_, h.pr, h.bx, h.tl, h.low⟩
  show (G'.w0.1, G.w0.2) = G.w0
  rw [h.w0]; rfl
theorem HpPost.sw {ds : List Deferred} {r : HR} {e : Ending} (h : HpPost P (G.sw ds) nx r e w) : HpPost P G nx r e w := by
  cases r with
  | ret y st' nx' =>
    obtain ⟨G', v, h0, h1, h2, h3, h4, h5⟩ := h
    exact ⟨_, v, h0, h1.sw, h2, h3, h4.sw _, h5.sw _⟩
  | pan y st' nx' =>
    obtain ⟨G', v, h0, h1, h2, h3, h4, h5⟩ := h
    exact ⟨_, v, h0, h1.sw, h2, h3, h4.sw _, h5.sw _⟩
theorem TmR.sw (ds : List Deferred) (h : TmR P G N tm a) : TmR P (G.sw ds) N tm { a with defers := ds } := ⟨h.sz, rfl, fun t => (h.rep t).sw ds⟩
theorem tm_enter {zas : List V} {vs : List Value} (has : All2 (Rep P G) zas vs) (hd : G.w0.2 = []) (n : Nat) : TmR P G (zas.length + (n - zas.length)) (fun t => zas.getD t (.sc undef)) { tmps := vs.toArray ++ Array.replicate (n - vs.toArray.size) undef, defers := [] } := by
  have hl := has.length
  refine ⟨by simp [hl], hd.symm, fun t => ?_⟩
  by_cases hlt : t < zas.length
  · have e1 : zas[t]? = some zas[t] := List.getElem?_eq_getElem hlt
    obtain ⟨u, hu, hr⟩ := has.get e1
    have e2 : (vs.toArray ++ Array.replicate (n - vs.toArray.size) undef).getD t undef = u := by
      rw [Array.getD_eq_getD_getElem?, Array.getElem?_append_left (by simp; omega)]
      simp [hu]
    show Rep P G (zas.getD t (.sc undef)) _
    rw [e2, List.getD_eq_getElem?_getD, e1]
    exact hr
  · have e2 : (vs.toArray ++ Array.replicate (n - vs.toArray.size) undef).getD t undef = undef := by
      rw [Array.getD_eq_getD_getElem?, Array.getElem?_append_right (by simp; omega), Array.getElem?_replicate]
      split <;> rfl
    show Rep P G (zas.getD t (.sc undef)) _
    rw [e2, List.getD_eq_getElem?_getD, List.getElem?_eq_none (by omega)]
    exact .pure (.sc _)
theorem xrun0_sound (hP : ProgOK P) (hE : EnvOK P E) {fn : Func} {f : FuncId} (hf : P.funcs[f]? = some fn) {zas : List V} {vs : List Value} {r : HR} (hx : xrun0 P E k fn zas st nx = some r) (hd : G.w0.2 = []) (hgl : GlOK P E.gl G.pr) (hinv : Inv P G st w) (has : All2 (Rep P G) zas vs) (h8 : 8 ≤ nx) (hfr : Fresh G (fun q => nx ≤ q)) :
    Calls P f vs.toArray w (HpPost P G nx r) := by
  unfold xrun0 at hx
  split at hx
  · cases hx
  · rename_i c hb
    have ht := tm_enter has hd fn.ntmps
    refine calls_of_wp hf hb ?_
    have df : ∀ {G' : Gh} {a' : Act} {tm' : Nat → V}, G.le G' → TmR P G' (zas.length + (fn.ntmps - zas.length)) tm' a' → a'.defers = [] := fun h1 h5 => by rw [h5.df, h1.w0, hd]
    have done : ∀ (fr : Fr) (v : V), xres P fr fn.results.toList = some v → r = .ret v fr.st fr.nx → ∀ (G' : Gh) (a' : Act) (w' : World), G.le G' → Same G G' (fun k => nx ≤ k ∧ k < fr.nx) → nx ≤ fr.nx → Inv P G' fr.st w' → TmR P G' (zas.length + (fn.ntmps - zas.length)) fr.tm a' →
        a'.defers = [] ∧ ∃ u, (results fn a'.tmps).run P w' = .ok u w' ∧ HpPost P G nx r (.returned u) w' := fun fr v hv hr G' a' w' h1 h2 h3 h4 h5 => by
      obtain ⟨u, hu, hrep⟩ := results_sound (nx := fr.nx) h4 h5 hv
      subst hr
      exact ⟨df h1 h5, u, hu, G', u, rfl, h1, h2, h3, h4, hrep⟩
    split at hx
    · rename_i fr hxc
      rw [Option.map_eq_some_iff] at hx
      obtain ⟨v, hv, hr⟩ := hx
      exact xcode_sound (S := noS) hP hE c (noS_ok c) hxc hgl hinv ht hfr h8 fun G' a' w' h1 h2 h3 h4 h5 => done fr v hv hr.symm G' a' w' h1 h2 h3 h4 h5
    · rename_i fr hxc
      rw [Option.map_eq_some_iff] at hx
      obtain ⟨v, hv, hr⟩ := hx
      exact xcode_sound (S := noS) hP hE c (noS_ok c) hxc hgl hinv ht hfr h8 fun G' a' w' h1 h2 h3 h4 h5 => done fr v hv hr.symm G' a' w' h1 h2 h3 h4 h5
    · rename_i v fr hxc
      obtain rfl := Option.some.inj hx
      exact xcode_sound (S := noS) hP hE c (noS_ok c) hxc hgl hinv ht hfr h8 fun G' a' w' u h1 h2 h3 h4 h5 _ h6 => ⟨by rw [h5, hd], G', u, rfl, h1, h2, h3, h4, h6⟩
    · cases hx
theorem dsplit_inv {c : Code} {q : Code × FuncId × List Operand × Tmp × Oper × Oper × Array Oper × Code} (h : dsplit c = some q) : ∃ id caps args ty, c = .seq q.1 (.seq (.region id q.2.2.2.2.2.2.1 false) q.2.2.2.2.2.2.2) ∧ q.2.2.2.2.2.2.1.toList = [q.2.2.2.2.1, q.2.2.2.2.2.1] ∧ q.2.2.2.2.1.op = .makeFunc (.func q.2.1) #[] caps ∧ caps.toList = q.2.2.1 ∧
    q.2.2.2.2.1.dst = some q.2.2.2.1 ∧ q.2.2.2.2.1.guard = none ∧ q.2.2.2.2.2.1.op = .defer ⟨.value (.tmp q.2.2.2.1), args, ty⟩ ∧ args = #[] ∧ q.2.2.2.2.2.1.dst = none ∧ q.2.2.2.2.2.1.guard = none := by
  unfold dsplit at h
  split at h
  · rename_i r1 id ops rest
    split at h
    · rename_i o1 o2 ho
      split at h
      · rename_i g first caps d d' args ty e1 e2 e3 e4 e5 e6
        split at h
        · rename_i hc
          obtain rfl := Option.some.inj h
          obtain ⟨rfl, hf, ha⟩ := hc
          have hf : first = #[] := by simpa using hf
          have ha : args = #[] := by simpa using ha
          subst hf; subst ha
          exact ⟨id, caps, #[], ty, rfl, ho, e1, rfl, e2, e3, e4, rfl, e5, e6⟩
        · cases h
      · cases h
    · cases h
  · cases h
theorem csplit_inv {c : Code} {q : Tmp × Tmp × TypeId × Array Oper × Code} (h : csplit c = some q) : ∃ id o0 o1 rest args ts ft, c = .seq (.region id q.2.2.2.1 false) q.2.2.2.2 ∧ q.2.2.2.1.toList = o0 :: o1 :: rest ∧ o0.op = .call ⟨.builtin .recover, args, ts⟩ ∧ o0.dst = some q.1 ∧ o0.guard = none ∧
    o1.op = .typeAssert (.tmp q.1) ft q.2.2.1 true ∧ o1.dst = some q.2.1 ∧ o1.guard = none := by
  unfold csplit at h
  split at h
  · rename_i id ops c
    split at h
    · rename_i o0 o1 rest ho
      split at h
      · rename_i args ts t0 t ft to t1 e1 e2 e3 e4 e5 e6
        split at h
        · rename_i hc
          obtain rfl := Option.some.inj h
          subst hc
          exact ⟨id, o0, o1, rest, args, ts, ft, rfl, ho, e1, e2, e3, e4, e5, e6⟩
        · cases h
      · cases h
    · cases h
  · cases h
theorem wpS_recover {id : Nat} {o0 : Oper} {t0 : Tmp} {rest : List Oper} {args : Array Operand} {ts : Array TypeId} {c0 c1 : Frame} {cs : List Frame} {v : Value} {Q' : Exit → Act → List Frame → World → Prop} (ho : ops.toList = o0 :: rest) (h1 : o0.op = .call ⟨.builtin .recover, args, ts⟩) (h2 : o0.dst = some t0) (h3 : o0.guard = none)
    (hrec : recoverD (c0 :: cs) = some (v, c1 :: cs) ∨ (recoverD (c0 :: cs) = none ∧ v = .nilIface ∧ c1 = c0)) (h : wpOps P ops (fun e a' w' => Q' e a' (c1 :: cs) w') (List.range' 1 rest.length) (a.put (some t0) v) w) : (Code.region id ops false).wpS P Q' a (c0 :: cs) w := by
  intro b k hb hr
  have hsz : ops.size = rest.length + 1 := by rw [← Array.length_toList, ho]; rfl
  have hop : ops[0]? = some o0 := by rw [← Array.getElem?_toList, ho]; rfl
  have hrange : List.range ops.size = 0 :: List.range' 1 rest.length := by rw [hsz, List.range_eq_range', List.range'_succ]
  have hw : Region.wanted o0 (yielded ops a.tmps) = true := by simp [Region.wanted, h3]
  have hg := stepG_op (P := P) (b := b) (k := k) (cs := c0 :: cs) (w := w) (rest := List.range' 1 rest.length) hop hw
  have hrun : (execOp a.eval o0).run P w = .ok .recover w := by simp [execOp, h1, resolve, invoke, builtin]
  have hfin : ∀ v, (b.at a (.inRegion ops (0 :: List.range' 1 rest.length) :: k)).finish v = b.at (a.put o0.dst v) (.inRegion ops (List.range' 1 rest.length) :: k) := by
    intro v; rw [Frame.finish_at, hop]; rfl
  have hk : (b.at a (.inRegion ops (0 :: List.range' 1 rest.length) :: k)).kind = .deferred := hb
  have htr := tryRecover_deferred hk (c0 :: cs)
  obtain ⟨e, a', w', hq, harr⟩ := wp_ops _ _ _ h b k (c1 :: cs)
  refine ⟨e, a', c1 :: cs, w', hq, .of_steps (.head step_region ?_) harr⟩
  rw [hrange]
  refine .one (step_lone_go ?_)
  rw [hg]
  rw [h2] at hfin
  rcases hrec with hrec | ⟨hrec, rfl, rfl⟩
  · rw [← hfin]
    simp only [Frame.at] at htr ⊢
    simp [stepG.apply, hrun, htr, hrec]
  · rw [← hfin]
    simp only [Frame.at] at htr ⊢
    simp [stepG.apply, hrun, htr, hrec]
theorem tasrt_sound {to ft : TypeId} {rv tv : V} {v : Value} (h : tasrt P to rv = some tv) (hr : Rep P G rv v) (w : World) : ∃ u, (Instr.typeAssert v ft to true).run P w = .ok u w ∧ Rep P G tv u := by
  unfold tasrt at h
  split at h
  · cases h
  · cases h
  · rename_i d hni hu
    have zero : ∀ {tv : V}, ((uzero P to).bind fun z => if ones (V.ofV z).cells = true then some (V.tup [V.ofV z, .bool false]) else none) = some tv → ∃ z, uzero P to = some z ∧ Rep P G tv (.tuple #[z, .bool false]) := fun {tv} h => by
      rw [Option.bind_eq_some_iff] at h
      obtain ⟨z, hz, h⟩ := h
      split at h
      · rename_i h1
        obtain rfl := Option.some.inj h
        exact ⟨z, hz, .tup (vs := [z, .bool false]) (.cons (.pure (rep_ofV _ z h1)) (.cons (.pure (.sc _)) .nil))⟩
      · cases h
    split at h
    · rename_i t x
      obtain ⟨x', rfl, hx⟩ := hr.ifc_inv
      split at h
      · rename_i e
        obtain rfl := Option.some.inj h
        subst e
        refine ⟨.tuple #[x', .bool true], ?_, .tup (vs := [x', .bool true]) (.cons hx (.cons (.pure (.sc _)) .nil))⟩
        cases d <;> first | (exfalso; exact hni _ rfl) | simp [Instr.typeAssert, run_underlying hu]
      · rename_i e
        obtain ⟨z, hz, hz'⟩ := zero h
        refine ⟨_, ?_, hz'⟩
        cases d <;> first | (exfalso; exact hni _ rfl) | simp [Instr.typeAssert, run_underlying hu, e, run_zero hz]
    · have := hr.sc_inv; subst this
      obtain ⟨z, hz, hz'⟩ := zero h
      refine ⟨_, ?_, hz'⟩
      cases d <;> first | (exfalso; exact hni _ rfl) | simp [Instr.typeAssert, run_underlying hu, run_zero hz]
    · cases h
theorem xclos_sound (hP : ProgOK P) (hE : EnvOK P E) {g : FuncId} {cs : List V} {us : List Value} {rv : V} {v : Value} {fr : Fr} {u u' : FrameMode} {R : Ending → FrameMode → World → Prop} (hx : xclos P E k g cs rv st nx = some fr) (hd : G.w0.2 = []) (hgl : GlOK P E.gl G.pr) (hinv : Inv P G st w) (hcs : All2 (Rep P G) cs us) (hrv : Rep P G rv v)
    (h8 : 8 ≤ nx) (hfr : Fresh G (fun q => nx ≤ q)) (hrec : ∀ (c0 : Frame) (ds : List Frame), c0.mode = u → recoverD (c0 :: ds) = some (v, { c0 with mode := u' } :: ds) ∨ (recoverD (c0 :: ds) = none ∧ v = .nilIface ∧ ({ c0 with mode := u' } : Frame) = c0))
    (hR : ∀ G' w' y, G.le G' → Same G G' (fun k => nx ≤ k ∧ k < fr.nx) → nx ≤ fr.nx → Inv P G' fr.st w' → R (.returned y) u' w') : CallsD P g us.toArray u w R := by
  unfold xclos at hx
  split at hx
  · rename_i hnb
    rw [Option.bind_eq_some_iff] at hx
    obtain ⟨fn, hfn, hx⟩ := hx
    rw [Option.bind_eq_some_iff] at hx
    obtain ⟨q, hq, hx⟩ := hx
    rw [Option.bind_eq_some_iff] at hq
    obtain ⟨c, hc, hq⟩ := hq
    split at hx
    · rename_i hcond
      obtain ⟨hres, ht0, ht1⟩ := hcond
      rw [Option.bind_eq_some_iff] at hx
      obtain ⟨tv, htv, hx⟩ := hx
      obtain ⟨id, o0, o1, rest, args, ts, ft, hceq, hops, e1, e2, e3, e4, e5, e6⟩ := csplit_inv hq
      refine callsD_of_wpS hfn hc fun c0 ds hu => ?_
      rw [hceq]
      refine wpS_seq ?_
      refine wpS_recover (c1 := { c0 with mode := u' }) hops e1 e2 e3 (hrec c0 ds hu) ?_
      have tE := tm_enter hcs hd fn.ntmps
      have tE0 := tE.put (dst := some q.1) (by simpa [dstOk] using ht0) hrv
      have hop1 : q.2.2.2.1[1]? = some o1 := by rw [← Array.getElem?_toList, hops]; rfl
      have hw1 : ∀ tmps, Region.wanted o1 (yielded q.2.2.2.1 tmps) = true := fun _ => by simp [Region.wanted, e6]
      rw [List.length_cons, List.range'_succ, wpOps_cons]
      have hev : ∀ (a' : Act), TmR P G (cs.length + (fn.ntmps - cs.length)) (upd (fun t => cs.getD t (.sc undef)) q.1 rv) a' → a'.tmps.getD q.1 undef = v → (a'.eval (.tmp q.1)) = v := fun a' _ h => by simpa [Act.eval] using h
      obtain ⟨uv, huv, hrepu⟩ := tasrt_sound (ft := ft) htv hrv w
      have hget : (({ tmps := us.toArray ++ Array.replicate (fn.ntmps - us.toArray.size) undef, defers := [] } : Act).put (some q.1) v).eval (.tmp q.1) = v := by
        have hsz := tE.sz
        simp only [Act.put, Act.eval]
        rw [Array.getD_eq_getD_getElem?]
        rw [Array.getElem?_setIfInBounds_self_of_lt (by rw [hsz]; exact ht0)]
        rfl
      refine wpOp_of hop1 (hw1 _) ?_
      have hexec : (execOp (({ tmps := us.toArray ++ Array.replicate (fn.ntmps - us.toArray.size) undef, defers := [] } : Act).put (some q.1) v).eval o1).run P w = .ok (.value uv) w := by
        simp only [execOp, e4]
        rw [hget]
        simp [huv]
      unfold Oper.wp
      rw [hexec, Oper.upon_value, e5]
      have tE1 := tE0.put (dst := some q.2.1) (by simpa [dstOk] using ht1) hrepu
      have hd2 : q.2.2.2.1.toList.drop 2 = rest := by rw [hops]; rfl
      have hsz : q.2.2.2.1.size = rest.length + 2 := by rw [← Array.length_toList, hops]; rfl
      rw [hd2] at hx
      split at hx
      · rename_i tm st' nx' recs hxo
        have fin : ∀ (fr' : Fr) (G' : Gh) (a' : Act) (w' : World), fr' = fr → G.le G' → Same G G' (fun k => nx ≤ k ∧ k < fr'.nx) → nx ≤ fr'.nx → Inv P G' fr'.st w' → TmR P G' (cs.length + (fn.ntmps - cs.length)) fr'.tm a' →
            a'.defers = [] ∧ ∃ u'', ({ c0 with mode := u' } :: ds : List Frame) = { c0 with mode := u'' } :: ds ∧ ∃ y, (results fn a'.tmps).run P w' = .ok y w' ∧ R (.returned y) u'' w' := fun fr' G' a' w' e h1 h2 h3 h4 h5 => by
          subst e
          exact ⟨by rw [h5.df, h1.w0, hd], u', rfl, .tuple #[], by simp [results, hres], hR G' w' _ h1 h2 h3 h4⟩
        have key : ∀ (e : Ex) (fr' : Fr), (e = .norm ∨ e = .ret) → fr' = fr → xcode P E (cs.length + (fn.ntmps - cs.length)) k q.2.2.2.2 ⟨tm, st', nx'⟩ = some (e, fr') →
            wpOps P q.2.2.2.1 (fun e a' w' => Exit.thenS (q.2.2.2.2.wpS P (bodyPostS P fn c0 ds R)) (bodyPostS P fn c0 ds R) e a' ({ c0 with mode := u' } :: ds) w') (List.range' (1 + 1) rest.length) ((({ tmps := us.toArray ++ Array.replicate (fn.ntmps - us.toArray.size) undef, defers := [] } : Act).put (some q.1) v).put (some q.2.1) uv) w := fun e fr' he hfe hxc => by
          refine xops_seq hP hE (n0 := nx) (G := G) h8 (i := 2) hd2 hxo hgl hinv tE1 (fun q' hq' => hfr q' (by omega)) (Nat.le_refl _) fun G' a' w' h1 h2 h3 h4 h5 => ?_
          show (q.2.2.2.2.wpS P (bodyPostS P fn c0 ds R)) a' ({ c0 with mode := u' } :: ds) w'
          refine wpS_of_wp ?_
          have hs2 : Same G G' (fun k => nx ≤ k ∧ k < nx') := h2.mono fun k hk => ⟨by omega, hk.2⟩
          have hn : nx ≤ nx' := Nat.le_trans (Nat.le_add_right _ _) h3
          refine xcode_sound (S := noS) hP hE q.2.2.2.2 (noS_ok _) hxc (gl_step hgl h1) h4 h5 (fresh_step hfr hs2 hn) (Nat.le_trans h8 hn) ?_
          rcases he with rfl | rfl
          · exact fun G'' a'' w'' k1 k2 k3 k4 k5 => fin fr' G'' a'' w'' hfe (h1.trans k1) ((hs2.mono fun k hk => ⟨hk.1, Nat.lt_of_lt_of_le hk.2 k3⟩).trans (k2.mono fun k hk => ⟨Nat.le_trans hn hk.1, hk.2⟩)) (Nat.le_trans hn k3) k4 k5
          · exact fun G'' a'' w'' k1 k2 k3 k4 k5 => fin fr' G'' a'' w'' hfe (h1.trans k1) ((hs2.mono fun k hk => ⟨hk.1, Nat.lt_of_lt_of_le hk.2 k3⟩).trans (k2.mono fun k hk => ⟨Nat.le_trans hn hk.1, hk.2⟩)) (Nat.le_trans hn k3) k4 k5
        split at hx
        · rename_i fr' hxc
          exact key .norm fr' (.inl rfl) (Option.some.inj hx) hxc
        · rename_i fr' hxc
          exact key .ret fr' (.inr rfl) (Option.some.inj hx) hxc
        · cases hx
      · cases hx
    · cases hx
  · cases hx
theorem xrunD_sound (hP : ProgOK P) (hE : EnvOK P E) {fn : Func} {f : FuncId} (hf : P.funcs[f]? = some fn) {c : Code} {q : Code × FuncId × List Operand × Tmp × Oper × Oper × Array Oper × Code} (hb : fn.body = some c) (hq : dsplit c = some q) {zas : List V} {vs : List Value} {r : HR} (hx : xrunD P E k fn q zas st nx = some r) (hd : G.w0.2 = [])
    (hgl : GlOK P E.gl G.pr) (hinv : Inv P G st w) (has : All2 (Rep P G) zas vs) (h8 : 8 ≤ nx) (hfr : Fresh G (fun q => nx ≤ q)) : Calls P f vs.toArray w (HpPost P G nx r) := by
  obtain ⟨id, caps, args, ty, hceq, hops, e1, hcaps, e2, e3, e4, hargs, e5, e6⟩ := dsplit_inv hq
  unfold xrunD at hx
  have ht := tm_enter has hd fn.ntmps
  refine calls_of_wp_defers hf hb ?_
  rw [hceq]
  split at hx
  · rename_i fr1 hx1
    split at hx
    · rename_i hlt
      obtain ⟨hlt, hsf⟩ := hlt
      have hsafe : ∀ d ∈ wrs q.2.2.2.2.2.2.2, ¬ d ∈ fn.results.toList.map resT := fun d hd hm => by
        obtain ⟨r, hr, rfl⟩ := List.mem_map.1 hm
        have := List.all_eq_true.1 hsf r hr
        simp only [Bool.not_eq_true', List.contains_eq_mem, decide_eq_false_iff_not] at this
        exact this hd
      rw [Option.bind_eq_some_iff] at hx
      obtain ⟨cs, hcs, hx⟩ := hx
      refine wp_seq (xcode_sound (S := noS) hP hE q.1 (noS_ok _) hx1 hgl hinv ht hfr h8 fun G1 a1 w1 g1 s1 n1 i1 t1 => ?_)
      show (Code.seq (.region id q.2.2.2.2.2.2.1 false) q.2.2.2.2.2.2.2).wp P (bodyPostD P fn (HpPost P G nx r)) a1 w1
      refine wp_seq (wp_region ?_)
      have hsz : q.2.2.2.2.2.2.1.size = 2 := by rw [← Array.length_toList, hops]; rfl
      have ho1 : q.2.2.2.2.2.2.1[0]? = some q.2.2.2.2.1 := by rw [← Array.getElem?_toList, hops]; rfl
      have ho2 : q.2.2.2.2.2.2.1[1]? = some q.2.2.2.2.2.1 := by rw [← Array.getElem?_toList, hops]; rfl
      have hr2 : List.range q.2.2.2.2.2.2.1.size = [0, 1] := by rw [hsz]; rfl
      rw [hr2, wpOps_cons]
      have hcs' := evs_sound (gl_step hgl g1) t1 hcs
      have hmf : (execOp a1.eval q.2.2.2.2.1).run P w1 = .ok (.value (.func (.func q.2.1) #[] (q.2.2.1.map a1.eval).toArray)) w1 := by
        have : caps.map a1.eval = (q.2.2.1.map a1.eval).toArray := by rw [← hcaps]; apply Array.ext'; simp
        simp [execOp, e1, Instr.makeFunc, this]
      refine wpOp_of ho1 (by simp [Region.wanted, e3]) ?_
      unfold Oper.wp
      rw [hmf, Oper.upon_value, e2]
      have t2 := t1.put (dst := some q.2.2.2.1) (by simpa [dstOk] using hlt) (x := .fn (.func q.2.1) [] cs) (v := .func (.func q.2.1) #[] (q.2.2.1.map a1.eval).toArray) (.fn (us := []) .nil (.of hcs'))
      have hget : (a1.put (some q.2.2.2.1) (.func (.func q.2.1) #[] (q.2.2.1.map a1.eval).toArray)).eval (.tmp q.2.2.2.1) = .func (.func q.2.1) #[] (q.2.2.1.map a1.eval).toArray := by
        simp only [Act.put, Act.eval]
        rw [Array.getD_eq_getD_getElem?, Array.getElem?_setIfInBounds_self_of_lt (by rw [t1.sz]; exact hlt)]
        rfl
      rw [wpOps_cons]
      refine wpOp_of ho2 (by simp [Region.wanted, e6]) ?_
      have hdf : (execOp (a1.put (some q.2.2.2.1) (.func (.func q.2.1) #[] (q.2.2.1.map a1.eval).toArray)).eval q.2.2.2.2.2.1).run P w1 = .ok (.defer { target := .fn (.func q.2.1) (q.2.2.1.map a1.eval).toArray, args := #[] }) w1 := by
        simp only [execOp, e4, resolve]
        rw [hget]
        simp [Deferred.ofValue, hargs]
      unfold Oper.wp
      rw [hdf, Oper.upon_defer, e5]
      generalize hdd : ({ target := .fn (.func q.2.1) (q.2.2.1.map a1.eval).toArray, args := #[] } : Deferred) = dd
      have hdf0 : (a1.put (some q.2.2.2.1) (.func (.func q.2.1) #[] (q.2.2.1.map a1.eval).toArray)).defers = [] := by rw [t2.df, g1.w0, hd]
      rw [hdf0]
      have t3 := t2.sw [dd]
      have n1 : nx ≤ fr1.nx := n1
      have n18 : 8 ≤ fr1.nx := Nat.le_trans h8 n1
      have hfr1 : Fresh (G1.sw [dd]) (fun q => fr1.nx + 16 ≤ q) := fun q hq => fresh_step hfr s1 n1 q (by have : fr1.nx + 16 ≤ q := hq; omega)
      show q.2.2.2.2.2.2.2.wp P (bodyPostD P fn (HpPost P G nx r)) { (a1.put (some q.2.2.2.1) (.func (.func q.2.1) #[] (q.2.2.1.map a1.eval).toArray)) with defers := [dd] } w1
      -- the end: the closure is called
      have close : ∀ (rv : V) (v : Value) (um u' : FrameMode) (fr fr' : Fr) (y : V), xclos P E k q.2.1 cs rv fr.st fr.nx = some fr' → xres P ⟨fr.tm, fr'.st, fr'.nx⟩ fn.results.toList = some y → r = .ret y fr'.st fr'.nx → um ≠ .run → settle u' = .returning →
          (∀ (c0 : Frame) (ds : List Frame), c0.mode = um → recoverD (c0 :: ds) = some (v, { c0 with mode := u' } :: ds) ∨ (recoverD (c0 :: ds) = none ∧ v = .nilIface ∧ ({ c0 with mode := u' } : Frame) = c0)) →
          ∀ (G3 : Gh) (a3 : Act) (w3 : World), (G1.sw [dd]).le G3 → Same (G1.sw [dd]) G3 (fun k => fr1.nx + 16 ≤ k ∧ k < fr.nx) → fr1.nx + 16 ≤ fr.nx → Inv P G3 fr.st w3 → a3.defers = [dd] → (∀ r ∈ fn.results.toList, Rep P G3 (fr.tm (resT r)) (a3.tmps.getD (resT r) undef)) → Rep P G3 rv v →
          Leaves P fn a3.tmps (HpPost P G nx r) a3.defers um w3 := fun rv v um u' fr fr' y hxc hxr hreq hum hset hrec G3 a3 w3 k1 k2 k3 k4 hdf3 k5 k6 => by
        rw [hdf3]
        have hnb : nobody P q.2.1 = false := by
          unfold xclos at hxc
          split at hxc
          · assumption
          · cases hxc
        refine ⟨hum, .func q.2.1, (q.2.2.1.map a1.eval).toArray, q.2.1, (q.2.2.1.map a1.eval).toArray, by rw [← hdd], ?_, ?_⟩
        · rw [← hdd]
          simp only [invoke]
          rw [run_callFunc_enter hP hnb]
          simp
        · have hcs3 : All2 (Rep P (G3.sw [])) cs (q.2.2.1.map a1.eval) := hcs'.mono fun _ _ h => ((h.sw [dd]).mono k1).sw []
          have hn1 : nx ≤ fr.nx := by omega
          have sAll : Same G G3 (fun k => nx ≤ k ∧ k < fr.nx) := (s1.mono fun k hk => ⟨hk.1, by omega⟩).trans (show Same G1 G3 _ from k2.mono fun k hk => ⟨by omega, hk.2⟩)
          have gAll : G.le (G3.sw []) := by
            have h2 : G1.le (G3.sw G1.w0.2) := k1.sw
            have e : G1.w0.2 = [] := by rw [g1.w0, hd]
            rw [e] at h2
            exact g1.trans h2
          have hfr3 : Fresh (G3.sw []) (fun q => fr.nx ≤ q) := fun q hq => fresh_step hfr sAll hn1 q hq
          refine xclos_sound hP hE hxc (G := G3.sw []) rfl (gl_step hgl gAll) (k4.sw []) hcs3 (k6.sw []) (by omega) hfr3 hrec fun G4 w4 y4 l1 l2 l3 l4 => ?_
          show Leaves P fn a3.tmps (HpPost P G nx r) [] (settle u') w4
          rw [hset]
          obtain ⟨yv, hyv, hrep⟩ := results_sound' (nx := fr'.nx) (st := fr'.st) (a := a3) l4 (fun r hr => ((k5 r hr).sw []).mono l1) hxr
          refine ⟨yv, hyv, ?_⟩
          subst hreq
          exact ⟨G4, yv, rfl, gAll.trans l1, (sAll.mono fun k hk => ⟨hk.1, Nat.lt_of_lt_of_le hk.2 l3⟩).trans (show Same G3 G4 _ from l2.mono fun k hk => ⟨Nat.le_trans hn1 hk.1, hk.2⟩), Nat.le_trans hn1 l3, l4, hrep⟩
      have plain : ∀ (c0 : Frame) (ds : List Frame), c0.mode = .returning → recoverD (c0 :: ds) = some (Value.nilIface, { c0 with mode := .returning } :: ds) ∨ (recoverD (c0 :: ds) = none ∧ Value.nilIface = .nilIface ∧ ({ c0 with mode := .returning } : Frame) = c0) := fun c0 ds hm => .inr ⟨by simp [recoverD, hm], rfl, by rw [← hm]⟩
      split at hx
      · rename_i fr hx2
        rw [Option.bind_eq_some_iff] at hx
        obtain ⟨fr', hxc, hx⟩ := hx
        rw [Option.map_eq_some_iff] at hx
        obtain ⟨y, hy, hreq⟩ := hx
        exact xcode_sound (S := fun t => t ∈ fn.results.toList.map resT) hP hE (G := G1.sw [dd]) _ hsafe hx2 (show GlOK P E.gl G1.pr from gl_step hgl g1) (i1.sw [dd]) t3 hfr1 (by show 8 ≤ fr1.nx + 16; omega) fun G3 a3 w3 k1 k2 k3 k4 k5 => close _ _ _ _ fr fr' y hxc hy hreq.symm (by simp) rfl plain G3 a3 w3 k1 k2 k3 k4 (by rw [k5.df, k1.w0]; rfl) (fun r _ => k5.rep _) (.pure (.sc _))
      · rename_i fr hx2
        rw [Option.bind_eq_some_iff] at hx
        obtain ⟨fr', hxc, hx⟩ := hx
        rw [Option.map_eq_some_iff] at hx
        obtain ⟨y, hy, hreq⟩ := hx
        exact xcode_sound (S := fun t => t ∈ fn.results.toList.map resT) hP hE (G := G1.sw [dd]) _ hsafe hx2 (show GlOK P E.gl G1.pr from gl_step hgl g1) (i1.sw [dd]) t3 hfr1 (by show 8 ≤ fr1.nx + 16; omega) fun G3 a3 w3 k1 k2 k3 k4 k5 => close _ _ _ _ fr fr' y hxc hy hreq.symm (by simp) rfl plain G3 a3 w3 k1 k2 k3 k4 (by rw [k5.df, k1.w0]; rfl) (fun r _ => k5.rep _) (.pure (.sc _))
      · rename_i v fr hx2
        split at hx
        · rename_i t x
          rw [Option.bind_eq_some_iff] at hx
          obtain ⟨fr', hxc, hx⟩ := hx
          rw [Option.map_eq_some_iff] at hx
          obtain ⟨y, hy, hreq⟩ := hx
          exact xcode_sound (S := fun t => t ∈ fn.results.toList.map resT) hP hE (G := G1.sw [dd]) _ hsafe hx2 (show GlOK P E.gl G1.pr from gl_step hgl g1) (i1.sw [dd]) t3 hfr1 (by show 8 ≤ fr1.nx + 16; omega) fun G3 a3 w3 u k1 k2 k3 k4 k5 k5' k6 => close _ u (.panicking [{ v := u, recovered := false }]) (.panicking [{ v := u, recovered := true }]) fr fr' y hxc hy hreq.symm (by simp) (by simp [settle]) (fun c0 ds hm => .inl (by simp [recoverD, hm])) G3 a3 w3 k1 k2 k3 k4 k5 (fun r hr => k5' _ (List.mem_map.2 ⟨r, hr, rfl⟩)) k6
        · cases hx
      · cases hx
    · cases hx
  · cases hx
theorem xrun_sound (hP : ProgOK P) (hE : EnvOK P E) {fn : Func} {f : FuncId} (hf : P.funcs[f]? = some fn) {zas : List V} {vs : List Value} {r : HR} (hx : xrun P E k fn zas st nx = some r) (hgl : GlOK P E.gl G.pr) (hinv : Inv P G st w) (has : All2 (Rep P G) zas vs) (h8 : 8 ≤ nx) (hfr : Fresh G (fun q => nx ≤ q)) :
    Calls P f vs.toArray w (HpPost P G nx r) := by
  have has' : All2 (Rep P (G.sw [])) zas vs := has.mono fun _ _ h => h.sw []
  unfold xrun at hx
  split at hx
  · exact (xrun0_sound hP hE hf hx (G := G.sw []) rfl hgl (hinv.sw []) has' h8 hfr).mono fun e w' h => h.sw
  · rename_i q hq
    rw [Option.bind_eq_some_iff] at hq
    obtain ⟨c, hb, hq⟩ := hq
    exact (xrunD_sound hP hE hf hb hq hx (G := G.sw []) rfl hgl (hinv.sw []) has' h8 hfr).mono fun e w' h => h.sw
theorem frzT_sound (h : Inv P G st w) {v y : V} {u : Value} {δ : List (Nat × Option Ob)} (hr : Rep P G v u) (hx : frzT st v = some (y, δ)) : ∃ G', G.le G' ∧ G'.bx = G.bx ∧ G'.tl = G.tl ∧ Inv P G' (upds δ st) w ∧ Rep P G' y u := by
  unfold frzT at hx
  split at hx
  · rw [Option.map_eq_some_iff] at hx
    obtain ⟨⟨ys, δ1⟩, hp, hx⟩ := hx
    simp only [Prod.mk.injEq] at hx
    obtain ⟨rfl, rfl⟩ := hx
    obtain ⟨us, rfl, h2⟩ := hr.tup_inv
    obtain ⟨G', g1, g2, g3, g4, g5⟩ := frzA_sound h h2 hp
    exact ⟨G', g1, g2, g3, g4, .tup (.of (g5.mono fun _ _ => .pure))⟩
  · obtain ⟨G', g1, g2, g3, g4, g5⟩ := frzV_sound h hr hx
    exact ⟨G', g1, g2, g3, g4, .pure g5⟩
theorem EnvOK.at (h : EnvOK P E) (m : Nat) : EnvOK P (E.at m) := ⟨h.pl, h.hp⟩
theorem fin1_sound (hinv : Inv P G st w) {used used' : List Nat} {y z : V} {v : Value} (hr : Rep P G y v) (h : fin1 st used y = some (z, used')) :
    Ret1 P G.base G.pr w z v ∧ ((isOwn z = false ∧ used' = used) ∨ ∃ r, r ∉ used ∧ used' = r :: used ∧ ∀ b, v.ownBlock = some b → blk G st r = some b) := by
  unfold fin1 at h
  split at h
  · rename_i e xs r
    have strip : Ret1 P G.base G.pr w (.list e xs 0) v := by
      obtain ⟨A, c, rfl, hp, _⟩ := hr.list_inv
      exact .inl ⟨by simp [isOwn], hp⟩
    split at h
    · rename_i h1
      subst h1
      simp only [Option.some.injEq, Prod.mk.injEq] at h
      obtain ⟨rfl, rfl⟩ := h
      refine ⟨.inl ⟨by simp [isOwn], ?_⟩, .inl ⟨by simp [isOwn], rfl⟩⟩
      cases hr with
      | pure h => exact h
      | tok h8 => omega
    · split at h
      · simp only [Option.some.injEq, Prod.mk.injEq] at h
        obtain ⟨rfl, rfl⟩ := h
        exact ⟨strip, .inl ⟨by simp [isOwn], rfl⟩⟩
      · rename_i h1 h8
        split at h
        · rename_i n e' hs
          split at h
          · rename_i hc
            obtain ⟨rfl, rfl, hu⟩ := hc
            simp only [Option.some.injEq, Prod.mk.injEq] at h
            obtain ⟨rfl, rfl⟩ := h
            obtain ⟨v0, s, vs0, k1, k2, k3, _⟩ := hinv.objs r _ hs
            obtain ⟨vs, g1, g2, g3, g4, g5, g6⟩ := rest_ok hinv (by omega) hr hs k2
            refine ⟨.inr ⟨e', xs, s, vs, rfl, k2, g2, g3, g4, g5, g6, fun b hb o u hu => ?_⟩, .inr ⟨r, by simpa using hu, rfl, fun b hb => ?_⟩⟩
            · obtain ⟨n, e2, s2, q1, q2, q3⟩ := hinv.free r b (by unfold blk; rw [hs]; simp [g1, hb]) o u hu
              rw [hs] at q1
              simp at q1
              obtain ⟨rfl, rfl⟩ := q1
              rw [k2] at q2
              obtain rfl := Option.some.inj q2
              exact q3
            · unfold blk; rw [hs]; simp [g1, hb]
          · simp only [Option.some.injEq, Prod.mk.injEq] at h
            obtain ⟨rfl, rfl⟩ := h
            exact ⟨strip, .inl ⟨by simp [isOwn], rfl⟩⟩
        · simp only [Option.some.injEq, Prod.mk.injEq] at h
          obtain ⟨rfl, rfl⟩ := h
          exact ⟨strip, .inl ⟨by simp [isOwn], rfl⟩⟩
  · rename_i hne
    rw [Option.map_eq_some_iff] at h
    obtain ⟨z', hz, h⟩ := h
    simp only [Prod.mk.injEq] at h
    obtain ⟨rfl, rfl⟩ := h
    have hno : isOwn z' = false := by
      unfold V.pur? at hz
      split at hz
      · rw [Option.map_eq_some_iff] at hz
        obtain ⟨ds, _, rfl⟩ := hz
        rfl
      · cases y with
        | sc v => simp [V.pur1?] at hz; subst hz; rfl
        | list e xs r => exact absurd rfl (hne _ _ _)
        | cp cs => simp [V.pur1?] at hz; subst hz; rfl
        | fn f a b =>
          cases a <;> cases b <;> simp [V.pur1?] at hz
          subst hz; rfl
        | _ => simp [V.pur1?] at hz
    exact ⟨.inl ⟨hno, rep_pur hr hz⟩, .inl ⟨hno, rfl⟩⟩
theorem fins_sound (hinv : Inv P G st w) : ∀ {ys zs : List V} {us : List Value} {used : List Nat}, All2 (Rep P G) ys us → fins st used ys = some zs → All2 (Ret1 P G.base G.pr w) zs us ∧
    (∀ (j : Nat) zj uj b, zs[j]? = some zj → us[j]? = some uj → isOwn zj = true → Value.ownBlock uj = some b → ∃ r, r ∉ used ∧ blk G st r = some b) ∧
    (∀ (i j : Nat) yi yj ui uj b, i ≠ j → zs[i]? = some yi → zs[j]? = some yj → us[i]? = some ui → us[j]? = some uj → isOwn yi = true → isOwn yj = true → Value.ownBlock ui = some b → Value.ownBlock uj = some b → False)
  | [], zs, us, used, hr, h => by
    cases hr
    simp [fins] at h; subst h
    exact ⟨.nil, fun j zj uj b h1 => by simp at h1, fun i j yi yj ui uj b _ h1 => by simp at h1⟩
  | y :: ys, zs, us, used, hr, h => by
    cases hr with
    | cons h1 h2 =>
      rename_i u us
      unfold fins at h
      rw [Option.bind_eq_some_iff] at h
      obtain ⟨⟨z, used'⟩, hz, h⟩ := h
      rw [Option.map_eq_some_iff] at h
      obtain ⟨zs', hzs, rfl⟩ := h
      obtain ⟨k1, k2⟩ := fin1_sound hinv h1 hz
      obtain ⟨g1, g2, g3⟩ := fins_sound hinv h2 hzs
      have sub : ∀ r, r ∉ used' → r ∉ used := fun r hr => by
        rcases k2 with ⟨_, rfl⟩ | ⟨q, _, rfl, _⟩
        · exact hr
        · exact fun h => hr (by simp [h])
      have cross : ∀ (j : Nat) zj uj b, zs'[j]? = some zj → us[j]? = some uj → isOwn z = true → isOwn zj = true → Value.ownBlock u = some b → Value.ownBlock uj = some b → False := fun j zj uj b a1 a2 a3 a4 a5 a6 => by
        rcases k2 with ⟨q, _⟩ | ⟨r, q1, rfl, q2⟩
        · rw [a3] at q; cases q
        · obtain ⟨r', q3, q4⟩ := g2 j zj uj b a1 a2 a4 a6
          have := hinv.apart _ _ b (q2 b a5) q4
          subst this
          exact q3 (by simp)
      refine ⟨.cons k1 g1, fun j zj uj b a1 a2 a3 a4 => ?_, fun i j yi yj ui uj b hij a1 a2 a3 a4 a5 a6 a7 a8 => ?_⟩
      · cases j with
        | zero =>
          simp at a1 a2; subst a1; subst a2
          rcases k2 with ⟨q, _⟩ | ⟨r, q1, rfl, q2⟩
          · rw [a3] at q; cases q
          · exact ⟨r, q1, q2 b a4⟩
        | succ j =>
          obtain ⟨r, q1, q2⟩ := g2 j zj uj b (by simpa using a1) (by simpa using a2) a3 a4
          exact ⟨r, sub r q1, q2⟩
      · cases i with
        | zero =>
          cases j with
          | zero => exact hij rfl
          | succ j =>
            simp at a1 a3; subst a1; subst a3
            exact cross j yj uj b (by simpa using a2) (by simpa using a4) a5 a6 a7 a8
        | succ i =>
          cases j with
          | zero =>
            simp at a2 a4; subst a2; subst a4
            exact cross i yi ui b (by simpa using a1) (by simpa using a3) a6 a5 a8 a7
          | succ j => exact g3 i j yi yj ui uj b (by omega) (by simpa using a1) (by simpa using a2) (by simpa using a3) (by simpa using a4) a5 a6 a7 a8
theorem fin_sound (hinv : Inv P G st w) {y z : V} {v : Value} (hr : Rep P G y v) (h : fin st y = some z) : RetOK P G.base G.pr w z v := by
  unfold fin at h
  split at h
  · split at h
    · rename_i vs hl
      rw [Option.map_eq_some_iff] at h
      obtain ⟨zs, hzs, rfl⟩ := h
      obtain ⟨us, rfl, hu⟩ := hr.tup_inv
      obtain ⟨g1, _, g3⟩ := fins_sound hinv hu hzs
      exact ⟨us, rfl, by rw [g1.length, ← hu.length]; exact hl, g1, g3⟩
    · cases h
  · rw [Option.map_eq_some_iff] at h
    obtain ⟨⟨z', used⟩, hz, rfl⟩ := h
    have h1 := (fin1_sound hinv hr hz).1
    have hnt : ∀ ys, z' ≠ .tup ys := fun ys e => by
      subst e
      rcases h1 with ⟨_, h⟩ | ⟨_, _, _, _, h, _⟩
      · cases h
      · cases h
    unfold RetOK
    split
    · first | exact (hnt _ rfl).elim | (rename_i h; exact (hnt _ h).elim)
    · exact h1
theorem xplain_sound (hP : ProgOK P) (hE : EnvOK P E) {fn : Func} {f : FuncId} (hf : P.funcs[f]? = some fn) {zas : List V} {vs : List Value} {r : CR} {p : Pr} (hx : xplain P E k fn zas = some r) (hgl : GlOK P E.gl p) (hp : ∀ b o v, p b o = some v → w.cell? ⟨b, o, none⟩ = some v) (has : All2 (RepP P p) zas vs) :
    Calls P f vs.toArray w (PlPost P p w r) := by
  have hinv : Inv P ⟨w.heap.size, (w, []), p, fun _ => none, fun _ => none⟩ (fun _ => none) w :=
    ⟨Below.refl _ _, Nat.le_refl _, hp, fun i ob h => (by cases h), fun i j b h => (by simp [blk] at h), fun i b h => (by simp [blk] at h)⟩
  have ext : ∀ {G' : Gh} {st' : St} {w' : World}, Gh.le ⟨w.heap.size, (w, []), p, fun _ => none, fun _ => none⟩ G' → Inv P G' st' w' → Below w.heap.size w w' ∧ Ext p G'.pr w w' := fun {G' st' w'} h1 h2 => by
    have hb := h2.below
    rw [h1.base, h1.w0] at hb
    exact ⟨hb, h1.pr, h2.prot, fun b o hb => h1.low b o hb⟩
  unfold xplain at hx
  split at hx
  · rename_i v st' nx' hr
    rw [Option.map_eq_some_iff] at hx
    obtain ⟨z, hz, rfl⟩ := hx
    refine (xrun_sound hP hE hf hr hgl hinv (has.mono fun _ _ h => Rep.pure (G := ⟨w.heap.size, (w, []), p, fun _ => none, fun _ => none⟩) h) (Nat.le_refl _) fun _ _ => ⟨rfl, rfl⟩).mono fun e w' he => ?_
    obtain ⟨G', u, rfl, h1, _, _, h2, h3⟩ := he
    unfold finE at hz
    split at hz
    · obtain ⟨hb, hext⟩ := ext h1 h2
      have := fin_sound h2 h3 hz
      rw [h1.base] at this
      exact ⟨u, G'.pr, rfl, hb, hext, this⟩
    · rw [Option.bind_eq_some_iff] at hz
      obtain ⟨⟨y, δ⟩, hp, hz⟩ := hz
      obtain ⟨G2, g1, _, _, g4, g5⟩ := frzT_sound h2 h3 hp
      obtain ⟨hb, hext⟩ := ext (h1.trans g1) g4
      have := fin_sound g4 g5 hz
      rw [(h1.trans g1).base] at this
      exact ⟨u, G2.pr, rfl, hb, hext, this⟩
  · rename_i v st' nx' hr
    rw [Option.map_eq_some_iff] at hx
    obtain ⟨z, hz, rfl⟩ := hx
    refine (xrun_sound hP hE hf hr hgl hinv (has.mono fun _ _ h => Rep.pure (G := ⟨w.heap.size, (w, []), p, fun _ => none, fun _ => none⟩) h) (Nat.le_refl _) fun _ _ => ⟨rfl, rfl⟩).mono fun e w' he => ?_
    obtain ⟨G', u, rfl, h1, _, _, h2, h3⟩ := he
    obtain ⟨hb, hext⟩ := ext h1 h2
    unfold finP at hz
    split at hz
    · rename_i t x
      rw [Option.map_eq_some_iff] at hz
      obtain ⟨y0, hy0, rfl⟩ := hz
      obtain ⟨u', rfl, hu'⟩ := h3.ifc_inv
      exact ⟨t, y0, u', G'.pr, rfl, rfl, hb, hext, rep_pur hu' hy0⟩
    · cases hz
  · cases hx
def ExtOK (P : Program) (gl : Nat → Option V) (ext : Exts) : Prop :=
  (∀ f g, ext.pl f = some g → ∀ zas y, g zas = some y → ∀ p vs w, GlOK P gl p → (∀ b o v, p b o = some v → w.cell? ⟨b, o, none⟩ = some v) → All2 (RepP P p) zas vs → Calls P f vs.toArray w (PlPost P p w (.ret y))) ∧
  ∀ f g, ext.hp f = some g → ∀ zas st nx r, g zas st nx = some r → ∀ G vs w, GlOK P gl G.pr → Inv P G st w → All2 (Rep P G) zas vs → 8 ≤ nx → Fresh G (fun k => nx ≤ k) → Calls P f vs.toArray w (HpPost P G nx r)
theorem env_gl (ext : Exts) (hm : FuncId → Nat) (gl : Nat → Option V) : ∀ n, (env P ext hm gl n).gl = gl
  | 0 => rfl
  | n + 1 => rfl
theorem env_ok (hP : ProgOK P) {ext : Exts} {hm : FuncId → Nat} {gl : Nat → Option V} (hext : ExtOK P gl ext) : ∀ n, EnvOK P (env P ext hm gl n)
  | 0 => by
    refine ⟨fun f zas r hn hx p vs w hgl hp has => ?_, fun f zas st nx r hn hx G vs w hgl hinv has h8 hfr => ?_⟩
    · simp only [env, Option.bind_eq_some_iff, Option.map_eq_some_iff] at hx
      obtain ⟨g, hg, y, hy, rfl⟩ := hx
      exact hext.1 f g hg zas y hy p vs w hgl hp has
    · simp only [env, Option.bind_eq_some_iff] at hx
      obtain ⟨g, hg, hy⟩ := hx
      exact hext.2 f g hg zas st nx r hy G vs w hgl hinv has h8 hfr
  | n + 1 => by
    have ih := env_ok hP (hm := hm) hext n
    refine ⟨fun f zas r hn hx p vs w hgl hp has => ?_, fun f zas st nx r hn hx G vs w hgl hinv has h8 hfr => ?_⟩
    · simp only [env] at hx
      split at hx
      · rename_i g hg
        rw [Option.map_eq_some_iff] at hx
        obtain ⟨y, hy, rfl⟩ := hx
        exact hext.1 f g hg zas y hy p vs w hgl hp has
      · rw [Option.bind_eq_some_iff] at hx
        obtain ⟨fn, hf, hx⟩ := hx
        exact xplain_sound hP (ih.at _) hf hx (by show GlOK P (env P ext hm gl n).gl p; rw [env_gl]; exact hgl) hp has
    · simp only [env] at hx
      split at hx
      · rename_i g hg
        exact hext.2 f g hg zas st nx r hx G vs w hgl hinv has h8 hfr
      · rw [Option.bind_eq_some_iff] at hx
        obtain ⟨fn, hf, hx⟩ := hx
        split at hx
        · rw [Option.bind_eq_some_iff] at hx
          obtain ⟨⟨ys, δ⟩, hp, hx⟩ := hx
          obtain ⟨G1, g1, g2, g3, g4, g5⟩ := frzH_sound hinv has hp
          refine (xrun_sound hP (ih.at _) hf hx (by show GlOK P (env P ext hm gl n).gl G1.pr; rw [env_gl]; exact fun g x h => (hgl g x h).mono g1.pr) g4 g5 h8 (fun k hk => ⟨by rw [g2]; exact (hfr k hk).1, by rw [g3]; exact (hfr k hk).2⟩)).mono fun e w' he => ?_
          cases r with
          | ret y st' nx2 =>
            obtain ⟨G', v, q1, q2, q3, q4, q5, q6⟩ := he
            exact ⟨G', v, q1, g1.trans q2, fun k hk => ⟨fun z => (q3 k hk).1 (by rw [g2]; exact z), fun z => (q3 k hk).2 (by rw [g3]; exact z)⟩, q4, q5, q6⟩
          | pan y st' nx2 =>
            obtain ⟨G', v, q1, q2, q3, q4, q5, q6⟩ := he
            exact ⟨G', v, q1, g1.trans q2, fun k hk => ⟨fun z => (q3 k hk).1 (by rw [g2]; exact z), fun z => (q3 k hk).2 (by rw [g3]; exact z)⟩, q4, q5, q6⟩
        · exact xrun_sound hP (ih.at _) hf hx (by show GlOK P (env P ext hm gl n).gl G.pr; rw [env_gl]; exact hgl) hinv has h8 hfr
theorem calls_bool (hP : ProgOK P) {ext : Exts} {hm : FuncId → Nat} {gl : Nat → Option V} (hext : ExtOK P gl ext) {n : Nat} {f : FuncId} (hf : nobody P f = false) {zas : List V} {b : Bool} (hx : (env P ext hm gl n).pl f zas = some (.ret (.sc (.bool b))))
    {p : Pr} {vs : List Value} (hgl : GlOK P gl p) (hp : ∀ c o v, p c o = some v → w.cell? ⟨c, o, none⟩ = some v) (has : All2 (RepP P p) zas vs) : Calls P f vs.toArray w fun e w' => e = .returned (.bool b) ∧ Below w.heap.size w w' := by
  refine ((env_ok hP hext n).pl f zas _ hf hx p vs w (by rw [env_gl]; exact hgl) hp has).mono fun e w' he => ?_
  obtain ⟨v, p', rfl, hb, _, hr⟩ := he
  refine ⟨?_, hb⟩
  rcases hr with ⟨_, h⟩ | ⟨_, _, _, _, h, _⟩
  · cases h; rfl
  · cases h
end
end Go.Proofs.YthgmhlpjbednpaaDoor.Vm
