/- Proved here: what a function of the machine over pure data returns, the model's call returns. Conditions: none. -/
import Derived.Test.YtojbkakdhfmjmaaDoorVm15
set_option linter.unusedVariables false
set_option linter.unusedSimpArgs false
namespace Go.Proofs.YtojbkakdhfmjmaaDoor.Vm
open Go.RowKit
section
variable {P : Program} {E : Env} {G G' : Gh} {st st' : St} {tm tm' tm0 : Nat → V} {st0 : St} {w w' : World} {a : Act} {N n0 nx nx' k : Nat} {ops : Array Oper} {Q : Exit → Act → World → Prop}
theorem wpOp_of {i : Nat} {o : Oper} {K : Act → World → Prop} (ho : ops[i]? = some o) (hw : Region.wanted o (yielded ops a.tmps) = true) (h : o.wp P a w K Q) : wpOp P ops Q i K a w := by
  unfold wpOp; rw [ho]; simp only [hw, if_true]; exact .inl h
theorem wpOp_skip {i : Nat} {o : Oper} {K : Act → World → Prop} (ho : ops[i]? = some o) (hw : Region.wanted o (yielded ops a.tmps) = false) (h : K (a.put o.dst undef) w) : wpOp P ops Q i K a w := by
  unfold wpOp; rw [ho]; simp only [hw, Bool.false_eq_true, if_false]; exact h
def Owed (P : Program) (G : Gh) (lo N nx : Nat) (Q : Exit → Act → World → Prop) : RR → Prop
  | .ok tm' st' nx' _ => ∀ G' a' w', G.le G' → Same G G' (fun k => lo ≤ k ∧ k < nx') → nx ≤ nx' → Inv P G' st' w' → TmR P G' N tm' a' → Q .normal a' w'
  | .pan v st' nx' => ∀ G' a' w' u, G.le G' → Same G G' (fun k => lo ≤ k ∧ k < nx') → nx ≤ nx' → Inv P G' st' w' → a'.defers = [] → Rep P G' v u → Q (.panic [{ v := u, recovered := false }]) a' w'
theorem Owed.step {lo lo' nx1 : Nat} {r : RR} (h : Owed P G lo N nx Q r) (hg : G.le G') (hs : ∀ n, nx1 ≤ n → Same G G' (fun k => lo ≤ k ∧ k < n)) (hl : lo ≤ lo') (hn : nx ≤ nx1) : Owed P G' lo' N nx1 Q r := by
  cases r with
  | ok tm st nx' recs => exact fun G'' a' w' h1 h2 h3 h4 h5 => h G'' a' w' (hg.trans h1) ((hs nx' h3).trans (h2.mono fun k hk => ⟨by omega, hk.2⟩)) (by omega) h4 h5
  | pan v st nx' => exact fun G'' a' w' u h1 h2 h3 h4 h5 h6 => h G'' a' w' u (hg.trans h1) ((hs nx' h3).trans (h2.mono fun k hk => ⟨by omega, hk.2⟩)) (by omega) h4 h5 h6
theorem xops_seq (hP : ProgOK P) (hE : EnvOK P E) (h8 : 8 ≤ n0) : ∀ {rest : List Oper} {i : Nat} {tm : Nat → V} {st : St} {nx : Nat} {G : Gh} {a : Act} {w : World} {rr : RR}, ops.toList.drop i = rest → xops P E ops N n0 i rest tm st nx = some rr → GlOK P E.gl G.pr → Inv P G st w → TmR P G N tm a →
    Fresh G (fun k => (n0 + 8 * i ≤ k ∧ k < n0 + 8 * ops.size) ∨ nx ≤ k) → n0 + 8 * ops.size ≤ nx → Owed P G (n0 + 8 * i) N nx Q rr → wpOps P ops Q (List.range' i rest.length) a w
  | [], i, tm, st, nx, G, a, w, rr, hd, hx, hgl, hinv, ht, hfr, hn, hK => by
    simp only [xops, Option.some.injEq] at hx
    subst hx
    exact hK G a w (.refl G) (.refl G _) (Nat.le_refl _) hinv ht
  | o :: rest, i, tm, st, nx, G, a, w, rr, hd, hx, hgl, hinv, ht, hfr, hn, hK => by
    obtain ⟨ho, hd'⟩ := drop_cons hd
    have ho' : ops[i]? = some o := by simpa using ho
    have hlt : i < ops.size := (Array.getElem?_eq_some_iff.1 ho').1
    rw [List.length_cons, List.range'_succ, wpOps_cons]
    unfold xops at hx
    split at hx
    · rename_i hdst
      have hfr8 : Fresh G (R8 (n0 + 8 * i)) := fun q hq => hfr q (.inl ⟨hq.1, by have := hq.2; omega⟩)
      have hfrn : Fresh G (fun q => nx ≤ q) := fun q hq => hfr q (.inr hq)
      -- a value, and what comes behind it
      have val : ∀ (G' : Gh) (a' : Act) (w' : World) (tm' : Nat → V) (st' : St) (nx1 : Nat) (rr' : RR), G.le G' → (∀ q, ¬ R8 (n0 + 8 * i) q → ¬ (nx ≤ q ∧ q < nx1) → (G.bx q = none → G'.bx q = none) ∧ (G.tl q = none → G'.tl q = none)) → nx ≤ nx1 → Inv P G' st' w' → TmR P G' N tm' a' → xops P E ops N n0 (i + 1) rest tm' st' nx1 = some rr' → Owed P G (n0 + 8 * i) N nx Q rr' →
          wpOps P ops Q (List.range' (i + 1) rest.length) a' w' := fun G' a' w' tm' st' nx1 rr' g1 g2 g3 g4 g5 hr hk => by
        refine xops_seq hP hE h8 hd' hr (fun g x hg => (hgl g x hg).mono g1.pr) g4 g5 (fun q hq => ?_) (by omega) (hk.step g1 (fun n hn1 q hq => g2 q (fun h => hq ⟨h.1, by have := h.2; omega⟩) fun h => hq ⟨by omega, by omega⟩) (by omega) g3)
        have hn1 : ¬ R8 (n0 + 8 * i) q := fun h => by have := h.1; have := h.2; omega
        have hn2 : ¬ (nx ≤ q ∧ q < nx1) := fun h => by omega
        have h1 := hfr q (by omega)
        exact ⟨(g2 q hn1 hn2).1 h1.1, (g2 q hn1 hn2).2 h1.2⟩
      split at hx
      · rename_i hw
        have hw := want_sound ht hw
        split at hx
        · rename_i v δ rd hxo
          refine wpOp_of ho' hw (xop_sound (i0 := n0 + 8 * i) (nx' := nx) hP hE hgl hinv ht hfr8 hfrn (by omega) (by omega) hxo fun G' w' u g1 g2 g3 g4 => ?_)
          have ht' := (ht.mono g1).put hdst g4
          split at hx
          · rename_i tm1 st1 nx1 recs hr
            obtain rfl := Option.some.inj hx
            exact val G' _ w' _ _ nx _ g1 (fun q h1 _ => g2 q h1) (Nat.le_refl _) g3 ht' hr hK
          · rename_i hne
            exact val G' _ w' _ _ nx _ g1 (fun q h1 _ => g2 q h1) (Nat.le_refl _) g3 ht' hx hK
        · rename_i v st1 nx1 hxo
          refine wpOp_of ho' hw (xop_sound (i0 := n0 + 8 * i) (nx' := nx) hP hE hgl hinv ht hfr8 hfrn (by omega) (by omega) hxo fun G' w' u g1 g2 g3 g4 g5 => ?_)
          have ht' := (ht.mono g1).put hdst g5
          split at hx
          · rename_i tm1 st2 nx2 recs hr
            obtain rfl := Option.some.inj hx
            exact val G' _ w' _ _ nx1 _ g1 (fun q _ h2 => g2 q h2) g3 g4 ht' hr hK
          · rename_i hne
            exact val G' _ w' _ _ nx1 _ g1 (fun q _ h2 => g2 q h2) g3 g4 ht' hx hK
        · rename_i v hxo
          obtain rfl := Option.some.inj hx
          refine wpOp_of ho' hw (xop_sound (i0 := n0 + 8 * i) (nx' := nx) hP hE hgl hinv ht hfr8 hfrn (by omega) (by omega) hxo fun G' w' u g1 g2 g3 g4 => ?_)
          exact hK G' a w' u g1 (g2.mono fun q hq => ⟨hq.1, by have := hq.2; omega⟩) (Nat.le_refl _) g3 ht.df g4
        · rename_i v st1 nx1 hxo
          obtain rfl := Option.some.inj hx
          refine wpOp_of ho' hw (xop_sound (i0 := n0 + 8 * i) (nx' := nx) hP hE hgl hinv ht hfr8 hfrn (by omega) (by omega) hxo fun G' w' u g1 g2 g3 g4 g5 => ?_)
          exact hK G' a w' u g1 (g2.mono fun q hq => ⟨by omega, hq.2⟩) g3 g4 ht.df g5
        · cases hx
      · rename_i hw
        have hw := want_sound ht hw
        have ht' := ht.put hdst (Rep.pure (P := P) (G := G) (RepP.sc undef))
        refine wpOp_skip ho' hw ?_
        split at hx
        · rename_i tm1 st1 nx1 recs hr
          obtain rfl := Option.some.inj hx
          exact val G _ w _ _ nx _ (.refl G) (fun _ _ _ => ⟨id, id⟩) (Nat.le_refl _) hinv ht' hr hK
        · exact val G _ w _ _ nx _ (.refl G) (fun _ _ _ => ⟨id, id⟩) (Nat.le_refl _) hinv ht' hx hK
      · cases hx
    · cases hx
theorem xregion_sound (hP : ProgOK P) (hE : EnvOK P E) {id : Nat} {draw : Bool} {fr : Fr} {res : Ex × Fr} (hx : xregion P E N ops draw fr = some res) (hgl : GlOK P E.gl G.pr) (hinv : Inv P G fr.st w) (ht : TmR P G N fr.tm a) (hfr : Fresh G (fun q => fr.nx ≤ q)) (h8 : 8 ≤ fr.nx)
    (hK : Post P G fr.nx N Q res) : (Code.region id ops draw).wp P Q a w := by
  have seq : draw = false → ∀ rr, xops P E ops N fr.nx 0 ops.toList fr.tm fr.st (fr.nx + 8 * ops.size) = some rr → Owed P G (fr.nx + 8 * 0) N (fr.nx + 8 * ops.size) Q rr → (Code.region id ops draw).wp P Q a w := fun hd rr hr hk => by
    subst hd
    refine wp_region ?_
    have := xops_seq (Q := Q) hP hE h8 (i := 0) (List.drop_zero) hr hgl hinv ht (fun q hq => hfr q (by omega)) (Nat.le_refl _) hk
    rw [List.range_eq_range']
    simpa using this
  unfold xregion at hx
  split at hx
  · rename_i tm1 st1 nx1 recs hr
    split at hx
    · rename_i hd
      split at hx
      · rename_i hc
        simp only [Bool.and_eq_true] at hc
        obtain rfl := Option.some.inj hx
        have hd : draw = true := hd
        subst hd
        exact region_draw hP hE hgl hinv ht hfr h8 hc.1.1 hc.1.2 hc.2 hr hK
      · cases hx
    · rename_i hd
      obtain rfl := Option.some.inj hx
      exact seq (by simpa using hd) _ hr fun G' a' w' h1 h2 h3 h4 h5 => hK G' a' w' h1 (h2.mono fun q hq => ⟨by omega, hq.2⟩) (by show fr.nx ≤ nx1; omega) h4 h5
  · rename_i v st1 nx1 hr
    split at hx
    · cases hx
    · rename_i hd
      obtain rfl := Option.some.inj hx
      exact seq (by simpa using hd) _ hr fun G' a' w' u h1 h2 h3 h4 h5 h6 => hK G' a' w' u h1 (h2.mono fun q hq => ⟨by omega, hq.2⟩) (by show fr.nx ≤ nx1; omega) h4 h5 h6
  · cases hx
theorem Post.step {n1 : Nat} {res : Ex × Fr} (h : Post P G n0 N Q res) (hg : G.le G') (hs : Same G G' (fun k => n0 ≤ k ∧ k < n1)) (hn : n0 ≤ n1) : Post P G' n1 N Q res := by
  obtain ⟨e, fr⟩ := res
  have sm : ∀ {G'' : Gh}, n1 ≤ fr.nx → Same G' G'' (fun k => n1 ≤ k ∧ k < fr.nx) → Same G G'' (fun k => n0 ≤ k ∧ k < fr.nx) := fun h3 h2 => (hs.mono fun k hk => ⟨hk.1, by omega⟩).trans (h2.mono fun k hk => ⟨by omega, hk.2⟩)
  cases e with
  | norm => exact fun G'' a' w' h1 h2 h3 h4 h5 => h G'' a' w' (hg.trans h1) (sm h3 h2) (by omega) h4 h5
  | exit id => exact fun G'' a' w' h1 h2 h3 h4 h5 => h G'' a' w' (hg.trans h1) (sm h3 h2) (by omega) h4 h5
  | ret => exact fun G'' a' w' h1 h2 h3 h4 h5 => h G'' a' w' (hg.trans h1) (sm h3 h2) (by omega) h4 h5
  | pan v => exact fun G'' a' w' u h1 h2 h3 h4 h5 h6 => h G'' a' w' u (hg.trans h1) (sm h3 h2) (by omega) h4 h5 h6
theorem fresh_step {n1 : Nat} (hfr : Fresh G (fun q => n0 ≤ q)) (hs : Same G G' (fun k => n0 ≤ k ∧ k < n1)) (hn : n0 ≤ n1) : Fresh G' (fun q => n1 ≤ q) := fun q hq => by
  have h1 := hfr q (by omega)
  have h2 := hs q (by omega)
  exact ⟨h2.1 h1.1, h2.2 h1.2⟩
theorem gl_step (hgl : GlOK P E.gl G.pr) (hg : G.le G') : GlOK P E.gl G'.pr := fun g x h => (hgl g x h).mono hg.pr
theorem xcode_sound (hP : ProgOK P) (hE : EnvOK P E) : ∀ (c : Code) {fr : Fr} {res : Ex × Fr} {G : Gh} {a : Act} {w : World} {Q : Exit → Act → World → Prop}, xcode P E N k c fr = some res → GlOK P E.gl G.pr → Inv P G fr.st w → TmR P G N fr.tm a → Fresh G (fun q => fr.nx ≤ q) → 8 ≤ fr.nx →
    Post P G fr.nx N Q res → c.wp P Q a w := by
  intro c
  induction c with
  | skip =>
    intro fr res G a w Q hx hgl hinv ht hfr h8 hK
    simp only [xcode, Option.some.injEq] at hx; subst hx
    exact wp_skip (hK G a w (.refl G) (.refl G _) (Nat.le_refl _) hinv ht)
  | region id ops draw =>
    intro fr res G a w Q hx hgl hinv ht hfr h8 hK
    exact xregion_sound hP hE (by simpa only [xcode] using hx) hgl hinv ht hfr h8 hK
  | seq x y ihx ihy =>
    intro fr res G a w Q hx hgl hinv ht hfr h8 hK
    simp only [xcode] at hx
    refine wp_seq ?_
    split at hx
    · rename_i fr' hx1
      refine ihx hx1 hgl hinv ht hfr h8 fun G' a' w' h1 h2 h3 h4 h5 => ?_
      exact ihy hx (gl_step hgl h1) h4 h5 (fresh_step hfr h2 h3) (Nat.le_trans h8 h3) (hK.step h1 h2 h3)
    · rename_i r hne
      refine ihx hx hgl hinv ht hfr h8 ?_
      obtain ⟨e, fr'⟩ := res
      cases e with
      | norm => exact absurd hx (fun h => hne _ h)
      | exit id => exact hK
      | ret => exact hK
      | pan v => exact hK
  | cond c x y ihx ihy =>
    intro fr res G a w Q hx hgl hinv ht hfr h8 hK
    simp only [xcode] at hx
    split at hx
    · rename_i b hb
      have hc := (ev_sound hgl ht hb).sc_inv
      refine wp_cond hc ?_
      cases b with
      | true => exact ihx hx hgl hinv ht hfr h8 hK
      | false => exact ihy hx hgl hinv ht hfr h8 hK
    · cases hx
  | block id b ih =>
    intro fr res G a w Q hx hgl hinv ht hfr h8 hK
    simp only [xcode] at hx
    refine wp_block ?_
    split at hx
    · rename_i j fr' hx1
      refine ih hx1 hgl hinv ht hfr h8 fun G' a' w' h1 h2 h3 h4 h5 => ?_
      show (if j = id then Q .normal a' w' else Q (.exit j) a' w')
      split at hx
      · rename_i hj; rw [if_pos hj]; obtain rfl := Option.some.inj hx; exact hK G' a' w' h1 h2 h3 h4 h5
      · rename_i hj; rw [if_neg hj]; obtain rfl := Option.some.inj hx; exact hK G' a' w' h1 h2 h3 h4 h5
    · rename_i r hne
      refine ih hx hgl hinv ht hfr h8 ?_
      obtain ⟨e, fr'⟩ := res
      cases e with
      | norm => exact hK
      | exit id => exact absurd hx (fun h => hne _ _ h)
      | ret => exact hK
      | pan v => exact hK
  | loop b ih =>
    intro fr res G a w Q hx hgl hinv ht hfr h8 hK
    simp only [xcode] at hx
    refine wp_loop_rounds k ?_
    have key : ∀ (n : Nat) {fr : Fr} {G : Gh} {a : Act} {w : World}, iter (xcode P E N k b) n fr = some res → GlOK P E.gl G.pr → Inv P G fr.st w → TmR P G N fr.tm a → Fresh G (fun q => fr.nx ≤ q) → 8 ≤ fr.nx → Post P G fr.nx N Q res → Code.rounds P b Q n a w := by
      intro n
      induction n with
      | zero => intro fr G a w hx; simp [iter] at hx
      | succ n ihn =>
        intro fr G a w hx hgl hinv ht hfr h8 hK
        simp only [iter] at hx
        rw [rounds_succ]
        split at hx
        · rename_i fr' hx1
          refine ih hx1 hgl hinv ht hfr h8 fun G' a' w' h1 h2 h3 h4 h5 => ?_
          exact ihn hx (gl_step hgl h1) h4 h5 (fresh_step hfr h2 h3) (Nat.le_trans h8 h3) (hK.step h1 h2 h3)
        · rename_i r hne
          refine ih hx hgl hinv ht hfr h8 ?_
          obtain ⟨e, fr'⟩ := res
          cases e with
          | norm => exact absurd hx (fun h => hne _ h)
          | exit id => exact hK
          | ret => exact hK
          | pan v => exact hK
    exact key k hx hgl hinv ht hfr h8 hK
  | exit id =>
    intro fr res G a w Q hx hgl hinv ht hfr h8 hK
    simp only [xcode, Option.some.injEq] at hx; subst hx
    exact wp_exit (hK G a w (.refl G) (.refl G _) (Nat.le_refl _) hinv ht)
  | ret =>
    intro fr res G a w Q hx hgl hinv ht hfr h8 hK
    simp only [xcode, Option.some.injEq] at hx; subst hx
    exact wp_ret (hK G a w (.refl G) (.refl G _) (Nat.le_refl _) hinv ht)
  | label l =>
    intro fr res G a w Q hx hgl hinv ht hfr h8 hK
    simp only [xcode, Option.some.injEq] at hx; subst hx
    exact wp_label (hK G a w (.refl G) (.refl G _) (Nat.le_refl _) hinv ht)
  | _ => intro fr res G a w Q hx; simp [xcode] at hx
end
end Go.Proofs.YtojbkakdhfmjmaaDoor.Vm
