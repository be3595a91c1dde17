/- Proved here: the law, on a machine over pure data, and what it needs, part 6. Conditions: none. -/
import Derived.Test.YthgmhlpjbednpaaDoorZ5
set_option maxRecDepth 10000
set_option linter.unusedVariables false
set_option linter.unusedSimpArgs false
namespace Go.Proofs.YthgmhlpjbednpaaDoor.Vm
open Go Go.Proofs
def Rec.fl (r : Rec) : Bool × Bool × Bool := (r.big.isSome, r.δ.isEmpty, r.rd.isEmpty)
def trivP : Bool × Bool × Bool → Bool × Bool × Bool → Bool
  | (false, a, b), (false, c, d) => (a && c) || (a && b) || (c && d)
  | (false, a, b), (true, _, _) => a && b
  | (true, _, _), (false, c, d) => c && d
  | _, _ => false
def thinB (B : List Nat) (fl : List (Bool × Bool × Bool)) (X : List (Nat × Nat)) : Bool := (List.range fl.length).all fun j => (List.range j).all fun i => ordB B i j || trivP (fl.getD i (false, false, false)) (fl.getD j (false, false, false)) || X.contains (i, j)
theorem disj_nil (a : List Nat) : disj a [] = true := by simp [disj]
theorem nil_disj (a : List Nat) : disj [] a = true := rfl
theorem recsOk2_thin {st0 : St} {B : List Nat} {recs : List Rec} (X : List (Nat × Nat)) (h : thinB B (recs.map Rec.fl) X = true) (hX : ∀ q ∈ X, pairOk st0 recs q.1 q.2) : recsOk2 st0 B recs := by
  intro j hj i hi
  simp only [thinB, List.all_eq_true, List.length_map, Bool.or_eq_true] at h
  have hj' := List.mem_range.1 hj
  have hi' := List.mem_range.1 hi
  rcases h j hj i hi with (h | h) | h
  · exact .inl h
  · right
    obtain ⟨x, hx⟩ : ∃ x, recs[i]? = some x := ⟨_, List.getElem?_eq_getElem (by omega)⟩
    obtain ⟨y, hy⟩ : ∃ y, recs[j]? = some y := ⟨_, List.getElem?_eq_getElem hj'⟩
    rw [List.getD_eq_getElem?_getD, List.getD_eq_getElem?_getD, List.getElem?_map, List.getElem?_map, hx, hy] at h
    simp only [Option.map_some, Option.getD_some] at h
    unfold pairOk
    have b1 : bigF recs i = x.big := by unfold bigF; rw [hx]; rfl
    have b2 : bigF recs j = y.big := by unfold bigF; rw [hy]; rfl
    have b3 : δF recs i = x.δ := by unfold δF; rw [hx]; rfl
    have b4 : δF recs j = y.δ := by unfold δF; rw [hy]; rfl
    have b5 : rF recs i = x.rd := by unfold rF; rw [hx]; rfl
    have b6 : rF recs j = y.rd := by unfold rF; rw [hy]; rfl
    rw [b1, b2, b3, b4, b5, b6]
    unfold Rec.fl at h
    clear b1 b2 b3 b4 b5 b6 hx hy hi hj hi' hj' hX
    obtain ⟨xv, xd, xr, xb⟩ := x
    obtain ⟨yv, yd, yr, yb⟩ := y
    have dn : ∀ a : List Nat, disj a [] = true := disj_nil
    cases xb with
    | none => cases yb with
      | none =>
        simp only [Option.isSome_none, trivP, Bool.or_eq_true, Bool.and_eq_true, List.isEmpty_iff] at h
        rcases h with (⟨rfl, rfl⟩ | ⟨rfl, rfl⟩) | ⟨rfl, rfl⟩
        · simp only [List.map_nil, nil_disj, disj_nil, Bool.and_self]
        · simp only [List.map_nil, nil_disj, Bool.and_self]
        · simp only [List.map_nil, List.append_nil, disj_nil, Bool.and_self]
      | some p =>
        simp only [Option.isSome_none, Option.isSome_some, trivP, Bool.and_eq_true, List.isEmpty_iff] at h
        obtain ⟨rfl, rfl⟩ := h
        exact ⟨rfl, fun k hk => nomatch hk⟩
    | some p => cases yb with
      | none =>
        simp only [Option.isSome_none, Option.isSome_some, trivP, Bool.and_eq_true, List.isEmpty_iff] at h
        obtain ⟨rfl, rfl⟩ := h
        exact ⟨rfl, fun k hk => nomatch hk⟩
      | some q => simp [trivP] at h
  · exact .inr (hX (i, j) (by simpa using h))
set_option maxHeartbeats 2000000 in
theorem same_ok {k kr : Nat} {a : Lk} {b : RLk} {S T : Nat → Prop} {st : St} {nx : Nat} (h : LK k a S st) (hr : RLK kr b T st) (hS : ∀ i, S i → i < nx) (hT : ∀ i, T i → i < nx) (hab : KRel a b) (hl : b.nm.length ≤ 1000000) (e : ByteArray) (p : Int × Int) (d kd : Int) :
    W (L.hp 15 [.ptr k 0, .ptr kr 0, .str e, .agg [.i64 p.1, .i64 p.2], .i64 d, .i64 kd] st nx) (Still st nx (.bool true)) := by
  refine hp_r k15_eq ?_
  simp only [k15]
  repeat' (first | (simp -implicitDefEqProofs only [ze, zd, zr, simprocAttr, LR_pl, LR_hp, LR_hm, cunr_n, cunr_x, cunr_r, cunr_p, List.any_cons, List.any_nil, List.flatten_cons, List.flatten_nil, List.replicate_succ, List.replicate_zero, Bool.or_false, Bool.false_or, List.flatMap_cons, List.flatMap_nil]) | (with_reducible refine wgd_cases ?_ ?_ <;> intro hb) | (with_reducible refine wcond_cases ?_ ?_ <;> intro hb) | (with_reducible refine W_itn_cases ?_ ?_; omega))
  have hA : ∀ {st' : St} {nx' : Nat}, nx ≤ nx' → (∀ i, i < nx → st' i = st i) → LK k a S st' ∧ RLK kr b T st' ∧ (∀ i, S i → i < nx') ∧ (∀ i, T i → i < nx') := fun hn hs => ⟨h.mono (fun _ h => h) (fun i hi => hs i (hS i hi)), hr.mono (fun _ h => h) (fun i hi => hs i (hT i hi)), fun i hi => by have := hS i hi; omega, fun i hi => by have := hT i hi; omega⟩
  obtain ⟨q1, q2, q3, q4⟩ := hA (st' := upd st nx (some (.cells [.i64 p.1, .i64 p.2]))) (nx' := nx + 72) (by omega) (fun i hi => if_neg (by omega))
  refine W_hp (first_ok q1 (fun i hi => by have := hS i hi; omega) e) ?_
  rw [hab.first e]
  rintro _ ⟨st1, nx1, rfl, n1, s1⟩
  generalize hfr : firstR b e = f0
  obtain ⟨f, fe⟩ := f0
  repeat' (first | (simp -implicitDefEqProofs only [ze, zd, zr, simprocAttr, LR_pl, LR_hp, LR_hm, cunr_n, cunr_x, cunr_r, cunr_p, List.any_cons, List.any_nil, List.flatten_cons, List.flatten_nil, List.replicate_succ, List.replicate_zero, Bool.or_false, Bool.false_or, List.flatMap_cons, List.flatMap_nil, encPE]) | (with_reducible refine wgd_cases ?_ ?_ <;> intro hb) | (with_reducible refine wcond_cases ?_ ?_ <;> intro hb) | (with_reducible refine W_itn_cases ?_ ?_; omega))
  have z1 : ∀ i, i < nx → st1 i = st i := fun i hi => by rw [s1 i (by omega)]; exact if_neg (by omega)
  obtain ⟨q1, q2, q3, q4⟩ := hA (st' := upd (upd st1 (nx + 64) (some (.cells [.sc (.int .i64 0), .sc (.int .i64 0)]))) (nx + 64) (some (.cells [.i64 f.1, .i64 f.2]))) (nx' := nx1 + 72) (by omega) (fun i hi => by rw [← z1 i hi]; exact (if_neg (by omega)).trans (if_neg (by omega)))
  refine W_hp (rfirst2_ok q2 q4 hl e) ?_
  rw [hfr]
  rintro _ ⟨st2, nx2, rfl, n2, s2⟩
  have z2 : ∀ i, i < nx → st2 i = st i := fun i hi => by rw [← z1 i hi, s2 i (by omega)]; exact (if_neg (by omega)).trans (if_neg (by omega))
  have b1 : st2 nx = some (.cells [.i64 p.1, .i64 p.2]) := by
    rw [s2 nx (by omega)]
    refine ((if_neg (by omega)).trans (if_neg (by omega))).trans ?_
    rw [s1 nx (by omega)]; exact if_pos rfl
  have b2 : st2 (nx + 64) = some (.cells [.i64 f.1, .i64 f.2]) := by rw [s2 _ (by omega)]; exact if_pos rfl
  have f1 : ∀ j, (nx + 64 = nx2 + j) = False := fun j => eq_false (by omega)
  have f2 : ∀ j, (nx = nx2 + j) = False := fun j => eq_false (by omega)
  have f3 : ∀ j, (nx + 64 = nx1 + j) = False := fun j => eq_false (by omega)
  have f4 : ∀ j, (nx = nx1 + j) = False := fun j => eq_false (by omega)
  have g1 : decide (f.1 = f.1) = true := decide_eq_true rfl
  have g2 : decide (f.2 = f.2) = true := decide_eq_true rfl
  have g3 : decide (fe = fe) = true := decide_eq_true rfl
  repeat' (first | (simp -implicitDefEqProofs only [ze, zd, zr, simprocAttr, LR_pl, LR_hp, LR_hm, cunr_n, cunr_x, cunr_r, cunr_p, List.any_cons, List.any_nil, List.flatten_cons, List.flatten_nil, List.replicate_succ, List.replicate_zero, Bool.or_false, Bool.false_or, List.flatMap_cons, List.flatMap_nil, encPE, b1, b2, f1, f2, f3, f4, g1, g2, g3, Bool.and_self, bne_tf, wnx_tb, wnx_tbn]) | (with_reducible refine wgd_cases ?_ ?_ <;> intro hb) | (with_reducible refine wcond_cases ?_ ?_ <;> intro hb) | (with_reducible refine W_itn_cases ?_ ?_; omega))
  have z3 : ∀ i, i < nx → upd (upd st2 (nx1 + 48) (some (.cells [.sc (.int .i64 0), .sc (.int .i64 0)]))) (nx1 + 48) (some (.cells [.i64 f.1, .i64 f.2])) i = st i := fun i hi => by rw [← z2 i hi]; exact (if_neg (by omega)).trans (if_neg (by omega))
  have c3 : upd (upd st2 (nx1 + 48) (some (.cells [.sc (.int .i64 0), .sc (.int .i64 0)]))) (nx1 + 48) (some (.cells [.i64 f.1, .i64 f.2])) nx = some (.cells [.i64 p.1, .i64 p.2]) := by rw [← b1]; exact (if_neg (by omega)).trans (if_neg (by omega))
  generalize hst : upd (upd st2 (nx1 + 48) (some (.cells [.sc (.int .i64 0), .sc (.int .i64 0)]))) (nx1 + 48) (some (.cells [.i64 f.1, .i64 f.2])) = w at *
  obtain ⟨q1, q2, q3, q4⟩ := hA (st' := w) (nx' := nx2 + 264) (by omega) z3
  refine W_hp (state_ok q1 q3 e p) ?_
  rw [hab.state e p]
  rintro _ ⟨st4, nx4, rfl, n4, s4⟩
  have c4 : st4 nx = w nx := s4 _ (by omega)
  have z4 : ∀ i, i < nx → st4 i = st i := fun i hi => by rw [← z3 i hi, s4 i (by omega)]
  obtain ⟨q1, q2, q3, q4⟩ := hA (st' := st4) (nx' := nx4) (by omega) z4
  repeat' (first | (simp -implicitDefEqProofs only [ze, zd, zr, simprocAttr, LR_pl, LR_hp, LR_hm, cunr_n, cunr_x, cunr_r, cunr_p, List.any_cons, List.any_nil, List.flatten_cons, List.flatten_nil, List.replicate_succ, List.replicate_zero, Bool.or_false, Bool.false_or, List.flatMap_cons, List.flatMap_nil, c4, c3, wnx_tb, wnx_tbn]) | (with_reducible refine wgd_cases ?_ ?_ <;> intro hb) | (with_reducible refine wcond_cases ?_ ?_ <;> intro hb) | (with_reducible refine W_itn_cases ?_ ?_; omega))
  refine W_hp (rstate_ok q2 q4 hl e p) ?_
  rintro _ ⟨st5, nx5, rfl, n5, s5⟩
  have z5 : ∀ i, i < nx → st5 i = st i := fun i hi => by rw [← z4 i hi, s5 i (by omega)]
  obtain ⟨q1, q2, q3, q4⟩ := hA (st' := st5) (nx' := nx5) (by omega) z5
  have g4 : decide (stateR b e p = stateR b e p) = true := decide_eq_true rfl
  repeat' (first | (simp -implicitDefEqProofs only [ze, zd, zr, simprocAttr, LR_pl, LR_hp, LR_hm, cunr_n, cunr_x, cunr_r, cunr_p, List.any_cons, List.any_nil, List.flatten_cons, List.flatten_nil, List.replicate_succ, List.replicate_zero, Bool.or_false, Bool.false_or, List.flatMap_cons, List.flatMap_nil, g4, bne_tf, wnx_tb, wnx_tbn]) | (with_reducible refine wgd_cases ?_ ?_ <;> intro hb) | (with_reducible refine wcond_cases ?_ ?_ <;> intro hb) | (with_reducible refine W_itn_cases ?_ ?_; omega))
  refine W_hp (allow_ok q1 q3 e d kd) ?_
  rw [hab.allow e d kd]
  rintro _ ⟨st6, nx6, rfl, n6, s6⟩
  have z6 : ∀ i, i < nx → st6 i = st i := fun i hi => by rw [← z5 i hi, s6 i (by omega)]
  obtain ⟨q1, q2, q3, q4⟩ := hA (st' := st6) (nx' := nx6) (by omega) z6
  repeat' (first | (simp -implicitDefEqProofs only [ze, zd, zr, simprocAttr, LR_pl, LR_hp, LR_hm, cunr_n, cunr_x, cunr_r, cunr_p, List.any_cons, List.any_nil, List.flatten_cons, List.flatten_nil, List.replicate_succ, List.replicate_zero, Bool.or_false, Bool.false_or, List.flatMap_cons, List.flatMap_nil, g4, bne_tf, wnx_tb, wnx_tbn]) | (with_reducible refine wgd_cases ?_ ?_ <;> intro hb) | (with_reducible refine wcond_cases ?_ ?_ <;> intro hb) | (with_reducible refine W_itn_cases ?_ ?_; omega))
  refine W_hp (rallow_ok q2 q4 hl e d kd) ?_
  rintro _ ⟨st7, nx7, rfl, n7, s7⟩
  have z7 : ∀ i, i < nx → st7 i = st i := fun i hi => by rw [← z6 i hi, s7 i (by omega)]
  have g5 : decide (allowR b e d kd = allowR b e d kd) = true := decide_eq_true rfl
  repeat' (first | (simp -implicitDefEqProofs only [ze, zd, zr, simprocAttr, LR_pl, LR_hp, LR_hm, cunr_n, cunr_x, cunr_r, cunr_p, List.any_cons, List.any_nil, List.flatten_cons, List.flatten_nil, List.replicate_succ, List.replicate_zero, Bool.or_false, Bool.false_or, List.flatMap_cons, List.flatMap_nil, g5, bne_tf, wnx_tb, wnx_tbn]) | (with_reducible refine wgd_cases ?_ ?_ <;> intro hb) | (with_reducible refine wcond_cases ?_ ?_ <;> intro hb) | (with_reducible refine W_itn_cases ?_ ?_; omega))
  refine qd_2 (recsOk2_thin [(12, 15)] (by kernel_rfl) ?_) ?_
  · intro q hq
    rw [List.mem_singleton] at hq
    subst hq
    simp only [pairOk, bigF, δF, rF, seqSt, List.getElem?_cons_succ, List.getElem?_cons_zero, Option.bind_some, Option.map_some, Option.getD_some, upds_nil]
    refine ⟨trivial, fun k hk => ?_⟩
    rw [List.mem_singleton] at hk
    rw [hk]; exact c4
  · simp -implicitDefEqProofs only [ze, zd, zr, simprocAttr, LR_pl, LR_hp, LR_hm, cunr_n, cunr_x, cunr_r, cunr_p, List.any_cons, List.any_nil, List.flatten_cons, List.flatten_nil, List.replicate_succ, List.replicate_zero, Bool.or_false, Bool.false_or, List.flatMap_cons, List.flatMap_nil]
    exact .of (by omega) z7
theorem sameev_ok (l : List Ev) (t r t2 r2 : Nat) (ht : l = [] ∨ t = 50) (ht2 : l = [] ∨ t2 = 50) (hl : l.length < 4611686018427387904) :
    L.pl 16 [.list t (l.map (fun x => .agg (evC x))) r, .list t2 (l.map (fun x => .agg (evC x))) r2] = some (.ret (.bool true)) := by
  refine W_of (pl_w k16_eq ?_)
  simp only [k16]
  have hd0 : decide ((l.length : Int) = (l.length : Int)) = true := decide_eq_true rfl
  repeat' (first | (simp -implicitDefEqProofs only [ze, zd, simprocAttr, List.length_map, hd0, bne_tt, bne_tf]) | (with_reducible refine wgd_cases ?_ ?_ <;> intro hb) | (with_reducible refine wcond_cases ?_ ?_ <;> intro hb) | (with_reducible refine qd_i (by kernel_rfl) ?_) | (with_reducible refine W_itn_cases ?_ ?_; omega))
  refine loop_w (fun n tm st' nx' => ∃ (i : Nat), n = l.length - i ∧ i ≤ l.length ∧ tm 5 = .i64 i ∧ tm 0 = .list t (l.map fun x => .agg (evC x)) r ∧ tm 1 = .list t2 (l.map fun x => .agg (evC x)) r2) _ ⟨0, rfl, by omega, ?_, ?_, ?_⟩ ?_
  · simp -implicitDefEqProofs only [ze, zd, simprocAttr]; try rfl
  · simp -implicitDefEqProofs only [ze, zd, simprocAttr]
  · simp -implicitDefEqProofs only [ze, zd, simprocAttr]
  rintro n tm st1 nx1 ⟨i, hn, hi, h5, h0, h1⟩
  simp only [k16_l0]
  by_cases hc : i < l.length
  · have hd : decide ((i : Int) < (l.length : Int)) = true := decide_eq_true (by omega)
    obtain ⟨s, hs⟩ := get_lt hc
    have hne : l ≠ [] := fun q => by rw [q] at hc; exact Nat.not_lt_zero _ hc
    obtain rfl := ht.resolve_left hne
    obtain rfl := ht2.resolve_left hne
    have g1 : decide (s.k = s.k) = true := decide_eq_true rfl
    have g2 : decide (s.e = s.e) = true := decide_eq_true rfl
    have g3 : decide (s.p.1 = s.p.1) = true := decide_eq_true rfl
    have g4 : decide (s.p.2 = s.p.2) = true := decide_eq_true rfl
    have g5 : decide (s.u = s.u) = true := decide_eq_true rfl
    repeat' (first | (simp -implicitDefEqProofs only [ze, zd, simprocAttr, hd, h5, h0, h1, hs, List.length_map, evC, g1, g2, g3, g4, g5, bne_tt]) | (with_reducible refine wgd_cases ?_ ?_ <;> intro hb) | (with_reducible refine wcond_cases ?_ ?_ <;> intro hb) | (with_reducible refine qd_i (by kernel_rfl) ?_) | (with_reducible refine W_itn_cases ?_ ?_; omega))
    refine ⟨l.length - (i + 1), by omega, i + 1, rfl, by omega, up64 (by omega)⟩
  · have hd : decide ((i : Int) < (l.length : Int)) = false := decide_eq_false (by omega)
    repeat' (first | (simp -implicitDefEqProofs only [ze, zd, simprocAttr, hd, h5, h0, h1, List.length_map, k16_t0]) | (with_reducible refine wgd_cases ?_ ?_ <;> intro hb) | (with_reducible refine wcond_cases ?_ ?_ <;> intro hb) | (with_reducible refine qd_i (by kernel_rfl) ?_) | (with_reducible refine W_itn_cases ?_ ?_; omega))
end Go.Proofs.YthgmhlpjbednpaaDoor.Vm
set_option maxRecDepth 10000
set_option linter.unusedVariables false
set_option linter.unusedSimpArgs false
namespace Go.Proofs.YthgmhlpjbednpaaDoor.Vm
open Go Go.Proofs
theorem grown_lt {S : Nat → Prop} {nx n1 n2 m : Nat} (h : ∀ j, S j → j < nx) (h1 : nx ≤ m) (h2 : n2 ≤ m) : ∀ j, grown S n1 n2 j → j < m := fun j hj => by
  rcases hj with hj | hj
  · have := h j hj; omega
  · omega
end Go.Proofs.YthgmhlpjbednpaaDoor.Vm
set_option maxRecDepth 10000
set_option linter.unusedVariables false
set_option linter.unusedSimpArgs false
namespace Go.Proofs.YthgmhlpjbednpaaDoor.Vm
open Go Go.Proofs
theorem idxR_lt {l : List ByteArray} {e : ByteArray} {i : Nat} (h : idxR l e = some i) : i < l.length := (List.getElem?_eq_some_iff.1 (idxR_get h)).1
theorem KRel.new (c : Int) (p : Int × Int) (l : List ByteArray) : KRel (newLk c p l) (rnewLk c p l) := by
  refine ⟨rfl, rfl, rfl, fun e => ?_, fun e => ?_, List.nodup_nil, by simp [rnewLk], by simp [rnewLk], fun e v h => ?_⟩
  · have hp := aidx_pair p e l
    have hi := idxR_any e l
    show (aidx (l.map fun d => (d, p)) e).map (·.2) = (idxR l e).map fun i => (l.map fun _ => p).getD i (0, 0)
    cases hd : l.any fun d => decide (e = d) with
    | false => rw [hp.2 hd, hi.2 hd]; rfl
    | true =>
      obtain ⟨j, hj⟩ := hp.1 hd
      obtain ⟨i, hi⟩ := hi.1 hd
      have := idxR_lt hi
      rw [hj, hi]
      simp [List.getD_eq_getElem?_getD, List.getElem?_map, List.getElem?_eq_getElem this]
  · show none = (idxR l e).bind fun i => if (l.map fun _ => (⟨#[]⟩ : ByteArray)).getD i ⟨#[]⟩ = ⟨#[]⟩ then none else some _
    cases hi : idxR l e with
    | none => rfl
    | some i => simp [List.getD_eq_getElem?_getD, List.getElem?_map, List.getElem?_eq_getElem (idxR_lt hi)]
  · exact absurd h (by show ¬ (none = some v); simp)
theorem evC_chunk : ∀ l : List Ev, chunk true 5 l.length (l.flatMap evC) = l.map fun x => V.agg (evC x)
  | [] => rfl
  | x :: l => by
    have ih := evC_chunk l
    have h5 : (evC x).length = 5 := rfl
    simp only [List.length_cons, List.flatMap_cons, chunk, if_true, List.map_cons]
    rw [List.take_left' h5, List.drop_left' h5, ih]
theorem evC_pur : ∀ l : List Ev, (l.flatMap evC).mapM V.pur1? = some (l.flatMap evC)
  | [] => rfl
  | x :: l => by
    have ih := evC_pur l
    rw [List.flatMap_cons, List.mapM_append, ih]
    rfl
set_option maxHeartbeats 4000000 in
theorem kplays_ok (c : Int) (p : Int × Int) (l : List ByteArray) (ops : List Op) (q : Int × Int) (d kd : Int) (ho : ∀ o ∈ ops, 0 ≤ o.act ∧ o.usr.size < 4611686018427387904) (hl : l.length < 4611686018427387904) (hsz : ∀ s ∈ l, s.size < 4611686018427387904) :
    L.pl 3 [encCal c, encPer p, .list 9 (l.map V.str) 0, .list 39 (ops.map encOp) 0, encPer q, .i64 d, .i64 kd] = some (.ret (.bool true)) := by
  refine W_of (pl_r k3_eq ?_)
  simp only [k3, encCal, encPer]
  have hlg := klarge_ok (l.map V.str) (ops.map encOp) 9 39 0 0
  rw [List.length_map, List.length_map] at hlg
  by_cases hbig : (decide (210 < l.length) || decide (40 < ops.length)) = true
  · rw [hbig] at hlg
    repeat' (first | (simp -implicitDefEqProofs only [ze, zd, zr, simprocAttr, LR_pl, LR_hp, LR_hm, cunr_n, cunr_x, cunr_r, cunr_p, List.any_cons, List.any_nil, List.flatten_cons, List.flatten_nil, List.replicate_succ, List.replicate_zero, Bool.or_false, Bool.false_or, List.flatMap_cons, List.flatMap_nil, hlg]) | (with_reducible refine wgd_cases ?_ ?_ <;> intro hb) | (with_reducible refine wcond_cases ?_ ?_ <;> intro hb) | (with_reducible refine qd_i (by kernel_rfl) ?_) | (with_reducible refine W_itn_cases ?_ ?_; omega))
  · have hbig : (decide (210 < l.length) || decide (40 < ops.length)) = false := by simpa using hbig
    rw [hbig] at hlg
    have h40 : l.length ≤ 210 ∧ ops.length ≤ 40 := by simp only [Bool.or_eq_false_iff, decide_eq_false_iff_not] at hbig; omega
    obtain ⟨h210, h40⟩ := h40
    repeat' (first | (simp -implicitDefEqProofs only [ze, zd, zr, simprocAttr, LR_pl, LR_hp, LR_hm, cunr_n, cunr_x, cunr_r, cunr_p, List.any_cons, List.any_nil, List.flatten_cons, List.flatten_nil, List.replicate_succ, List.replicate_zero, Bool.or_false, Bool.false_or, List.flatMap_cons, List.flatMap_nil, hlg]) | (with_reducible refine wgd_cases ?_ ?_ <;> intro hb) | (with_reducible refine wcond_cases ?_ ?_ <;> intro hb) | (with_reducible refine qd_i (by kernel_rfl) ?_) | (with_reducible refine W_itn_cases ?_ ?_; omega))
    refine W_hp (new_ok c p l _ _ hl) ?_
    intro r hr
    rcases hr with ⟨he, st', nx', rfl, hn, hs⟩ | ⟨he, k, st', nx', rfl, hn, hk, hs⟩
    · have b8 : st' 8 = some (.cells [.i64 c]) := by rw [hs 8 (by omega)]; simp [upd]
      have b16 : st' 16 = some (.cells [.i64 p.1, .i64 p.2]) := by rw [hs 16 (by omega)]; simp [upd]
      repeat' (first | (simp -implicitDefEqProofs only [ze, zd, zr, simprocAttr, LR_pl, LR_hp, LR_hm, cunr_n, cunr_x, cunr_r, cunr_p, List.any_cons, List.any_nil, List.flatten_cons, List.flatten_nil, List.replicate_succ, List.replicate_zero, Bool.or_false, Bool.false_or, List.flatMap_cons, List.flatMap_nil, b8, b16]) | (with_reducible refine wgd_cases ?_ ?_ <;> intro hb) | (with_reducible refine wcond_cases ?_ ?_ <;> intro hb) | (with_reducible refine qd_i (by kernel_rfl) ?_) | (with_reducible refine W_itn_cases ?_ ?_; omega))
      refine W_hp (rnew_ok c p l _ _ hl hsz) ?_
      intro r hr
      rcases hr with ⟨he2, st2, nx2, rfl, hn2, hs2⟩ | ⟨he2, _⟩
      · have g0 : decide (newErr c p l = 0) = false := decide_eq_false he
        repeat' (first | (simp -implicitDefEqProofs only [ze, zd, zr, simprocAttr, LR_pl, LR_hp, LR_hm, cunr_n, cunr_x, cunr_r, cunr_p, List.any_cons, List.any_nil, List.flatten_cons, List.flatten_nil, List.replicate_succ, List.replicate_zero, Bool.or_false, Bool.false_or, List.flatMap_cons, List.flatMap_nil, g0, klives_ok, bne_ff, bne_tf, bne_ft]) | (with_reducible refine wgd_cases ?_ ?_ <;> intro hb) | (with_reducible refine wcond_cases ?_ ?_ <;> intro hb) | (with_reducible refine qd_i (by kernel_rfl) ?_) | (with_reducible refine W_itn_cases ?_ ?_; omega))
      · exact absurd he2 he
    · have b8 : st' 8 = some (.cells [.i64 c]) := by rw [hs 8 (by omega)]; simp [upd]
      have b16 : st' 16 = some (.cells [.i64 p.1, .i64 p.2]) := by rw [hs 16 (by omega)]; simp [upd]
      have b24 : st' 24 = some (.cells [.i64 q.1, .i64 q.2]) := by rw [hs 24 (by omega)]; simp [upd]
      repeat' (first | (simp -implicitDefEqProofs only [ze, zd, zr, simprocAttr, LR_pl, LR_hp, LR_hm, cunr_n, cunr_x, cunr_r, cunr_p, List.any_cons, List.any_nil, List.flatten_cons, List.flatten_nil, List.replicate_succ, List.replicate_zero, Bool.or_false, Bool.false_or, List.flatMap_cons, List.flatMap_nil, b8, b16]) | (with_reducible refine wgd_cases ?_ ?_ <;> intro hb) | (with_reducible refine wcond_cases ?_ ?_ <;> intro hb) | (with_reducible refine qd_i (by kernel_rfl) ?_) | (with_reducible refine W_itn_cases ?_ ?_; omega))
      refine W_hp (rnew_ok c p l _ _ hl hsz) ?_
      intro r hr
      rcases hr with ⟨he2, _⟩ | ⟨he2, k2, st2, nx2, rfl, hn2, hk2, hs2⟩
      · exact absurd he he2
      · repeat' (first | (simp -implicitDefEqProofs only [ze, zd, zr, simprocAttr, LR_pl, LR_hp, LR_hm, cunr_n, cunr_x, cunr_r, cunr_p, List.any_cons, List.any_nil, List.flatten_cons, List.flatten_nil, List.replicate_succ, List.replicate_zero, Bool.or_false, Bool.false_or, List.flatMap_cons, List.flatMap_nil]) | (with_reducible refine wgd_cases ?_ ?_ <;> intro hb) | (with_reducible refine wcond_cases ?_ ?_ <;> intro hb) | (with_reducible refine qd_i (by kernel_rfl) ?_) | (with_reducible refine W_itn_cases ?_ ?_; omega))
        refine loop_w (fun n tm st nx => ∃ (i : Nat) (a : Lk) (b : RLk) (S T : Nat → Prop), n = ops.length - i ∧ i ≤ ops.length ∧ tm 19 = .i64 i ∧ tm 3 = .list 39 (ops.map encOp) 0 ∧ tm 2 = .list 9 (l.map V.str) 0 ∧ tm 5 = .i64 d ∧ tm 6 = .i64 kd ∧ tm 11 = .ptr 24 0 ∧ tm 15 = .ptr k 0 ∧ tm 17 = .ptr k2 0 ∧ st 24 = some (.cells [.i64 q.1, .i64 q.2]) ∧ LK k a S st ∧ RLK k2 b T st ∧ (∀ j, S j → 32 ≤ j ∧ j < nx) ∧ (∀ j, T j → 32 ≤ j ∧ j < nx) ∧ (∀ j, S j → T j → False) ∧ KRel a b ∧ a.ev.length ≤ i ∧ b.ev.length ≤ i ∧ b.nm.length ≤ 210 ∧ 32 ≤ nx) _ ⟨0, newLk c p l, rnewLk c p l, _, _, rfl, by omega, ?_, ?_, ?_, ?_, ?_, ?_, ?_, ?_, ?_, hk.mono (fun _ h => h) (fun j hj => hs2 j (by omega)), hk2, fun j hj => by omega, fun j hj => by omega, fun j h1 h2 => by omega, KRel.new .., Nat.le_refl _, Nat.le_refl _, h210, by omega⟩ ?_
        · simp -implicitDefEqProofs only [ze, zd, simprocAttr]; try rfl
        · simp -implicitDefEqProofs only [ze, zd, simprocAttr]
        · simp -implicitDefEqProofs only [ze, zd, simprocAttr]
        · simp -implicitDefEqProofs only [ze, zd, simprocAttr]
        · simp -implicitDefEqProofs only [ze, zd, simprocAttr]
        · simp -implicitDefEqProofs only [ze, zd, simprocAttr]
        · simp -implicitDefEqProofs only [ze, zd, simprocAttr]
        · simp -implicitDefEqProofs only [ze, zd, simprocAttr]
        · rw [hs2 24 (by omega)]; exact b24
        rintro n tm st nx ⟨i, a, b, S, T, hn, hi, h19, h3, h2, h5, h6, h11, h15, h17, h24, hka, hkb, hS, hT, hST, hab, hla, hlb, hnm, h32⟩
        simp only [k3_l0]
        by_cases hc : i < ops.length
        · have hd : decide ((i : Int) < (ops.length : Int)) = true := decide_eq_true (by omega)
          obtain ⟨o, hs⟩ := get_lt hc
          obtain ⟨hoa, hou⟩ := ho o (List.mem_of_getElem? hs)
          repeat' (first | (simp -implicitDefEqProofs only [ze, zd, zr, simprocAttr, LR_pl, LR_hp, LR_hm, cunr_n, cunr_x, cunr_r, cunr_p, List.any_cons, List.any_nil, List.flatten_cons, List.flatten_nil, List.replicate_succ, List.replicate_zero, Bool.or_false, Bool.false_or, List.flatMap_cons, List.flatMap_nil, hd, h19, h3, h2, h5, h6, h11, h15, h17, hs, List.length_map, encOp, wnx_tb, wnx_tbn]) | (with_reducible refine wgd_cases ?_ ?_ <;> intro hb) | (with_reducible refine wcond_cases ?_ ?_ <;> intro hb) | (with_reducible refine W_itn_cases ?_ ?_; omega))
          refine W_hp (act_ok hka (fun j hj => by have := hS j hj; omega) (by omega) o hoa) ?_
          rintro _ ⟨st3, nx3, rfl, hn3, hk3, hkp⟩
          have hkb3 := hkb.mono (S' := T) (st' := st3) (fun _ h => h) (fun j hj => hkp j (by have := hT j hj; omega) (fun q => hST j q hj))
          have e3 : st3 24 = some (.cells [.i64 q.1, .i64 q.2]) := by rw [hkp 24 (by omega) (fun h => by have := hS _ h; omega)]; exact h24
          have hact := hab.act o
          have hlen := actK_len a o
          have hlenb := wantK_len b o
          repeat' (first | (simp -implicitDefEqProofs only [ze, zd, zr, simprocAttr, LR_pl, LR_hp, LR_hm, cunr_n, cunr_x, cunr_r, cunr_p, List.any_cons, List.any_nil, List.flatten_cons, List.flatten_nil, List.replicate_succ, List.replicate_zero, Bool.or_false, Bool.false_or, List.flatMap_cons, List.flatMap_nil, hd, h19, h3, h2, h5, h6, h11, h15, h17, hs, List.length_map, encOp, wnx_tb, wnx_tbn]) | (with_reducible refine wgd_cases ?_ ?_ <;> intro hb) | (with_reducible refine wcond_cases ?_ ?_ <;> intro hb) | (with_reducible refine W_itn_cases ?_ ?_; omega))
          refine W_hp (want_ok hkb3 (fun j hj => by have := hT j hj; omega) (by omega) (by omega) o hoa hou) ?_
          rintro _ ⟨st4, nx4, rfl, hn4, hk4, hkp4⟩
          have e4 : st4 24 = some (.cells [.i64 q.1, .i64 q.2]) := by rw [hkp4 24 (by omega) (fun h => by have := hT _ h; omega)]; exact e3
          have hk3' : LK k (actK a o).1 _ st4 := hk3.mono (fun _ h => h) fun j hj => hkp4 j (grown_lt (fun j hj => (hS j hj).2) (by omega) (by omega) j hj) fun q => hj.elim (fun h => hST j h q) (fun h => by have := hT j q; omega)
          have hS3 := grown_lt (n1 := nx + 248) (n2 := nx3) (m := nx4) (fun j hj => (hS j hj).2) (by omega) (by omega)
          have hT3 := grown_lt (n1 := nx3) (n2 := nx4) (m := nx4) (fun j hj => (hT j hj).2) (by omega) (by omega)
          rw [← hact.1]
          have g1 : decide ((actK a o).2 = (actK a o).2) = true := decide_eq_true rfl
          repeat' (first | (simp -implicitDefEqProofs only [ze, zd, zr, simprocAttr, LR_pl, LR_hp, LR_hm, cunr_n, cunr_x, cunr_r, cunr_p, List.any_cons, List.any_nil, List.flatten_cons, List.flatten_nil, List.replicate_succ, List.replicate_zero, Bool.or_false, Bool.false_or, List.flatMap_cons, List.flatMap_nil, hd, h19, h3, h2, h5, h6, h11, h15, h17, hs, e4, g1, bne_tt, List.length_map, encOp, wnx_tb, wnx_tbn]) | (with_reducible refine wgd_cases ?_ ?_ <;> intro hb) | (with_reducible refine wcond_cases ?_ ?_ <;> intro hb) | (with_reducible refine W_itn_cases ?_ ?_; omega))
          refine W_hp (same_ok hk3' hk4 hS3 hT3 hact.2 (by rw [hlenb.2]; omega) o.ent q d kd) ?_
          rintro _ ⟨st5, nx5, rfl, hn5, hkp5⟩
          repeat' (first | (simp -implicitDefEqProofs only [ze, zd, zr, simprocAttr, LR_pl, LR_hp, LR_hm, cunr_n, cunr_x, cunr_r, cunr_p, List.any_cons, List.any_nil, List.flatten_cons, List.flatten_nil, List.replicate_succ, List.replicate_zero, Bool.or_false, Bool.false_or, List.flatMap_cons, List.flatMap_nil, hd, h19, h3, h2, h5, h6, h11, h15, h17, hs, e4, g1, bne_tt, List.length_map, encOp, wnx_tb, wnx_tbn]) | (with_reducible refine wgd_cases ?_ ?_ <;> intro hb) | (with_reducible refine wcond_cases ?_ ?_ <;> intro hb) | (with_reducible refine W_itn_cases ?_ ?_; omega))
          refine qd_2 (recsOk2_thin [] (by kernel_rfl) (fun q hq => nomatch hq)) ?_
          repeat' (first | (simp -implicitDefEqProofs only [ze, zd, zr, simprocAttr, LR_pl, LR_hp, LR_hm, cunr_n, cunr_x, cunr_r, cunr_p, List.any_cons, List.any_nil, List.flatten_cons, List.flatten_nil, List.replicate_succ, List.replicate_zero, Bool.or_false, Bool.false_or, List.flatMap_cons, List.flatMap_nil, hd, h19, h3, h2, h5, h6, h11, h15, h17, hs, e4, g1, bne_tt, List.length_map, encOp, wnx_tb, wnx_tbn]) | (with_reducible refine wgd_cases ?_ ?_ <;> intro hb) | (with_reducible refine wcond_cases ?_ ?_ <;> intro hb) | (with_reducible refine W_itn_cases ?_ ?_; omega))
          refine ⟨ops.length - (i + 1), by omega, i + 1, (actK a o).1, (wantK b o).1, _, _, rfl, by omega, up64 (by omega), ?_, hk3'.mono (fun _ h => h) (fun j hj => hkp5 j (hS3 j hj)), hk4.mono (fun _ h => h) (fun j hj => hkp5 j (hT3 j hj)), fun j hj => ⟨?_, by have := hS3 j hj; omega⟩, fun j hj => ⟨?_, by have := hT3 j hj; omega⟩, fun j h1 h2 => ?_, hact.2, by omega, by omega, by rw [hlenb.2]; exact hnm, by omega⟩
          · rw [hkp5 24 (by omega)]; exact e4
          · rcases hj with hj | hj
            · exact (hS j hj).1
            · omega
          · rcases hj with hj | hj
            · exact (hT j hj).1
            · omega
          · rcases h1 with h1 | h1 <;> rcases h2 with h2 | h2
            · exact hST j h1 h2
            · have := hS j h1; omega
            · have := hT j h2; omega
            · omega
        · have hd : decide ((i : Int) < (ops.length : Int)) = false := decide_eq_false (by omega)
          repeat' (first | (simp -implicitDefEqProofs only [ze, zd, zr, simprocAttr, LR_pl, LR_hp, LR_hm, cunr_n, cunr_x, cunr_r, cunr_p, List.any_cons, List.any_nil, List.flatten_cons, List.flatten_nil, List.replicate_succ, List.replicate_zero, Bool.or_false, Bool.false_or, List.flatMap_cons, List.flatMap_nil, hd, h19, h3, h2, h5, h6, h11, h15, h17, List.length_map, k3_t1]) | (with_reducible refine wgd_cases ?_ ?_ <;> intro hb) | (with_reducible refine wcond_cases ?_ ?_ <;> intro hb) | (with_reducible refine W_itn_cases ?_ ?_; omega))
          refine loop_w (fun n tm st nx => ∃ (j : Nat), n = l.length - j ∧ j ≤ l.length ∧ tm 20 = .i64 j ∧ tm 2 = .list 9 (l.map V.str) 0 ∧ tm 5 = .i64 d ∧ tm 6 = .i64 kd ∧ tm 11 = .ptr 24 0 ∧ tm 15 = .ptr k 0 ∧ tm 17 = .ptr k2 0 ∧ st 24 = some (.cells [.i64 q.1, .i64 q.2]) ∧ LK k a S st ∧ RLK k2 b T st ∧ (∀ j, S j → j < nx) ∧ (∀ j, T j → j < nx) ∧ 32 ≤ nx) _ ⟨0, rfl, by omega, ?_, ?_, ?_, ?_, ?_, ?_, ?_, h24, hka, hkb, fun j hj => by have := hS j hj; omega, fun j hj => by have := hT j hj; omega, by omega⟩ ?_
          · simp -implicitDefEqProofs only [ze, zd, simprocAttr]; try rfl
          · simp -implicitDefEqProofs only [ze, zd, simprocAttr]; exact h2
          · simp -implicitDefEqProofs only [ze, zd, simprocAttr]; exact h5
          · simp -implicitDefEqProofs only [ze, zd, simprocAttr]; exact h6
          · simp -implicitDefEqProofs only [ze, zd, simprocAttr]; exact h11
          · simp -implicitDefEqProofs only [ze, zd, simprocAttr]; exact h15
          · simp -implicitDefEqProofs only [ze, zd, simprocAttr]; exact h17
          clear h19 h3 h2 h5 h6 h11 h15 h17 h24 hka hkb hS hT hd
          rintro n tm st nx ⟨j, hn, hj, h20, h2, h5, h6, h11, h15, h17, h24, hka, hkb, hS, hT, h32⟩
          simp only [k3_l1]
          have last : ∀ (tm : Nat → V) (n : Nat), nx ≤ n → tm 15 = .ptr k 0 → tm 17 = .ptr k2 0 → wc Tryd.prog LR k3_t0 (RQ [KR.t 14] (PQR fun r => r = CR.ret (V.bool true))) ⟨tm, st, n⟩ := by
            intro tm n hnn h15 h17
            simp only [k3_t0]
            repeat' (first | (simp -implicitDefEqProofs only [ze, zd, zr, simprocAttr, LR_pl, LR_hp, LR_hm, cunr_n, cunr_x, cunr_r, cunr_p, List.any_cons, List.any_nil, List.flatten_cons, List.flatten_nil, List.replicate_succ, List.replicate_zero, Bool.or_false, Bool.false_or, List.flatMap_cons, List.flatMap_nil, h15, h17, wnx_tb, wnx_tbn]) | (with_reducible refine wgd_cases ?_ ?_ <;> intro hb) | (with_reducible refine wcond_cases ?_ ?_ <;> intro hb) | (with_reducible refine W_itn_cases ?_ ?_; omega))
            refine W_hp (evs_ok hka (fun j hj => by have := hS j hj; omega) (by omega)) ?_
            rintro _ ⟨v, st2, nx2, rfl, hn2, hv, hs2⟩
            have hkb2 := hkb.mono (S' := T) (st' := st2) (fun _ h => h) (fun j hj => hs2 j (by have := hT j hj; omega))
            obtain ⟨vn, vf, va, ve, hq⟩ := hkb2
            have hq' := hq
            rw [hab.ev] at hv
            have hse := sameev_ok b.ev
            have hel : b.ev.length < 4611686018427387904 := by omega
            rcases hv with ⟨z0, z1, rfl⟩ | ⟨z0, id, z1, rfl, z3⟩
            · rcases hq.he with ⟨y0, y1, rfl⟩ | ⟨y0, id2, y1, rfl, y3⟩
              · have hse := hse 0 1 0 1 (.inl (List.eq_nil_of_length_eq_zero y0)) (.inl (List.eq_nil_of_length_eq_zero y0)) hel
                rw [List.eq_nil_of_length_eq_zero y0, List.map_nil] at hse
                repeat' (first | (simp -implicitDefEqProofs only [ze, zd, zr, simprocAttr, LR_pl, LR_hp, LR_hm, cunr_n, cunr_x, cunr_r, cunr_p, List.any_cons, List.any_nil, List.flatten_cons, List.flatten_nil, List.replicate_succ, List.replicate_zero, Bool.or_false, Bool.false_or, List.flatMap_cons, List.flatMap_nil, h15, h17, hq.hk, hse, klives_ok, wnx_tb, wnx_tbn]) | (with_reducible refine wgd_cases ?_ ?_ <;> intro hb) | (with_reducible refine wcond_cases ?_ ?_ <;> intro hb) | (with_reducible refine W_itn_cases ?_ ?_; omega))
                refine qd_2 (recsOk2_thin [(1, 5)] (by kernel_rfl) ?_) ?_
                · intro q hq
                  rw [List.mem_singleton] at hq
                  subst hq
                  simp only [pairOk, bigF, δF, rF, seqSt, List.getElem?_cons_succ, List.getElem?_cons_zero, Option.bind_some, Option.map_some, Option.getD_some, upds_nil]
                  refine ⟨trivial, fun j hj => ?_⟩
                  rw [List.mem_singleton] at hj
                  rw [hj]; exact hs2 _ (by have := hT _ hq'.sk; omega)
                repeat' (first | (simp -implicitDefEqProofs only [ze, zd, zr, simprocAttr, LR_pl, LR_hp, LR_hm, cunr_n, cunr_x, cunr_r, cunr_p, List.any_cons, List.any_nil, List.flatten_cons, List.flatten_nil, List.replicate_succ, List.replicate_zero, Bool.or_false, Bool.false_or, List.flatMap_cons, List.flatMap_nil, h15, h17, hq.hk, hse, klives_ok, wnx_tb, wnx_tbn]) | (with_reducible refine wgd_cases ?_ ?_ <;> intro hb) | (with_reducible refine wcond_cases ?_ ?_ <;> intro hb) | (with_reducible refine W_itn_cases ?_ ?_; omega))
              · omega
            · rcases hq.he with ⟨y0, y1, rfl⟩ | ⟨y0, id2, y1, rfl, y3⟩
              · omega
              · have hse := hse 50 0 50 0 (.inr rfl) (.inr rfl) hel
                have ne1 : (id = id2) = False := eq_false fun q => by have := hT _ y1; omega
                have ne2 : (id2 = id) = False := eq_false fun q => by have := hT _ y1; omega
                have hcp := evC_pur b.ev
                have hcc := evC_chunk b.ev
                have hcl : b.ev.length * 5 ≤ (b.ev.flatMap evC).length := by rw [evC_len]; exact Nat.le_refl _
                repeat' (first | (simp -implicitDefEqProofs only [ze, zd, zr, simprocAttr, LR_pl, LR_hp, LR_hm, cunr_n, cunr_x, cunr_r, cunr_p, List.any_cons, List.any_nil, List.flatten_cons, List.flatten_nil, List.replicate_succ, List.replicate_zero, Bool.or_false, Bool.false_or, List.flatMap_cons, List.flatMap_nil, h15, h17, hq.hk, hse, klives_ok, z3, y3, ne1, ne2, hcp, hcc, hcl, Option.map_some, Option.bind_some, Bool.or_self, upds, upd, List.foldl_cons, List.foldl_nil, wnx_tb, wnx_tbn]) | (with_reducible refine wgd_cases ?_ ?_ <;> intro hb) | (with_reducible refine wcond_cases ?_ ?_ <;> intro hb) | (with_reducible refine W_itn_cases ?_ ?_; omega))
                refine qd_2 (recsOk2_thin [(1, 5)] (by kernel_rfl) ?_) ?_
                · intro q hq
                  rw [List.mem_singleton] at hq
                  subst hq
                  simp only [pairOk, bigF, δF, rF, seqSt, List.getElem?_cons_succ, List.getElem?_cons_zero, Option.bind_some, Option.map_some, Option.getD_some, upds_nil]
                  refine ⟨trivial, fun j hj => ?_⟩
                  rw [List.mem_singleton] at hj
                  rw [hj]; exact hs2 _ (by have := hT _ hq'.sk; omega)
                repeat' (first | (simp -implicitDefEqProofs only [ze, zd, zr, simprocAttr, LR_pl, LR_hp, LR_hm, cunr_n, cunr_x, cunr_r, cunr_p, List.any_cons, List.any_nil, List.flatten_cons, List.flatten_nil, List.replicate_succ, List.replicate_zero, Bool.or_false, Bool.false_or, List.flatMap_cons, List.flatMap_nil, h15, h17, hq.hk, hse, klives_ok, wnx_tb, wnx_tbn]) | (with_reducible refine wgd_cases ?_ ?_ <;> intro hb) | (with_reducible refine wcond_cases ?_ ?_ <;> intro hb) | (with_reducible refine W_itn_cases ?_ ?_; omega))
          by_cases hc2 : j < l.length
          · have hd : decide ((j : Int) < (l.length : Int)) = true := decide_eq_true (by omega)
            by_cases hc5 : j < 5
            · have hd5 : decide ((j : Int) < 5) = true := decide_eq_true (by omega)
              obtain ⟨s, hs⟩ := get_lt hc2
              repeat' (first | (simp -implicitDefEqProofs only [ze, zd, zr, simprocAttr, LR_pl, LR_hp, LR_hm, cunr_n, cunr_x, cunr_r, cunr_p, List.any_cons, List.any_nil, List.flatten_cons, List.flatten_nil, List.replicate_succ, List.replicate_zero, Bool.or_false, Bool.false_or, List.flatMap_cons, List.flatMap_nil, hd, hd5, h20, h2, h5, h6, h11, h15, h17, hs, h24, List.length_map, wnx_tb, wnx_tbn]) | (with_reducible refine wgd_cases ?_ ?_ <;> intro hb) | (with_reducible refine wcond_cases ?_ ?_ <;> intro hb) | (with_reducible refine W_itn_cases ?_ ?_; omega))
              refine W_hp (same_ok hka hkb (fun j hj => by have := hS j hj; omega) (fun j hj => by have := hT j hj; omega) hab (by omega) s q d kd) ?_
              rintro _ ⟨st5, nx5, rfl, hn5, hkp5⟩
              repeat' (first | (simp -implicitDefEqProofs only [ze, zd, zr, simprocAttr, LR_pl, LR_hp, LR_hm, cunr_n, cunr_x, cunr_r, cunr_p, List.any_cons, List.any_nil, List.flatten_cons, List.flatten_nil, List.replicate_succ, List.replicate_zero, Bool.or_false, Bool.false_or, List.flatMap_cons, List.flatMap_nil, hd, hd5, h20, h2, h5, h6, h11, h15, h17, hs, h24, List.length_map, wnx_tb, wnx_tbn]) | (with_reducible refine wgd_cases ?_ ?_ <;> intro hb) | (with_reducible refine wcond_cases ?_ ?_ <;> intro hb) | (with_reducible refine W_itn_cases ?_ ?_; omega))
              refine qd_2 (recsOk2_thin [] (by kernel_rfl) (fun q hq => nomatch hq)) ?_
              repeat' (first | (simp -implicitDefEqProofs only [ze, zd, zr, simprocAttr, LR_pl, LR_hp, LR_hm, cunr_n, cunr_x, cunr_r, cunr_p, List.any_cons, List.any_nil, List.flatten_cons, List.flatten_nil, List.replicate_succ, List.replicate_zero, Bool.or_false, Bool.false_or, List.flatMap_cons, List.flatMap_nil, hd, hd5, h20, h2, h5, h6, h11, h15, h17, hs, h24, List.length_map, wnx_tb, wnx_tbn]) | (with_reducible refine wgd_cases ?_ ?_ <;> intro hb) | (with_reducible refine wcond_cases ?_ ?_ <;> intro hb) | (with_reducible refine W_itn_cases ?_ ?_; omega))
              exact ⟨l.length - (j + 1), by omega, j + 1, rfl, by omega, up64 (by omega), by rw [hkp5 24 (by omega)]; exact h24, hka.mono (fun _ h => h) (fun j hj => hkp5 j (by have := hS j hj; omega)), hkb.mono (fun _ h => h) (fun j hj => hkp5 j (by have := hT j hj; omega)), fun j hj => by have := hS j hj; omega, fun j hj => by have := hT j hj; omega, by omega⟩
            · have hd5 : decide ((j : Int) < 5) = false := decide_eq_false (by omega)
              repeat' (first | (simp -implicitDefEqProofs only [ze, zd, zr, simprocAttr, LR_pl, LR_hp, LR_hm, cunr_n, cunr_x, cunr_r, cunr_p, List.any_cons, List.any_nil, List.flatten_cons, List.flatten_nil, List.replicate_succ, List.replicate_zero, Bool.or_false, Bool.false_or, List.flatMap_cons, List.flatMap_nil, hd, hd5, h20, h2, h5, h6, h11, h15, h17, h24, List.length_map]) | (with_reducible refine wgd_cases ?_ ?_ <;> intro hb) | (with_reducible refine wcond_cases ?_ ?_ <;> intro hb) | (with_reducible refine W_itn_cases ?_ ?_; omega))
              refine last _ _ (by omega) ?_ ?_
              · simp -implicitDefEqProofs only [ze, zd, simprocAttr]; exact h15
              · simp -implicitDefEqProofs only [ze, zd, simprocAttr]; exact h17
          · have hd : decide ((j : Int) < (l.length : Int)) = false := decide_eq_false (by omega)
            repeat' (first | (simp -implicitDefEqProofs only [ze, zd, zr, simprocAttr, LR_pl, LR_hp, LR_hm, cunr_n, cunr_x, cunr_r, cunr_p, List.any_cons, List.any_nil, List.flatten_cons, List.flatten_nil, List.replicate_succ, List.replicate_zero, Bool.or_false, Bool.false_or, List.flatMap_cons, List.flatMap_nil, hd, h20, h2, h5, h6, h11, h15, h17, h24, List.length_map]) | (with_reducible refine wgd_cases ?_ ?_ <;> intro hb) | (with_reducible refine wcond_cases ?_ ?_ <;> intro hb) | (with_reducible refine W_itn_cases ?_ ?_; omega))
            refine last _ _ (by omega) ?_ ?_
            · simp -implicitDefEqProofs only [ze, zd, simprocAttr]; exact h15
            · simp -implicitDefEqProofs only [ze, zd, simprocAttr]; exact h17
end Go.Proofs.YthgmhlpjbednpaaDoor.Vm
namespace Go.Proofs.YthgmhlpjbednpaaDoor.locksPlays
open Go.ChangeShapes Go.WideShapes Go.ChangeAt Go.RowKit Go.Proofs Go.Proofs.YthgmhlpjbednpaaDoor.Vm
set_option linter.unusedVariables false
theorem own : ownKnob Tryd.prog.godebug = none := by kernel_rfl
theorem laidOut : laidOutB Tryd.prog = true := by kernel_rfl
set_option maxRecDepth 100000 in
theorem door_met (os : Os) (args : Array Value) : laidMetH Tryd.prog Rows.locksPlaysRow.laid ((World.doorLaid Tryd.prog 400 os).forCall (fun _ _ => 0) ⟨#[], args, []⟩).memory :=
  laidMetH_of_parts3 (fuel := 8) (laidMet_of_run' 8 (by kernel_rfl) (by kernel_rfl)) (by kernel_rfl) (by kernel_rfl)
set_option maxRecDepth 100000 in
theorem lifted (os : Os) (started : os.Started) (H : Type) (enc : TypeId × Value → H) :
    ReturnsInHanded {} Tryd.checked os 3 .any (fun w args => (Rows.locksPlaysSpec.pre enc Tryd.prog Tryd.f3 [] false w args ∧ laidMetH Tryd.prog Rows.locksPlaysRow.laid w) ∧ sizedMet enc Tryd.prog Tryd.f3 (OpenSpec.ofChange Rows.locksPlaysSpec) false w args) (Rows.locksPlaysSpec.post enc Tryd.prog Tryd.f3 false true false false) := by
  refine returnsInHanded_of_change_and (C := Tryd.checked) (X := fun w _ => laidMetH Tryd.prog Rows.locksPlaysRow.laid w) (fun _ _ _ hh h => h.of_heap hh) own started (by kernel_rfl) Tryd.func3
    (ChangeSpec.witness_shaped (enc := enc) (C := Tryd.checked) (os := os) (X := fun w _ => laidMetH Tryd.prog Rows.locksPlaysRow.laid w) false (World.doorLaid Tryd.prog 400 os) #[.agg #[.int .i64 0], .agg #[.int .i64 0, .int .i64 0], .slice none 0 0, .slice none 0 0, .agg #[.int .i64 0, .int .i64 0], .int .i64 0, .int .i64 0] 8 rfl (World.shaped_of_RefB (by kernel_rfl) (by kernel_rfl)) (by kernel_rfl) (by kernel_rfl) (by kernel_rfl) (door_met os _)) ?_
  intro W base args ds gs before hval0 hW hcnd hsz0 hL _
  have hval : ∀ (j : Nat) t v, Tryd.f3.params[j]? = some t → args[j]? = some v → Value.okWide Tryd.prog W .any base t v := hval0
  have hW' := hW
  obtain ⟨p, q, hA0, hV, rfl, hfz, hnd⟩ := hW
  have hA : DataW.TrodAll enc Tryd.prog W 0 (fun _ => true) true Tryd.f3.params.toList args.toList ds p := hA0
  rw [Tryd.params3] at hA hval
  obtain ⟨v0, vs0, d0, ds0, p0, q0, hargs, rfl, rfl, h0, r0⟩ := trodAll_cons hA
  obtain ⟨v1, vs1, d1, ds1, p1, q1, rfl, rfl, rfl, h1, r1⟩ := trodAll_cons r0
  obtain ⟨v2, vs2, d2, ds2, p2, q2, rfl, rfl, rfl, h2, r2⟩ := trodAll_cons r1
  obtain ⟨v3, vs3, d3, ds3, p3, q3, rfl, rfl, rfl, h3, r3⟩ := trodAll_cons r2
  obtain ⟨v4, vs4, d4, ds4, p4, q4, rfl, rfl, rfl, h4, r4⟩ := trodAll_cons r3
  obtain ⟨v5, vs5, d5, ds5, p5, q5, rfl, rfl, rfl, h5, r5⟩ := trodAll_cons r4
  obtain ⟨v6, vs6, d6, ds6, p6, q6, rfl, rfl, rfl, h6, r6⟩ := trodAll_cons r5
  obtain ⟨rfl, rfl, rfl⟩ := trodAll_nil r6
  obtain rfl : args = #[v0, v1, v2, v3, v4, v5, v6] := by cases args; simp_all
  obtain ⟨rfl, rfl⟩ := trodVars_none hV
  have hw0 : ∀ n ∈ d0.weights Tryd.prog 23, n ≤ reachBytes := fun n hn => by have := List.all_eq_true.1 hsz0 n (DataW.weights_mem_each (t := 23) (d := d0) (j := 0) (by kernel_rfl) rfl n hn); simpa using this
  have k0 := h0
  have lt0 : ∀ x ∈ p0, x.block < W.heap.size := by obtain ⟨m, hm⟩ := k0; exact DataW.trod_lt m _ _ _ hm
  obtain ⟨cs0, rfl, hzz0⟩ := okWide_struct Tryd.underlying23 (hval 0 23 v0 rfl rfl)
  obtain ⟨fuel0, hf0⟩ := h0
  obtain ⟨x0, K0, o0, g0⟩ := opCal hf0 hw0
  have R0 : RepP Tryd.prog (pw W) (encCal x0) (.agg cs0) := by
    have e : (.agg cs0 : Value) = .agg cs0.toList.toArray := by simp
    rw [e]; exact .agg o0 K0
  have hw1 : ∀ n ∈ d1.weights Tryd.prog 25, n ≤ reachBytes := fun n hn => by have := List.all_eq_true.1 hsz0 n (DataW.weights_mem_each (t := 25) (d := d1) (j := 1) (by kernel_rfl) rfl n hn); simpa using this
  have k1 := h1
  have lt1 : ∀ x ∈ p1, x.block < W.heap.size := by obtain ⟨m, hm⟩ := k1; exact DataW.trod_lt m _ _ _ hm
  obtain ⟨cs1, rfl, hzz1⟩ := okWide_struct Tryd.underlying25 (hval 1 25 v1 rfl rfl)
  obtain ⟨fuel1, hf1⟩ := h1
  obtain ⟨x1, K1, o1, g1⟩ := opPer hf1 hw1
  have R1 : RepP Tryd.prog (pw W) (encPer x1) (.agg cs1) := by
    have e : (.agg cs1 : Value) = .agg cs1.toList.toArray := by simp
    rw [e]; exact .agg o1 K1
  have hw2 : ∀ n ∈ d2.weights Tryd.prog 26, n ≤ reachBytes := fun n hn => by have := List.all_eq_true.1 hsz0 n (DataW.weights_mem_each (t := 26) (d := d2) (j := 2) (by kernel_rfl) rfl n hn); simpa using this
  have k2 := h2
  have lt2 : ∀ x ∈ p2, x.block < W.heap.size := by obtain ⟨m, hm⟩ := k2; exact DataW.trod_lt m _ _ _ hm
  obtain ⟨a2, len2, cap2, rfl⟩ := okWide_slice Tryd.underlying26 (hval 2 26 v2 rfl rfl)
  obtain ⟨fuel2, hf2⟩ := h2
  obtain ⟨x2, K2, o2, g2⟩ := opStrs hf2 hw2
  have R2 : RepP Tryd.prog (pw W) (V.list 9 (x2.map V.str) 0) (.slice a2 len2 cap2) := by
    cases K2 with
    | cons h _ => exact h
  have hw3 : ∀ n ∈ d3.weights Tryd.prog 27, n ≤ reachBytes := fun n hn => by have := List.all_eq_true.1 hsz0 n (DataW.weights_mem_each (t := 27) (d := d3) (j := 3) (by kernel_rfl) rfl n hn); simpa using this
  have k3 := h3
  have lt3 : ∀ x ∈ p3, x.block < W.heap.size := by obtain ⟨m, hm⟩ := k3; exact DataW.trod_lt m _ _ _ hm
  obtain ⟨a3, len3, cap3, rfl⟩ := okWide_slice Tryd.underlying27 (hval 3 27 v3 rfl rfl)
  obtain ⟨fuel3, hf3⟩ := h3
  obtain ⟨x3, K3, o3, g3⟩ := opOps hf3 hw3
  have R3 : RepP Tryd.prog (pw W) (V.list 39 (x3.map encOp) 0) (.slice a3 len3 cap3) := by
    cases K3 with
    | cons h _ => exact h
  have hw4 : ∀ n ∈ d4.weights Tryd.prog 25, n ≤ reachBytes := fun n hn => by have := List.all_eq_true.1 hsz0 n (DataW.weights_mem_each (t := 25) (d := d4) (j := 4) (by kernel_rfl) rfl n hn); simpa using this
  have k4 := h4
  have lt4 : ∀ x ∈ p4, x.block < W.heap.size := by obtain ⟨m, hm⟩ := k4; exact DataW.trod_lt m _ _ _ hm
  obtain ⟨cs4, rfl, hzz4⟩ := okWide_struct Tryd.underlying25 (hval 4 25 v4 rfl rfl)
  obtain ⟨fuel4, hf4⟩ := h4
  obtain ⟨x4, K4, o4, g4⟩ := opPer hf4 hw4
  have R4 : RepP Tryd.prog (pw W) (encPer x4) (.agg cs4) := by
    have e : (.agg cs4 : Value) = .agg cs4.toList.toArray := by simp
    rw [e]; exact .agg o4 K4
  have hw5 : ∀ n ∈ d5.weights Tryd.prog 3, n ≤ reachBytes := fun n hn => by have := List.all_eq_true.1 hsz0 n (DataW.weights_mem_each (t := 3) (d := d5) (j := 5) (by kernel_rfl) rfl n hn); simpa using this
  have k5 := h5
  have lt5 : ∀ x ∈ p5, x.block < W.heap.size := by obtain ⟨m, hm⟩ := k5; exact DataW.trod_lt m _ _ _ hm
  obtain ⟨n5, rfl⟩ := okWide_int Tryd.underlying3 (hval 5 3 v5 rfl rfl)
  obtain ⟨fuel5, hf5⟩ := h5
  obtain ⟨x5, K5, o5, g5⟩ := opV_int Tryd.underlying3 hf5 hw5
  have R5 : RepP Tryd.prog (pw W) (V.i64 x5) (.int .i64 n5) := by
    cases K5 with
    | cons h _ => exact h
  have hw6 : ∀ n ∈ d6.weights Tryd.prog 3, n ≤ reachBytes := fun n hn => by have := List.all_eq_true.1 hsz0 n (DataW.weights_mem_each (t := 3) (d := d6) (j := 6) (by kernel_rfl) rfl n hn); simpa using this
  have k6 := h6
  have lt6 : ∀ x ∈ p6, x.block < W.heap.size := by obtain ⟨m, hm⟩ := k6; exact DataW.trod_lt m _ _ _ hm
  obtain ⟨n6, rfl⟩ := okWide_int Tryd.underlying3 (hval 6 3 v6 rfl rfl)
  obtain ⟨fuel6, hf6⟩ := h6
  obtain ⟨x6, K6, o6, g6⟩ := opV_int Tryd.underlying3 hf6 hw6
  have R6 : RepP Tryd.prog (pw W) (V.i64 x6) (.int .i64 n6) := by
    cases K6 with
    | cons h _ => exact h
  have hx := kplays_ok x0 x1 x2 x3 x4 x5 x6 (fun o ho => ⟨wf_u8 (g3.2 o ho).1, by have := (g3.2 o ho).2.2; have hr : reachBytes = 140737488351232 := rfl; omega⟩) (by have := g2.1; have hr : reachBytes = 140737488351232 := rfl; omega) (fun s hs => by have := g2.2 s hs; have hr : reachBytes = 140737488351232 := rfl; omega)
  refine (lim_bool (p := pw W) progOK extS_ok (f := 3) (by kernel_rfl) hx (glOK_of (lens_of_laid hL)) (fun _ _ _ h => h) (.cons R0 (.cons R1 (.cons R2 (.cons R3 (.cons R4 (.cons R5 (.cons R6 .nil)))))))).mono fun e W' ⟨he, bel0⟩ => ?_
  have bel : Below W.heap.size W W' := bel0
  subst he
  exact ⟨_, rfl, _, _, _, [], _, [], hW', trodAll_mk1 (shut_bool Tryd.underlying4 _), (trodAll_cons_mk (Below.trod laidOut (by kernel_rfl) (of_decide_eq_true (by kernel_rfl)) k0 bel lt0) (trodAll_cons_mk (Below.trod laidOut (by kernel_rfl) (of_decide_eq_true (by kernel_rfl)) k1 bel lt1) (trodAll_cons_mk (Below.trod laidOut (by kernel_rfl) (of_decide_eq_true (by kernel_rfl)) k2 bel lt2) (trodAll_cons_mk (Below.trod laidOut (by kernel_rfl) (of_decide_eq_true (by kernel_rfl)) k3 bel lt3) (trodAll_cons_mk (Below.trod laidOut (by kernel_rfl) (of_decide_eq_true (by kernel_rfl)) k4 bel lt4) (trodAll_cons_mk (Below.trod laidOut (by kernel_rfl) (of_decide_eq_true (by kernel_rfl)) k5 bel lt5) (trodAll_cons_mk (Below.trod laidOut (by kernel_rfl) (of_decide_eq_true (by kernel_rfl)) k6 bel lt6) trodAll_mk0))))))), rfl, bel.frame _, fun h => by cases h⟩
theorem over : Rows.locksPlaysRow.holds Tryd.pinned (OpenSpec.ofChange Rows.locksPlaysSpec) :=
  OpenClaim.holds_of_wide 3 Tryd.f3 rfl rfl rfl rfl rfl rfl rfl ⟨rfl, rfl, rfl, rfl, rfl⟩ rfl rfl rfl rfl rfl (by kernel_rfl) Tryd.func3 (by kernel_rfl)
    (of_decide_eq_true (by kernel_rfl)) (by unfold Func.isWrapper; first | (rw [if_pos (by decide +kernel)]; kernel_rfl) | (rw [if_neg (by decide +kernel)]; exact ⟨rfl, rfl⟩))
    (fun os started H enc _ => lifted os started H enc)
theorem proved : Rows.LocksPlaysCardSaid :=
  Claim7.holds_tied_plain_at .later [] [.data] true (true, "5efddb6f47badd170cfb6ec46cf8324222e7b3173b02ece8e79ed712f74b6ba8") false
    over (fun _ h => by cases h) (by kernel_rfl) (fun _ h => by cases h) locksPlays_row_tie rfl ⟨rfl, rfl⟩ (by kernel_rfl) rfl
    (fun f fn hf hfn => by
      obtain rfl : f = 3 := Option.some.inj ((show Tryd.prog.funcNamed "accounting/accountinglaw16.LocksPlays" = some 3 by kernel_rfl).symm.trans hf) |>.symm
      obtain rfl : fn = Tryd.f3 := (Option.some.inj (Tryd.func3.symm.trans hfn)).symm
      exact ⟨by kernel_rfl, fun j t ht => by
        rw [Tryd.params3] at ht
        have hm : t ∈ [23, 25, 26, 27, 25, 3, 3] := by simpa using Array.mem_of_getElem? ht
        have hall : ([23, 25, 26, 27, 25, 3, 3].all fun u => !Tryd.prog.wantsStandIn u) = true := by kernel_rfl
        exact (show Tryd.prog.wantsStandIn t = false by simpa using List.all_eq_true.1 hall t hm)⟩)
    (by kernel_rfl)
end Go.Proofs.YthgmhlpjbednpaaDoor.locksPlays
namespace Go.Proofs.YthgmhlpjbednpaaDoor
theorem locksPlays_holds : Rows.LocksPlaysCardSaid := locksPlays.proved
end Go.Proofs.YthgmhlpjbednpaaDoor
