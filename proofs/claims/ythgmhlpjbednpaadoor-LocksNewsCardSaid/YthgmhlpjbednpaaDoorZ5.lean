/- Proved here: the law, on a machine over pure data, and what it needs, part 5. Conditions: none. -/
import Derived.Test.YthgmhlpjbednpaaDoorZ4
set_option maxRecDepth 10000
set_option linter.unusedVariables false
set_option linter.unusedSimpArgs false
namespace Go.Proofs.YthgmhlpjbednpaaDoor.Vm
open Go Go.Proofs
theorem upd_o {st : St} {i j : Nat} {o : Option Ob} (h : j ≠ i) : upd st i o j = st j := if_neg h
theorem upd_s {st : St} {i : Nat} {o : Option Ob} : upd st i o i = o := if_pos rfl
def rnewLk (c : Int) (p : Int × Int) (l : List ByteArray) : RLk := ⟨c, p, l, l.map fun _ => p, l.map fun _ => ⟨#[]⟩, []⟩
theorem idxR_any (s : ByteArray) (l : List ByteArray) : ((l.any fun d => decide (s = d)) = true → ∃ j, idxR l s = some j) ∧ ((l.any fun d => decide (s = d)) = false → idxR l s = none) := by
  induction l with
  | nil => exact ⟨fun h => by simp at h, fun _ => rfl⟩
  | cons d l ih =>
    simp only [List.any_cons, idxR, Bool.or_eq_true, Bool.or_eq_false_iff, decide_eq_true_eq, decide_eq_false_iff_not]
    refine ⟨fun h => ?_, fun h => ?_⟩
    · by_cases hs : d = s
      · exact ⟨0, by rw [if_pos hs]⟩
      · rw [if_neg hs]
        rcases h with h | h
        · exact absurd h.symm hs
        · obtain ⟨j, hj⟩ := ih.1 h
          exact ⟨j + 1, by rw [hj]; rfl⟩
    · rw [if_neg (fun q => h.1 q.symm), ih.2 h.2]; rfl
def RNewR (c : Int) (p : Int × Int) (l : List ByteArray) (st : St) (nx : Nat) (r : HR) : Prop :=
  (newErr c p l ≠ 0 ∧ ∃ st' nx', r = .ret (.tup [.sc (.pointer none), .i64 (newErr c p l)]) st' nx' ∧ nx ≤ nx' ∧ ∀ i, i < nx → st' i = st i) ∨
  (newErr c p l = 0 ∧ ∃ k st' nx', r = .ret (.tup [.ptr k 0, .i64 0]) st' nx' ∧ nx ≤ nx' ∧ RLK k (rnewLk c p l) (fun i => nx ≤ i ∧ i < nx') st' ∧ ∀ i, i < nx → st' i = st i)
theorem spanS_16 {c y n : Int} (h : rightC c = true) (h2 : (spanS c y n).2.2 ≠ 0) : (spanS c y n).2.2 = 16 := by
  unfold spanS at h2 ⊢
  rw [if_neg (by simp [h])] at h2 ⊢
  by_cases hx : exS c y n = false
  · rw [if_pos hx]
  · rw [if_neg hx] at h2
    split at h2 <;> exact absurd rfl h2
theorem spanS_2 {c y n : Int} (h : rightC c = false) : (spanS c y n).2.2 = 2 := by unfold spanS; rw [if_pos h]
set_option maxHeartbeats 2000000 in
theorem rnew_ok (c : Int) (p : Int × Int) (l : List ByteArray) (st : St) (nx : Nat) (hl : l.length < 4611686018427387904) (hsz : ∀ s ∈ l, s.size < 4611686018427387904) :
    W (L.hp 11 [.agg [.i64 c], .agg [.i64 p.1, .i64 p.2], .list 9 (l.map V.str) 0] st nx) (RNewR c p l st nx) := by
  refine hp_r k11_eq ?_
  simp only [k11]
  have hri := rright_ok c
  have hsp := rspan_ok c p.1 p.2
  have hE : newErr c p l = if (spanS c p.1 p.2).2.2 ≠ 0 then (spanS c p.1 p.2).2.2 else if 200 < l.length then 9 else newE [] l := rfl
  unfold RNewR
  have f1 : (nx = nx + 8) = False := eq_false (by omega)
  cases hr : rightC c with
  | false =>
    have e2 := spanS_2 (y := p.1) (n := p.2) hr
    have : newErr c p l = 2 := by rw [hE, e2]; rfl
    rw [this]
    rw [hr] at hri
    repeat' (first | (simp -implicitDefEqProofs only [ze, zd, zr, simprocAttr, LR_pl, LR_hp, LR_hm, cunr_n, cunr_x, cunr_r, cunr_p, List.any_cons, List.any_nil, List.flatten_cons, List.flatten_nil, List.replicate_succ, List.replicate_zero, Bool.or_false, Bool.false_or, List.flatMap_cons, List.flatMap_nil, hri, f1, ne_eq, not_true_eq_false]) | (with_reducible refine wgd_cases ?_ ?_ <;> intro hb) | (with_reducible refine wcond_cases ?_ ?_ <;> intro hb) | (with_reducible refine W_itn_cases ?_ ?_; omega))
    refine .inl ⟨by decide, _, _, rfl, by omega, fun i hi => ?_⟩
    simp (disch := omega) only [upds, upd, List.foldl_cons, List.foldl_nil, if_neg]
  | true =>
    rw [hr] at hri
    have e16 := spanS_16 (y := p.1) (n := p.2) hr
    rw [hE]
    generalize spanS c p.1 p.2 = s at hsp e16
    obtain ⟨s1, s2, s3⟩ := s
    simp only at e16
    by_cases h0 : s3 = 0
    · subst h0
      rw [if_neg (by simp)]
      by_cases h2 : 200 < l.length
      · have g2 : decide ((200 : Int) < (l.length : Int)) = true := decide_eq_true (by omega)
        rw [if_pos h2]
        repeat' (first | (simp -implicitDefEqProofs only [ze, zd, zr, simprocAttr, LR_pl, LR_hp, LR_hm, cunr_n, cunr_x, cunr_r, cunr_p, List.any_cons, List.any_nil, List.flatten_cons, List.flatten_nil, List.replicate_succ, List.replicate_zero, Bool.or_false, Bool.false_or, List.flatMap_cons, List.flatMap_nil, hri, hsp, f1, g2, List.length_map, ne_eq, not_true_eq_false, gt_iff_lt]) | (with_reducible refine wgd_cases ?_ ?_ <;> intro hb) | (with_reducible refine wcond_cases ?_ ?_ <;> intro hb) | (with_reducible refine W_itn_cases ?_ ?_; omega))
        refine .inl ⟨by decide, _, _, rfl, by omega, fun i hi => ?_⟩
        simp (disch := omega) only [upds, upd, List.foldl_cons, List.foldl_nil, if_neg]
      · have g2 : decide ((200 : Int) < (l.length : Int)) = false := decide_eq_false (by omega)
        rw [if_neg h2]
        repeat' (first | (simp -implicitDefEqProofs only [ze, zd, zr, simprocAttr, LR_pl, LR_hp, LR_hm, cunr_n, cunr_x, cunr_r, cunr_p, List.any_cons, List.any_nil, List.flatten_cons, List.flatten_nil, List.replicate_succ, List.replicate_zero, Bool.or_false, Bool.false_or, List.flatMap_cons, List.flatMap_nil, hri, hsp, f1, g2, List.length_map, ne_eq, not_true_eq_false, gt_iff_lt]) | (with_reducible refine wgd_cases ?_ ?_ <;> intro hb) | (with_reducible refine wcond_cases ?_ ?_ <;> intro hb) | (with_reducible refine W_itn_cases ?_ ?_; omega))
        refine loop_w (fun n tm st' nx' => ∃ (i : Nat) (vn vf va : V), n = l.length - i ∧ i ≤ l.length ∧ newE [] l = newE (l.take i) (l.drop i) ∧ tm 12 = .i64 i ∧ tm 2 = .list 9 (l.map V.str) 0 ∧ tm 11 = .ptr (nx + 200) 0 ∧ tm 4 = .ptr (nx + 8) 0 ∧ st' (nx + 8) = some (.cells [.i64 p.1, .i64 p.2]) ∧ nx + 224 ≤ nx' ∧ (∀ j, j < nx → st' j = st j) ∧
          RLKp (nx + 200) (rnewLk c p (l.take i)) (fun j => nx ≤ j ∧ j < nx') st' vn vf va (.list 0 [] 1)) _ ⟨0, .list 0 [] 1, .list 0 [] 1, .list 0 [] 1, rfl, by omega, rfl, ?_, ?_, ?_, ?_, ?_, by omega, fun j hj => ?_, ?_⟩ ?_
        · simp -implicitDefEqProofs only [ze, zd, simprocAttr]; try rfl
        · simp -implicitDefEqProofs only [ze, zd, simprocAttr]
        · simp -implicitDefEqProofs only [ze, zd, simprocAttr]
        · simp -implicitDefEqProofs only [ze, zd, simprocAttr]
        · simp [upd]
        · simp (disch := omega) only [upds, upd, List.foldl_cons, List.foldl_nil, if_neg]
        · exact ⟨by simp [upd, rnewLk], .inl ⟨rfl, rfl, rfl, rfl⟩, .inl ⟨rfl, rfl, rfl⟩, ⟨by omega, by omega⟩, rfl, rfl⟩
        rintro n tm st1 nx1 ⟨i, vn, vf, va, hn, hi, hne, h12, h2', h11, h4, h8, hnx, hst, hq⟩
        simp only [k11_l0]
        by_cases hc : i < l.length
        · have hd : decide ((i : Int) < (l.length : Int)) = true := decide_eq_true (by omega)
          obtain ⟨s, hs⟩ := get_lt hc
          have hdr : l.drop i = s :: l.drop (i + 1) := by
            rw [List.drop_eq_getElem_cons hc]
            have : l[i] = s := by have := hs; rw [List.getElem?_eq_getElem hc] at this; exact Option.some.inj this
            rw [this]
          have htk : l.take (i + 1) = l.take i ++ [s] := by rw [List.take_add_one, hs]; rfl
          have hcd := rcode_ok s (hsz s (List.mem_of_getElem? hs))
          rw [hdr, newE] at hne
          cases hcs : codeS s with
          | false =>
            rw [hcs] at hcd
            rw [hcs, if_pos rfl] at hne
            repeat' (first | (simp -implicitDefEqProofs only [ze, zd, zr, simprocAttr, LR_pl, LR_hp, LR_hm, cunr_n, cunr_x, cunr_r, cunr_p, List.any_cons, List.any_nil, List.flatten_cons, List.flatten_nil, List.replicate_succ, List.replicate_zero, Bool.or_false, Bool.false_or, List.flatMap_cons, List.flatMap_nil, hd, h12, h2', h11, h4, hs, List.length_map, hcd]) | (with_reducible refine wgd_cases ?_ ?_ <;> intro hb) | (with_reducible refine wcond_cases ?_ ?_ <;> intro hb) | (with_reducible refine W_itn_cases ?_ ?_; omega))
            rw [hne]
            refine .inl ⟨by decide, _, _, rfl, by omega, fun j hj => ?_⟩
            exact hst j hj
          | true =>
            rw [hcs] at hcd
            rw [hcs, if_neg (by decide)] at hne
            have hlt : (l.take i).length = i := by rw [List.length_take]; omega
            repeat' (first | (simp -implicitDefEqProofs only [ze, zd, zr, simprocAttr, LR_pl, LR_hp, LR_hm, cunr_n, cunr_x, cunr_r, cunr_p, List.any_cons, List.any_nil, List.flatten_cons, List.flatten_nil, List.replicate_succ, List.replicate_zero, Bool.or_false, Bool.false_or, List.flatMap_cons, List.flatMap_nil, hd, h12, h2', h11, h4, hs, List.length_map, hcd]) | (with_reducible refine wgd_cases ?_ ?_ <;> intro hb) | (with_reducible refine wcond_cases ?_ ?_ <;> intro hb) | (with_reducible refine W_itn_cases ?_ ?_; omega))
            refine W_hp (rat_ok ⟨vn, vf, va, _, hq⟩ (by show (l.take i).length ≤ _; omega) s) ?_
            rintro _ ⟨st2, nx2, rfl, hn2, hs2⟩
            show W (match some (HR.ret (V.i64 (atZ (l.take i) s)) st2 nx2) with | some (.ret v st' n) => some (R.big v st' n) | some (.pan v st' n) => some (.bpan v st' n) | none => none) _
            cases hdup : (l.take i).any fun d => decide (s = d) with
            | true =>
              rw [hdup, if_pos rfl] at hne
              obtain ⟨j0, hj0⟩ := (idxR_any s (l.take i)).1 hdup
              rw [atZ_some hj0]
              have gj : decide ((0 : Int) ≤ (j0 : Int)) = true := decide_eq_true (by omega)
              repeat' (first | (simp -implicitDefEqProofs only [ze, zd, zr, simprocAttr, LR_pl, LR_hp, LR_hm, cunr_n, cunr_x, cunr_r, cunr_p, List.any_cons, List.any_nil, List.flatten_cons, List.flatten_nil, List.replicate_succ, List.replicate_zero, Bool.or_false, Bool.false_or, List.flatMap_cons, List.flatMap_nil, gj]) | (with_reducible refine wgd_cases ?_ ?_ <;> intro hb) | (with_reducible refine wcond_cases ?_ ?_ <;> intro hb) | (with_reducible refine W_itn_cases ?_ ?_; omega))
              rw [hne]
              refine .inl ⟨by decide, _, _, rfl, by omega, fun j hj => ?_⟩
              rw [← hst j hj, hs2 j (by omega)]
            | false =>
              rw [hdup, if_neg (by decide), ← htk] at hne
              rw [atZ_none ((idxR_any s (l.take i)).2 hdup)]
              have q8 : st2 (nx + 8) = some (.cells [.i64 p.1, .i64 p.2]) := by rw [hs2 _ (by omega)]; exact h8
              have hqq := RLK.mono (S' := fun j => nx ≤ j ∧ j < nx1) (st' := st2) ⟨vn, vf, va, _, hq⟩ (fun _ h => h) (fun j hj => hs2 j (by omega))
              have hk2 : st2 (nx + 200) = some (.cells [.i64 c, .i64 p.1, .i64 p.2, vn, vf, va, .list 0 [] 1]) := by rw [hs2 _ (by omega)]; exact hq.hk
              have f1 : ∀ j, (nx + 200 = nx2 + j) = False := fun j => eq_false (by omega)
              have f2 : ∀ j, (nx2 + j = nx + 200) = False := fun j => eq_false (by omega)
              have f3 : ∀ j, (nx + 8 = nx2 + j) = False := fun j => eq_false (by omega)
              have f4 : ∀ j, (nx2 + j = nx + 8) = False := fun j => eq_false (by omega)
              have f5 : ∀ j, (nx = nx2 + j) = False := fun j => eq_false (by omega)
              have f6 : ∀ j, (nx2 + j = nx) = False := fun j => eq_false (by omega)
              have f7 : (nx + 8 = nx + 200) = False := eq_false (by omega)
              have f8 : (nx + 200 = nx + 8) = False := eq_false (by omega)
              have f9 : (nx = nx + 192) = False := eq_false (by omega)
              have gj : decide ((0 : Int) ≤ -1) = false := rfl
              have hlt2 : (l.take (i + 1)).length = i + 1 := by rw [List.length_take]; omega
              rcases hq.rows with ⟨z0, rfl, rfl, rfl⟩ | ⟨z0, n', f', g', t1, t2, t3, r1, rfl, rfl, rfl, r5, r6, r7⟩
              · repeat' (first | (simp -implicitDefEqProofs only [ze, zd, zr, simprocAttr, LR_pl, LR_hp, LR_hm, cunr_n, cunr_x, cunr_r, cunr_p, List.any_cons, List.any_nil, List.flatten_cons, List.flatten_nil, List.replicate_succ, List.replicate_zero, Bool.or_false, Bool.false_or, List.flatMap_cons, List.flatMap_nil, gj, h12, h2', h11, h4, hs, hk2, q8, f1, f2, f3, f4, f5, f6, f7, f8, f9, ne_eq, not_true_eq_false]) | (with_reducible refine wgd_cases ?_ ?_ <;> intro hb) | (with_reducible refine wcond_cases ?_ ?_ <;> intro hb) | (with_reducible refine W_itn_cases ?_ ?_; omega))
                refine qd_i (by simp [recsOk, ordB, Rec.free, Rec.wr, disj, List.range, List.range.loop, f1, f2, f3, f4, f5, f6, f7, f8, f9]; try (repeat' (first | apply And.intro | decide | omega | (left; decide) | (right; omega)))) ?_
                repeat' (first | (simp -implicitDefEqProofs only [ze, zd, zr, simprocAttr, LR_pl, LR_hp, LR_hm, cunr_n, cunr_x, cunr_r, cunr_p, List.any_cons, List.any_nil, List.flatten_cons, List.flatten_nil, List.replicate_succ, List.replicate_zero, Bool.or_false, Bool.false_or, List.flatMap_cons, List.flatMap_nil, gj, h12, h2', h11, h4, hs, hk2, q8, f1, f2, f3, f4, f5, f6, f7, f8, f9, ne_eq, not_true_eq_false]) | (with_reducible refine wgd_cases ?_ ?_ <;> intro hb) | (with_reducible refine wcond_cases ?_ ?_ <;> intro hb) | (with_reducible refine W_itn_cases ?_ ?_; omega))
                refine qd_i (by simp [recsOk, ordB, Rec.free, Rec.wr, disj, List.range, List.range.loop, f1, f2, f3, f4, f5, f6, f7, f8, f9]; try (repeat' (first | apply And.intro | decide | omega | (left; decide) | (right; omega)))) ?_
                repeat' (first | (simp -implicitDefEqProofs only [ze, zd, zr, simprocAttr, LR_pl, LR_hp, LR_hm, cunr_n, cunr_x, cunr_r, cunr_p, List.any_cons, List.any_nil, List.flatten_cons, List.flatten_nil, List.replicate_succ, List.replicate_zero, Bool.or_false, Bool.false_or, List.flatMap_cons, List.flatMap_nil, gj, h12, h2', h11, h4, hs, hk2, q8, f1, f2, f3, f4, f5, f6, f7, f8, f9, ne_eq, not_true_eq_false]) | (with_reducible refine wgd_cases ?_ ?_ <;> intro hb) | (with_reducible refine wcond_cases ?_ ?_ <;> intro hb) | (with_reducible refine W_itn_cases ?_ ?_; omega))
                have z1 : l.take i = [] := z0
                have zi : i = 0 := by rw [z1] at hlt; simpa using hlt.symm
                subst zi
                rw [show l.take (0 + 1) = [s] from by rw [htk, z1]; rfl] at hne
                refine ⟨l.length - (0 + 1), by omega, 0 + 1, .sl 9 false 1 (nx2 + 80) 0 1, .sl 25 true 2 (nx2 + 168) 0 1, .sl 9 false 1 (nx2 + 248) 0 1, rfl, by omega, ?_, ?_, by omega, fun j hj => ?_, ?_⟩
                · rw [show l.take (0 + 1) = [s] from by rw [htk, z1]; rfl]; exact hne
                · rw [wrap_i64 (by omega) (by omega)]; rfl
                · repeat (refine (if_neg (by omega)).trans ?_)
                  rw [hs2 _ (by omega), hst _ hj]
                · rw [show l.take (0 + 1) = [s] from by rw [htk, z1]; rfl]
                  refine ⟨by simp [upd, rnewLk], .inr ⟨by simp [rnewLk], nx2 + 80, nx2 + 168, nx2 + 248, ⟨by omega, by omega⟩, ⟨by omega, by omega⟩, ⟨by omega, by omega⟩, by omega, rfl, rfl, rfl, ?_, ?_, ?_⟩, .inl ⟨rfl, rfl, rfl⟩, ⟨by omega, by omega⟩, rfl, rfl⟩
                  · repeat (refine (upd_o (by omega)).trans ?_)
                    exact upd_s
                  · repeat (refine (upd_o (by omega)).trans ?_)
                    exact upd_s
                  · repeat (refine (upd_o (by omega)).trans ?_)
                    exact upd_s
              · have l1 : (rnewLk c p (l.take i)).nm.length = i := hlt
                rw [l1] at r5 r6 r7 hk2
                have k1 : nx ≤ n' ∧ n' < nx1 := t1
                have k2 : nx ≤ f' ∧ f' < nx1 := t2
                have k3 : nx ≤ g' ∧ g' < nx1 := t3
                rw [← hs2 _ (by omega)] at r5 r6 r7
                have u1 : n' ≠ nx + 200 := fun q => by rw [q, hk2] at r5; simp at r5
                have u2 : f' ≠ nx + 200 := fun q => by rw [q, hk2] at r6; simp at r6
                have u3 : g' ≠ nx + 200 := fun q => by rw [q, hk2] at r7; simp at r7
                have u4 : n' ≠ nx + 8 := fun q => by rw [q, q8] at r5; simp at r5
                have u5 : f' ≠ nx + 8 := fun q => by rw [q, q8] at r6; simp at r6
                have u6 : g' ≠ nx + 8 := fun q => by rw [q, q8] at r7; simp at r7
                have u7 : n' ≠ f' := fun q => by rw [q, r6] at r5; simp at r5
                have u8 : f' ≠ g' := fun q => by rw [q, r7] at r6; simp at r6
                have w1 : ∀ j, (n' = nx2 + j) = False := fun j => eq_false (by omega)
                have w2 : ∀ j, (f' = nx2 + j) = False := fun j => eq_false (by omega)
                have w3 : ∀ j, (g' = nx2 + j) = False := fun j => eq_false (by omega)
                have w4 : ∀ j, (nx2 + j = n') = False := fun j => eq_false (by omega)
                have w5 : ∀ j, (nx2 + j = f') = False := fun j => eq_false (by omega)
                have w6 : ∀ j, (nx2 + j = g') = False := fun j => eq_false (by omega)
                have y1 : (n' = nx + 200) = False := eq_false u1
                have y2 : (f' = nx + 200) = False := eq_false u2
                have y3 : (g' = nx + 200) = False := eq_false u3
                have y4 : (n' = nx + 8) = False := eq_false u4
                have y5 : (f' = nx + 8) = False := eq_false u5
                have y6 : (g' = nx + 8) = False := eq_false u6
                have y7 : (n' = f') = False := eq_false u7
                have y8 : (f' = g') = False := eq_false u8
                have y9 : (n' = g') = False := eq_false r1
                have x1 : (nx + 200 = n') = False := eq_false (Ne.symm u1)
                have x2 : (nx + 200 = f') = False := eq_false (Ne.symm u2)
                have x3 : (nx + 200 = g') = False := eq_false (Ne.symm u3)
                have x4 : (nx + 8 = n') = False := eq_false (Ne.symm u4)
                have x5 : (nx + 8 = f') = False := eq_false (Ne.symm u5)
                have x6 : (nx + 8 = g') = False := eq_false (Ne.symm u6)
                have x7 : (f' = n') = False := eq_false (Ne.symm u7)
                have x8 : (g' = f') = False := eq_false (Ne.symm u8)
                have x9 : (g' = n') = False := eq_false (Ne.symm r1)
                repeat' (first | (simp -implicitDefEqProofs only [ze, zd, zr, simprocAttr, LR_pl, LR_hp, LR_hm, cunr_n, cunr_x, cunr_r, cunr_p, List.any_cons, List.any_nil, List.flatten_cons, List.flatten_nil, List.replicate_succ, List.replicate_zero, Bool.or_false, Bool.false_or, List.flatMap_cons, List.flatMap_nil, gj, h12, h2', h11, h4, hs, hk2, q8, f1, f2, f3, f4, f5, f6, f7, f8, f9, w1, w2, w3, w4, w5, w6, y1, y2, y3, y4, y5, y6, y7, y8, y9, x1, x2, x3, x4, x5, x6, x7, x8, x9, r5, r6, r7, ne_eq, not_true_eq_false]) | (with_reducible refine wgd_cases ?_ ?_ <;> intro hb) | (with_reducible refine wcond_cases ?_ ?_ <;> intro hb) | (with_reducible refine W_itn_cases ?_ ?_; omega))
                refine qd_i (by simp [recsOk, ordB, Rec.free, Rec.wr, disj, List.range, List.range.loop, f1, f2, f3, f4, f5, f6, f7, f8, f9, w1, w2, w3, w4, w5, w6, y1, y2, y3, y4, y5, y6, y7, y8, y9, x1, x2, x3, x4, x5, x6, x7, x8, x9]; try (repeat' (first | apply And.intro | decide | omega | (left; decide) | (right; omega)))) ?_
                repeat' (first | (simp -implicitDefEqProofs only [ze, zd, zr, simprocAttr, LR_pl, LR_hp, LR_hm, cunr_n, cunr_x, cunr_r, cunr_p, List.any_cons, List.any_nil, List.flatten_cons, List.flatten_nil, List.replicate_succ, List.replicate_zero, Bool.or_false, Bool.false_or, List.flatMap_cons, List.flatMap_nil, gj, h12, h2', h11, h4, hs, hk2, q8, f1, f2, f3, f4, f5, f6, f7, f8, f9, w1, w2, w3, w4, w5, w6, y1, y2, y3, y4, y5, y6, y7, y8, y9, x1, x2, x3, x4, x5, x6, x7, x8, x9, r5, r6, r7, ne_eq, not_true_eq_false]) | (with_reducible refine wgd_cases ?_ ?_ <;> intro hb) | (with_reducible refine wcond_cases ?_ ?_ <;> intro hb) | (with_reducible refine W_itn_cases ?_ ?_; omega))
                refine qd_i (by simp [recsOk, ordB, Rec.free, Rec.wr, disj, List.range, List.range.loop, f1, f2, f3, f4, f5, f6, f7, f8, f9, w1, w2, w3, w4, w5, w6, y1, y2, y3, y4, y5, y6, y7, y8, y9, x1, x2, x3, x4, x5, x6, x7, x8, x9]; try (repeat' (first | apply And.intro | decide | omega | (left; decide) | (right; omega)))) ?_
                repeat' (first | (simp -implicitDefEqProofs only [ze, zd, zr, simprocAttr, LR_pl, LR_hp, LR_hm, cunr_n, cunr_x, cunr_r, cunr_p, List.any_cons, List.any_nil, List.flatten_cons, List.flatten_nil, List.replicate_succ, List.replicate_zero, Bool.or_false, Bool.false_or, List.flatMap_cons, List.flatMap_nil, gj, h12, h2', h11, h4, hs, hk2, q8, f1, f2, f3, f4, f5, f6, f7, f8, f9, w1, w2, w3, w4, w5, w6, y1, y2, y3, y4, y5, y6, y7, y8, y9, x1, x2, x3, x4, x5, x6, x7, x8, x9, r5, r6, r7, ne_eq, not_true_eq_false]) | (with_reducible refine wgd_cases ?_ ?_ <;> intro hb) | (with_reducible refine wcond_cases ?_ ?_ <;> intro hb) | (with_reducible refine W_itn_cases ?_ ?_; omega))
                have em : (rnewLk c p (l.take (i + 1))).nm = (rnewLk c p (l.take i)).nm ++ [s] := htk
                have ef : (rnewLk c p (l.take (i + 1))).fs = (rnewLk c p (l.take i)).fs ++ [p] := by show (l.take (i + 1)).map _ = (l.take i).map _ ++ [p]; rw [htk, List.map_append]; rfl
                have ea : (rnewLk c p (l.take (i + 1))).ak = (rnewLk c p (l.take i)).ak ++ [⟨#[]⟩] := by show (l.take (i + 1)).map _ = (l.take i).map _ ++ [_]; rw [htk, List.map_append]; rfl
                have lm : (rnewLk c p (l.take (i + 1))).nm.length = i + 1 := hlt2
                refine ⟨l.length - (i + 1), by omega, i + 1, .sl 9 false 1 (nx2 + 80) 0 (i + 1), .sl 25 true 2 (nx2 + 168) 0 (i + 1), .sl 9 false 1 (nx2 + 248) 0 (i + 1), rfl, by omega, hne, ?_, by omega, fun j hj => ?_, ?_⟩
                · rw [wrap_i64 (by omega) (by omega)]; rfl
                · repeat (refine (if_neg (by omega)).trans ?_)
                  rw [hs2 _ (by omega), hst _ hj]
                · refine ⟨by simp only [upd, if_true]; rfl, .inr ⟨by rw [lm]; omega, nx2 + 80, nx2 + 168, nx2 + 248, ⟨by omega, by omega⟩, ⟨by omega, by omega⟩, ⟨by omega, by omega⟩, by omega, by rw [lm], by rw [lm], by rw [lm], ?_, ?_, ?_⟩, .inl ⟨rfl, rfl, rfl⟩, ⟨by omega, by omega⟩, (by show List.length (List.map _ _) = _; rw [List.length_map]; rfl), (by show List.length (List.map _ _) = _; rw [List.length_map]; rfl)⟩
                  · rw [lm, em, List.map_append]
                    repeat (refine (upd_o (by omega)).trans ?_)
                    exact upd_s
                  · rw [lm, ef, List.flatMap_append]
                    repeat (refine (upd_o (by omega)).trans ?_)
                    exact upd_s
                  · rw [lm, ea, List.map_append]
                    repeat (refine (upd_o (by omega)).trans ?_)
                    exact upd_s
        · have hd : decide ((i : Int) < (l.length : Int)) = false := decide_eq_false (by omega)
          have hil : i = l.length := by omega
          repeat' (first | (simp -implicitDefEqProofs only [ze, zd, zr, simprocAttr, LR_pl, LR_hp, LR_hm, cunr_n, cunr_x, cunr_r, cunr_p, List.any_cons, List.any_nil, List.flatten_cons, List.flatten_nil, List.replicate_succ, List.replicate_zero, Bool.or_false, Bool.false_or, List.flatMap_cons, List.flatMap_nil, hd, h12, h2', h11, h4, List.length_map, k11_t0]) | (with_reducible refine wgd_cases ?_ ?_ <;> intro hb) | (with_reducible refine wcond_cases ?_ ?_ <;> intro hb) | (with_reducible refine W_itn_cases ?_ ?_; omega))
          have htl : l.take i = l := by rw [hil]; exact List.take_length
          have hdl : l.drop i = [] := by rw [hil]; exact List.drop_length
          rw [hdl, newE] at hne
          rw [htl] at hq
          refine .inr ⟨hne, nx + 200, st1, nx1 + 56, rfl, by omega, ?_, hst⟩
          exact RLK.mono ⟨vn, vf, va, _, hq⟩ (fun j hj => ⟨hj.1, by have := hj.2; omega⟩) (fun _ _ => rfl)
    · have := e16 h0
      subst this
      rw [if_pos (show ((16 : Int) ≠ 0) by decide)]
      repeat' (first | (simp -implicitDefEqProofs only [ze, zd, zr, simprocAttr, LR_pl, LR_hp, LR_hm, cunr_n, cunr_x, cunr_r, cunr_p, List.any_cons, List.any_nil, List.flatten_cons, List.flatten_nil, List.replicate_succ, List.replicate_zero, Bool.or_false, Bool.false_or, List.flatMap_cons, List.flatMap_nil, hri, hsp, f1, ne_eq, not_true_eq_false]) | (with_reducible refine wgd_cases ?_ ?_ <;> intro hb) | (with_reducible refine wcond_cases ?_ ?_ <;> intro hb) | (with_reducible refine W_itn_cases ?_ ?_; omega))
      refine .inl ⟨by decide, _, _, rfl, by omega, fun i hi => ?_⟩
      simp (disch := omega) only [upds, upd, List.foldl_cons, List.foldl_nil, if_neg]
end Go.Proofs.YthgmhlpjbednpaaDoor.Vm
set_option maxRecDepth 10000
set_option linter.unusedVariables false
set_option linter.unusedSimpArgs false
namespace Go.Proofs.YthgmhlpjbednpaaDoor.Vm
open Go Go.Proofs
theorem self_add (a b : Nat) : (a = a + b) = (b = 0) := by simp
def gtS (x y : ByteArray) : Bool := !(Op.bytesLess x.data.toList y.data.toList || decide (x = y))
def leS (x y : ByteArray) : Prop := x.data.toList ≤ y.data.toList
theorem less_iff : ∀ l m : List UInt8, Op.bytesLess l m = true ↔ l < m
  | [], [] => by simp [Op.bytesLess]
  | [], _ :: _ => by simp [Op.bytesLess]
  | _ :: _, [] => by simp [Op.bytesLess]
  | a :: l, b :: m => by
    have ih := less_iff l m
    simp [Op.bytesLess, ih, List.cons_lt_cons_iff]
theorem gtS_le {x y : ByteArray} (h : gtS x y = false) : leS x y := by
  unfold gtS at h
  simp only [Bool.not_eq_false', Bool.or_eq_true, decide_eq_true_eq, less_iff] at h
  rcases h with h | rfl
  · exact List.le_of_lt h
  · exact List.le_refl _
theorem gtS_ge {x y : ByteArray} (h : gtS x y = true) : leS y x := by
  unfold gtS at h
  simp only [Bool.not_eq_true', Bool.or_eq_false_iff, decide_eq_false_iff_not] at h
  have : ¬ x.data.toList < y.data.toList := fun q => by rw [(less_iff _ _).2 q] at h; exact absurd h.1 (by decide)
  exact List.not_lt.1 this
theorem ins_sorted {o : List ByteArray} {x : ByteArray} {at' : Nat} (ho : o.Pairwise leS) (ha : at' ≤ o.length) (h1 : ∀ (j : Nat) (y : ByteArray), at' ≤ j → o[j]? = some y → gtS y x = true) (h2 : at' = 0 ∨ ∃ y, o[at' - 1]? = some y ∧ gtS y x = false) : (o.take at' ++ [x] ++ o.drop at').Pairwise leS := by
  rw [List.append_assoc, List.singleton_append]
  have hs : ∀ a ∈ o.take at', ∀ b ∈ o.drop at', leS a b := by
    have := ho
    rw [← List.take_append_drop at' o] at this
    exact (List.pairwise_append.1 this).2.2
  refine List.pairwise_append.2 ⟨ho.sublist (List.take_sublist _ _), List.pairwise_cons.2 ⟨fun b hb => ?_, ho.sublist (List.drop_sublist _ _)⟩, fun a ha' b hb => ?_⟩
  · obtain ⟨j, hj⟩ := List.getElem?_of_mem hb
    rw [List.getElem?_drop] at hj
    exact gtS_ge (h1 _ b (by omega) hj)
  · rcases List.mem_cons.1 hb with rfl | hb
    · rcases h2 with rfl | ⟨y, hy, hg⟩
      · simp at ha'
      · refine List.le_trans ?_ (gtS_le hg)
        obtain ⟨j, hj⟩ := List.getElem?_of_mem ha'
        rw [List.getElem?_take] at hj
        split at hj
        · rename_i hlt
          by_cases he : j = at' - 1
          · subst he; rw [hj] at hy; obtain rfl := Option.some.inj hy; exact List.le_refl _
          · obtain ⟨hj1, hj2⟩ := List.getElem?_eq_some_iff.1 hj
            obtain ⟨hy1, hy2⟩ := List.getElem?_eq_some_iff.1 hy
            have := List.pairwise_iff_getElem.1 ho j (at' - 1) hj1 hy1 (by omega)
            rw [hj2, hy2] at this
            exact this
        · simp at hj
    · exact hs a ha' b hb
theorem ins_perm (o : List ByteArray) (x : ByteArray) (at' : Nat) : (o.take at' ++ [x] ++ o.drop at').Perm (o ++ [x]) := by
  rw [List.append_assoc, List.singleton_append]
  have h := (List.perm_middle (a := x) (l₁ := o.take at') (l₂ := o.drop at'))
  rw [List.take_append_drop] at h
  exact h.trans (List.perm_append_comm (l₁ := [x]) (l₂ := o))
theorem sortS_uniq {o l : List ByteArray} (h1 : o.Pairwise leS) (h2 : o.Perm l) : o = sortS l := by
  have e : o.map (fun s => s.data.toList) = sortB (l.map fun s => s.data.toList) := by
    refine List.Perm.eq_of_pairwise (le := (· ≤ ·)) (fun a b _ _ h1 h2 => List.le_antisymm h1 h2) (List.pairwise_map.2 h1) (sortB_sorted _) ((h2.map _).trans (sortB_perm _).symm)
  unfold sortS
  rw [← e, List.map_map]
  have : ((fun b : List UInt8 => (⟨b.toArray⟩ : ByteArray)) ∘ fun s : ByteArray => s.data.toList) = id := by funext s; simp
  rw [this, List.map_id]
set_option maxHeartbeats 2000000 in
theorem rents_ok {k : Nat} {a : RLk} {S : Nat → Prop} {st : St} {nx : Nat} (h : RLK k a S st) (hS : ∀ i, S i → i < nx) (hl : a.nm.length ≤ 1000000) :
    W (L.hp 25 [.ptr k 0] st nx) (fun r => ∃ v' st' nx', r = .ret v' st' nx' ∧ nx ≤ nx' ∧ rowV (fun i => nx ≤ i ∧ i < nx') st' 9 false 1 (sortS a.nm).length ((sortS a.nm).map V.str) v' ∧ ∀ i, i < nx → st' i = st i) := by
  refine hp_r k25_eq ?_
  simp only [k25]
  obtain ⟨vn, vf, va, ve, hq⟩ := h
  have hkS := hS _ hq.sk
  repeat' (first | (simp -implicitDefEqProofs only [ze, zd, zr, simprocAttr, LR_pl, LR_hp, LR_hm, cunr_n, cunr_x, cunr_r, cunr_p, List.any_cons, List.any_nil, List.flatten_cons, List.flatten_nil, List.replicate_succ, List.replicate_zero, Bool.or_false, Bool.false_or, List.flatMap_cons, List.flatMap_nil]) | (with_reducible refine wgd_cases ?_ ?_ <;> intro hb) | (with_reducible refine wcond_cases ?_ ?_ <;> intro hb) | (with_reducible refine W_itn_cases ?_ ?_; omega))
  refine loop_w (fun n tm st' nx' => ∃ (i : Nat) (o : List ByteArray) (v : V), n = a.nm.length - i ∧ i ≤ a.nm.length ∧ tm 0 = .ptr k 0 ∧ tm 4 = .i64 i ∧ tm 3 = v ∧ o.Pairwise leS ∧ o.Perm (a.nm.take i) ∧ rowV (fun j => nx ≤ j ∧ j < nx') st' 9 false 1 o.length (o.map V.str) v ∧ nx ≤ nx' ∧ ∀ j, j < nx → st' j = st j) _ ⟨0, [], .list 0 [] 1, rfl, by omega, ?_, ?_, ?_, .nil, .refl _, .inl ⟨rfl, rfl, rfl⟩, by omega, fun j hj => rfl⟩ ?_
  · simp -implicitDefEqProofs only [ze, zd, simprocAttr]; try rfl
  · simp -implicitDefEqProofs only [ze, zd, simprocAttr]; try rfl
  · simp -implicitDefEqProofs only [ze, zd, simprocAttr]; try rfl
  rintro n tm st1 nx1 ⟨i, o, v, hn, hi, h0, h4, h3, hso, hpo, hv, hnx, hst⟩
  simp only [k25_l1]
  have hk1 : st1 k = _ := (hst k hkS).trans hq.hk
  have hol : o.length = i := by rw [hpo.length_eq, List.length_take]; omega
  by_cases hc : i < a.nm.length
  · have hd : decide ((i : Int) < (a.nm.length : Int)) = true := decide_eq_true (by omega)
    obtain ⟨x, hx⟩ := get_lt hc
    rcases hq.rows with ⟨z0, _⟩ | ⟨z0, n', f', g', t1, t2, t3, r1, rfl, rfl, rfl, r5, r6, r7⟩
    · rw [z0] at hc; exact absurd hc (Nat.not_lt_zero _)
    have hn'S := hS _ t1
    have hr1 : st1 n' = _ := (hst n' hn'S).trans r5
    have f1 : ∀ j, (k = nx1 + j) = False := fun j => eq_false (by omega)
    have f2 : ∀ j, (n' = nx1 + j) = False := fun j => eq_false (by omega)
    have hlt : (a.nm.take (i + 1)) = a.nm.take i ++ [x] := by rw [List.take_add_one, hx]; rfl
    have hcx : ((0 : Int) ≤ (i : Int) ∧ (i : Int) < (a.nm.length : Int)) := ⟨by omega, by omega⟩
    have hwr : IntKind.i64.wrap ((i : Int) + 1) = ((i + 1 : Nat) : Int) := by rw [wrap_i64 (by omega) (by omega)]; omega
    rcases hv with ⟨z0, z1, rfl⟩ | ⟨z0, id, z1, rfl, z3⟩
    · have ho : o = [] := List.eq_nil_of_length_eq_zero z0
      repeat' (first | (simp -implicitDefEqProofs only [ze, zd, zr, simprocAttr, LR_pl, LR_hp, LR_hm, cunr_n, cunr_x, cunr_r, cunr_p, List.any_cons, List.any_nil, List.flatten_cons, List.flatten_nil, List.replicate_succ, List.replicate_zero, Bool.or_false, Bool.false_or, List.flatMap_cons, List.flatMap_nil, hd, h0, h4, h3, hk1]) | (with_reducible refine wgd_cases ?_ ?_ <;> intro hb) | (with_reducible refine wcond_cases ?_ ?_ <;> intro hb) | (with_reducible refine W_itn_cases ?_ ?_; omega))
      refine loop_w (fun n tm st2 nx2 => tm 0 = .ptr k 0 ∧ tm 4 = .i64 i ∧ tm 3 = .list 0 [] 1 ∧ tm 5 = .i64 0 ∧ st2 = st1 ∧ nx1 ≤ nx2) 0 ⟨?_, ?_, ?_, ?_, rfl, by omega⟩ ?_
      · simp -implicitDefEqProofs only [ze, zd, simprocAttr]; exact h0
      · simp -implicitDefEqProofs only [ze, zd, simprocAttr]; exact h4
      · simp -implicitDefEqProofs only [ze, zd, simprocAttr]; exact h3
      · simp -implicitDefEqProofs only [ze, zd, simprocAttr]
      clear h0 h4 h3
      rintro n2 tm st2 nx2 ⟨h0, h4, h3, h5, rfl, hn2⟩
      simp only [k25_l0]
      repeat' (first | (simp -implicitDefEqProofs only [ze, zd, zr, simprocAttr, LR_pl, LR_hp, LR_hm, cunr_n, cunr_x, cunr_r, cunr_p, List.any_cons, List.any_nil, List.flatten_cons, List.flatten_nil, List.replicate_succ, List.replicate_zero, Bool.or_false, Bool.false_or, List.flatMap_cons, List.flatMap_nil, h0, h4, h3, h5]) | (with_reducible refine wgd_cases ?_ ?_ <;> intro hb) | (with_reducible refine wcond_cases ?_ ?_ <;> intro hb) | (with_reducible refine W_itn_cases ?_ ?_; omega))
      refine qd_i (recsOk_ro rfl) ?_
      have f1 : ∀ j, (k = nx2 + j) = False := fun j => eq_false (by omega)
      have f2 : ∀ j, (n' = nx2 + j) = False := fun j => eq_false (by omega)
      have f3 : ∀ j, (nx2 + j = k) = False := fun j => eq_false (by omega)
      have f4 : ∀ j, (nx2 + j = n') = False := fun j => eq_false (by omega)
      repeat' (first | (simp -implicitDefEqProofs only [ze, zd, zr, simprocAttr, LR_pl, LR_hp, LR_hm, cunr_n, cunr_x, cunr_r, cunr_p, List.any_cons, List.any_nil, List.flatten_cons, List.flatten_nil, List.replicate_succ, List.replicate_zero, Bool.or_false, Bool.false_or, List.flatMap_cons, List.flatMap_nil, h0, h4, h3, h5, f1, f2, f3, f4, hk1, hr1, hx, hcx, hwr, k25_t0]) | (with_reducible refine wgd_cases ?_ ?_ <;> intro hb) | (with_reducible refine wcond_cases ?_ ?_ <;> intro hb) | (with_reducible refine W_itn_cases ?_ ?_; omega))
      rw [k25_t1.eq_1]
      repeat' (first | (simp -implicitDefEqProofs only [ze, zd, zr, simprocAttr, LR_pl, LR_hp, LR_hm, cunr_n, cunr_x, cunr_r, cunr_p, List.any_cons, List.any_nil, List.flatten_cons, List.flatten_nil, List.replicate_succ, List.replicate_zero, Bool.or_false, Bool.false_or, List.flatMap_cons, List.flatMap_nil, h0, h4, h3, h5, f1, f2, f3, f4, hk1, hr1, hx, hcx, hwr, self_add, Nat.sub_zero, Nat.mul_one]) | (with_reducible refine wgd_cases ?_ ?_ <;> intro hb) | (with_reducible refine wcond_cases ?_ ?_ <;> intro hb) | (with_reducible refine W_itn_cases ?_ ?_; omega))
      refine ⟨a.nm.length - (i + 1), by omega, i + 1, [x], .sl 9 false 1 (nx2 + 304) 0 1, rfl, by omega, rfl, rfl, List.pairwise_singleton .., ?_, .inr ⟨Nat.one_pos, nx2 + 304, ⟨by omega, by omega⟩, rfl, upd_s⟩, by omega, fun j hj => ?_⟩
      · rw [hlt]; subst ho; exact hpo.append_right [x]
      · (repeat (refine (if_neg (by omega)).trans ?_)); exact hst _ hj
    · rw [hol] at z3
      repeat' (first | (simp -implicitDefEqProofs only [ze, zd, zr, simprocAttr, LR_pl, LR_hp, LR_hm, cunr_n, cunr_x, cunr_r, cunr_p, List.any_cons, List.any_nil, List.flatten_cons, List.flatten_nil, List.replicate_succ, List.replicate_zero, Bool.or_false, Bool.false_or, List.flatMap_cons, List.flatMap_nil, hd, h0, h4, h3, hk1]) | (with_reducible refine wgd_cases ?_ ?_ <;> intro hb) | (with_reducible refine wcond_cases ?_ ?_ <;> intro hb) | (with_reducible refine W_itn_cases ?_ ?_; omega))
      refine loop_w (fun n tm st2 nx2 => ∃ m : Nat, n = m ∧ m ≤ i ∧ tm 0 = .ptr k 0 ∧ tm 4 = .i64 i ∧ tm 3 = .sl 9 false 1 id 0 o.length ∧ tm 5 = .i64 m ∧ st2 = st1 ∧ nx1 ≤ nx2 ∧ ∀ (j : Nat) (y : ByteArray), m ≤ j → o[j]? = some y → gtS y x = true) _ ⟨i, rfl, Nat.le_refl _, ?_, ?_, ?_, ?_, rfl, by omega, fun j y h1 h2 => ?_⟩ ?_
      · simp -implicitDefEqProofs only [ze, zd, simprocAttr]; exact h0
      · simp -implicitDefEqProofs only [ze, zd, simprocAttr]; exact h4
      · simp -implicitDefEqProofs only [ze, zd, simprocAttr]; exact h3
      · simp -implicitDefEqProofs only [ze, zd, simprocAttr]; rw [hol]
      · have := (List.getElem?_eq_some_iff.1 h2).1; omega
      clear h0 h4 h3
      rintro n2 tm st2 nx2 ⟨m, rfl, hm, h0, h4, h3, h5, rfl, hn2, hgt⟩
      simp only [k25_l0]
      have f1 : ∀ j, (k = nx2 + j) = False := fun j => eq_false (by omega)
      have f2 : ∀ j, (n' = nx2 + j) = False := fun j => eq_false (by omega)
      have f3 : ∀ j, (nx2 + j = k) = False := fun j => eq_false (by omega)
      have f4 : ∀ j, (nx2 + j = n') = False := fun j => eq_false (by omega)
      have g1 : ∀ j, (id = nx2 + j) = False := fun j => eq_false (by have := z1.2; omega)
      have hlo : (o.map V.str).length = o.length := List.length_map ..
      have hat : ((0 : Int) ≤ (n2 : Int) ∧ (n2 : Int) ≤ (o.length : Int)) := ⟨by omega, by omega⟩
      have hnat : n2 ≤ o.length := by omega
      have e1 : (1 + o.length) * 16 ≤ 140737488355328 := by omega
      have e2 : 1 + o.length ≤ 9223372036854775807 := by omega
      have c1 : n2 * 16 ≤ 140737488355328 := by omega
      have c2 : n2 ≤ 9223372036854775807 := by omega
      have c3 : (n2 + 1) * 16 ≤ 140737488355328 := by omega
      have c4 : n2 + 1 ≤ 9223372036854775807 := by omega
      have c5 : (n2 + 1 + (o.length - n2)) * 16 ≤ 140737488355328 := by omega
      have c6 : n2 + 1 + (o.length - n2) ≤ 9223372036854775807 := by omega
      have c7 : n2 + (o.length - n2) ≤ o.length := by omega
      by_cases hm0 : n2 = 0
      · subst hm0
        repeat' (first | (simp -implicitDefEqProofs only [ze, zd, zr, simprocAttr, LR_pl, LR_hp, LR_hm, cunr_n, cunr_x, cunr_r, cunr_p, List.any_cons, List.any_nil, List.flatten_cons, List.flatten_nil, List.replicate_succ, List.replicate_zero, Bool.or_false, Bool.false_or, List.flatMap_cons, List.flatMap_nil, h0, h4, h3, h5]) | (with_reducible refine wgd_cases ?_ ?_ <;> intro hb) | (with_reducible refine wcond_cases ?_ ?_ <;> intro hb) | (with_reducible refine W_itn_cases ?_ ?_; omega))
        refine qd_i (recsOk_ro rfl) ?_
        repeat' (first | (simp -implicitDefEqProofs only [ze, zd, zr, simprocAttr, LR_pl, LR_hp, LR_hm, cunr_n, cunr_x, cunr_r, cunr_p, List.any_cons, List.any_nil, List.flatten_cons, List.flatten_nil, List.replicate_succ, List.replicate_zero, Bool.or_false, Bool.false_or, List.flatMap_cons, List.flatMap_nil, h0, h4, h3, h5, hlo, hat, hnat, z3, c1, c2, c3, c4, c5, c6, c7, e1, e2, Nat.le_refl, g1, f1, f2, f3, f4, hk1, hr1, hx, hcx, hwr, k25_t0]) | (with_reducible refine wgd_cases ?_ ?_ <;> intro hb) | (with_reducible refine wcond_cases ?_ ?_ <;> intro hb) | (with_reducible refine W_itn_cases ?_ ?_; omega))
        rw [k25_t1.eq_1]
        repeat' (first | (simp -implicitDefEqProofs only [ze, zd, zr, simprocAttr, LR_pl, LR_hp, LR_hm, cunr_n, cunr_x, cunr_r, cunr_p, List.any_cons, List.any_nil, List.flatten_cons, List.flatten_nil, List.replicate_succ, List.replicate_zero, Bool.or_false, Bool.false_or, List.flatMap_cons, List.flatMap_nil, h0, h4, h3, h5, hlo, hat, hnat, z3, c1, c2, c3, c4, c5, c6, c7, e1, e2, Nat.le_refl, g1, f1, f2, f3, f4, hk1, hr1, hx, hcx, hwr, self_add, Nat.sub_zero, Nat.mul_one]) | (with_reducible refine wgd_cases ?_ ?_ <;> intro hb) | (with_reducible refine wcond_cases ?_ ?_ <;> intro hb) | (with_reducible refine W_itn_cases ?_ ?_; omega))
        have hE : (o.take 0 ++ [x] ++ o.drop 0).length = 1 + o.length := by simp; omega
        have hM : (o.take 0 ++ [x] ++ o.drop 0).map V.str = V.str x :: List.take o.length (List.map V.str o) := by
          rw [List.take_of_length_le (l := o.map V.str) (by simp)]; simp
        refine ⟨a.nm.length - (i + 1), by omega, i + 1, o.take 0 ++ [x] ++ o.drop 0, .sl 9 false 1 (nx2 + 304) 0 (1 + o.length), rfl, by omega, rfl, rfl, ins_sorted hso hnat hgt (.inl rfl), ?_, .inr ⟨by rw [hE]; omega, nx2 + 304, ⟨by omega, by omega⟩, by rw [hE], ?_⟩, by omega, fun j hj => ?_⟩
        · rw [hlt]; exact (ins_perm o x 0).trans (hpo.append_right [x])
        · rw [hE, hM]; exact upd_s
        · (repeat (refine (if_neg (by omega)).trans ?_)); exact hst _ hj
      · have hg : decide ((0 : Int) < (n2 : Int)) = true := decide_eq_true (by omega)
        obtain ⟨y, hy⟩ := get_lt (l := o) (show n2 - 1 < o.length by omega)
        have w2 : IntKind.i64.wrap ((n2 : Int) - 1) = ((n2 - 1 : Nat) : Int) := by rw [wrap_i64 (by omega) (by omega)]; omega
        have hgi : ((0 : Int) ≤ ((n2 - 1 : Nat) : Int) ∧ ((n2 - 1 : Nat) : Int) < (o.length : Int)) := ⟨by omega, by omega⟩
        cases hgs : gtS y x with
        | true =>
          have hgs' := hgs
          unfold gtS at hgs
          repeat' (first | (simp -implicitDefEqProofs only [ze, zd, zr, simprocAttr, LR_pl, LR_hp, LR_hm, cunr_n, cunr_x, cunr_r, cunr_p, List.any_cons, List.any_nil, List.flatten_cons, List.flatten_nil, List.replicate_succ, List.replicate_zero, Bool.or_false, Bool.false_or, List.flatMap_cons, List.flatMap_nil, h0, h4, h3, h5, hg, w2, hgi, hy, z3, hgs, hcx, hk1, hr1, hx, Nat.mul_one]) | (with_reducible refine wgd_cases ?_ ?_ <;> intro hb) | (with_reducible refine wcond_cases ?_ ?_ <;> intro hb) | (with_reducible refine W_itn_cases ?_ ?_; omega))
          refine qd_i (recsOk_ro rfl) ?_
          repeat' (first | (simp -implicitDefEqProofs only [ze, zd, zr, simprocAttr, LR_pl, LR_hp, LR_hm, cunr_n, cunr_x, cunr_r, cunr_p, List.any_cons, List.any_nil, List.flatten_cons, List.flatten_nil, List.replicate_succ, List.replicate_zero, Bool.or_false, Bool.false_or, List.flatMap_cons, List.flatMap_nil, h0, h4, h3, h5, hg, w2]) | (with_reducible refine wgd_cases ?_ ?_ <;> intro hb) | (with_reducible refine wcond_cases ?_ ?_ <;> intro hb) | (with_reducible refine W_itn_cases ?_ ?_; omega))
          refine ⟨n2 - 1, by omega, n2 - 1, rfl, by omega, rfl, by omega, fun j z h1 h2 => ?_⟩
          by_cases hj : j = n2 - 1
          · subst hj; rw [hy] at h2; obtain rfl := Option.some.inj h2; exact hgs'
          · exact hgt j z (by omega) h2
        | false =>
          have hgs' := hgs
          unfold gtS at hgs
          repeat' (first | (simp -implicitDefEqProofs only [ze, zd, zr, simprocAttr, LR_pl, LR_hp, LR_hm, cunr_n, cunr_x, cunr_r, cunr_p, List.any_cons, List.any_nil, List.flatten_cons, List.flatten_nil, List.replicate_succ, List.replicate_zero, Bool.or_false, Bool.false_or, List.flatMap_cons, List.flatMap_nil, h0, h4, h3, h5, hg, w2, hgi, hy, z3, hgs, hcx, hk1, hr1, hx, Nat.mul_one]) | (with_reducible refine wgd_cases ?_ ?_ <;> intro hb) | (with_reducible refine wcond_cases ?_ ?_ <;> intro hb) | (with_reducible refine W_itn_cases ?_ ?_; omega))
          refine qd_i (recsOk_ro rfl) ?_
          repeat' (first | (simp -implicitDefEqProofs only [ze, zd, zr, simprocAttr, LR_pl, LR_hp, LR_hm, cunr_n, cunr_x, cunr_r, cunr_p, List.any_cons, List.any_nil, List.flatten_cons, List.flatten_nil, List.replicate_succ, List.replicate_zero, Bool.or_false, Bool.false_or, List.flatMap_cons, List.flatMap_nil, h0, h4, h3, h5, hlo, hat, hnat, z3, c1, c2, c3, c4, c5, c6, c7, e1, e2, Nat.le_refl, g1, f1, f2, f3, f4, hk1, hr1, hx, hcx, hwr, k25_t0]) | (with_reducible refine wgd_cases ?_ ?_ <;> intro hb) | (with_reducible refine wcond_cases ?_ ?_ <;> intro hb) | (with_reducible refine W_itn_cases ?_ ?_; omega))
          rw [k25_t1.eq_1]
          repeat' (first | (simp -implicitDefEqProofs only [ze, zd, zr, simprocAttr, LR_pl, LR_hp, LR_hm, cunr_n, cunr_x, cunr_r, cunr_p, List.any_cons, List.any_nil, List.flatten_cons, List.flatten_nil, List.replicate_succ, List.replicate_zero, Bool.or_false, Bool.false_or, List.flatMap_cons, List.flatMap_nil, h0, h4, h3, h5, hlo, hat, hnat, z3, c1, c2, c3, c4, c5, c6, c7, e1, e2, Nat.le_refl, g1, f1, f2, f3, f4, hk1, hr1, hx, hcx, hwr, self_add, Nat.sub_zero, Nat.mul_one]) | (with_reducible refine wgd_cases ?_ ?_ <;> intro hb) | (with_reducible refine wcond_cases ?_ ?_ <;> intro hb) | (with_reducible refine W_itn_cases ?_ ?_; omega))
          have hE : (o.take n2 ++ [x] ++ o.drop n2).length = n2 + (1 + (o.length - n2)) := by simp; omega
          have hM : (o.take n2 ++ [x] ++ o.drop n2).map V.str = List.take n2 (List.map V.str o) ++ [V.str x] ++ List.take (o.length - n2) (List.drop n2 (List.map V.str o)) := by
            rw [List.map_append, List.map_append, List.map_take, List.map_drop, List.take_of_length_le (l := List.drop n2 (List.map V.str o)) (by simp)]; rfl
          refine ⟨a.nm.length - (i + 1), by omega, i + 1, o.take n2 ++ [x] ++ o.drop n2, .sl 9 false 1 (nx2 + 304) 0 (n2 + (1 + (o.length - n2))), rfl, by omega, rfl, rfl, ins_sorted hso hnat hgt (.inr ⟨y, hy, hgs'⟩), ?_, .inr ⟨by rw [hE]; omega, nx2 + 304, ⟨by omega, by omega⟩, by rw [hE], ?_⟩, by omega, fun j hj => ?_⟩
          · rw [hlt]; exact (ins_perm o x n2).trans (hpo.append_right [x])
          · rw [hE, hM]; exact upd_s
          · (repeat (refine (if_neg (by omega)).trans ?_)); exact hst _ hj
  · have hd : decide ((i : Int) < (a.nm.length : Int)) = false := decide_eq_false (by omega)
    have hil : i = a.nm.length := by omega
    have ho : o = sortS a.nm := sortS_uniq hso (by rw [hil, List.take_length] at hpo; exact hpo)
    rw [ho] at hv
    rcases hq.rows with ⟨z0, rfl, rfl, rfl⟩ | ⟨z0, n', f', g', t1, t2, t3, r1, rfl, rfl, rfl, r5, r6, r7⟩
    · have hd0 : decide ((i : Int) < 0) = false := decide_eq_false (by omega)
      repeat' (first | (simp -implicitDefEqProofs only [ze, zd, zr, simprocAttr, LR_pl, LR_hp, LR_hm, cunr_n, cunr_x, cunr_r, cunr_p, List.any_cons, List.any_nil, List.flatten_cons, List.flatten_nil, List.replicate_succ, List.replicate_zero, Bool.or_false, Bool.false_or, List.flatMap_cons, List.flatMap_nil, hd0, h0, h4, h3, hk1, k25_t2]) | (with_reducible refine wgd_cases ?_ ?_ <;> intro hb) | (with_reducible refine wcond_cases ?_ ?_ <;> intro hb) | (with_reducible refine W_itn_cases ?_ ?_; omega))
      exact ⟨_, _, _, rfl, by omega, hv.mono (fun j hj => ⟨hj.1, by have := hj.2; omega⟩) (fun _ _ => rfl), hst⟩
    · repeat' (first | (simp -implicitDefEqProofs only [ze, zd, zr, simprocAttr, LR_pl, LR_hp, LR_hm, cunr_n, cunr_x, cunr_r, cunr_p, List.any_cons, List.any_nil, List.flatten_cons, List.flatten_nil, List.replicate_succ, List.replicate_zero, Bool.or_false, Bool.false_or, List.flatMap_cons, List.flatMap_nil, hd, h0, h4, h3, hk1, k25_t2]) | (with_reducible refine wgd_cases ?_ ?_ <;> intro hb) | (with_reducible refine wcond_cases ?_ ?_ <;> intro hb) | (with_reducible refine W_itn_cases ?_ ?_; omega))
      exact ⟨_, _, _, rfl, by omega, hv.mono (fun j hj => ⟨hj.1, by have := hj.2; omega⟩) (fun _ _ => rfl), hst⟩
end Go.Proofs.YthgmhlpjbednpaaDoor.Vm
set_option maxRecDepth 10000
set_option linter.unusedVariables false
set_option linter.unusedSimpArgs false
namespace Go.Proofs.YthgmhlpjbednpaaDoor.Vm
open Go Go.Proofs
def Rec.fl (r : Rec) : Bool × Bool × Bool := (r.big.isSome, r.δ.isEmpty, r.rd.isEmpty)
def trivP : Bool × Bool × Bool → Bool × Bool × Bool → Bool
  | (false, a, b), (false, c, d) => (a && c) || (a && b) || (c && d)
  | (false, a, b), (true, _, _) => a && b
  | (true, _, _), (false, c, d) => c && d
  | _, _ => false
def thinB (B : List Nat) (fl : List (Bool × Bool × Bool)) (X : List (Nat × Nat)) : Bool := (List.range fl.length).all fun j => (List.range j).all fun i => ordB B i j || trivP (fl.getD i (false, false, false)) (fl.getD j (false, false, false)) || X.contains (i, j)
theorem disj_nil (a : List Nat) : disj a [] = true := by simp [disj]
theorem nil_disj (a : List Nat) : disj [] a = true := rfl
theorem recsOk2_thin {st0 : St} {B : List Nat} {recs : List Rec} (X : List (Nat × Nat)) (h : thinB B (recs.map Rec.fl) X = true) (hX : ∀ q ∈ X, pairOk st0 recs q.1 q.2) : recsOk2 st0 B recs := by
  intro j hj i hi
  simp only [thinB, List.all_eq_true, List.length_map, Bool.or_eq_true] at h
  have hj' := List.mem_range.1 hj
  have hi' := List.mem_range.1 hi
  rcases h j hj i hi with (h | h) | h
  · exact .inl h
  · right
    obtain ⟨x, hx⟩ : ∃ x, recs[i]? = some x := ⟨_, List.getElem?_eq_getElem (by omega)⟩
    obtain ⟨y, hy⟩ : ∃ y, recs[j]? = some y := ⟨_, List.getElem?_eq_getElem hj'⟩
    rw [List.getD_eq_getElem?_getD, List.getD_eq_getElem?_getD, List.getElem?_map, List.getElem?_map, hx, hy] at h
    simp only [Option.map_some, Option.getD_some] at h
    unfold pairOk
    have b1 : bigF recs i = x.big := by unfold bigF; rw [hx]; rfl
    have b2 : bigF recs j = y.big := by unfold bigF; rw [hy]; rfl
    have b3 : δF recs i = x.δ := by unfold δF; rw [hx]; rfl
    have b4 : δF recs j = y.δ := by unfold δF; rw [hy]; rfl
    have b5 : rF recs i = x.rd := by unfold rF; rw [hx]; rfl
    have b6 : rF recs j = y.rd := by unfold rF; rw [hy]; rfl
    rw [b1, b2, b3, b4, b5, b6]
    unfold Rec.fl at h
    clear b1 b2 b3 b4 b5 b6 hx hy hi hj hi' hj' hX
    obtain ⟨xv, xd, xr, xb⟩ := x
    obtain ⟨yv, yd, yr, yb⟩ := y
    have dn : ∀ a : List Nat, disj a [] = true := disj_nil
    cases xb with
    | none => cases yb with
      | none =>
        simp only [Option.isSome_none, trivP, Bool.or_eq_true, Bool.and_eq_true, List.isEmpty_iff] at h
        rcases h with (⟨rfl, rfl⟩ | ⟨rfl, rfl⟩) | ⟨rfl, rfl⟩
        · simp only [List.map_nil, nil_disj, disj_nil, Bool.and_self]
        · simp only [List.map_nil, nil_disj, Bool.and_self]
        · simp only [List.map_nil, List.append_nil, disj_nil, Bool.and_self]
      | some p =>
        simp only [Option.isSome_none, Option.isSome_some, trivP, Bool.and_eq_true, List.isEmpty_iff] at h
        obtain ⟨rfl, rfl⟩ := h
        exact ⟨rfl, fun k hk => nomatch hk⟩
    | some p => cases yb with
      | none =>
        simp only [Option.isSome_none, Option.isSome_some, trivP, Bool.and_eq_true, List.isEmpty_iff] at h
        obtain ⟨rfl, rfl⟩ := h
        exact ⟨rfl, fun k hk => nomatch hk⟩
      | some q => simp [trivP] at h
  · exact .inr (hX (i, j) (by simpa using h))
theorem texts_ok (l : List ByteArray) (t r t2 r2 : Nat) (ht : l = [] ∨ t = 9) (ht2 : l = [] ∨ t2 = 9) (hl : l.length < 4611686018427387904) :
    L.pl 23 [.list t (l.map V.str) r, .list t2 (l.map V.str) r2] = some (.ret (.bool true)) := by
  refine W_of (pl_w k23_eq ?_)
  simp only [k23]
  have hd0 : decide ((l.length : Int) = (l.length : Int)) = true := decide_eq_true rfl
  repeat' (first | (simp -implicitDefEqProofs only [ze, zd, simprocAttr, List.length_map, hd0, bne_tt, bne_tf]) | (with_reducible refine wgd_cases ?_ ?_ <;> intro hb) | (with_reducible refine wcond_cases ?_ ?_ <;> intro hb) | (with_reducible refine qd_i (by kernel_rfl) ?_) | (with_reducible refine W_itn_cases ?_ ?_; omega))
  refine loop_w (fun n tm st' nx' => ∃ (i : Nat), n = l.length - i ∧ i ≤ l.length ∧ tm 5 = .i64 i ∧ tm 0 = .list t (l.map V.str) r ∧ tm 1 = .list t2 (l.map V.str) r2) _ ⟨0, rfl, by omega, ?_, ?_, ?_⟩ ?_
  · simp -implicitDefEqProofs only [ze, zd, simprocAttr]; try rfl
  · simp -implicitDefEqProofs only [ze, zd, simprocAttr]
  · simp -implicitDefEqProofs only [ze, zd, simprocAttr]
  rintro n tm st1 nx1 ⟨i, hn, hi, h5, h0, h1⟩
  simp only [k23_l0]
  by_cases hc : i < l.length
  · have hd : decide ((i : Int) < (l.length : Int)) = true := decide_eq_true (by omega)
    obtain ⟨s, hs⟩ := get_lt hc
    have hne : l ≠ [] := fun q => by rw [q] at hc; exact Nat.not_lt_zero _ hc
    obtain rfl := ht.resolve_left hne
    obtain rfl := ht2.resolve_left hne
    have g1 : decide (s = s) = true := decide_eq_true rfl
    repeat' (first | (simp -implicitDefEqProofs only [ze, zd, simprocAttr, hd, h5, h0, h1, hs, List.length_map, g1, bne_tt]) | (with_reducible refine wgd_cases ?_ ?_ <;> intro hb) | (with_reducible refine wcond_cases ?_ ?_ <;> intro hb) | (with_reducible refine qd_i (by kernel_rfl) ?_) | (with_reducible refine W_itn_cases ?_ ?_; omega))
    refine ⟨l.length - (i + 1), by omega, i + 1, rfl, by omega, up64 (by omega)⟩
  · have hd : decide ((i : Int) < (l.length : Int)) = false := decide_eq_false (by omega)
    repeat' (first | (simp -implicitDefEqProofs only [ze, zd, simprocAttr, hd, h5, h0, h1, List.length_map, k23_t0]) | (with_reducible refine wgd_cases ?_ ?_ <;> intro hb) | (with_reducible refine wcond_cases ?_ ?_ <;> intro hb) | (with_reducible refine qd_i (by kernel_rfl) ?_) | (with_reducible refine W_itn_cases ?_ ?_; omega))
end Go.Proofs.YthgmhlpjbednpaaDoor.Vm
set_option maxRecDepth 10000
set_option linter.unusedVariables false
set_option linter.unusedSimpArgs false
namespace Go.Proofs.YthgmhlpjbednpaaDoor.Vm
open Go Go.Proofs
theorem str_pur : ∀ l : List ByteArray, (l.map V.str).mapM V.pur1? = some (l.map V.str)
  | [] => rfl
  | x :: l => by
    have ih := str_pur l
    rw [List.map_cons, List.mapM_cons, ih]
    rfl
theorem str_chunk : ∀ l : List ByteArray, chunk false 1 l.length (l.map V.str) = l.map V.str
  | [] => rfl
  | x :: l => by
    have ih := str_chunk l
    simp only [List.length_cons, List.map_cons, chunk, Bool.false_eq_true, if_false, List.headD_cons, List.drop_succ_cons, List.drop_zero, ih]
set_option maxHeartbeats 4000000 in
theorem knews_ok (c : Int) (p : Int × Int) (l : List ByteArray) (hl : l.length < 4611686018427387904) (hsz : ∀ s ∈ l, s.size < 4611686018427387904) :
    L.pl 7 [encCal c, encPer p, .list 9 (l.map V.str) 0] = some (.ret (.bool true)) := by
  refine W_of (pl_r k7_eq ?_)
  simp only [k7, encCal, encPer]
  have hlg := klarge_ok (l.map V.str) [] 9 0 0 1
  rw [List.length_map, List.length_nil] at hlg
  by_cases hbig : (decide (210 < l.length) || decide (40 < 0)) = true
  · rw [hbig] at hlg
    repeat' (first | (simp -implicitDefEqProofs only [ze, zd, zr, simprocAttr, LR_pl, LR_hp, LR_hm, cunr_n, cunr_x, cunr_r, cunr_p, List.any_cons, List.any_nil, List.flatten_cons, List.flatten_nil, List.replicate_succ, List.replicate_zero, Bool.or_false, Bool.false_or, List.flatMap_cons, List.flatMap_nil, hlg]) | (with_reducible refine wgd_cases ?_ ?_ <;> intro hb) | (with_reducible refine wcond_cases ?_ ?_ <;> intro hb) | (with_reducible refine qd_i (by kernel_rfl) ?_) | (with_reducible refine W_itn_cases ?_ ?_; omega))
  · have hbig : (decide (210 < l.length) || decide (40 < 0)) = false := by simpa using hbig
    rw [hbig] at hlg
    have h210 : l.length ≤ 210 := by simp only [Bool.or_eq_false_iff, decide_eq_false_iff_not] at hbig; omega
    repeat' (first | (simp -implicitDefEqProofs only [ze, zd, zr, simprocAttr, LR_pl, LR_hp, LR_hm, cunr_n, cunr_x, cunr_r, cunr_p, List.any_cons, List.any_nil, List.flatten_cons, List.flatten_nil, List.replicate_succ, List.replicate_zero, Bool.or_false, Bool.false_or, List.flatMap_cons, List.flatMap_nil, hlg]) | (with_reducible refine wgd_cases ?_ ?_ <;> intro hb) | (with_reducible refine wcond_cases ?_ ?_ <;> intro hb) | (with_reducible refine qd_i (by kernel_rfl) ?_) | (with_reducible refine W_itn_cases ?_ ?_; omega))
    refine W_hp (new_ok c p l _ _ hl) ?_
    intro r hr
    have ge : decide (newErr c p l = newErr c p l) = true := decide_eq_true rfl
    have g00 : decide ((0 : Int) = 0) = true := rfl
    rcases hr with ⟨he, st', nx', rfl, hn, hs⟩ | ⟨he, k, st', nx', rfl, hn, hk, hs⟩
    · have b8 : st' 8 = some (.cells [.i64 c]) := by rw [hs 8 (by omega)]; simp [upd]
      have b16 : st' 16 = some (.cells [.i64 p.1, .i64 p.2]) := by rw [hs 16 (by omega)]; simp [upd]
      repeat' (first | (simp -implicitDefEqProofs only [ze, zd, zr, simprocAttr, LR_pl, LR_hp, LR_hm, cunr_n, cunr_x, cunr_r, cunr_p, List.any_cons, List.any_nil, List.flatten_cons, List.flatten_nil, List.replicate_succ, List.replicate_zero, Bool.or_false, Bool.false_or, List.flatMap_cons, List.flatMap_nil, b8, b16]) | (with_reducible refine wgd_cases ?_ ?_ <;> intro hb) | (with_reducible refine wcond_cases ?_ ?_ <;> intro hb) | (with_reducible refine qd_i (by kernel_rfl) ?_) | (with_reducible refine W_itn_cases ?_ ?_; omega))
      refine W_hp (rnew_ok c p l _ _ hl hsz) ?_
      intro r hr
      rcases hr with ⟨he2, st2, nx2, rfl, hn2, hs2⟩ | ⟨he2, _⟩
      · repeat' (first | (simp -implicitDefEqProofs only [ze, zd, zr, simprocAttr, LR_pl, LR_hp, LR_hm, cunr_n, cunr_x, cunr_r, cunr_p, List.any_cons, List.any_nil, List.flatten_cons, List.flatten_nil, List.replicate_succ, List.replicate_zero, Bool.or_false, Bool.false_or, List.flatMap_cons, List.flatMap_nil, ge, klives_ok, bne_ff, bne_tf, bne_ft, bne_tt]) | (with_reducible refine wgd_cases ?_ ?_ <;> intro hb) | (with_reducible refine wcond_cases ?_ ?_ <;> intro hb) | (with_reducible refine qd_i (by kernel_rfl) ?_) | (with_reducible refine W_itn_cases ?_ ?_; omega))
      · exact absurd he2 he
    · have b8 : st' 8 = some (.cells [.i64 c]) := by rw [hs 8 (by omega)]; simp [upd]
      have b16 : st' 16 = some (.cells [.i64 p.1, .i64 p.2]) := by rw [hs 16 (by omega)]; simp [upd]
      repeat' (first | (simp -implicitDefEqProofs only [ze, zd, zr, simprocAttr, LR_pl, LR_hp, LR_hm, cunr_n, cunr_x, cunr_r, cunr_p, List.any_cons, List.any_nil, List.flatten_cons, List.flatten_nil, List.replicate_succ, List.replicate_zero, Bool.or_false, Bool.false_or, List.flatMap_cons, List.flatMap_nil, b8, b16]) | (with_reducible refine wgd_cases ?_ ?_ <;> intro hb) | (with_reducible refine wcond_cases ?_ ?_ <;> intro hb) | (with_reducible refine qd_i (by kernel_rfl) ?_) | (with_reducible refine W_itn_cases ?_ ?_; omega))
      refine W_hp (rnew_ok c p l _ _ hl hsz) ?_
      intro r hr
      rcases hr with ⟨he2, _⟩ | ⟨he2, k2, st2, nx2, rfl, hn2, hk2, hs2⟩
      · exact absurd he he2
      · have hka := hk.mono (S' := fun i => i < nx2) (st' := st2) (fun i h => by have := h.2; omega) (fun j hj => hs2 j (by have := hj.2; omega))
        have hkb := hk2.mono (S' := fun i => i < nx2) (st' := st2) (fun i h => by have := h.2; omega) (fun j hj => rfl)
        have b8 : st2 8 = some (.cells [.i64 c]) := by rw [hs2 8 (by omega)]; exact b8
        have hz : newErr c p l = 0 := he
        have gc : decide (c = c) = true := decide_eq_true rfl
        clear hk hk2
        repeat' (first | (simp -implicitDefEqProofs only [ze, zd, zr, simprocAttr, LR_pl, LR_hp, LR_hm, cunr_n, cunr_x, cunr_r, cunr_p, List.any_cons, List.any_nil, List.flatten_cons, List.flatten_nil, List.replicate_succ, List.replicate_zero, Bool.or_false, Bool.false_or, List.flatMap_cons, List.flatMap_nil, g00, klives_ok, bne_ff, bne_tf, bne_ft, bne_tt, wnx_tb, wnx_tbn]) | (with_reducible refine wgd_cases ?_ ?_ <;> intro hb) | (with_reducible refine wcond_cases ?_ ?_ <;> intro hb) | (with_reducible refine W_itn_cases ?_ ?_; omega))
        refine W_hp (cal_ok hka (fun j hj => by have hj : j < nx2 := hj; omega)) ?_
        rintro _ ⟨st3, nx3, rfl, hn3, hs3⟩
        have c8 : st3 8 = st2 8 := hs3 8 (by omega)
        have hka := hka.mono (S' := fun i => i < nx2) (st' := st3) (fun _ h => h) (fun j hj => hs3 j (by have hj : j < nx2 := hj; omega))
        have hkb := hkb.mono (S' := fun i => i < nx2) (st' := st3) (fun _ h => h) (fun j hj => hs3 j (by have hj : j < nx2 := hj; omega))
        have gc' : decide ((newLk c p l).c = c) = true := gc
        repeat' (first | (simp -implicitDefEqProofs only [ze, zd, zr, simprocAttr, LR_pl, LR_hp, LR_hm, cunr_n, cunr_x, cunr_r, cunr_p, List.any_cons, List.any_nil, List.flatten_cons, List.flatten_nil, List.replicate_succ, List.replicate_zero, Bool.or_false, Bool.false_or, List.flatMap_cons, List.flatMap_nil, g00, c8, b8, gc', klives_ok, bne_ff, bne_tf, bne_ft, bne_tt, wnx_tb, wnx_tbn]) | (with_reducible refine wgd_cases ?_ ?_ <;> intro hb) | (with_reducible refine wcond_cases ?_ ?_ <;> intro hb) | (with_reducible refine W_itn_cases ?_ ?_; omega))
        refine W_hp (ents_ok hka (fun j hj => by have hj : j < nx2 := hj; omega) (by show (sortS l).length ≤ _; rw [sortS_len]; omega)) ?_
        rintro _ ⟨v4, st4, nx4, rfl, hn4, hv4, hs4⟩
        have hka := hka.mono (S' := fun i => i < nx2) (st' := st4) (fun _ h => h) (fun j hj => hs4 j (by have hj : j < nx2 := hj; omega))
        have hkb := hkb.mono (S' := fun i => i < nx2) (st' := st4) (fun _ h => h) (fun j hj => hs4 j (by have hj : j < nx2 := hj; omega))
        repeat' (first | (simp -implicitDefEqProofs only [ze, zd, zr, simprocAttr, LR_pl, LR_hp, LR_hm, cunr_n, cunr_x, cunr_r, cunr_p, List.any_cons, List.any_nil, List.flatten_cons, List.flatten_nil, List.replicate_succ, List.replicate_zero, Bool.or_false, Bool.false_or, List.flatMap_cons, List.flatMap_nil, g00, wnx_tb, wnx_tbn]) | (with_reducible refine wgd_cases ?_ ?_ <;> intro hb) | (with_reducible refine wcond_cases ?_ ?_ <;> intro hb) | (with_reducible refine W_itn_cases ?_ ?_; omega))
        refine W_hp (rents_ok hkb (fun j hj => by have hj : j < nx2 := hj; omega) (by show l.length ≤ _; omega)) ?_
        rintro _ ⟨v5, st5, nx5, rfl, hn5, hv5, hs5⟩
        have hka := hka.mono (S' := fun i => i < nx2) (st' := st5) (fun _ h => h) (fun j hj => hs5 j (by have hj : j < nx2 := hj; omega))
        have hv4 := hv4.mono (S' := fun i => nx2 ≤ i ∧ i < nx4) (st' := st5) (fun i h => ⟨by have := h.1; omega, h.2⟩) (fun j hj => hs5 j hj.2)
        have e1 : (newLk c p l).nm = sortS l := rfl
        have e2 : (rnewLk c p l).nm = l := rfl
        rw [e1] at hv4
        rw [e2] at hv5
        have hlen : (sortS l).length = l.length := sortS_len l
        generalize sortS l = o at hv4 hv5 hlen
        have hto := texts_ok o
        have hol : o.length < 4611686018427387904 := by omega
        rcases hv4 with ⟨z0, z1, rfl⟩ | ⟨z0, id, z1, rfl, z3⟩
        · rcases hv5 with ⟨y0, y1, rfl⟩ | ⟨y0, id2, y1, rfl, y3⟩
          · have hto := hto 0 1 0 1 (.inl (List.eq_nil_of_length_eq_zero y0)) (.inl (List.eq_nil_of_length_eq_zero y0)) hol
            rw [List.eq_nil_of_length_eq_zero y0, List.map_nil] at hto
            repeat' (first | (simp -implicitDefEqProofs only [ze, zd, zr, simprocAttr, LR_pl, LR_hp, LR_hm, cunr_n, cunr_x, cunr_r, cunr_p, List.any_cons, List.any_nil, List.flatten_cons, List.flatten_nil, List.replicate_succ, List.replicate_zero, Bool.or_false, Bool.false_or, List.flatMap_cons, List.flatMap_nil, g00, hto, wnx_tb, wnx_tbn]) | (with_reducible refine wgd_cases ?_ ?_ <;> intro hb) | (with_reducible refine wcond_cases ?_ ?_ <;> intro hb) | (with_reducible refine W_itn_cases ?_ ?_; omega))
            refine W_hp (evs_ok hka (fun j hj => by have hj : j < nx2 := hj; omega) (Nat.zero_le _)) ?_
            rintro _ ⟨v6, st6, nx6, rfl, hn6, hv6, hs6⟩
            rcases hv6 with ⟨_, _, rfl⟩ | ⟨zz, _⟩
            · repeat' (first | (simp -implicitDefEqProofs only [ze, zd, zr, simprocAttr, LR_pl, LR_hp, LR_hm, cunr_n, cunr_x, cunr_r, cunr_p, List.any_cons, List.any_nil, List.flatten_cons, List.flatten_nil, List.replicate_succ, List.replicate_zero, Bool.or_false, Bool.false_or, List.flatMap_cons, List.flatMap_nil, g00, wnx_tb, wnx_tbn]) | (with_reducible refine wgd_cases ?_ ?_ <;> intro hb) | (with_reducible refine wcond_cases ?_ ?_ <;> intro hb) | (with_reducible refine W_itn_cases ?_ ?_; omega))
              refine qd_2 (recsOk2_thin [(8, 9)] (by kernel_rfl) ?_) ?_
              · intro q hq
                rw [List.mem_singleton] at hq
                subst hq
                simp only [pairOk, bigF, δF, rF, seqSt, List.getElem?_cons_succ, List.getElem?_cons_zero, Option.bind_some, Option.map_some, Option.getD_some, upds_nil]
                refine ⟨trivial, fun j hj => ?_⟩
                rw [List.mem_singleton] at hj
                rw [hj]; exact c8
              · repeat' (first | (simp -implicitDefEqProofs only [ze, zd, zr, simprocAttr, LR_pl, LR_hp, LR_hm, cunr_n, cunr_x, cunr_r, cunr_p, List.any_cons, List.any_nil, List.flatten_cons, List.flatten_nil, List.replicate_succ, List.replicate_zero, Bool.or_false, Bool.false_or, List.flatMap_cons, List.flatMap_nil, g00, wnx_tb, wnx_tbn]) | (with_reducible refine wgd_cases ?_ ?_ <;> intro hb) | (with_reducible refine wcond_cases ?_ ?_ <;> intro hb) | (with_reducible refine W_itn_cases ?_ ?_; omega))
            · exact absurd zz (Nat.lt_irrefl 0)
          · omega
        · rcases hv5 with ⟨y0, y1, rfl⟩ | ⟨y0, id2, y1, rfl, y3⟩
          · omega
          · have hto := hto 9 0 9 0 (.inr rfl) (.inr rfl) hol
            have hcp := str_pur o
            have hcc := str_chunk o
            have hcl : o.length ≤ (o.map V.str).length := by rw [List.length_map]; exact Nat.le_refl _
            have ne1 : (id = id2) = False := eq_false fun q => by have := z1.2; have := y1.1; omega
            have ne2 : (id2 = id) = False := eq_false fun q => by have := z1.2; have := y1.1; omega
            repeat' (first | (simp -implicitDefEqProofs only [ze, zd, zr, simprocAttr, LR_pl, LR_hp, LR_hm, cunr_n, cunr_x, cunr_r, cunr_p, List.any_cons, List.any_nil, List.flatten_cons, List.flatten_nil, List.replicate_succ, List.replicate_zero, Bool.or_false, Bool.false_or, List.flatMap_cons, List.flatMap_nil, g00, hto, z3, y3, hcp, hcc, hcl, ne1, ne2, Nat.mul_one, Option.map_some, Option.bind_some, Bool.or_self, upds, upd, List.foldl_cons, List.foldl_nil, wnx_tb, wnx_tbn]) | (with_reducible refine wgd_cases ?_ ?_ <;> intro hb) | (with_reducible refine wcond_cases ?_ ?_ <;> intro hb) | (with_reducible refine W_itn_cases ?_ ?_; omega))
            have hka := hka.mono (S' := fun i => i < nx2) (st' := upd (upd st5 id (some (.frz (o.map V.str)))) id2 (some (.frz (o.map V.str)))) (fun _ h => h) (fun j hj => by
              have hj : j < nx2 := hj
              exact (upd_o (by have := y1.1; omega)).trans (upd_o (by have := z1.1; omega)))
            refine W_hp (evs_ok hka (fun j hj => by have hj : j < nx2 := hj; omega) (Nat.zero_le _)) ?_
            rintro _ ⟨v6, st6, nx6, rfl, hn6, hv6, hs6⟩
            rcases hv6 with ⟨_, _, rfl⟩ | ⟨zz, _⟩
            · repeat' (first | (simp -implicitDefEqProofs only [ze, zd, zr, simprocAttr, LR_pl, LR_hp, LR_hm, cunr_n, cunr_x, cunr_r, cunr_p, List.any_cons, List.any_nil, List.flatten_cons, List.flatten_nil, List.replicate_succ, List.replicate_zero, Bool.or_false, Bool.false_or, List.flatMap_cons, List.flatMap_nil, g00, wnx_tb, wnx_tbn]) | (with_reducible refine wgd_cases ?_ ?_ <;> intro hb) | (with_reducible refine wcond_cases ?_ ?_ <;> intro hb) | (with_reducible refine W_itn_cases ?_ ?_; omega))
              refine qd_2 (recsOk2_thin [(8, 9)] (by kernel_rfl) ?_) ?_
              · intro q hq
                rw [List.mem_singleton] at hq
                subst hq
                simp only [pairOk, bigF, δF, rF, seqSt, List.getElem?_cons_succ, List.getElem?_cons_zero, Option.bind_some, Option.map_some, Option.getD_some, upds_nil]
                refine ⟨trivial, fun j hj => ?_⟩
                rw [List.mem_singleton] at hj
                rw [hj]; exact c8
              · repeat' (first | (simp -implicitDefEqProofs only [ze, zd, zr, simprocAttr, LR_pl, LR_hp, LR_hm, cunr_n, cunr_x, cunr_r, cunr_p, List.any_cons, List.any_nil, List.flatten_cons, List.flatten_nil, List.replicate_succ, List.replicate_zero, Bool.or_false, Bool.false_or, List.flatMap_cons, List.flatMap_nil, g00, wnx_tb, wnx_tbn]) | (with_reducible refine wgd_cases ?_ ?_ <;> intro hb) | (with_reducible refine wcond_cases ?_ ?_ <;> intro hb) | (with_reducible refine W_itn_cases ?_ ?_; omega))
            · exact absurd zz (Nat.lt_irrefl 0)
end Go.Proofs.YthgmhlpjbednpaaDoor.Vm
namespace Go.Proofs.YthgmhlpjbednpaaDoor.locksNews
open Go.ChangeShapes Go.WideShapes Go.ChangeAt Go.RowKit Go.Proofs Go.Proofs.YthgmhlpjbednpaaDoor.Vm
set_option linter.unusedVariables false
theorem own : ownKnob Tryd.prog.godebug = none := by kernel_rfl
theorem laidOut : laidOutB Tryd.prog = true := by kernel_rfl
set_option maxRecDepth 100000 in
theorem door_met (os : Os) (args : Array Value) : laidMetH Tryd.prog Rows.locksNewsRow.laid ((World.doorLaid Tryd.prog 400 os).forCall (fun _ _ => 0) ⟨#[], args, []⟩).memory :=
  laidMetH_of_parts3 (fuel := 8) (laidMet_of_run' 8 (by kernel_rfl) (by kernel_rfl)) (by kernel_rfl) (by kernel_rfl)
set_option maxRecDepth 100000 in
theorem lifted (os : Os) (started : os.Started) (H : Type) (enc : TypeId × Value → H) :
    ReturnsInHanded {} Tryd.checked os 7 .any (fun w args => (Rows.locksNewsSpec.pre enc Tryd.prog Tryd.f7 [] false w args ∧ laidMetH Tryd.prog Rows.locksNewsRow.laid w) ∧ sizedMet enc Tryd.prog Tryd.f7 (OpenSpec.ofChange Rows.locksNewsSpec) false w args) (Rows.locksNewsSpec.post enc Tryd.prog Tryd.f7 false true false false) := by
  refine returnsInHanded_of_change_and (C := Tryd.checked) (X := fun w _ => laidMetH Tryd.prog Rows.locksNewsRow.laid w) (fun _ _ _ hh h => h.of_heap hh) own started (by kernel_rfl) Tryd.func7
    (ChangeSpec.witness_shaped (enc := enc) (C := Tryd.checked) (os := os) (X := fun w _ => laidMetH Tryd.prog Rows.locksNewsRow.laid w) false (World.doorLaid Tryd.prog 400 os) #[.agg #[.int .i64 0], .agg #[.int .i64 0, .int .i64 0], .slice none 0 0] 8 rfl (World.shaped_of_RefB (by kernel_rfl) (by kernel_rfl)) (by kernel_rfl) (by kernel_rfl) (by kernel_rfl) (door_met os _)) ?_
  intro W base args ds gs before hval0 hW hcnd hsz0 hL _
  have hval : ∀ (j : Nat) t v, Tryd.f7.params[j]? = some t → args[j]? = some v → Value.okWide Tryd.prog W .any base t v := hval0
  have hW' := hW
  obtain ⟨p, q, hA0, hV, rfl, hfz, hnd⟩ := hW
  have hA : DataW.TrodAll enc Tryd.prog W 0 (fun _ => true) true Tryd.f7.params.toList args.toList ds p := hA0
  rw [Tryd.params7] at hA hval
  obtain ⟨v0, vs0, d0, ds0, p0, q0, hargs, rfl, rfl, h0, r0⟩ := trodAll_cons hA
  obtain ⟨v1, vs1, d1, ds1, p1, q1, rfl, rfl, rfl, h1, r1⟩ := trodAll_cons r0
  obtain ⟨v2, vs2, d2, ds2, p2, q2, rfl, rfl, rfl, h2, r2⟩ := trodAll_cons r1
  obtain ⟨rfl, rfl, rfl⟩ := trodAll_nil r2
  obtain rfl : args = #[v0, v1, v2] := by cases args; simp_all
  obtain ⟨rfl, rfl⟩ := trodVars_none hV
  have hw0 : ∀ n ∈ d0.weights Tryd.prog 23, n ≤ reachBytes := fun n hn => by have := List.all_eq_true.1 hsz0 n (DataW.weights_mem_each (t := 23) (d := d0) (j := 0) (by kernel_rfl) rfl n hn); simpa using this
  have k0 := h0
  have lt0 : ∀ x ∈ p0, x.block < W.heap.size := by obtain ⟨m, hm⟩ := k0; exact DataW.trod_lt m _ _ _ hm
  obtain ⟨cs0, rfl, hzz0⟩ := okWide_struct Tryd.underlying23 (hval 0 23 v0 rfl rfl)
  obtain ⟨fuel0, hf0⟩ := h0
  obtain ⟨x0, K0, o0, g0⟩ := opCal hf0 hw0
  have R0 : RepP Tryd.prog (pw W) (encCal x0) (.agg cs0) := by
    have e : (.agg cs0 : Value) = .agg cs0.toList.toArray := by simp
    rw [e]; exact .agg o0 K0
  have hw1 : ∀ n ∈ d1.weights Tryd.prog 25, n ≤ reachBytes := fun n hn => by have := List.all_eq_true.1 hsz0 n (DataW.weights_mem_each (t := 25) (d := d1) (j := 1) (by kernel_rfl) rfl n hn); simpa using this
  have k1 := h1
  have lt1 : ∀ x ∈ p1, x.block < W.heap.size := by obtain ⟨m, hm⟩ := k1; exact DataW.trod_lt m _ _ _ hm
  obtain ⟨cs1, rfl, hzz1⟩ := okWide_struct Tryd.underlying25 (hval 1 25 v1 rfl rfl)
  obtain ⟨fuel1, hf1⟩ := h1
  obtain ⟨x1, K1, o1, g1⟩ := opPer hf1 hw1
  have R1 : RepP Tryd.prog (pw W) (encPer x1) (.agg cs1) := by
    have e : (.agg cs1 : Value) = .agg cs1.toList.toArray := by simp
    rw [e]; exact .agg o1 K1
  have hw2 : ∀ n ∈ d2.weights Tryd.prog 26, n ≤ reachBytes := fun n hn => by have := List.all_eq_true.1 hsz0 n (DataW.weights_mem_each (t := 26) (d := d2) (j := 2) (by kernel_rfl) rfl n hn); simpa using this
  have k2 := h2
  have lt2 : ∀ x ∈ p2, x.block < W.heap.size := by obtain ⟨m, hm⟩ := k2; exact DataW.trod_lt m _ _ _ hm
  obtain ⟨a2, len2, cap2, rfl⟩ := okWide_slice Tryd.underlying26 (hval 2 26 v2 rfl rfl)
  obtain ⟨fuel2, hf2⟩ := h2
  obtain ⟨x2, K2, o2, g2⟩ := opStrs hf2 hw2
  have R2 : RepP Tryd.prog (pw W) (V.list 9 (x2.map V.str) 0) (.slice a2 len2 cap2) := by
    cases K2 with
    | cons h _ => exact h
  have hx := knews_ok x0 x1 x2 (by have := g2.1; have hr : reachBytes = 140737488351232 := rfl; omega) (fun s hs => by have := g2.2 s hs; have hr : reachBytes = 140737488351232 := rfl; omega)
  refine (lim_bool (p := pw W) progOK extS_ok (f := 7) (by kernel_rfl) hx (glOK_of (lens_of_laid hL)) (fun _ _ _ h => h) (.cons R0 (.cons R1 (.cons R2 .nil)))).mono fun e W' ⟨he, bel0⟩ => ?_
  have bel : Below W.heap.size W W' := bel0
  subst he
  exact ⟨_, rfl, _, _, _, [], _, [], hW', trodAll_mk1 (shut_bool Tryd.underlying4 _), (trodAll_cons_mk (Below.trod laidOut (by kernel_rfl) (of_decide_eq_true (by kernel_rfl)) k0 bel lt0) (trodAll_cons_mk (Below.trod laidOut (by kernel_rfl) (of_decide_eq_true (by kernel_rfl)) k1 bel lt1) (trodAll_cons_mk (Below.trod laidOut (by kernel_rfl) (of_decide_eq_true (by kernel_rfl)) k2 bel lt2) trodAll_mk0))), rfl, bel.frame _, fun h => by cases h⟩
theorem over : Rows.locksNewsRow.holds Tryd.pinned (OpenSpec.ofChange Rows.locksNewsSpec) :=
  OpenClaim.holds_of_wide 7 Tryd.f7 rfl rfl rfl rfl rfl rfl rfl ⟨rfl, rfl, rfl, rfl, rfl⟩ rfl rfl rfl rfl rfl (by kernel_rfl) Tryd.func7 (by kernel_rfl)
    (of_decide_eq_true (by kernel_rfl)) (by unfold Func.isWrapper; first | (rw [if_pos (by decide +kernel)]; kernel_rfl) | (rw [if_neg (by decide +kernel)]; exact ⟨rfl, rfl⟩))
    (fun os started H enc _ => lifted os started H enc)
theorem proved : Rows.LocksNewsCardSaid :=
  Claim7.holds_tied_plain_at .later [] [.data] true (true, "5efddb6f47badd170cfb6ec46cf8324222e7b3173b02ece8e79ed712f74b6ba8") false
    over (fun _ h => by cases h) (by kernel_rfl) (fun _ h => by cases h) locksNews_row_tie rfl ⟨rfl, rfl⟩ (by kernel_rfl) rfl
    (fun f fn hf hfn => by
      obtain rfl : f = 7 := Option.some.inj ((show Tryd.prog.funcNamed "accounting/accountinglaw16.LocksNews" = some 7 by kernel_rfl).symm.trans hf) |>.symm
      obtain rfl : fn = Tryd.f7 := (Option.some.inj (Tryd.func7.symm.trans hfn)).symm
      exact ⟨by kernel_rfl, fun j t ht => by
        rw [Tryd.params7] at ht
        have hm : t ∈ [23, 25, 26] := by simpa using Array.mem_of_getElem? ht
        have hall : ([23, 25, 26].all fun u => !Tryd.prog.wantsStandIn u) = true := by kernel_rfl
        exact (show Tryd.prog.wantsStandIn t = false by simpa using List.all_eq_true.1 hall t hm)⟩)
    (by kernel_rfl)
end Go.Proofs.YthgmhlpjbednpaaDoor.locksNews
namespace Go.Proofs.YthgmhlpjbednpaaDoor
theorem locksNews_holds : Rows.LocksNewsCardSaid := locksNews.proved
end Go.Proofs.YthgmhlpjbednpaaDoor
