/- Proved here: what Take returns. Conditions: none. -/
import Derived.Test.YtojbkakdhfmjmaaDoorVt4
import Derived.Test.YtojbkakdhfmjmaaDoorVs16
set_option maxRecDepth 10000
set_option linter.unusedVariables false
set_option linter.unusedSimpArgs false
namespace Go.Proofs.YtojbkakdhfmjmaaDoor.Vm
open Go Go.Proofs
/-! ### What is read is small -/
theorem fin_i64 {y : Int} (h0 : 0 ≤ y) (h1 : y < 18446744073709551616) : i64r (Co.fin y) := by unfold Co.fin i64r; split <;> omega
theorem tS_i64 : ∀ (s : List Int) (i : Nat) (x : Int), bOK s → 0 ≤ x → x < 128 ^ i → i64r (Co.tS s i x).1
  | [], i, x, _, _, _ => by unfold Co.tS; split <;> (unfold i64r; simp)
  | b :: s, i, x, hs, h0, h1 => by
    unfold Co.tS
    split
    · rename_i hi
      split
      · unfold i64r; simp
      · rename_i hbad
        have hbad : Co.badS i b = false := by simpa using hbad
        have hb := hs b (by simp)
        obtain ⟨s1, s2, s3⟩ := Co.step_bound i x b hi h0 h1 hb.1 hb.2 (Co.bad_no hbad).1
        split
        · exact fin_i64 (by omega) s2
        · exact tS_i64 s (i + 1) _ (fun c hc => hs c (by simp [hc])) (by omega) s3
    · unfold i64r; simp
theorem bindD_inv {α β : Type} {x : Except Int (α × Nat)} {f : α → Nat → Except Int (β × Nat)} {r : β × Nat} (h : bindD x f = .ok r) : ∃ p, x = .ok p ∧ f p.1 p.2 = .ok r := by
  cases x with
  | error e => cases h
  | ok p => exact ⟨p, rfl, h⟩
theorem dInt_i64 {bs : List Int} (hb : bOK bs) {a : Nat} {p : Int × Nat} (h : dInt bs a = .ok p) : i64r p.1 := by
  unfold dInt at h
  split at h
  · obtain rfl := Except.ok.inj h
    exact tS_i64 _ 0 0 (hb.drop a) (by omega) (by decide)
  · cases h
theorem dText_plain {bs : List Int} {a : Nat} {p : ByteArray × Nat} (h : dText bs a = .ok p) : plainS p.1 = true := by
  unfold dText at h
  split at h
  · rename_i h0
    obtain rfl := Except.ok.inj h
    unfold tT at h0 ⊢
    simp only at h0 ⊢
    repeat' (split at h0)
    all_goals first
      | (exfalso; simp at h0; done)
      | (exfalso; exact absurd h0 (by assumption))
      | skip
    rename_i h1 h2 h3 h4
    rw [if_neg h1, if_neg h2, if_neg h3, if_neg h4]
    simpa using h4
  · cases h
theorem dText_small {bs : List Int} {a : Nat} {p : ByteArray × Nat} (h : dText bs a = .ok p) : small p.1 := by
  have := plain_size (dText_plain h)
  unfold small; omega
theorem dTags_small {bs : List Int} : ∀ (n : Nat) (acc : List Tag) (a : Nat) {r : List Tag × Nat}, dTags bs n acc a = .ok r → (∀ t ∈ acc, small t.n ∧ small t.v) → (∀ t ∈ r.1, small t.n ∧ small t.v) ∧ r.1.length = acc.length + n
  | 0, acc, a, r, h, ha => by obtain rfl := Except.ok.inj h; exact ⟨ha, rfl⟩
  | n + 1, acc, a, r, h, ha => by
    obtain ⟨p1, h1, h⟩ := bindD_inv h
    obtain ⟨p2, h2, h⟩ := bindD_inv h
    obtain ⟨k1, k2⟩ := dTags_small n _ _ h (fun t ht => by
      rcases List.mem_append.1 ht with ht | ht
      · exact ha t ht
      · simp only [List.mem_singleton] at ht; subst ht; exact ⟨dText_small h1, dText_small h2⟩)
    exact ⟨k1, by rw [k2, List.length_append]; simp; omega⟩
theorem dCount_le {bs : List Int} {most : Int} {a : Nat} {p : Int × Nat} (h : dCount most bs a = .ok p) : 0 ≤ p.1 ∧ p.1 ≤ most := by
  unfold dCount at h
  split at h
  · cases h
  · split at h
    · cases h
    · obtain rfl := Except.ok.inj h; omega
theorem dLine_good {bs : List Int} (hb : bOK bs) {a : Nat} {r : Line × Nat} (h : dLine bs a = .ok r) : smallL r.1 ∧ i64r r.1.amt ∧ i64r r.1.base := by
  obtain ⟨p1, h1, h⟩ := bindD_inv h
  obtain ⟨p2, h2, h⟩ := bindD_inv h
  obtain ⟨p3, h3, h⟩ := bindD_inv h
  obtain ⟨p4, h4, h⟩ := bindD_inv h
  obtain ⟨p5, h5, h⟩ := bindD_inv h
  obtain ⟨p6, h6, h⟩ := bindD_inv h
  obtain ⟨p7, h7, h⟩ := bindD_inv h
  obtain ⟨p8, h8, h⟩ := bindD_inv h
  obtain rfl := Except.ok.inj h
  obtain ⟨k1, k2⟩ := dTags_small _ _ _ h8 (by simp)
  have := dCount_le h7
  exact ⟨⟨dText_small h1, dText_small h2, dText_small h5, dText_small h6, k1, by simp at k2; simp only; omega, fun h => by simpa using h⟩, dInt_i64 hb h3, dInt_i64 hb h4⟩
theorem dLines_good {bs : List Int} (hb : bOK bs) : ∀ (n : Nat) (acc : List Line) (a : Nat) {r : List Line × Nat}, dLines bs n acc a = .ok r → (∀ l ∈ acc, smallL l ∧ i64r l.amt ∧ i64r l.base) → (∀ l ∈ r.1, smallL l ∧ i64r l.amt ∧ i64r l.base) ∧ r.1.length = acc.length + n
  | 0, acc, a, r, h, ha => by obtain rfl := Except.ok.inj h; exact ⟨ha, rfl⟩
  | n + 1, acc, a, r, h, ha => by
    obtain ⟨p1, h1, h⟩ := bindD_inv h
    obtain ⟨k1, k2⟩ := dLines_good hb n _ _ h (fun t ht => by
      rcases List.mem_append.1 ht with ht | ht
      · exact ha t ht
      · simp only [List.mem_singleton] at ht; subst ht; exact dLine_good hb h1)
    exact ⟨k1, by rw [k2, List.length_append]; simp; omega⟩
theorem dEntry_good {bs : List Int} (hb : bOK bs) {a : Nat} {r : Entry × Nat} (h : dEntry bs a = .ok r) : smallE r.1 ∧ rangeE r.1 := by
  obtain ⟨p1, h1, h⟩ := bindD_inv h
  obtain ⟨p2, h2, h⟩ := bindD_inv h
  obtain ⟨p3, h3, h⟩ := bindD_inv h
  obtain ⟨p4, h4, h⟩ := bindD_inv h
  obtain ⟨p5, h5, h⟩ := bindD_inv h
  obtain ⟨p6, h6, h⟩ := bindD_inv h
  obtain ⟨p7, h7, h⟩ := bindD_inv h
  obtain ⟨p8, h8, h⟩ := bindD_inv h
  obtain ⟨p9, h9, h⟩ := bindD_inv h
  obtain ⟨p10, h10, h⟩ := bindD_inv h
  obtain rfl := Except.ok.inj h
  obtain ⟨k1, k2⟩ := dLines_good hb _ _ _ h10 (by simp)
  have := dCount_le h9
  exact ⟨⟨dText_small h2, dText_small h6, dText_small h7, fun l hl => (k1 l hl).1, by simp at k2; simp only; omega, fun h => by simpa using h⟩,
    ⟨dInt_i64 hb h1, dInt_i64 hb h3, dInt_i64 hb h4, dInt_i64 hb h5, dInt_i64 hb h8, fun l hl => (k1 l hl).2⟩⟩
/-! ### Take -/
def zeroE : Entry := ⟨0, ByteArray.mk #[], 0, 0, 0, ByteArray.mk #[], ByteArray.mk #[], 0, [], true⟩
def takeS (bs : List Int) : Entry × Int × Int := match dEntry bs 0 with
  | .error e => (zeroE, 0, e)
  | .ok p => if (checkS p.1).2 = 0 then (p.1, p.2, 0) else (zeroE, 0, (checkS p.1).2)
theorem tasrt_y (v : V) : tasrt Tryd.prog 61 (.ifc 61 v) = some (.tup [v, .bool true]) := by kernel_rfl
theorem tasrt_n : tasrt Tryd.prog 61 (.sc .nilIface) = some (.tup [.agg [.i64 0], .bool false]) := by kernel_rfl
section
variable {P : Program} {E : Env} {kd : KD} {kc : KC} {C : HR → Prop} {tm tm0 : Nat → V} {st : St} {nx : Nat} {cs : List V} {rs : List KR} {y : Y} {acc : List Rec}
theorem defQ_n : defQ P E kd kc C .norm ⟨tm, st, nx⟩ = wc P E kd.y2 (defQ2 P E kc (kd.caps.map (av tm)) kd.rs C) ⟨upd tm kd.d (.fn (.func kd.g) [] (kd.caps.map (av tm))), st, nx + 16⟩ := rfl
theorem defQ2_r : defQ2 P E kc cs rs C .ret ⟨tm, st, nx⟩ = closW P E kc cs rs C ⟨tm, st, nx⟩ (.sc .nilIface) := rfl
theorem defQ2_n : defQ2 P E kc cs rs C .norm ⟨tm, st, nx⟩ = closW P E kc cs rs C ⟨tm, st, nx⟩ (.sc .nilIface) := rfl
theorem defQ2_p (t : TypeId) (v : V) : defQ2 P E kc cs rs C (.pan (.ifc t v)) ⟨tm, st, nx⟩ = closW P E kc cs rs C ⟨tm, st, nx⟩ (.ifc t v) := by simp [defQ2, isIfc]
theorem closW_e (rv : V) : closW P E kc cs rs C ⟨tm, st, nx⟩ rv = W (tasrt P kc.to rv) fun tv => wops P E false (closQ P E kc.y tm rs C) (fun _ _ _ _ _ => False) (nx + 16) kc.ops (upd (upd (argT cs) kc.t0 rv) kc.t1 tv) st (nx + 8 * kc.m) [] := rfl
theorem closQ_e : closQ P E y tm0 rs C tm st nx acc = wc P E y (closE tm0 rs C) ⟨tm, st, nx⟩ := rfl
theorem closE_n : closE tm0 rs C .norm ⟨tm, st, nx⟩ = W (kres ⟨tm0, st, nx⟩ rs) fun v => C (.ret v st nx) := rfl
theorem closE_r : closE tm0 rs C .ret ⟨tm, st, nx⟩ = W (kres ⟨tm0, st, nx⟩ rs) fun v => C (.ret v st nx) := rfl
end
theorem take_ok (bs : List Int) (hb : bOK bs) (hl : bs.length < 4611686018427387904) (r : Nat) : L.pl 11 [.list 5 (bv bs) r] = some (.ret (.tup [encE (takeS bs).1, .i64 (takeS bs).2.1, .i64 (takeS bs).2.2])) := by
  refine W_of (plD_w k11_eq k23_eq ?_)
  simp only [k11]
  repeat' (first | (simp -implicitDefEqProofs only [ze, Nat.reduceEqDiff, Nat.reduceAdd, Nat.reduceMul, reduceIte, Nat.reduceLT, Nat.reduceLeDiff, reduceCtorEq, Int.reduceEq, Int.reduceLT, Int.reduceLE, Int.reduceNeg, Int.reduceToNat, Nat.reduceBEq, Nat.reduceSub, qp, qf, kop, av, RQ, PQ, kres, kres1, kresL, fin, fins, fin1, V.pur?, V.pur1?, V.cells, kld, ones, V.one, Value.oneCell', own, owns, own1, xfill, ksrc, kint, vint, ksub, keqs, kok, V.val1?, ofRes, defQ_n, k11, ne_eq, not_true_eq_false, gt_iff_lt]))
  have hz : encE zeroE = .agg [.i64 0, .str (ByteArray.mk #[]), .i64 0, .i64 0, .i64 0, .str (ByteArray.mk #[]), .str (ByteArray.mk #[]), .i64 0, .list 0 [] 1] := rfl
  refine W_dec (dentry_ok (a := 0) ⟨by omega, by omega, by rw [upd_at, if_pos rfl]; rfl⟩ hb hl) (fun e s n hx hn hk => ?_) (fun p v s n hx hn hk hD hv => ?_)
  · have x8 := (hk 8 (by omega) (by omega)).trans (by simp [upd_at]; rfl)
    have x16 := (hk 16 (by omega) (by omega)).trans (by simp [upd_at]; rfl)
    have x24 := (hk 24 (by omega) (by omega)).trans (by simp [upd_at]; rfl)
    have f1 : ∀ j, (8 = n + j) = False := fun j => eq_false (by omega)
    have f2 : ∀ j, (16 = n + j) = False := fun j => eq_false (by omega)
    have f3 : ∀ j, (24 = n + j) = False := fun j => eq_false (by omega)
    have f4 : ∀ j, (n + j = 8) = False := fun j => eq_false (by omega)
    have f5 : ∀ j, (n + j = 16) = False := fun j => eq_false (by omega)
    have f6 : ∀ j, (n + j = 24) = False := fun j => eq_false (by omega)
    repeat' (first | (simp -implicitDefEqProofs only [ze, Nat.reduceEqDiff, Nat.reduceAdd, Nat.reduceMul, reduceIte, Nat.reduceLT, Nat.reduceLeDiff, reduceCtorEq, Int.reduceEq, Int.reduceLT, Int.reduceLE, Int.reduceNeg, Int.reduceToNat, Nat.reduceBEq, Nat.reduceSub, qp, qf, kop, av, RQ, PQ, kres, kres1, kresL, fin, fins, fin1, V.pur?, V.pur1?, V.cells, kld, ones, V.one, Value.oneCell', own, owns, own1, xfill, ksrc, kint, vint, ksub, keqs, kok, V.val1?, ofRes, x8, x16, x24, f1, f2, f3, f4, f5, f6, defQ2_p, defQ2_n, defQ2_r, errV, closW_e, k23, tasrt_y, tasrt_n, closQ_e, closE_n, closE_r, ne_eq, not_true_eq_false, gt_iff_lt]) | (with_reducible refine W_itn_cases ?_ ?_; omega))
    refine qd_i ?_ ?_
    · simp [recsOk, ordB, Rec.free, Rec.wr, disj, List.range, List.range.loop, f1, f2, f3, f4, f5, f6]; try decide
    · repeat' (first | (simp -implicitDefEqProofs only [ze, Nat.reduceEqDiff, Nat.reduceAdd, Nat.reduceMul, reduceIte, Nat.reduceLT, Nat.reduceLeDiff, reduceCtorEq, Int.reduceEq, Int.reduceLT, Int.reduceLE, Int.reduceNeg, Int.reduceToNat, Nat.reduceBEq, Nat.reduceSub, qp, qf, kop, av, RQ, PQ, kres, kres1, kresL, fin, fins, fin1, V.pur?, V.pur1?, V.cells, kld, ones, V.one, Value.oneCell', own, owns, own1, xfill, ksrc, kint, vint, ksub, keqs, kok, V.val1?, ofRes, x8, x16, x24, f1, f2, f3, f4, f5, f6, defQ2_p, defQ2_n, defQ2_r, errV, closW_e, k23, tasrt_y, tasrt_n, closQ_e, closE_n, closE_r, ne_eq, not_true_eq_false, gt_iff_lt]) | (with_reducible refine wgd_cases ?_ ?_ <;> intro hb) | (with_reducible refine wcond_cases ?_ ?_ <;> intro hb) | (with_reducible refine qd_i (by kernel_rfl) ?_) | (with_reducible refine W_itn_cases ?_ ?_; omega))
      simp only [takeS, hx, hz]
  · obtain ⟨vt, hf, hlr, rfl⟩ := hv
    have x8 := (hk 8 (by omega) (by omega)).trans (by simp [upd_at]; rfl)
    have x16 := (hk 16 (by omega) (by omega)).trans (by simp [upd_at]; rfl)
    have x24 := (hk 24 (by omega) (by omega)).trans (by simp [upd_at]; rfl)
    have hgd := dEntry_good hb hx
    have hck := check_ok p.1 hgd.1 hgd.2.amts
    rcases hf with ⟨hf, rfl⟩ | ⟨hf, r2, hr2, rfl⟩
    · have h1 : p.1.lines = [] := by simpa using hf
      have v4 : encE p.1 = .agg [.i64 p.1.no, .str p.1.ent, .i64 p.1.book, .i64 p.1.val, .i64 p.1.kind, .str p.1.ref, .str p.1.who, .i64 p.1.rev, .list 0 [] 1] := by unfold encE; rw [hlr, h1]; rfl
      rw [v4] at hck
      by_cases hc : (checkS p.1).2 = 0
      · rw [hc] at hck
        repeat' (first | (simp -implicitDefEqProofs only [ze, Nat.reduceEqDiff, Nat.reduceAdd, Nat.reduceMul, reduceIte, Nat.reduceLT, Nat.reduceLeDiff, reduceCtorEq, Int.reduceEq, Int.reduceLT, Int.reduceLE, Int.reduceNeg, Int.reduceToNat, Nat.reduceBEq, Nat.reduceSub, qp, qf, kop, av, RQ, PQ, kres, kres1, kresL, fin, fins, fin1, V.pur?, V.pur1?, V.cells, kld, ones, V.one, Value.oneCell', own, owns, own1, xfill, ksrc, kint, vint, ksub, keqs, kok, V.val1?, ofRes, x8, x16, x24, hck]) | (with_reducible refine W_itn_cases ?_ ?_; omega))
        refine W_hp (dend_ok (a := p.2) (dec_set (dec_set (hD.le (by omega)) (by omega) (Nat.le_refl _) _) (by omega) (Nat.le_refl _) _) hl 0 (by have := hD.2.1; omega)) ?_
        rintro _ ⟨s1, n1, rfl, hn1, hd1, hk1⟩
        have y8 := (hk1 8 (by omega) (by omega)).trans (by rw [upd_at, if_neg (by omega), upd_at, if_pos rfl])
        have y16 := (hk1 16 (by omega) (by omega)).trans (Eq.trans (by rw [upd_at, if_neg (by omega), upd_at, if_neg (by omega)]) x16)
        have y24 := (hk1 24 (by omega) (by omega)).trans (by rw [upd_at, if_pos rfl])
        have yd := hd1.2.2
        rw [Nat.add_zero] at yd
        have f1 : ∀ j, (8 = n1 + j) = False := fun j => eq_false (by omega)
        have f2 : ∀ j, (16 = n1 + j) = False := fun j => eq_false (by omega)
        have f3 : ∀ j, (24 = n1 + j) = False := fun j => eq_false (by omega)
        have f4 : ∀ j, (64 = n1 + j) = False := fun j => eq_false (by omega)
        repeat' (first | (simp -implicitDefEqProofs only [ze, Nat.reduceEqDiff, Nat.reduceAdd, Nat.reduceMul, reduceIte, Nat.reduceLT, Nat.reduceLeDiff, reduceCtorEq, Int.reduceEq, Int.reduceLT, Int.reduceLE, Int.reduceNeg, Int.reduceToNat, Nat.reduceBEq, Nat.reduceSub, qp, qf, kop, av, RQ, PQ, kres, kres1, kresL, fin, fins, fin1, V.pur?, V.pur1?, V.cells, kld, ones, V.one, Value.oneCell', own, owns, own1, xfill, ksrc, kint, vint, ksub, keqs, kok, V.val1?, ofRes, y8, y16, y24, yd, f1, f2, f3, f4, defQ2_p, defQ2_n, defQ2_r, errV, closW_e, k23, tasrt_y, tasrt_n, closQ_e, closE_n, closE_r, ne_eq, not_true_eq_false, gt_iff_lt]) | (with_reducible refine wgd_cases ?_ ?_ <;> intro hb) | (with_reducible refine wcond_cases ?_ ?_ <;> intro hb) | (with_reducible refine qd_i (by kernel_rfl) ?_) | (with_reducible refine W_itn_cases ?_ ?_; omega))
        simp only [takeS, hx, hc, if_true, v4]
      · have hcd : decide ((checkS p.1).2 = 0) = false := decide_eq_false hc
        repeat' (first | (simp -implicitDefEqProofs only [ze, Nat.reduceEqDiff, Nat.reduceAdd, Nat.reduceMul, reduceIte, Nat.reduceLT, Nat.reduceLeDiff, reduceCtorEq, Int.reduceEq, Int.reduceLT, Int.reduceLE, Int.reduceNeg, Int.reduceToNat, Nat.reduceBEq, Nat.reduceSub, qp, qf, kop, av, RQ, PQ, kres, kres1, kresL, fin, fins, fin1, V.pur?, V.pur1?, V.cells, kld, ones, V.one, Value.oneCell', own, owns, own1, xfill, ksrc, kint, vint, ksub, keqs, kok, V.val1?, ofRes, x8, x16, x24, hck]) | (with_reducible refine W_itn_cases ?_ ?_; omega))
        refine W_hp (dend_bad 0 _ hc) ?_
        rintro _ ⟨s1, n1, rfl, hn1, hk1⟩
        have y8 := (hk1 8 (by omega) (by omega)).trans (by rw [upd_at, if_neg (by omega), upd_at, if_pos rfl])
        have y16 := (hk1 16 (by omega) (by omega)).trans (Eq.trans (by rw [upd_at, if_neg (by omega), upd_at, if_neg (by omega)]) x16)
        have y24 := (hk1 24 (by omega) (by omega)).trans (by rw [upd_at, if_pos rfl])
        have f1 : ∀ j, (8 = n1 + j) = False := fun j => eq_false (by omega)
        have f2 : ∀ j, (16 = n1 + j) = False := fun j => eq_false (by omega)
        have f3 : ∀ j, (24 = n1 + j) = False := fun j => eq_false (by omega)
        have f4 : ∀ j, (n1 + j = 8) = False := fun j => eq_false (by omega)
        have f5 : ∀ j, (n1 + j = 16) = False := fun j => eq_false (by omega)
        have f6 : ∀ j, (n1 + j = 24) = False := fun j => eq_false (by omega)
        repeat' (first | (simp -implicitDefEqProofs only [ze, Nat.reduceEqDiff, Nat.reduceAdd, Nat.reduceMul, reduceIte, Nat.reduceLT, Nat.reduceLeDiff, reduceCtorEq, Int.reduceEq, Int.reduceLT, Int.reduceLE, Int.reduceNeg, Int.reduceToNat, Nat.reduceBEq, Nat.reduceSub, qp, qf, kop, av, RQ, PQ, kres, kres1, kresL, fin, fins, fin1, V.pur?, V.pur1?, V.cells, kld, ones, V.one, Value.oneCell', own, owns, own1, xfill, ksrc, kint, vint, ksub, keqs, kok, V.val1?, ofRes, y8, y16, y24, f1, f2, f3, f4, f5, f6, defQ2_p, defQ2_n, defQ2_r, errV, closW_e, k23, tasrt_y, tasrt_n, closQ_e, closE_n, closE_r, ne_eq, not_true_eq_false, gt_iff_lt]) | (with_reducible refine W_itn_cases ?_ ?_; omega))
        refine qd_i ?_ ?_
        · simp [recsOk, ordB, Rec.free, Rec.wr, disj, List.range, List.range.loop, f1, f2, f3, f4, f5, f6]; try decide
        · repeat' (first | (simp -implicitDefEqProofs only [ze, Nat.reduceEqDiff, Nat.reduceAdd, Nat.reduceMul, reduceIte, Nat.reduceLT, Nat.reduceLeDiff, reduceCtorEq, Int.reduceEq, Int.reduceLT, Int.reduceLE, Int.reduceNeg, Int.reduceToNat, Nat.reduceBEq, Nat.reduceSub, qp, qf, kop, av, RQ, PQ, kres, kres1, kresL, fin, fins, fin1, V.pur?, V.pur1?, V.cells, kld, ones, V.one, Value.oneCell', own, owns, own1, xfill, ksrc, kint, vint, ksub, keqs, kok, V.val1?, ofRes, y8, y16, y24, f1, f2, f3, f4, f5, f6, defQ2_p, defQ2_n, defQ2_r, errV, closW_e, k23, tasrt_y, tasrt_n, closQ_e, closE_n, closE_r, ne_eq, not_true_eq_false, gt_iff_lt]) | (with_reducible refine wgd_cases ?_ ?_ <;> intro hb) | (with_reducible refine wcond_cases ?_ ?_ <;> intro hb) | (with_reducible refine qd_i (by kernel_rfl) ?_) | (with_reducible refine W_itn_cases ?_ ?_; omega))
          simp only [takeS, hx, hc, if_false, hz]
    · have h1 : p.1.lines ≠ [] := by intro h; exact hf (by rw [h]; rfl)
      have h2 : p.1.lr = false := by rw [hlr]; simpa using h1
      have v4 : encE p.1 = .agg [.i64 p.1.no, .str p.1.ent, .i64 p.1.book, .i64 p.1.val, .i64 p.1.kind, .str p.1.ref, .str p.1.who, .i64 p.1.rev, .list 43 (p.1.lines.map encL) 0] := by unfold encE; rw [h2]; rfl
      have g7 : (r2 = 1) = False := eq_false (by omega)
      rw [v4] at hck
      by_cases hc : (checkS p.1).2 = 0
      · rw [hc] at hck
        repeat' (first | (simp -implicitDefEqProofs only [ze, Nat.reduceEqDiff, Nat.reduceAdd, Nat.reduceMul, reduceIte, Nat.reduceLT, Nat.reduceLeDiff, reduceCtorEq, Int.reduceEq, Int.reduceLT, Int.reduceLE, Int.reduceNeg, Int.reduceToNat, Nat.reduceBEq, Nat.reduceSub, qp, qf, kop, av, RQ, PQ, kres, kres1, kresL, fin, fins, fin1, V.pur?, V.pur1?, V.cells, kld, ones, V.one, Value.oneCell', own, owns, own1, xfill, ksrc, kint, vint, ksub, keqs, kok, V.val1?, ofRes, x8, x16, x24, hck, g7]) | (with_reducible refine W_itn_cases ?_ ?_; omega))
        refine W_hp (dend_ok (a := p.2) (dec_set (dec_set (hD.le (by omega)) (by omega) (Nat.le_refl _) _) (by omega) (Nat.le_refl _) _) hl 0 (by have := hD.2.1; omega)) ?_
        rintro _ ⟨s1, n1, rfl, hn1, hd1, hk1⟩
        have y8 := (hk1 8 (by omega) (by omega)).trans (by rw [upd_at, if_neg (by omega), upd_at, if_pos rfl])
        have y16 := (hk1 16 (by omega) (by omega)).trans (Eq.trans (by rw [upd_at, if_neg (by omega), upd_at, if_neg (by omega)]) x16)
        have y24 := (hk1 24 (by omega) (by omega)).trans (by rw [upd_at, if_pos rfl])
        have yd := hd1.2.2
        rw [Nat.add_zero] at yd
        have f1 : ∀ j, (8 = n1 + j) = False := fun j => eq_false (by omega)
        have f2 : ∀ j, (16 = n1 + j) = False := fun j => eq_false (by omega)
        have f3 : ∀ j, (24 = n1 + j) = False := fun j => eq_false (by omega)
        have f4 : ∀ j, (64 = n1 + j) = False := fun j => eq_false (by omega)
        repeat' (first | (simp -implicitDefEqProofs only [ze, Nat.reduceEqDiff, Nat.reduceAdd, Nat.reduceMul, reduceIte, Nat.reduceLT, Nat.reduceLeDiff, reduceCtorEq, Int.reduceEq, Int.reduceLT, Int.reduceLE, Int.reduceNeg, Int.reduceToNat, Nat.reduceBEq, Nat.reduceSub, qp, qf, kop, av, RQ, PQ, kres, kres1, kresL, fin, fins, fin1, V.pur?, V.pur1?, V.cells, kld, ones, V.one, Value.oneCell', own, owns, own1, xfill, ksrc, kint, vint, ksub, keqs, kok, V.val1?, ofRes, y8, y16, y24, yd, f1, f2, f3, f4, defQ2_p, defQ2_n, defQ2_r, errV, closW_e, k23, tasrt_y, tasrt_n, closQ_e, closE_n, closE_r, ne_eq, not_true_eq_false, gt_iff_lt, g7]) | (with_reducible refine wgd_cases ?_ ?_ <;> intro hb) | (with_reducible refine wcond_cases ?_ ?_ <;> intro hb) | (with_reducible refine qd_i (by kernel_rfl) ?_) | (with_reducible refine W_itn_cases ?_ ?_; omega))
        simp only [takeS, hx, hc, if_true, v4]
      · have hcd : decide ((checkS p.1).2 = 0) = false := decide_eq_false hc
        repeat' (first | (simp -implicitDefEqProofs only [ze, Nat.reduceEqDiff, Nat.reduceAdd, Nat.reduceMul, reduceIte, Nat.reduceLT, Nat.reduceLeDiff, reduceCtorEq, Int.reduceEq, Int.reduceLT, Int.reduceLE, Int.reduceNeg, Int.reduceToNat, Nat.reduceBEq, Nat.reduceSub, qp, qf, kop, av, RQ, PQ, kres, kres1, kresL, fin, fins, fin1, V.pur?, V.pur1?, V.cells, kld, ones, V.one, Value.oneCell', own, owns, own1, xfill, ksrc, kint, vint, ksub, keqs, kok, V.val1?, ofRes, x8, x16, x24, hck, g7]) | (with_reducible refine W_itn_cases ?_ ?_; omega))
        refine W_hp (dend_bad 0 _ hc) ?_
        rintro _ ⟨s1, n1, rfl, hn1, hk1⟩
        have y8 := (hk1 8 (by omega) (by omega)).trans (by rw [upd_at, if_neg (by omega), upd_at, if_pos rfl])
        have y16 := (hk1 16 (by omega) (by omega)).trans (Eq.trans (by rw [upd_at, if_neg (by omega), upd_at, if_neg (by omega)]) x16)
        have y24 := (hk1 24 (by omega) (by omega)).trans (by rw [upd_at, if_pos rfl])
        have f1 : ∀ j, (8 = n1 + j) = False := fun j => eq_false (by omega)
        have f2 : ∀ j, (16 = n1 + j) = False := fun j => eq_false (by omega)
        have f3 : ∀ j, (24 = n1 + j) = False := fun j => eq_false (by omega)
        have f4 : ∀ j, (n1 + j = 8) = False := fun j => eq_false (by omega)
        have f5 : ∀ j, (n1 + j = 16) = False := fun j => eq_false (by omega)
        have f6 : ∀ j, (n1 + j = 24) = False := fun j => eq_false (by omega)
        repeat' (first | (simp -implicitDefEqProofs only [ze, Nat.reduceEqDiff, Nat.reduceAdd, Nat.reduceMul, reduceIte, Nat.reduceLT, Nat.reduceLeDiff, reduceCtorEq, Int.reduceEq, Int.reduceLT, Int.reduceLE, Int.reduceNeg, Int.reduceToNat, Nat.reduceBEq, Nat.reduceSub, qp, qf, kop, av, RQ, PQ, kres, kres1, kresL, fin, fins, fin1, V.pur?, V.pur1?, V.cells, kld, ones, V.one, Value.oneCell', own, owns, own1, xfill, ksrc, kint, vint, ksub, keqs, kok, V.val1?, ofRes, y8, y16, y24, f1, f2, f3, f4, f5, f6, defQ2_p, defQ2_n, defQ2_r, errV, closW_e, k23, tasrt_y, tasrt_n, closQ_e, closE_n, closE_r, ne_eq, not_true_eq_false, gt_iff_lt]) | (with_reducible refine W_itn_cases ?_ ?_; omega))
        refine qd_i ?_ ?_
        · simp [recsOk, ordB, Rec.free, Rec.wr, disj, List.range, List.range.loop, f1, f2, f3, f4, f5, f6]; try decide
        · repeat' (first | (simp -implicitDefEqProofs only [ze, Nat.reduceEqDiff, Nat.reduceAdd, Nat.reduceMul, reduceIte, Nat.reduceLT, Nat.reduceLeDiff, reduceCtorEq, Int.reduceEq, Int.reduceLT, Int.reduceLE, Int.reduceNeg, Int.reduceToNat, Nat.reduceBEq, Nat.reduceSub, qp, qf, kop, av, RQ, PQ, kres, kres1, kresL, fin, fins, fin1, V.pur?, V.pur1?, V.cells, kld, ones, V.one, Value.oneCell', own, owns, own1, xfill, ksrc, kint, vint, ksub, keqs, kok, V.val1?, ofRes, y8, y16, y24, f1, f2, f3, f4, f5, f6, defQ2_p, defQ2_n, defQ2_r, errV, closW_e, k23, tasrt_y, tasrt_n, closQ_e, closE_n, closE_r, ne_eq, not_true_eq_false, gt_iff_lt]) | (with_reducible refine wgd_cases ?_ ?_ <;> intro hb) | (with_reducible refine wcond_cases ?_ ?_ <;> intro hb) | (with_reducible refine qd_i (by kernel_rfl) ?_) | (with_reducible refine W_itn_cases ?_ ?_; omega))
          simp only [takeS, hx, hc, if_false, hz]
end Go.Proofs.YtojbkakdhfmjmaaDoor.Vm
