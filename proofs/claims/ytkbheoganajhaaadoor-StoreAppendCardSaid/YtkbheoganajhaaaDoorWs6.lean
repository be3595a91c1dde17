/- Proved here: what appending to a log does. Conditions: none. -/
import Derived.Test.YtkbheoganajhaaaDoorWs7
import Derived.Test.YtkbheoganajhaaaDoorVl0
import Derived.Test.YtkbheoganajhaaaDoorWl2
set_option maxRecDepth 10000
set_option linter.unusedVariables false
set_option linter.unusedSimpArgs false
namespace Go.Proofs.YtkbheoganajhaaaDoor.Vm
open Go Go.Proofs
/-- A log: its bytes, its checksum, its entries. -/
def LG (st : St) (nx id : Nat) (out : List Int) (s : Int) (es : List Entry) : Prop := ∃ w, LogW st nx id out s w ∧ Grow st nx 31 (es.map encE) w
/-- What Append returns for an entry when a log has n of them. -/
def appC (n : Nat) (x : Entry) : Int := if (checkS x).2 = 0 then (if x.no = (n : Int) + 1 then 0 else 17) else (checkS x).2
theorem growU {st : St} {nx nx' e j : Nat} {xs : List V} {v : V} (h : Grow st nx e xs v) (hj : nx ≤ j) (hn : nx ≤ nx') (o : Option Ob) : Grow (upd st j o) nx' e xs v := by
  rcases h with h | ⟨r, h1, h2, h3, h4⟩
  · exact .inl h
  · exact .inr ⟨r, h1, by omega, h3, by rw [upd_at, if_neg (by omega)]; exact h4⟩
theorem growLe {st : St} {nx nx' e : Nat} {xs : List V} {v : V} (h : Grow st nx e xs v) (hn : nx ≤ nx') : Grow st nx' e xs v := by
  rcases h with h | ⟨r, h1, h2, h3, h4⟩
  · exact .inl h
  · exact .inr ⟨r, h1, by omega, h3, h4⟩
theorem lgU {st : St} {nx nx' id j : Nat} {out : List Int} {s : Int} {es : List Entry} (h : LG st nx id out s es) (hj : nx ≤ j) (hn : nx ≤ nx') (o : Option Ob) : LG (upd st j o) nx' id out s es := by
  obtain ⟨w, ⟨h1, v, h2, h3⟩, h4⟩ := h
  exact ⟨w, ⟨by omega, v, by rw [upd_at, if_neg (by omega)]; exact h2, growU h3 hj hn o⟩, growU h4 hj hn o⟩
theorem lgLe {st : St} {nx nx' id : Nat} {out : List Int} {s : Int} {es : List Entry} (h : LG st nx id out s es) (hn : nx ≤ nx') : LG st nx' id out s es := by
  obtain ⟨w, ⟨h1, v, h2, h3⟩, h4⟩ := h
  exact ⟨w, ⟨by omega, v, h2, growLe h3 hn⟩, growLe h4 hn⟩
theorem keepU {st : St} {nx id j : Nat} (hj : nx ≤ j) (o : Option Ob) : KeepO st (upd st j o) nx id := fun i h1 h2 h3 => by rw [upd_at, if_neg (by omega)]
theorem keepRefl (st : St) (nx id : Nat) : KeepO st st nx id := fun i h1 h2 h3 => rfl
theorem keepTrans {st st' st'' : St} {nx nx' id : Nat} (h : KeepO st st' nx id) (k : KeepO st' st'' nx' id) (hn : nx ≤ nx') : KeepO st st'' nx id := fun i h1 h2 h3 => by
  have e := h i h1 h2 h3
  rw [← e]
  exact k i (by omega) h2 (fun n e' => by rw [e]; exact h3 n e')
theorem growN {st : St} {nx e j : Nat} {xs : List V} {v : V} (h : Grow st nx e xs v) (hj : ∀ n, st j ≠ some (.tok n e)) (o : Option Ob) : Grow (upd st j o) nx e xs v := by
  rcases h with h | ⟨r, h1, h2, h3, h4⟩
  · exact .inl h
  · exact .inr ⟨r, h1, h2, h3, by rw [upd_at, if_neg (fun e => hj _ (e ▸ h4))]; exact h4⟩
theorem kqU {st : St} {nx id j : Nat} (hid : id < nx) (hj : nx ≤ j) (o : Option Ob) : KQ st (upd st j o) nx id := by
  refine ⟨fun k h1 h2 h3 => by rw [upd_at, if_neg (by omega)], fun k hk => ?_⟩
  have e : toksAt (upd st j o) id = toksAt st id := by unfold toksAt; rw [upd_at, if_neg (by omega)]
  rw [e] at hk; exact .inl hk
theorem kqTrans {st st' st'' : St} {nx nx' id : Nat} (h : KQ st st' nx id) (k : KQ st' st'' nx' id) (hn : nx ≤ nx') : KQ st st'' nx id := by
  refine ⟨fun i h1 h2 h3 => ?_, fun i hi => ?_⟩
  · rw [k.1 i (by omega) h2 (fun hm => (h.2 i hm).elim h3 (by omega)), h.1 i h1 h2 h3]
  · rcases k.2 i hi with q | q
    · exact h.2 i q
    · exact .inr (by omega)
theorem append_ok {st : St} {nx id : Nat} {out : List Int} {s : Int} {es : List Entry} (h : LG st nx id out s es) (x : Entry) (hx : smallE x) (rx : rangeE x) (hs : u64r s) (hl : out.length ≤ 100000000000) (he : es.length ≤ 1000000) :
    W (L.hp 12 [.ptr id 0, encE x] st nx) fun r => ∃ st' nx', r = .ret (.i64 (appC es.length x)) st' nx' ∧ nx ≤ nx' ∧ KeepO st st' nx id ∧ KQ st st' nx id ∧
      ((appC es.length x = 0 ∧ LG st' nx' id (out ++ frameB (entryB x) (nextI s (entryB x))) (nextI s (entryB x)) (es ++ [copE x])) ∨ (¬ appC es.length x = 0 ∧ LG st' nx' id out s es)) := by
  refine hp_w k12_eq ?_
  simp only [k12]
  obtain ⟨w, ⟨hid, v, hv, hg⟩, hw⟩ := h
  have hc := check_ok x hx rx.amts
  have hne : ∀ j, (id = nx + j) = False := fun j => eq_false (by omega)
  have hne' : ∀ j, (nx + j = id) = False := fun j => eq_false (by omega)
  have hn1 : (id = nx) = False := eq_false (by omega)
  have hn2 : (nx = id) = False := eq_false (by omega)
  by_cases h1 : (checkS x).2 = 0
  · have hpx := check_plain h1 rx hx.nils
    rw [h1] at hc
    have hP := put_ok x hpx _ hc
    have hcp := copied_ok x hx.nils (by have := hpx.len; omega) (fun l hl => by have := (hpx.lines l hl).len; omega)
    simp only [encE] at hc hP hcp ⊢
    have hw8 : IntKind.i64.wrap ((es.length : Int) + 1) = (es.length : Int) + 1 := wrap_i64 (by omega) (by omega)
    have hwl : w = .list 0 [] 1 ∧ es = [] ∨ ∃ r, w = .list 31 (es.map encE) r := by
      rcases hw with ⟨a, b⟩ | ⟨r, _, _, a, _⟩
      · exact .inl ⟨b, by simpa using a⟩
      · exact .inr ⟨r, a⟩
    obtain ⟨we, wr, rfl⟩ : ∃ we wr, w = .list we (es.map encE) wr := by
      rcases hwl with ⟨rfl, rfl⟩ | ⟨r, rfl⟩
      · exact ⟨0, 1, rfl⟩
      · exact ⟨_, r, rfl⟩
    by_cases h2 : x.no = (es.length : Int) + 1
    · have hd2 : decide (x.no = (es.length : Int) + 1) = true := decide_eq_true h2
      repeat' (first | (simp -implicitDefEqProofs only [ze, Nat.reduceEqDiff, Nat.reduceAdd, Nat.reduceMul, reduceIte, Nat.reduceLT, Nat.reduceLeDiff, reduceCtorEq, Int.reduceEq, Int.reduceLT, Int.reduceLE, Int.reduceNeg, Int.reduceToNat, Nat.reduceBEq, Nat.reduceSub, qp, qf, kop, av, RQ, PQ, kres, kres1, kresL, fin, fins, fin1, V.pur?, V.pur1?, V.cells, kld, ones, V.one, Value.oneCell', own, owns, own1, xfill, ksrc, kint, vint, ksub, keqs, kok, V.val1?, ofRes, hc, hP, hv, hd2, hw8, hne, hne', hn1, hn2, nxj, nr_pur, List.length_map]) | (with_reducible refine W_itn_cases ?_ ?_; omega))
      refine qd_i ?_ ?_
      · simp [recsOk, ordB, Rec.free, Rec.wr, disj, List.range, List.range.loop, hne, hne', hn1, hn2]; try decide
      repeat' (first | (simp -implicitDefEqProofs only [ze, Nat.reduceEqDiff, Nat.reduceAdd, Nat.reduceMul, reduceIte, Nat.reduceLT, Nat.reduceLeDiff, reduceCtorEq, Int.reduceEq, Int.reduceLT, Int.reduceLE, Int.reduceNeg, Int.reduceToNat, Nat.reduceBEq, Nat.reduceSub, qp, qf, kop, av, RQ, PQ, kres, kres1, kresL, fin, fins, fin1, V.pur?, V.pur1?, V.cells, kld, ones, V.one, Value.oneCell', own, owns, own1, xfill, ksrc, kint, vint, ksub, keqs, kok, V.val1?, ofRes, hc, hP, hv, hd2, hw8, hne, hne', hn1, hn2, nxj, nr_pur, List.length_map, enc_get]) | (with_reducible refine W_itn_cases ?_ ?_; omega))
      refine W_hp (write_ok (s := s) (w := .list we (es.map encE) wr) (out := out) ⟨by omega, v, by simp [upd_at, hne, hn1, hv], growU (growU hg (by omega) (Nat.le_refl _) _) (by omega) (by omega) _⟩ (entryB x) (entryB_inR hpx) hs hl (by have := entryB_short hpx; omega) _) ?_
      rintro _ ⟨st1, nx1, rfl, hnx1, ⟨_, v1, hv1, hg1⟩, hKO, hKR, hKQ⟩
      have hbx : st1 nx = some (.cells [V.i64 x.no, V.str x.ent, V.i64 x.book, V.i64 x.val, V.i64 x.kind, V.str x.ref, V.str x.who, V.i64 x.rev, V.list (te x.lr 61) (List.map encL x.lines) (nr x.lr)]) := (hKO nx (by omega) (by omega) (by intro n e h; simp [upd_at, nxj] at h)).trans (by simp [upd_at, nxj])
      have hK : KeepO st st1 nx id := keepTrans (nx' := nx) (keepTrans (nx' := nx) (keepU (Nat.le_refl _) _) (keepU (by omega) _) (Nat.le_refl _)) (fun i i1 i2 i3 => hKO i (by omega) i2 i3) (Nat.le_refl _)
      have hQ : KQ st st1 nx id := kqTrans (nx' := nx) (kqTrans (nx' := nx) (kqU hid (Nat.le_refl _) _) (kqU hid (by omega) _) (Nat.le_refl _)) (kqTrans (nx' := nx + 288) ⟨fun _ _ _ _ => rfl, fun _ q => .inl q⟩ hKQ (by omega)) (Nat.le_refl _)
      have k1 : ∀ j, (id = nx1 + j) = False := fun j => eq_false (by omega)
      have k2 : ∀ j, (nx1 + j = id) = False := fun j => eq_false (by omega)
      have k3 : ∀ j, (nx = nx1 + j) = False := fun j => eq_false (by omega)
      have k4 : ∀ j, (nx1 + j = nx) = False := fun j => eq_false (by omega)
      have hap : appC es.length x = 0 := by unfold appC; rw [if_pos h1, if_pos h2]
      rcases hw with ⟨hb0, hwn⟩ | ⟨q, hr8, hrn, hwq, hst⟩
      · obtain ⟨rfl, e0, rfl⟩ : we = 0 ∧ es.map encE = [] ∧ wr = 1 := by injection hwn with a b c; exact ⟨a, b, c⟩
        rw [e0] at hv1
        repeat' (first | (simp -implicitDefEqProofs only [ze, Nat.reduceEqDiff, Nat.reduceAdd, Nat.reduceMul, reduceIte, Nat.reduceLT, Nat.reduceLeDiff, reduceCtorEq, Int.reduceEq, Int.reduceLT, Int.reduceLE, Int.reduceNeg, Int.reduceToNat, Nat.reduceBEq, Nat.reduceSub, qp, qf, kop, av, RQ, PQ, kres, kres1, kresL, fin, fins, fin1, V.pur?, V.pur1?, V.cells, kld, ones, V.one, Value.oneCell', own, owns, own1, xfill, ksrc, kint, vint, ksub, keqs, kok, V.val1?, ofRes, hv1, hbx, hcp, hne, hne', hn1, hn2, nxj, nr_pur, List.length_map, k1, k2, k3, k4]) | (with_reducible refine W_itn_cases ?_ ?_; omega))
        refine qd_i ?_ ?_
        · simp [recsOk, ordB, Rec.free, Rec.wr, disj, List.range, List.range.loop, hn1, hn2, k1, k2, k3, k4]; try decide
        simp -implicitDefEqProofs only [ze, Nat.reduceEqDiff, Nat.reduceAdd, Nat.reduceMul, reduceIte, Nat.reduceLT, Nat.reduceLeDiff, reduceCtorEq, Int.reduceEq, Int.reduceLT, Int.reduceLE, Int.reduceNeg, Int.reduceToNat, Nat.reduceBEq, Nat.reduceSub, qp, qf, kop, av, RQ, PQ, kres, kres1, kresL, fin, fins, fin1, V.pur?, V.pur1?, V.cells, kld, ones, V.one, Value.oneCell', own, owns, own1, xfill, ksrc, kint, vint, ksub, keqs, kok, V.val1?, ofRes, hv1, hbx, hcp, hne, hne', hn1, hn2, nxj, nr_pur, List.length_map, k1, k2, k3, k4]
        refine ⟨_, _, congrArg (fun z => HR.ret (V.i64 z) _ _) hap.symm, by omega, fun i i1 i2 i3 => by rw [upd_at, if_neg i2, upd_at, if_neg (by omega), upd_at, if_neg (by omega)]; exact hK i i1 i2 i3, kqTrans (nx' := nx1) hQ ⟨fun k i1 i2 i3 => by rw [upd_at, if_neg i2, upd_at, if_neg (by omega), upd_at, if_neg (by omega)], fun k hk => by
          simp only [toksAt, upd_at, if_true, tokOf, List.mem_cons, List.not_mem_nil, or_false] at hk
          simp only [toksAt, hv1, tokOf, List.mem_cons, List.not_mem_nil, or_false]
          omega⟩ (by omega), .inl ⟨hap, _, ⟨by omega, _, by rw [upd_at, if_pos rfl], growN (growU (growU hg1 (by omega) (Nat.le_refl _) _) (by omega) (by omega) _) (by intro n; rw [upd_at, if_neg (by omega), upd_at, if_neg (by omega), hv1]; intro h; cases h) _⟩, .inr ⟨nx1 + 64, by omega, by omega, by rw [List.map_append, e0]; rfl, by rw [upd_at, if_neg (by omega), upd_at, if_pos rfl, List.map_append, e0]; rfl⟩⟩⟩
      · obtain ⟨rfl, rfl⟩ : we = 31 ∧ wr = q := by injection hwq with a b c; exact ⟨a, c⟩
        have q1 : st1 wr = some (.tok (es.map encE).length 31) := hKR wr _ _ (by omega) (by decide) (by rw [upd_at, if_neg (by omega), upd_at, if_neg (by omega)]; exact hst)
        have hr0 : (wr = 0) = False := eq_false (by omega)
        have hr1 : (wr = 1) = False := eq_false (by omega)
        have hrx : ∀ j, (wr = nx1 + j) = False := fun j => eq_false (by omega)
        have hrx' : ∀ j, (nx1 + j = wr) = False := fun j => eq_false (by omega)
        have hri : (wr = id) = False := eq_false fun e => by subst e; rw [hv] at hst; cases hst
        have hir : (id = wr) = False := eq_false fun e => by subst e; rw [hv] at hst; cases hst
        have hrn1 : (wr = nx) = False := eq_false (by omega)
        have hrn2 : (nx = wr) = False := eq_false (by omega)
        repeat' (first | (simp -implicitDefEqProofs only [ze, Nat.reduceEqDiff, Nat.reduceAdd, Nat.reduceMul, reduceIte, Nat.reduceLT, Nat.reduceLeDiff, reduceCtorEq, Int.reduceEq, Int.reduceLT, Int.reduceLE, Int.reduceNeg, Int.reduceToNat, Nat.reduceBEq, Nat.reduceSub, qp, qf, kop, av, RQ, PQ, kres, kres1, kresL, fin, fins, fin1, V.pur?, V.pur1?, V.cells, kld, ones, V.one, Value.oneCell', own, owns, own1, xfill, ksrc, kint, vint, ksub, keqs, kok, V.val1?, ofRes, hv1, hbx, hcp, hne, hne', hn1, hn2, nxj, nr_pur, List.length_map, k1, k2, k3, k4, hr0, hr1, hrx, hrx', hri, hir, hrn1, hrn2, q1]) | (with_reducible refine W_itn_cases ?_ ?_; omega))
        refine qd_i ?_ ?_
        · simp [recsOk, ordB, Rec.free, Rec.wr, disj, List.range, List.range.loop, hn1, hn2, k1, k2, k3, k4, hrx, hrx', hri, hir, hrn1, hrn2]; try decide
        simp -implicitDefEqProofs only [ze, Nat.reduceEqDiff, Nat.reduceAdd, Nat.reduceMul, reduceIte, Nat.reduceLT, Nat.reduceLeDiff, reduceCtorEq, Int.reduceEq, Int.reduceLT, Int.reduceLE, Int.reduceNeg, Int.reduceToNat, Nat.reduceBEq, Nat.reduceSub, qp, qf, kop, av, RQ, PQ, kres, kres1, kresL, fin, fins, fin1, V.pur?, V.pur1?, V.cells, kld, ones, V.one, Value.oneCell', own, owns, own1, xfill, ksrc, kint, vint, ksub, keqs, kok, V.val1?, ofRes, hv1, hbx, hcp, hne, hne', hn1, hn2, nxj, nr_pur, List.length_map, k1, k2, k3, k4, hr0, hr1, hrx, hrx', hri, hir, hrn1, hrn2, q1]
        have hwr1 : ¬ wr = nx1 + 56 := by omega
        have hwi : ¬ id = wr := fun e => by rw [hir] at e; exact e
        refine ⟨_, _, congrArg (fun z => HR.ret (V.i64 z) _ _) hap.symm, by omega, fun i i1 i2 i3 => ?_, kqTrans (nx' := nx1) hQ ⟨fun k i1 i2 i3 => by
            simp only [toksAt, hv1, tokOf, List.mem_cons, List.not_mem_nil, or_false, not_or] at i3
            rw [upd_at, if_neg i2, upd_at, if_neg i3.2, upd_at, if_neg (by omega)], fun k hk => by
          simp only [toksAt, upd_at, if_true, tokOf, List.mem_cons, List.not_mem_nil, or_false] at hk
          simp only [toksAt, hv1, tokOf, List.mem_cons, List.not_mem_nil, or_false]
          omega⟩ (by omega), .inl ⟨hap, _, ⟨by omega, _, by rw [upd_at, if_pos rfl], growN (growN (growU hg1 (by omega) (by omega) _) (by intro n; rw [upd_at, if_neg hwr1, q1]; intro h; cases h) _) (by intro n; rw [upd_at, if_neg hwi, upd_at, if_neg (by omega), hv1]; intro h; cases h) _⟩, .inr ⟨wr, hr8, by omega, by rw [List.map_append]; rfl, by rw [upd_at, if_neg (fun e => hwi e.symm), upd_at, if_pos rfl, List.map_append, List.length_append, List.length_map]; rfl⟩⟩⟩
        have hiw : ¬ i = wr := fun e => by subst e; exact i3 _ _ hst
        have e := hK i i1 i2 i3
        rw [upd_at, if_neg i2, upd_at, if_neg hiw, upd_at, if_neg (by omega)]
        exact e
    · have hd2 : decide (x.no = (es.length : Int) + 1) = false := decide_eq_false h2
      repeat' (first | (simp -implicitDefEqProofs only [ze, Nat.reduceEqDiff, Nat.reduceAdd, Nat.reduceMul, reduceIte, Nat.reduceLT, Nat.reduceLeDiff, reduceCtorEq, Int.reduceEq, Int.reduceLT, Int.reduceLE, Int.reduceNeg, Int.reduceToNat, Nat.reduceBEq, Nat.reduceSub, qp, qf, kop, av, RQ, PQ, kres, kres1, kresL, fin, fins, fin1, V.pur?, V.pur1?, V.cells, kld, ones, V.one, Value.oneCell', own, owns, own1, xfill, ksrc, kint, vint, ksub, keqs, kok, V.val1?, ofRes, hc, hP, hv, hd2, hw8, hne, hne', hn1, hn2, nxj, nr_pur, List.length_map]) | (with_reducible refine W_itn_cases ?_ ?_; omega))
      refine qd_i ?_ ?_
      · simp [recsOk, ordB, Rec.free, Rec.wr, disj, List.range, List.range.loop, hne, hne', hn1, hn2]; try decide
      simp -implicitDefEqProofs only [ze, Nat.reduceEqDiff, Nat.reduceAdd, Nat.reduceMul, reduceIte, Nat.reduceLT, Nat.reduceLeDiff, reduceCtorEq, Int.reduceEq, Int.reduceLT, Int.reduceLE, Int.reduceNeg, Int.reduceToNat, Nat.reduceBEq, Nat.reduceSub, qp, qf, kop, av, RQ, PQ, kres, kres1, kresL, fin, fins, fin1, V.pur?, V.pur1?, V.cells, kld, ones, V.one, Value.oneCell', own, owns, own1, xfill, ksrc, kint, vint, ksub, keqs, kok, V.val1?, ofRes, hc, hP, hv, hd2, hw8, hne, hne', hn1, hn2, nxj, nr_pur, List.length_map]
      have hap : appC es.length x = 17 := by unfold appC; rw [if_pos h1, if_neg h2]
      exact ⟨_, _, by rw [hap], by omega, keepU (by omega) _, kqU hid (by omega) _, .inr ⟨by rw [hap]; decide, lgU ⟨_, ⟨hid, v, hv, hg⟩, hw⟩ (by omega) (by omega) _⟩⟩
  · have hd : decide ((checkS x).2 = 0) = false := decide_eq_false h1
    simp only [encE] at hc ⊢
    repeat' (first | (simp -implicitDefEqProofs only [ze, Nat.reduceEqDiff, Nat.reduceAdd, Nat.reduceMul, reduceIte, Nat.reduceLT, Nat.reduceLeDiff, reduceCtorEq, Int.reduceEq, Int.reduceLT, Int.reduceLE, Int.reduceNeg, Int.reduceToNat, Nat.reduceBEq, Nat.reduceSub, qp, qf, kop, av, RQ, PQ, kres, kres1, kresL, fin, fins, fin1, V.pur?, V.pur1?, V.cells, kld, ones, V.one, Value.oneCell', own, owns, own1, xfill, ksrc, kint, vint, ksub, keqs, kok, V.val1?, ofRes, hc, hd, hne, hne', nr_pur]) | (with_reducible refine wgd_cases ?_ ?_ <;> intro hb) | (with_reducible refine wcond_cases ?_ ?_ <;> intro hb) | (with_reducible refine qd_i (by kernel_rfl) ?_) | (with_reducible refine W_itn_cases ?_ ?_; omega))
    have hap : appC es.length x = (checkS x).2 := by unfold appC; rw [if_neg h1]
    exact ⟨_, _, by rw [hap], by omega, keepU (by omega) _, kqU hid (by omega) _, .inr ⟨by rw [hap]; exact h1, lgU ⟨w, ⟨hid, v, hv, hg⟩, hw⟩ (by omega) (by omega) _⟩⟩
end Go.Proofs.YtkbheoganajhaaaDoor.Vm
