/- Proved here: what the copy of an entry is, what a new log is. Conditions: none. -/
import Derived.Test.YtkbheoganajhaaaDoorWs4
import Derived.Test.YtkbheoganajhaaaDoorVs16
set_option maxRecDepth 10000
set_option linter.unusedVariables false
set_option linter.unusedSimpArgs false
namespace Go.Proofs.YtkbheoganajhaaaDoor.Vm
open Go Go.Proofs
theorem encL_get (ls : List Line) (i : Nat) : (ls.map encL)[i]? = (ls[i]?).map encL := by simp
/-- A line and an entry as the log copies them. -/
def copL (l : Line) : Line := { l with tr := false }
def copE (e : Entry) : Entry := { e with lines := e.lines.map copL, lr := e.lines.isEmpty }
theorem cop_k (e : Entry) : (copE e).k = e.k := by
  unfold copE Entry.k
  simp only [List.map_map]
  congr 1
theorem te_t (e : Nat) : te true e = 0 := rfl
theorem nr_f : nr false = 0 := rfl
theorem nr_t : nr true = 1 := rfl
theorem take_get {α : Type} {l : List α} {i : Nat} {x : α} (h : l[i]? = some x) : l.take (i + 1) = l.take i ++ [x] := by rw [List.take_add_one, h]; rfl
theorem copied_ok (e : Entry) (hn' : nilE e) (hl : e.lines.length < 1000000) (ht : ∀ l ∈ e.lines, l.tags.length < 1000000) : L.pl 30 [encE e] = some (.ret (encE (copE e))) := by
  refine W_of (pl_w k30_eq ?_)
  simp only [k30, encE]
  repeat' (first | (simp -implicitDefEqProofs only [ze, Nat.reduceEqDiff, Nat.reduceAdd, Nat.reduceMul, reduceIte, Nat.reduceLT, Nat.reduceLeDiff, reduceCtorEq, Int.reduceEq, Int.reduceLT, Int.reduceLE, Int.reduceNeg, Int.reduceToNat, Nat.reduceBEq, Nat.reduceSub, qp, qf, kop, av, RQ, PQ, kres, kres1, kresL, fin, fins, fin1, V.pur?, V.pur1?, V.cells, kld, ones, V.one, Value.oneCell', own, owns, own1, xfill, ksrc, kint, vint, ksub, keqs, kok, V.val1?, ofRes, List.length_map]) | (with_reducible refine wgd_cases ?_ ?_ <;> intro hb) | (with_reducible refine wcond_cases ?_ ?_ <;> intro hb) | (with_reducible refine qd_i (by kernel_rfl) ?_) | (with_reducible refine W_itn_cases ?_ ?_; omega))
  refine loop_w (fun n tm st nx => ∃ (i : Nat) (v : V), n = e.lines.length - i ∧ i ≤ e.lines.length ∧ 32 ≤ nx ∧ tm 11 = .i64 i ∧ tm 10 = .i64 e.lines.length ∧ tm 9 = .list (te e.lr 61) (e.lines.map encL) (nr e.lr) ∧ tm 1 = .ptr 8 0 ∧ tm 2 = .ptr 16 0 ∧ st 8 = some (.cells [.i64 e.no, .str e.ent, .i64 e.book, .i64 e.val, .i64 e.kind, .str e.ref, .str e.who, .i64 e.rev, v]) ∧ st 16 = some (.cells [.i64 0, .str (ByteArray.mk #[]), .i64 0, .i64 0, .i64 0, .str (ByteArray.mk #[]), .str (ByteArray.mk #[]), .i64 0, .list 0 [] 1]) ∧ Grow st nx 61 ((e.lines.take i).map fun l => encL (copL l)) v ∧ (i = 0 → v = .list 0 [] 1)) e.lines.length ⟨0, .list 0 [] 1, by omega, by omega, by omega, ?_, ?_, ?_, ?_, ?_, ?_, ?_, .inl ⟨rfl, rfl⟩, fun _ => rfl⟩ ?_
  · simp -implicitDefEqProofs only [ze, Nat.reduceEqDiff, Nat.reduceAdd, Nat.reduceMul, reduceIte, Nat.reduceLT, Nat.reduceLeDiff, reduceCtorEq, Int.reduceEq, Int.reduceLT, Int.reduceLE, Int.reduceNeg, Int.reduceToNat, Nat.reduceBEq, Nat.reduceSub, qp, qf, kop, av, RQ, PQ, kres, kres1, kresL, fin, fins, fin1, V.pur?, V.pur1?, V.cells, kld, ones, V.one, Value.oneCell', own, owns, own1, xfill, ksrc, kint, vint, ksub, keqs, kok, V.val1?, ofRes]; rfl
  · simp -implicitDefEqProofs only [ze, Nat.reduceEqDiff, Nat.reduceAdd, Nat.reduceMul, reduceIte, Nat.reduceLT, Nat.reduceLeDiff, reduceCtorEq, Int.reduceEq, Int.reduceLT, Int.reduceLE, Int.reduceNeg, Int.reduceToNat, Nat.reduceBEq, Nat.reduceSub, qp, qf, kop, av, RQ, PQ, kres, kres1, kresL, fin, fins, fin1, V.pur?, V.pur1?, V.cells, kld, ones, V.one, Value.oneCell', own, owns, own1, xfill, ksrc, kint, vint, ksub, keqs, kok, V.val1?, ofRes]
  · simp -implicitDefEqProofs only [ze, Nat.reduceEqDiff, Nat.reduceAdd, Nat.reduceMul, reduceIte, Nat.reduceLT, Nat.reduceLeDiff, reduceCtorEq, Int.reduceEq, Int.reduceLT, Int.reduceLE, Int.reduceNeg, Int.reduceToNat, Nat.reduceBEq, Nat.reduceSub, qp, qf, kop, av, RQ, PQ, kres, kres1, kresL, fin, fins, fin1, V.pur?, V.pur1?, V.cells, kld, ones, V.one, Value.oneCell', own, owns, own1, xfill, ksrc, kint, vint, ksub, keqs, kok, V.val1?, ofRes]
  · simp -implicitDefEqProofs only [ze, Nat.reduceEqDiff, Nat.reduceAdd, Nat.reduceMul, reduceIte, Nat.reduceLT, Nat.reduceLeDiff, reduceCtorEq, Int.reduceEq, Int.reduceLT, Int.reduceLE, Int.reduceNeg, Int.reduceToNat, Nat.reduceBEq, Nat.reduceSub, qp, qf, kop, av, RQ, PQ, kres, kres1, kresL, fin, fins, fin1, V.pur?, V.pur1?, V.cells, kld, ones, V.one, Value.oneCell', own, owns, own1, xfill, ksrc, kint, vint, ksub, keqs, kok, V.val1?, ofRes]
  · simp -implicitDefEqProofs only [ze, Nat.reduceEqDiff, Nat.reduceAdd, Nat.reduceMul, reduceIte, Nat.reduceLT, Nat.reduceLeDiff, reduceCtorEq, Int.reduceEq, Int.reduceLT, Int.reduceLE, Int.reduceNeg, Int.reduceToNat, Nat.reduceBEq, Nat.reduceSub, qp, qf, kop, av, RQ, PQ, kres, kres1, kresL, fin, fins, fin1, V.pur?, V.pur1?, V.cells, kld, ones, V.one, Value.oneCell', own, owns, own1, xfill, ksrc, kint, vint, ksub, keqs, kok, V.val1?, ofRes]
  · simp -implicitDefEqProofs only [ze, Nat.reduceEqDiff, Nat.reduceAdd, Nat.reduceMul, reduceIte, Nat.reduceLT, Nat.reduceLeDiff, reduceCtorEq, Int.reduceEq, Int.reduceLT, Int.reduceLE, Int.reduceNeg, Int.reduceToNat, Nat.reduceBEq, Nat.reduceSub, qp, qf, kop, av, RQ, PQ, kres, kres1, kresL, fin, fins, fin1, V.pur?, V.pur1?, V.cells, kld, ones, V.one, Value.oneCell', own, owns, own1, xfill, ksrc, kint, vint, ksub, keqs, kok, V.val1?, ofRes]
  · simp -implicitDefEqProofs only [ze, Nat.reduceEqDiff, Nat.reduceAdd, Nat.reduceMul, reduceIte, Nat.reduceLT, Nat.reduceLeDiff, reduceCtorEq, Int.reduceEq, Int.reduceLT, Int.reduceLE, Int.reduceNeg, Int.reduceToNat, Nat.reduceBEq, Nat.reduceSub, qp, qf, kop, av, RQ, PQ, kres, kres1, kresL, fin, fins, fin1, V.pur?, V.pur1?, V.cells, kld, ones, V.one, Value.oneCell', own, owns, own1, xfill, ksrc, kint, vint, ksub, keqs, kok, V.val1?, ofRes]
  rintro n tm st nx ⟨i, v, hn, hi, hnx, h11, h10, h9, h1, h2, h8, h16, hg, hz⟩
  simp only [k30_l0, k30_t0]
  have g8 : ∀ j, (8 = nx + j) = False := fun j => eq_false (by omega)
  have g16 : ∀ j, (16 = nx + j) = False := fun j => eq_false (by omega)
  have g8' : ∀ j, (nx + j = 8) = False := fun j => eq_false (by omega)
  have g16' : ∀ j, (nx + j = 16) = False := fun j => eq_false (by omega)
  by_cases hlt : i < e.lines.length
  · have hd : decide ((i : Int) < (e.lines.length : Int)) = true := decide_eq_true (by omega)
    obtain ⟨l, hl1⟩ := get_lt (l := e.lines) (i := i) hlt
    have hlm := List.mem_of_getElem? hl1
    have htl := ht l hlm
    have hlr : e.lr = false := by
      cases h : e.lr
      · rfl
      · have := hn'.1 h; rw [this] at hlt; simp at hlt
    rw [hlr] at h9
    have hup : IntKind.i64.wrap ((i : Int) + 1) = ((i + 1 : Nat) : Int) := wrap_i64 (by omega) (by omega)
    have hty : (te l.tr 97 = 97 ∨ (List.map encT l.tags).isEmpty = true) = True := eq_true (by
      cases h : l.tr
      · exact .inl rfl
      · right; rw [hn'.2 l hlm h]; rfl)
    have hel : encL l = .agg [.str l.acc, .str l.cur, .i64 l.amt, .i64 l.base, .str l.par, .str l.pty, .list (te l.tr 97) (l.tags.map encT) (nr l.tr)] := rfl
    have htk : (List.take i e.lines).length = i := by rw [List.length_take]; omega
    have hmap : (e.lines.take (i + 1)).map (fun l => encL (copL l)) = (e.lines.take i).map (fun l => encL (copL l)) ++ [encL (copL l)] := by rw [take_get hl1, List.map_append]; rfl
    rcases hg with ⟨hb0, rfl⟩ | ⟨q, hr8, hrn, rfl, hst⟩
    · repeat' (first | (simp -implicitDefEqProofs only [ze, Nat.reduceEqDiff, Nat.reduceAdd, Nat.reduceMul, reduceIte, Nat.reduceLT, Nat.reduceLeDiff, reduceCtorEq, Int.reduceEq, Int.reduceLT, Int.reduceLE, Int.reduceNeg, Int.reduceToNat, Nat.reduceBEq, Nat.reduceSub, qp, qf, kop, av, RQ, PQ, kres, kres1, kresL, fin, fins, fin1, V.pur?, V.pur1?, V.cells, kld, ones, V.one, Value.oneCell', own, owns, own1, xfill, ksrc, kint, vint, ksub, keqs, kok, V.val1?, ofRes, h11, h10, h9, h1, h2, h8, h16, hd, te_f, encL_get, hl1, hel, g8, g16, g8', g16', nxj, List.length_map, hup, hty]) | (with_reducible refine wgd_cases ?_ ?_ <;> intro hb) | (with_reducible refine wcond_cases ?_ ?_ <;> intro hb) | (with_reducible refine qd_i (by kernel_rfl) ?_) | (with_reducible refine W_itn_cases ?_ ?_; omega))
      exact ⟨e.lines.length - (i + 1), by omega, i + 1, _, rfl, by omega, rfl, by rw [hlr]; rfl, rfl, .inr ⟨nx + 112, by omega, by omega, by rw [hmap, hb0]; rfl, by rw [hmap, hb0]; simp [upd_at]⟩, fun h => by omega⟩
    · have hr0 : (q = 0) = False := eq_false (by omega)
      have hr1 : (q = 1) = False := eq_false (by omega)
      have hrx : ∀ j, (q = nx + j) = False := fun j => eq_false (by omega)
      have hrx' : ∀ j, (nx + j = q) = False := fun j => eq_false (by omega)
      have hq8 : (q = 8) = False := eq_false fun h => by subst h; rw [h8] at hst; cases hst
      have hq8' : (8 = q) = False := eq_false fun h => by subst h; rw [h8] at hst; cases hst
      have hq16 : (q = 16) = False := eq_false fun h => by subst h; rw [h16] at hst; cases hst
      have hq16' : (16 = q) = False := eq_false fun h => by subst h; rw [h16] at hst; cases hst
      repeat' (first | (simp -implicitDefEqProofs only [ze, Nat.reduceEqDiff, Nat.reduceAdd, Nat.reduceMul, reduceIte, Nat.reduceLT, Nat.reduceLeDiff, reduceCtorEq, Int.reduceEq, Int.reduceLT, Int.reduceLE, Int.reduceNeg, Int.reduceToNat, Nat.reduceBEq, Nat.reduceSub, qp, qf, kop, av, RQ, PQ, kres, kres1, kresL, fin, fins, fin1, V.pur?, V.pur1?, V.cells, kld, ones, V.one, Value.oneCell', own, owns, own1, xfill, ksrc, kint, vint, ksub, keqs, kok, V.val1?, ofRes, h11, h10, h9, h1, h2, h8, h16, hd, te_f, encL_get, hl1, hel, g8, g16, g8', g16', nxj, List.length_map, hup, hty, htk, hr0, hr1, hrx, hrx', hq8, hq8', hq16, hq16', hst]) | (with_reducible refine wgd_cases ?_ ?_ <;> intro hb) | (with_reducible refine wcond_cases ?_ ?_ <;> intro hb) | (with_reducible refine qd_i (by kernel_rfl) ?_) | (with_reducible refine W_itn_cases ?_ ?_; omega))
      exact ⟨e.lines.length - (i + 1), by omega, i + 1, _, rfl, by omega, rfl, by rw [hlr]; rfl, rfl, .inr ⟨q, by omega, by omega, by rw [hmap]; rfl, by rw [hmap]; simp [upd_at, htk, hq8, hrx]; omega⟩, fun h => by omega⟩
  · have hd : decide ((i : Int) < (e.lines.length : Int)) = false := decide_eq_false (by omega)
    have hin : i = e.lines.length := by omega
    rw [hin, List.take_length] at hg
    rcases hg with ⟨hb0, rfl⟩ | ⟨q, hr8, hrn, rfl, hst⟩
    · have hnil : e.lines = [] := by simpa using hb0
      repeat' (first | (simp -implicitDefEqProofs only [ze, Nat.reduceEqDiff, Nat.reduceAdd, Nat.reduceMul, reduceIte, Nat.reduceLT, Nat.reduceLeDiff, reduceCtorEq, Int.reduceEq, Int.reduceLT, Int.reduceLE, Int.reduceNeg, Int.reduceToNat, Nat.reduceBEq, Nat.reduceSub, qp, qf, kop, av, RQ, PQ, kres, kres1, kresL, fin, fins, fin1, V.pur?, V.pur1?, V.cells, kld, ones, V.one, Value.oneCell', own, owns, own1, xfill, ksrc, kint, vint, ksub, keqs, kok, V.val1?, ofRes, h11, h10, h9, h1, h2, h8, h16, hd, g8, g16, g8', g16']) | (with_reducible refine wgd_cases ?_ ?_ <;> intro hb) | (with_reducible refine wcond_cases ?_ ?_ <;> intro hb) | (with_reducible refine qd_i (by kernel_rfl) ?_) | (with_reducible refine W_itn_cases ?_ ?_; omega))
      simp [copE, hnil, te_t, nr_t]
    · have hr9 : (q < 8) = False := eq_false (by omega)
      have hr0 : (q = 0) = False := eq_false (by omega)
      have hr1 : (q = 1) = False := eq_false (by omega)
      repeat' (first | (simp -implicitDefEqProofs only [ze, Nat.reduceEqDiff, Nat.reduceAdd, Nat.reduceMul, reduceIte, Nat.reduceLT, Nat.reduceLeDiff, reduceCtorEq, Int.reduceEq, Int.reduceLT, Int.reduceLE, Int.reduceNeg, Int.reduceToNat, Nat.reduceBEq, Nat.reduceSub, qp, qf, kop, av, RQ, PQ, kres, kres1, kresL, fin, fins, fin1, V.pur?, V.pur1?, V.cells, kld, ones, V.one, Value.oneCell', own, owns, own1, xfill, ksrc, kint, vint, ksub, keqs, kok, V.val1?, ofRes, h11, h10, h9, h1, h2, h8, h16, hd, g8, g16, g8', g16', hr0, hr1, hr9, hst]) | (with_reducible refine wgd_cases ?_ ?_ <;> intro hb) | (with_reducible refine wcond_cases ?_ ?_ <;> intro hb) | (with_reducible refine qd_i (by kernel_rfl) ?_) | (with_reducible refine W_itn_cases ?_ ?_; omega))
      have hne : e.lines.isEmpty = false := by
        cases h : e.lines with
        | nil => have := hz (by rw [hin, h]; rfl); cases this
        | cons x xs => rfl
      simp only [copE, hne, te_f, nr_f, List.map_map]
      rfl
end Go.Proofs.YtkbheoganajhaaaDoor.Vm
