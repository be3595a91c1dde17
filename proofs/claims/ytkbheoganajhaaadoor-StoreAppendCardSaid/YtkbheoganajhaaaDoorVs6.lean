/- Proved here: what the comparisons of lines and entries and the check of an entry's head return. Conditions: none. -/
import Derived.Test.YtkbheoganajhaaaDoorVs5
set_option maxRecDepth 10000
set_option linter.unusedVariables false
set_option linter.unusedSimpArgs false
namespace Go.Proofs.YtkbheoganajhaaaDoor.Vm
open Go Go.Proofs
structure Entry where
  no : Int
  ent : ByteArray
  book : Int
  val : Int
  kind : Int
  ref : ByteArray
  who : ByteArray
  rev : Int
  lines : List Line
  lr : Bool
def encE (e : Entry) : V := .agg [.i64 e.no, .str e.ent, .i64 e.book, .i64 e.val, .i64 e.kind, .str e.ref, .str e.who, .i64 e.rev, .list (te e.lr 61) (e.lines.map encL) (nr e.lr)]
structure smallE (e : Entry) : Prop where
  ent : small e.ent
  ref : small e.ref
  who : small e.who
  lines : ∀ l ∈ e.lines, smallL l
  len : e.lines.length < 4611686018427387904
  nil : e.lr = true → e.lines = []
def headS (e : Entry) : Int :=
  if e.no < 0 ∨ 4000 < e.no ∨ e.rev < 0 ∨ 4000 < e.rev then 3
  else if (codeS e.ent && codeS e.who) = false then 7
  else if (dayS e.book && dayS e.val) = false then 11
  else if e.kind < 1 ∨ 7 < e.kind then 10
  else if plainS e.ref = false then 5
  else if e.lines.length < 2 then 2
  else if 100 < e.lines.length then 9
  else 0
theorem head_ok (e : Entry) (hs : smallE e) : L.pl 45 [encE e] = some (.ret (.i64 (headS e))) := by
  refine W_of (pl_w k45_eq ?_)
  simp only [k45, encE]
  repeat' (first | (simp -implicitDefEqProofs only [ze, Nat.reduceEqDiff, Nat.reduceAdd, Nat.reduceMul, reduceIte, Nat.reduceLT, Nat.reduceLeDiff, reduceCtorEq, Int.reduceEq, Int.reduceLT, Int.reduceLE, Int.reduceNeg, Int.reduceToNat, Nat.reduceBEq, Nat.reduceSub, qp, qf, kop, av, RQ, PQ, kres, kres1, kresL, fin, fins, fin1, V.pur?, V.pur1?, V.cells, kld, ones, V.one, Value.oneCell', own, owns, own1, xfill, ksrc, kint, vint, ksub, keqs, kok, V.val1?, ofRes, code_ok, isDay_ok, plain_ok, nr_pur, List.length_map]) | (with_reducible refine wgd_cases ?_ ?_ <;> intro hb) | (with_reducible refine wcond_cases ?_ ?_ <;> intro hb) | (with_reducible refine qd_i (by kernel_rfl) ?_) | (with_reducible refine W_itn_cases ?_ ?_; omega))
  all_goals (refine ret_i ?_; simp_all [headS]; try omega)
theorem rhead_ok (e : Entry) (hs : smallE e) : L.pl 24 [encE e] = some (.ret (.i64 (headS e))) := by
  refine W_of (pl_w k24_eq ?_)
  simp only [k24, encE]
  repeat' (first | (simp -implicitDefEqProofs only [ze, Nat.reduceEqDiff, Nat.reduceAdd, Nat.reduceMul, reduceIte, Nat.reduceLT, Nat.reduceLeDiff, reduceCtorEq, Int.reduceEq, Int.reduceLT, Int.reduceLE, Int.reduceNeg, Int.reduceToNat, Nat.reduceBEq, Nat.reduceSub, qp, qf, kop, av, RQ, PQ, kres, kres1, kresL, fin, fins, fin1, V.pur?, V.pur1?, V.cells, kld, ones, V.one, Value.oneCell', own, owns, own1, xfill, ksrc, kint, vint, ksub, keqs, kok, V.val1?, ofRes, rcode_ok e.ent hs.ent, rcode_ok e.who hs.who, rday_ok, rplain_ok e.ref hs.ref, nr_pur, List.length_map]) | (with_reducible refine wgd_cases ?_ ?_ <;> intro hb) | (with_reducible refine wcond_cases ?_ ?_ <;> intro hb) | (with_reducible refine qd_i (by kernel_rfl) ?_) | (with_reducible refine W_itn_cases ?_ ?_; omega))
  all_goals (refine ret_i ?_; simp_all [headS]; try omega)
/-! ### Equality -/
noncomputable instance : DecidableEq Tag := fun a b => Classical.propDecidable _
noncomputable instance : DecidableEq Line := fun a b => Classical.propDecidable _
noncomputable instance : DecidableEq Entry := fun a b => Classical.propDecidable _
/-- A line without the mark of its list. -/
def Line.k (l : Line) : Line := { l with tr := false }
def Entry.k (e : Entry) : Entry := { e with lines := e.lines.map Line.k, lr := false }
theorem list_eq {α : Type} {a b : List α} (hl : a.length = b.length) (hp : ∀ j, j < a.length → a[j]? = b[j]?) : a = b := by
  apply List.ext_getElem?
  intro j
  rcases Nat.lt_or_ge j a.length with h | h
  · exact hp j h
  · rw [List.getElem?_eq_none h, List.getElem?_eq_none (by omega)]
theorem list_ne {α : Type} {a b : List α} {i : Nat} {x y : α} (hx : a[i]? = some x) (hy : b[i]? = some y) (h : ¬ x = y) : ¬ a = b := fun e => by
  subst e; rw [hx] at hy; exact h (Option.some.inj hy)
theorem tag_ext {a b : Tag} : a = b ↔ a.n = b.n ∧ a.v = b.v := by cases a; cases b; simp
theorem lk_ext {a b : Line} : a.k = b.k ↔ a.acc = b.acc ∧ a.cur = b.cur ∧ a.amt = b.amt ∧ a.base = b.base ∧ a.par = b.par ∧ a.pty = b.pty ∧ a.tags = b.tags := by cases a; cases b; simp [Line.k]
theorem ek_ext {a b : Entry} : a.k = b.k ↔ a.no = b.no ∧ a.ent = b.ent ∧ a.book = b.book ∧ a.val = b.val ∧ a.kind = b.kind ∧ a.ref = b.ref ∧ a.who = b.who ∧ a.rev = b.rev ∧ a.lines.map Line.k = b.lines.map Line.k := by cases a; cases b; simp [Entry.k]
theorem te_or {α : Type} {l : List α} {b : Bool} (h : b = true → l = []) (e : Nat) : l = [] ∨ te b e = e := by
  cases b
  · exact .inr rfl
  · exact .inl (h rfl)
theorem tagsame_ok (a b : List Tag) (ea eb ra rb : Nat) (hl : a.length < 4611686018427387904) (hea : a = [] ∨ ea = 97) (heb : b = [] ∨ eb = 97) : L.pl 103 [.list ea (a.map encT) ra, .list eb (b.map encT) rb] = some (.ret (.bool (decide (a = b)))) := by
  refine W_of (pl_w k103_eq ?_)
  simp only [k103, k103_t0]
  by_cases hlen : a.length = b.length
  · have hd : decide ((a.length : Int) = (b.length : Int)) = true := decide_eq_true (by omega)
    repeat' (first | (simp -implicitDefEqProofs only [ze, Nat.reduceEqDiff, Nat.reduceAdd, Nat.reduceMul, reduceIte, Nat.reduceLT, Nat.reduceLeDiff, reduceCtorEq, Int.reduceEq, Int.reduceLT, Int.reduceLE, Int.reduceNeg, Int.reduceToNat, Nat.reduceBEq, Nat.reduceSub, qp, qf, kop, av, RQ, PQ, kres, kres1, kresL, fin, fins, fin1, V.pur?, V.pur1?, V.cells, kld, ones, V.one, Value.oneCell', own, owns, own1, xfill, ksrc, kint, vint, ksub, keqs, kok, V.val1?, ofRes, List.length_map, hd]) | (with_reducible refine wgd_cases ?_ ?_ <;> intro hb) | (with_reducible refine wcond_cases ?_ ?_ <;> intro hb) | (with_reducible refine qd_i (by kernel_rfl) ?_) | (with_reducible refine W_itn_cases ?_ ?_; omega))
    refine loop_w (fun n tm st nx => ∃ i : Nat, n = a.length - i ∧ i ≤ a.length ∧ tm 5 = .i64 i ∧ tm 0 = .list ea (a.map encT) ra ∧ tm 1 = .list eb (b.map encT) rb ∧ ∀ j, j < i → a[j]? = b[j]?) a.length ⟨0, by omega, by omega, ?_, ?_, ?_, by omega⟩ ?_
    · simp -implicitDefEqProofs only [ze, Nat.reduceEqDiff, Nat.reduceAdd, Nat.reduceMul, reduceIte, Nat.reduceLT, Nat.reduceLeDiff, reduceCtorEq, Int.reduceEq, Int.reduceLT, Int.reduceLE, Int.reduceNeg, Int.reduceToNat, Nat.reduceBEq, Nat.reduceSub, qp, qf, kop, av, RQ, PQ, kres, kres1, kresL, fin, fins, fin1, V.pur?, V.pur1?, V.cells, kld, ones, V.one, Value.oneCell', own, owns, own1, xfill, ksrc, kint, vint, ksub, keqs, kok, V.val1?, ofRes]; rfl
    · simp -implicitDefEqProofs only [ze, Nat.reduceEqDiff, Nat.reduceAdd, Nat.reduceMul, reduceIte, Nat.reduceLT, Nat.reduceLeDiff, reduceCtorEq, Int.reduceEq, Int.reduceLT, Int.reduceLE, Int.reduceNeg, Int.reduceToNat, Nat.reduceBEq, Nat.reduceSub, qp, qf, kop, av, RQ, PQ, kres, kres1, kresL, fin, fins, fin1, V.pur?, V.pur1?, V.cells, kld, ones, V.one, Value.oneCell', own, owns, own1, xfill, ksrc, kint, vint, ksub, keqs, kok, V.val1?, ofRes]
    · simp -implicitDefEqProofs only [ze, Nat.reduceEqDiff, Nat.reduceAdd, Nat.reduceMul, reduceIte, Nat.reduceLT, Nat.reduceLeDiff, reduceCtorEq, Int.reduceEq, Int.reduceLT, Int.reduceLE, Int.reduceNeg, Int.reduceToNat, Nat.reduceBEq, Nat.reduceSub, qp, qf, kop, av, RQ, PQ, kres, kres1, kresL, fin, fins, fin1, V.pur?, V.pur1?, V.cells, kld, ones, V.one, Value.oneCell', own, owns, own1, xfill, ksrc, kint, vint, ksub, keqs, kok, V.val1?, ofRes]
    · rintro n tm st nx ⟨i, hi, hi2, h5, h0, h1, hp⟩
      simp only [k103_l0]
      by_cases hlt : i < a.length
      · have e1 : ea = 97 := by
          rcases hea with rfl | h
          · simp at hlt
          · exact h
        have e2 : eb = 97 := by
          rcases heb with rfl | h
          · rw [List.length_nil] at hlen; omega
          · exact h
        subst e1; subst e2
        obtain ⟨x, hx⟩ := get_lt hlt
        obtain ⟨y, hy⟩ := get_lt (l := b) (i := i) (by omega)
        have hd : decide ((i : Int) < (a.length : Int)) = true := decide_eq_true (by omega)
        repeat' (first | (simp -implicitDefEqProofs only [ze, Nat.reduceEqDiff, Nat.reduceAdd, Nat.reduceMul, reduceIte, Nat.reduceLT, Nat.reduceLeDiff, reduceCtorEq, Int.reduceEq, Int.reduceLT, Int.reduceLE, Int.reduceNeg, Int.reduceToNat, Nat.reduceBEq, Nat.reduceSub, qp, qf, kop, av, RQ, PQ, kres, kres1, kresL, fin, fins, fin1, V.pur?, V.pur1?, V.cells, kld, ones, V.one, Value.oneCell', own, owns, own1, xfill, ksrc, kint, vint, ksub, keqs, kok, V.val1?, ofRes, h5, h0, h1, hd, hx, hy, encT, List.length_map, tag_ext]) | (with_reducible refine wgd_cases ?_ ?_ <;> intro hb) | (with_reducible refine wcond_cases ?_ ?_ <;> intro hb) | (with_reducible refine qd_i (by kernel_rfl) ?_) | (with_reducible refine W_itn_cases ?_ ?_; omega))
        · exact ret_b (decide_eq_false (list_ne hx hy fun e => by subst e; simp at hb)).symm
        · have hxy : x = y := by rw [tag_ext]; simpa using hb
          refine ⟨a.length - (i + 1), by omega, i + 1, rfl, by omega, up64 (by omega), fun j hj => ?_⟩
          rcases Nat.lt_succ_iff_lt_or_eq.mp hj with h | rfl
          · exact hp j h
          · rw [hx, hy, hxy]
      · have hd : decide ((i : Int) < (a.length : Int)) = false := decide_eq_false (by omega)
        repeat' (first | (simp -implicitDefEqProofs only [ze, Nat.reduceEqDiff, Nat.reduceAdd, Nat.reduceMul, reduceIte, Nat.reduceLT, Nat.reduceLeDiff, reduceCtorEq, Int.reduceEq, Int.reduceLT, Int.reduceLE, Int.reduceNeg, Int.reduceToNat, Nat.reduceBEq, Nat.reduceSub, qp, qf, kop, av, RQ, PQ, kres, kres1, kresL, fin, fins, fin1, V.pur?, V.pur1?, V.cells, kld, ones, V.one, Value.oneCell', own, owns, own1, xfill, ksrc, kint, vint, ksub, keqs, kok, V.val1?, ofRes, h5, h0, h1, hd, List.length_map]) | (with_reducible refine wgd_cases ?_ ?_ <;> intro hb) | (with_reducible refine wcond_cases ?_ ?_ <;> intro hb) | (with_reducible refine qd_i (by kernel_rfl) ?_) | (with_reducible refine W_itn_cases ?_ ?_; omega))
        exact ret_b (decide_eq_true (list_eq hlen fun j hj => hp j (by omega))).symm
  · have hd : decide ((a.length : Int) = (b.length : Int)) = false := decide_eq_false (by omega)
    repeat' (first | (simp -implicitDefEqProofs only [ze, Nat.reduceEqDiff, Nat.reduceAdd, Nat.reduceMul, reduceIte, Nat.reduceLT, Nat.reduceLeDiff, reduceCtorEq, Int.reduceEq, Int.reduceLT, Int.reduceLE, Int.reduceNeg, Int.reduceToNat, Nat.reduceBEq, Nat.reduceSub, qp, qf, kop, av, RQ, PQ, kres, kres1, kresL, fin, fins, fin1, V.pur?, V.pur1?, V.cells, kld, ones, V.one, Value.oneCell', own, owns, own1, xfill, ksrc, kint, vint, ksub, keqs, kok, V.val1?, ofRes, List.length_map, hd]) | (with_reducible refine wgd_cases ?_ ?_ <;> intro hb) | (with_reducible refine wcond_cases ?_ ?_ <;> intro hb) | (with_reducible refine qd_i (by kernel_rfl) ?_) | (with_reducible refine W_itn_cases ?_ ?_; omega))
    exact ret_b (decide_eq_false fun e => hlen (by rw [e])).symm
def nilL (l : Line) : Prop := l.tr = true → l.tags = []
theorem alike_ok (a b : Line) (hl : a.tags.length < 4611686018427387904) (hna : nilL a) (hnb : nilL b) : L.pl 94 [encL a, encL b] = some (.ret (.bool (decide (a.acc = b.acc) && decide (a.cur = b.cur) && decide (a.par = b.par) && decide (a.pty = b.pty) && decide (a.tags = b.tags)))) := by
  refine W_of (pl_w k94_eq ?_)
  simp only [k94, encL]
  repeat' (first | (simp -implicitDefEqProofs only [ze, Nat.reduceEqDiff, Nat.reduceAdd, Nat.reduceMul, reduceIte, Nat.reduceLT, Nat.reduceLeDiff, reduceCtorEq, Int.reduceEq, Int.reduceLT, Int.reduceLE, Int.reduceNeg, Int.reduceToNat, Nat.reduceBEq, Nat.reduceSub, qp, qf, kop, av, RQ, PQ, kres, kres1, kresL, fin, fins, fin1, V.pur?, V.pur1?, V.cells, kld, ones, V.one, Value.oneCell', own, owns, own1, xfill, ksrc, kint, vint, ksub, keqs, kok, V.val1?, ofRes, tagsame_ok a.tags b.tags (te a.tr 97) (te b.tr 97) (nr a.tr) (nr b.tr) hl (te_or hna _) (te_or hnb _), nr_pur]) | (with_reducible refine wgd_cases ?_ ?_ <;> intro hb) | (with_reducible refine wcond_cases ?_ ?_ <;> intro hb) | (with_reducible refine qd_i (by kernel_rfl) ?_) | (with_reducible refine W_itn_cases ?_ ?_; omega))
  all_goals (refine ret_b ?_; simp_all)
theorem sameline_ok (a b : Line) (hl : a.tags.length < 4611686018427387904) (hna : nilL a) (hnb : nilL b) : L.pl 80 [encL a, encL b] = some (.ret (.bool (decide (a.k = b.k)))) := by
  have h := alike_ok a b hl hna hnb
  simp only [encL] at h
  refine W_of (pl_w k80_eq ?_)
  simp only [k80, encL]
  repeat' (first | (simp -implicitDefEqProofs only [ze, Nat.reduceEqDiff, Nat.reduceAdd, Nat.reduceMul, reduceIte, Nat.reduceLT, Nat.reduceLeDiff, reduceCtorEq, Int.reduceEq, Int.reduceLT, Int.reduceLE, Int.reduceNeg, Int.reduceToNat, Nat.reduceBEq, Nat.reduceSub, qp, qf, kop, av, RQ, PQ, kres, kres1, kresL, fin, fins, fin1, V.pur?, V.pur1?, V.cells, kld, ones, V.one, Value.oneCell', own, owns, own1, xfill, ksrc, kint, vint, ksub, keqs, kok, V.val1?, ofRes, h, nr_pur]) | (with_reducible refine wgd_cases ?_ ?_ <;> intro hb) | (with_reducible refine wcond_cases ?_ ?_ <;> intro hb) | (with_reducible refine qd_i (by kernel_rfl) ?_) | (with_reducible refine W_itn_cases ?_ ?_; omega))
  all_goals (refine ret_b (Bool.eq_iff_iff.mpr ?_); simp_all [lk_ext])
  all_goals (first | done | (constructor <;> intros <;> simp_all))
theorem samelines_ok (a b : List Line) (ea eb ra rb : Nat) (hl : a.length < 4611686018427387904) (ht : ∀ l ∈ a, l.tags.length < 4611686018427387904) (hna : ∀ l ∈ a, nilL l) (hnb : ∀ l ∈ b, nilL l) (hea : a = [] ∨ ea = 61) (heb : b = [] ∨ eb = 61) : L.pl 59 [.list ea (a.map encL) ra, .list eb (b.map encL) rb] = some (.ret (.bool (decide (a.map Line.k = b.map Line.k)))) := by
  refine W_of (pl_w k59_eq ?_)
  simp only [k59, k59_t0]
  by_cases hlen : a.length = b.length
  · have hd : decide ((a.length : Int) = (b.length : Int)) = true := decide_eq_true (by omega)
    repeat' (first | (simp -implicitDefEqProofs only [ze, Nat.reduceEqDiff, Nat.reduceAdd, Nat.reduceMul, reduceIte, Nat.reduceLT, Nat.reduceLeDiff, reduceCtorEq, Int.reduceEq, Int.reduceLT, Int.reduceLE, Int.reduceNeg, Int.reduceToNat, Nat.reduceBEq, Nat.reduceSub, qp, qf, kop, av, RQ, PQ, kres, kres1, kresL, fin, fins, fin1, V.pur?, V.pur1?, V.cells, kld, ones, V.one, Value.oneCell', own, owns, own1, xfill, ksrc, kint, vint, ksub, keqs, kok, V.val1?, ofRes, List.length_map, hd]) | (with_reducible refine wgd_cases ?_ ?_ <;> intro hb) | (with_reducible refine wcond_cases ?_ ?_ <;> intro hb) | (with_reducible refine qd_i (by kernel_rfl) ?_) | (with_reducible refine W_itn_cases ?_ ?_; omega))
    refine loop_w (fun n tm st nx => ∃ i : Nat, n = a.length - i ∧ i ≤ a.length ∧ tm 5 = .i64 i ∧ tm 0 = .list ea (a.map encL) ra ∧ tm 1 = .list eb (b.map encL) rb ∧ ∀ j, j < i → (a.map Line.k)[j]? = (b.map Line.k)[j]?) a.length ⟨0, by omega, by omega, ?_, ?_, ?_, by omega⟩ ?_
    · simp -implicitDefEqProofs only [ze, Nat.reduceEqDiff, Nat.reduceAdd, Nat.reduceMul, reduceIte, Nat.reduceLT, Nat.reduceLeDiff, reduceCtorEq, Int.reduceEq, Int.reduceLT, Int.reduceLE, Int.reduceNeg, Int.reduceToNat, Nat.reduceBEq, Nat.reduceSub, qp, qf, kop, av, RQ, PQ, kres, kres1, kresL, fin, fins, fin1, V.pur?, V.pur1?, V.cells, kld, ones, V.one, Value.oneCell', own, owns, own1, xfill, ksrc, kint, vint, ksub, keqs, kok, V.val1?, ofRes]; rfl
    · simp -implicitDefEqProofs only [ze, Nat.reduceEqDiff, Nat.reduceAdd, Nat.reduceMul, reduceIte, Nat.reduceLT, Nat.reduceLeDiff, reduceCtorEq, Int.reduceEq, Int.reduceLT, Int.reduceLE, Int.reduceNeg, Int.reduceToNat, Nat.reduceBEq, Nat.reduceSub, qp, qf, kop, av, RQ, PQ, kres, kres1, kresL, fin, fins, fin1, V.pur?, V.pur1?, V.cells, kld, ones, V.one, Value.oneCell', own, owns, own1, xfill, ksrc, kint, vint, ksub, keqs, kok, V.val1?, ofRes]
    · simp -implicitDefEqProofs only [ze, Nat.reduceEqDiff, Nat.reduceAdd, Nat.reduceMul, reduceIte, Nat.reduceLT, Nat.reduceLeDiff, reduceCtorEq, Int.reduceEq, Int.reduceLT, Int.reduceLE, Int.reduceNeg, Int.reduceToNat, Nat.reduceBEq, Nat.reduceSub, qp, qf, kop, av, RQ, PQ, kres, kres1, kresL, fin, fins, fin1, V.pur?, V.pur1?, V.cells, kld, ones, V.one, Value.oneCell', own, owns, own1, xfill, ksrc, kint, vint, ksub, keqs, kok, V.val1?, ofRes]
    · rintro n tm st nx ⟨i, hi, hi2, h5, h0, h1, hp⟩
      simp only [k59_l0]
      by_cases hlt : i < a.length
      · have e1 : ea = 61 := by
          rcases hea with rfl | h
          · simp at hlt
          · exact h
        have e2 : eb = 61 := by
          rcases heb with rfl | h
          · rw [List.length_nil] at hlen; omega
          · exact h
        subst e1; subst e2
        obtain ⟨x, hx⟩ := get_lt hlt
        obtain ⟨y, hy⟩ := get_lt (l := b) (i := i) (by omega)
        have hd : decide ((i : Int) < (a.length : Int)) = true := decide_eq_true (by omega)
        have hs := sameline_ok x y (ht x (List.mem_of_getElem? hx)) (hna x (List.mem_of_getElem? hx)) (hnb y (List.mem_of_getElem? hy))
        simp only [encL] at hs
        have hkx : (a.map Line.k)[i]? = some x.k := by simp [hx]
        have hky : (b.map Line.k)[i]? = some y.k := by simp [hy]
        repeat' (first | (simp -implicitDefEqProofs only [ze, Nat.reduceEqDiff, Nat.reduceAdd, Nat.reduceMul, reduceIte, Nat.reduceLT, Nat.reduceLeDiff, reduceCtorEq, Int.reduceEq, Int.reduceLT, Int.reduceLE, Int.reduceNeg, Int.reduceToNat, Nat.reduceBEq, Nat.reduceSub, qp, qf, kop, av, RQ, PQ, kres, kres1, kresL, fin, fins, fin1, V.pur?, V.pur1?, V.cells, kld, ones, V.one, Value.oneCell', own, owns, own1, xfill, ksrc, kint, vint, ksub, keqs, kok, V.val1?, ofRes, h5, h0, h1, hd, hx, hy, encL, List.length_map, hs, nr_pur]) | (with_reducible refine wgd_cases ?_ ?_ <;> intro hb) | (with_reducible refine wcond_cases ?_ ?_ <;> intro hb) | (with_reducible refine qd_i (by kernel_rfl) ?_) | (with_reducible refine W_itn_cases ?_ ?_; omega))
        · exact ret_b (decide_eq_false (list_ne hkx hky (by simpa using hb))).symm
        · have hxy : x.k = y.k := by simpa using hb
          refine ⟨a.length - (i + 1), by omega, i + 1, rfl, by omega, up64 (by omega), fun j hj => ?_⟩
          rcases Nat.lt_succ_iff_lt_or_eq.mp hj with h | rfl
          · have := hp j h; rwa [List.getElem?_map, List.getElem?_map] at this
          · rw [hx, hy, Option.map_some, Option.map_some, hxy]
      · have hd : decide ((i : Int) < (a.length : Int)) = false := decide_eq_false (by omega)
        repeat' (first | (simp -implicitDefEqProofs only [ze, Nat.reduceEqDiff, Nat.reduceAdd, Nat.reduceMul, reduceIte, Nat.reduceLT, Nat.reduceLeDiff, reduceCtorEq, Int.reduceEq, Int.reduceLT, Int.reduceLE, Int.reduceNeg, Int.reduceToNat, Nat.reduceBEq, Nat.reduceSub, qp, qf, kop, av, RQ, PQ, kres, kres1, kresL, fin, fins, fin1, V.pur?, V.pur1?, V.cells, kld, ones, V.one, Value.oneCell', own, owns, own1, xfill, ksrc, kint, vint, ksub, keqs, kok, V.val1?, ofRes, h5, h0, h1, hd, List.length_map]) | (with_reducible refine wgd_cases ?_ ?_ <;> intro hb) | (with_reducible refine wcond_cases ?_ ?_ <;> intro hb) | (with_reducible refine qd_i (by kernel_rfl) ?_) | (with_reducible refine W_itn_cases ?_ ?_; omega))
        exact ret_b (decide_eq_true (list_eq (by simpa using hlen) fun j hj => hp j (by simp at hj; omega))).symm
  · have hd : decide ((a.length : Int) = (b.length : Int)) = false := decide_eq_false (by omega)
    repeat' (first | (simp -implicitDefEqProofs only [ze, Nat.reduceEqDiff, Nat.reduceAdd, Nat.reduceMul, reduceIte, Nat.reduceLT, Nat.reduceLeDiff, reduceCtorEq, Int.reduceEq, Int.reduceLT, Int.reduceLE, Int.reduceNeg, Int.reduceToNat, Nat.reduceBEq, Nat.reduceSub, qp, qf, kop, av, RQ, PQ, kres, kres1, kresL, fin, fins, fin1, V.pur?, V.pur1?, V.cells, kld, ones, V.one, Value.oneCell', own, owns, own1, xfill, ksrc, kint, vint, ksub, keqs, kok, V.val1?, ofRes, List.length_map, hd]) | (with_reducible refine wgd_cases ?_ ?_ <;> intro hb) | (with_reducible refine wcond_cases ?_ ?_ <;> intro hb) | (with_reducible refine qd_i (by kernel_rfl) ?_) | (with_reducible refine W_itn_cases ?_ ?_; omega))
    exact ret_b (decide_eq_false fun e => hlen (by have := congrArg List.length e; simpa using this)).symm
def nilE (e : Entry) : Prop := (e.lr = true → e.lines = []) ∧ ∀ l ∈ e.lines, nilL l
theorem smallE.nils {e : Entry} (h : smallE e) : nilE e := ⟨h.nil, fun l hl => (h.lines l hl).nil⟩
theorem same_ok (a b : Entry) (hl : a.lines.length < 4611686018427387904) (ht : ∀ l ∈ a.lines, l.tags.length < 4611686018427387904) (hna : nilE a) (hnb : nilE b) : L.pl 34 [encE a, encE b] = some (.ret (.bool (decide (a.k = b.k)))) := by
  refine W_of (pl_w k34_eq ?_)
  simp only [k34, encE]
  repeat' (first | (simp -implicitDefEqProofs only [ze, Nat.reduceEqDiff, Nat.reduceAdd, Nat.reduceMul, reduceIte, Nat.reduceLT, Nat.reduceLeDiff, reduceCtorEq, Int.reduceEq, Int.reduceLT, Int.reduceLE, Int.reduceNeg, Int.reduceToNat, Nat.reduceBEq, Nat.reduceSub, qp, qf, kop, av, RQ, PQ, kres, kres1, kresL, fin, fins, fin1, V.pur?, V.pur1?, V.cells, kld, ones, V.one, Value.oneCell', own, owns, own1, xfill, ksrc, kint, vint, ksub, keqs, kok, V.val1?, ofRes, samelines_ok a.lines b.lines (te a.lr 61) (te b.lr 61) (nr a.lr) (nr b.lr) hl ht hna.2 hnb.2 (te_or hna.1 _) (te_or hnb.1 _), nr_pur]) | (with_reducible refine wgd_cases ?_ ?_ <;> intro hb) | (with_reducible refine wcond_cases ?_ ?_ <;> intro hb) | (with_reducible refine qd_i (by kernel_rfl) ?_) | (with_reducible refine W_itn_cases ?_ ?_; omega))
  all_goals (refine ret_b (Bool.eq_iff_iff.mpr ?_); simp_all [ek_ext])
end Go.Proofs.YtkbheoganajhaaaDoor.Vm
