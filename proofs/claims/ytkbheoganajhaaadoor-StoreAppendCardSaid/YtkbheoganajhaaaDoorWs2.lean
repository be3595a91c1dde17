/- Proved here: the checksum after one more record, of the program and of the reference. Conditions: none. -/
import Derived.Test.YtkbheoganajhaaaDoorWs1
set_option maxRecDepth 10000
set_option linter.unusedVariables false
set_option linter.unusedSimpArgs false
namespace Go.Proofs.YtkbheoganajhaaaDoor.Vm
open Go Go.Proofs
def u64r (s : Int) : Prop := 0 ≤ s ∧ s < 18446744073709551616
theorem u64w (n : Int) : u64r (IntKind.u64.wrap n) := by rw [IntKind.wrap_u64]; unfold u64r; omega
/-- The checksum after one more byte. -/
def growI (h b : Int) : Int := IntKind.u64.wrap (Go.bits .xor .u64 h b * 1099511628211)
def mixI (s : Int) (bs : List Int) : Int := bs.foldl growI s
theorem growI_r (h b : Int) : u64r (growI h b) := u64w _
theorem mixI_r : ∀ (bs : List Int) {s : Int}, u64r s → u64r (mixI s bs)
  | [], _, h => h
  | b :: bs, s, _ => mixI_r bs (growI_r s b)
/-- The four bytes of a length. -/
def four (n : Int) : List Int := [n / 16777216 % 256, n / 65536 % 256, n / 256 % 256, n % 256]
def nextI (s : Int) (bs : List Int) : Int := mixI (mixI s bs) (four ((bs.length : Int) % 4294967296))
theorem nextI_r (s : Int) (bs : List Int) (h : u64r s) : u64r (nextI s bs) := mixI_r _ (mixI_r _ h)
theorem rgrow_ok (h b : Int) (h0 : u64r h) (b0 : 0 ≤ b) (b1 : b < 256) : L.pl 56 [.sc (.int .u64 h), .sc (.int .u8 b)] = some (.ret (.sc (.int .u64 (growI h b)))) := by
  refine W_of (pl_w k56_eq ?_)
  simp only [k56]
  have hw : IntKind.u64.wrap b = b := Co.u64_small b0 (by omega)
  repeat' (first | (simp -implicitDefEqProofs only [ze, Nat.reduceEqDiff, Nat.reduceAdd, Nat.reduceMul, reduceIte, Nat.reduceLT, Nat.reduceLeDiff, reduceCtorEq, Int.reduceEq, Int.reduceLT, Int.reduceLE, Int.reduceNeg, Int.reduceToNat, Nat.reduceBEq, Nat.reduceSub, qp, qf, kop, av, RQ, PQ, kres, kres1, kresL, fin, fins, fin1, V.pur?, V.pur1?, V.cells, kld, ones, V.one, Value.oneCell', own, owns, own1, xfill, ksrc, kint, vint, ksub, keqs, kok, V.val1?, ofRes, hw]) | (with_reducible refine wgd_cases ?_ ?_ <;> intro hb) | (with_reducible refine wcond_cases ?_ ?_ <;> intro hb) | (with_reducible refine qd_i (by kernel_rfl) ?_) | (with_reducible refine W_itn_cases ?_ ?_; omega))
  rfl
theorem u32_mod (n : Int) : IntKind.u32.wrap n = n % 4294967296 := by rw [IntKind.wrap_u32]
theorem mix_ok (bs : List Int) (hb : bOK bs) (hl : bs.length < 4611686018427387904) (r : Nat) (s : Int) : L.pl 78 [.sc (.int .u64 s), .list 5 (bv bs) r] = some (.ret (.sc (.int .u64 (mixI s bs)))) := by
  refine W_of (pl_w k78_eq ?_)
  simp only [k78]
  repeat' (first | (simp -implicitDefEqProofs only [ze, Nat.reduceEqDiff, Nat.reduceAdd, Nat.reduceMul, reduceIte, Nat.reduceLT, Nat.reduceLeDiff, reduceCtorEq, Int.reduceEq, Int.reduceLT, Int.reduceLE, Int.reduceNeg, Int.reduceToNat, Nat.reduceBEq, Nat.reduceSub, qp, qf, kop, av, RQ, PQ, kres, kres1, kresL, fin, fins, fin1, V.pur?, V.pur1?, V.cells, kld, ones, V.one, Value.oneCell', own, owns, own1, xfill, ksrc, kint, vint, ksub, keqs, kok, V.val1?, ofRes, bv_len]) | (with_reducible refine wgd_cases ?_ ?_ <;> intro hb) | (with_reducible refine wcond_cases ?_ ?_ <;> intro hb) | (with_reducible refine qd_i (by kernel_rfl) ?_) | (with_reducible refine W_itn_cases ?_ ?_; omega))
  refine loop_w (fun n tm st nx => ∃ (i : Nat) (x : Int), n = bs.length - i ∧ i ≤ bs.length ∧ tm 9 = .i64 i ∧ tm 8 = .i64 bs.length ∧ tm 7 = .list 5 (bv bs) r ∧ tm 0 = .sc (.int .u64 x) ∧ mixI s bs = mixI x (bs.drop i)) bs.length ⟨0, s, by omega, by omega, ?_, ?_, ?_, ?_, rfl⟩ ?_
  · simp -implicitDefEqProofs only [ze, Nat.reduceEqDiff, Nat.reduceAdd, Nat.reduceMul, reduceIte, Nat.reduceLT, Nat.reduceLeDiff, reduceCtorEq, Int.reduceEq, Int.reduceLT, Int.reduceLE, Int.reduceNeg, Int.reduceToNat, Nat.reduceBEq, Nat.reduceSub, qp, qf, kop, av, RQ, PQ, kres, kres1, kresL, fin, fins, fin1, V.pur?, V.pur1?, V.cells, kld, ones, V.one, Value.oneCell', own, owns, own1, xfill, ksrc, kint, vint, ksub, keqs, kok, V.val1?, ofRes]; rfl
  · simp -implicitDefEqProofs only [ze, Nat.reduceEqDiff, Nat.reduceAdd, Nat.reduceMul, reduceIte, Nat.reduceLT, Nat.reduceLeDiff, reduceCtorEq, Int.reduceEq, Int.reduceLT, Int.reduceLE, Int.reduceNeg, Int.reduceToNat, Nat.reduceBEq, Nat.reduceSub, qp, qf, kop, av, RQ, PQ, kres, kres1, kresL, fin, fins, fin1, V.pur?, V.pur1?, V.cells, kld, ones, V.one, Value.oneCell', own, owns, own1, xfill, ksrc, kint, vint, ksub, keqs, kok, V.val1?, ofRes]
  · simp -implicitDefEqProofs only [ze, Nat.reduceEqDiff, Nat.reduceAdd, Nat.reduceMul, reduceIte, Nat.reduceLT, Nat.reduceLeDiff, reduceCtorEq, Int.reduceEq, Int.reduceLT, Int.reduceLE, Int.reduceNeg, Int.reduceToNat, Nat.reduceBEq, Nat.reduceSub, qp, qf, kop, av, RQ, PQ, kres, kres1, kresL, fin, fins, fin1, V.pur?, V.pur1?, V.cells, kld, ones, V.one, Value.oneCell', own, owns, own1, xfill, ksrc, kint, vint, ksub, keqs, kok, V.val1?, ofRes]
  · simp -implicitDefEqProofs only [ze, Nat.reduceEqDiff, Nat.reduceAdd, Nat.reduceMul, reduceIte, Nat.reduceLT, Nat.reduceLeDiff, reduceCtorEq, Int.reduceEq, Int.reduceLT, Int.reduceLE, Int.reduceNeg, Int.reduceToNat, Nat.reduceBEq, Nat.reduceSub, qp, qf, kop, av, RQ, PQ, kres, kres1, kresL, fin, fins, fin1, V.pur?, V.pur1?, V.cells, kld, ones, V.one, Value.oneCell', own, owns, own1, xfill, ksrc, kint, vint, ksub, keqs, kok, V.val1?, ofRes]
  rintro n tm st nx ⟨i, x, hn, hi, h9, h8, h7, h0, hm⟩
  simp only [k78_l0, k78_t0]
  by_cases hlt : i < bs.length
  · have hd : decide ((i : Int) < (bs.length : Int)) = true := decide_eq_true (by omega)
    obtain ⟨b, hb1⟩ := get_lt (l := bs) (i := i) (by omega)
    obtain ⟨hb2, hb3⟩ := hb b (List.mem_of_getElem? hb1)
    have e : bs.drop i = b :: bs.drop (i + 1) := by rw [List.drop_eq_getElem_cons (by omega)]; rw [List.getElem?_eq_getElem (by omega)] at hb1; rw [Option.some.inj hb1]
    have hup : IntKind.i64.wrap ((i : Int) + 1) = ((i + 1 : Nat) : Int) := wrap_i64 (by omega) (by omega)
    have hw : IntKind.u64.wrap b = b := Co.u64_small hb2 (by omega)
    rw [e] at hm
    repeat' (first | (simp -implicitDefEqProofs only [ze, Nat.reduceEqDiff, Nat.reduceAdd, Nat.reduceMul, reduceIte, Nat.reduceLT, Nat.reduceLeDiff, reduceCtorEq, Int.reduceEq, Int.reduceLT, Int.reduceLE, Int.reduceNeg, Int.reduceToNat, Nat.reduceBEq, Nat.reduceSub, qp, qf, kop, av, RQ, PQ, kres, kres1, kresL, fin, fins, fin1, V.pur?, V.pur1?, V.cells, kld, ones, V.one, Value.oneCell', own, owns, own1, xfill, ksrc, kint, vint, ksub, keqs, kok, V.val1?, ofRes, h9, h8, h7, h0, hd, bv_get, hb1, hup, hw]) | (with_reducible refine wgd_cases ?_ ?_ <;> intro hb) | (with_reducible refine wcond_cases ?_ ?_ <;> intro hb) | (with_reducible refine qd_i (by kernel_rfl) ?_) | (with_reducible refine W_itn_cases ?_ ?_; omega))
    exact ⟨bs.length - (i + 1), by omega, i + 1, growI x b, rfl, by omega, rfl, rfl, hm⟩
  · have hd : decide ((i : Int) < (bs.length : Int)) = false := decide_eq_false (by omega)
    have hin : i = bs.length := by omega
    rw [hin, List.drop_length] at hm
    repeat' (first | (simp -implicitDefEqProofs only [ze, Nat.reduceEqDiff, Nat.reduceAdd, Nat.reduceMul, reduceIte, Nat.reduceLT, Nat.reduceLeDiff, reduceCtorEq, Int.reduceEq, Int.reduceLT, Int.reduceLE, Int.reduceNeg, Int.reduceToNat, Nat.reduceBEq, Nat.reduceSub, qp, qf, kop, av, RQ, PQ, kres, kres1, kresL, fin, fins, fin1, V.pur?, V.pur1?, V.cells, kld, ones, V.one, Value.oneCell', own, owns, own1, xfill, ksrc, kint, vint, ksub, keqs, kok, V.val1?, ofRes, h9, h8, h7, h0, hd]) | (with_reducible refine wgd_cases ?_ ?_ <;> intro hb) | (with_reducible refine wcond_cases ?_ ?_ <;> intro hb) | (with_reducible refine qd_i (by kernel_rfl) ?_) | (with_reducible refine W_itn_cases ?_ ?_; omega))
    rw [hm]; rfl
theorem f24 (x : Int) : x.fdiv 16777216 = x / 16777216 := Int.fdiv_eq_ediv_of_nonneg x (by decide)
theorem f16 (x : Int) : x.fdiv 65536 = x / 65536 := Int.fdiv_eq_ediv_of_nonneg x (by decide)
theorem f8 (x : Int) : x.fdiv 256 = x / 256 := Int.fdiv_eq_ediv_of_nonneg x (by decide)
theorem four_ok (n : Int) : bOK (four n) := by
  intro b hb
  simp only [four, List.mem_cons, List.not_mem_nil, or_false] at hb
  omega
theorem cnext_ok (bs : List Int) (hb : bOK bs) (hl : bs.length < 4611686018427387904) (r : Nat) (s : Int) : L.pl 51 [.sc (.int .u64 s), .list 5 (bv bs) r] = some (.ret (.sc (.int .u64 (nextI s bs)))) := by
  refine W_of (pl_w k51_eq ?_)
  simp only [k51]
  have hm := mix_ok bs hb hl 0 s
  have hm1 := mix_ok bs hb hl 1 s
  have hm2 := mix_ok (four ((bs.length : Int) % 4294967296)) (four_ok _) (by simp [four]) 0 (mixI s bs)
  have hr : (if r = 1 then 1 else 0) = 0 ∨ (if r = 1 then 1 else 0) = 1 := by split <;> simp
  have e : bv (four ((bs.length : Int) % 4294967296)) = [V.sc (.int .u8 ((bs.length : Int) % 4294967296 / 16777216 % 256)), V.sc (.int .u8 ((bs.length : Int) % 4294967296 / 65536 % 256)), V.sc (.int .u8 ((bs.length : Int) % 4294967296 / 256 % 256)), V.sc (.int .u8 ((bs.length : Int) % 4294967296 % 256))] := rfl
  rw [e] at hm2
  have p24 : (2 : Int) ^ 24 = 16777216 := rfl
  have p16 : (2 : Int) ^ 16 = 65536 := rfl
  have p8 : (2 : Int) ^ 8 = 256 := rfl
  have n24 : Nat.min 24 IntKind.u32.bits = 24 := rfl
  have n16 : Nat.min 16 IntKind.u32.bits = 16 := rfl
  have n8 : Nat.min 8 IntKind.u32.bits = 8 := rfl
  rcases hr with hr | hr
  · repeat' (first | (simp -implicitDefEqProofs only [ze, Nat.reduceEqDiff, Nat.reduceAdd, Nat.reduceMul, reduceIte, Nat.reduceLT, Nat.reduceLeDiff, reduceCtorEq, Int.reduceEq, Int.reduceLT, Int.reduceLE, Int.reduceNeg, Int.reduceToNat, Nat.reduceBEq, Nat.reduceSub, qp, qf, kop, av, RQ, PQ, kres, kres1, kresL, fin, fins, fin1, V.pur?, V.pur1?, V.cells, kld, ones, V.one, Value.oneCell', own, owns, own1, xfill, ksrc, kint, vint, ksub, keqs, kok, V.val1?, ofRes, hr, hm, hm2, bv_len, u32_mod, u8_mod, f24, f16, f8, p24, p16, p8, n24, n16, n8]) | (with_reducible refine wgd_cases ?_ ?_ <;> intro hb) | (with_reducible refine wcond_cases ?_ ?_ <;> intro hb) | (with_reducible refine qd_i (by kernel_rfl) ?_) | (with_reducible refine W_itn_cases ?_ ?_; omega))
    rfl
  · repeat' (first | (simp -implicitDefEqProofs only [ze, Nat.reduceEqDiff, Nat.reduceAdd, Nat.reduceMul, reduceIte, Nat.reduceLT, Nat.reduceLeDiff, reduceCtorEq, Int.reduceEq, Int.reduceLT, Int.reduceLE, Int.reduceNeg, Int.reduceToNat, Nat.reduceBEq, Nat.reduceSub, qp, qf, kop, av, RQ, PQ, kres, kres1, kresL, fin, fins, fin1, V.pur?, V.pur1?, V.cells, kld, ones, V.one, Value.oneCell', own, owns, own1, xfill, ksrc, kint, vint, ksub, keqs, kok, V.val1?, ofRes, hr, hm1, hm2, bv_len, u32_mod, u8_mod, f24, f16, f8, p24, p16, p8, n24, n16, n8]) | (with_reducible refine wgd_cases ?_ ?_ <;> intro hb) | (with_reducible refine wcond_cases ?_ ?_ <;> intro hb) | (with_reducible refine qd_i (by kernel_rfl) ?_) | (with_reducible refine W_itn_cases ?_ ?_; omega))
    rfl
theorem rnext_ok (bs : List Int) (hb : bOK bs) (hl : bs.length < 4611686018427387904) (r : Nat) (s : Int) (hs : u64r s) : L.pl 32 [.sc (.int .u64 s), .list 5 (bv bs) r] = some (.ret (.sc (.int .u64 (nextI s bs)))) := by
  refine W_of (pl_w k32_eq ?_)
  simp only [k32]
  repeat' (first | (simp -implicitDefEqProofs only [ze, Nat.reduceEqDiff, Nat.reduceAdd, Nat.reduceMul, reduceIte, Nat.reduceLT, Nat.reduceLeDiff, reduceCtorEq, Int.reduceEq, Int.reduceLT, Int.reduceLE, Int.reduceNeg, Int.reduceToNat, Nat.reduceBEq, Nat.reduceSub, qp, qf, kop, av, RQ, PQ, kres, kres1, kresL, fin, fins, fin1, V.pur?, V.pur1?, V.cells, kld, ones, V.one, Value.oneCell', own, owns, own1, xfill, ksrc, kint, vint, ksub, keqs, kok, V.val1?, ofRes]) | (with_reducible refine wgd_cases ?_ ?_ <;> intro hb) | (with_reducible refine wcond_cases ?_ ?_ <;> intro hb) | (with_reducible refine qd_i (by kernel_rfl) ?_) | (with_reducible refine W_itn_cases ?_ ?_; omega))
  refine loop_w (fun n tm st nx => ∃ (i : Nat) (x : Int), n = bs.length - i ∧ i ≤ bs.length ∧ tm 5 = .i64 i ∧ tm 1 = .list 5 (bv bs) r ∧ tm 0 = .sc (.int .u64 x) ∧ mixI s bs = mixI x (bs.drop i) ∧ u64r x) bs.length ⟨0, s, by omega, by omega, ?_, ?_, ?_, rfl, hs⟩ ?_
  · simp -implicitDefEqProofs only [ze, Nat.reduceEqDiff, Nat.reduceAdd, Nat.reduceMul, reduceIte, Nat.reduceLT, Nat.reduceLeDiff, reduceCtorEq, Int.reduceEq, Int.reduceLT, Int.reduceLE, Int.reduceNeg, Int.reduceToNat, Nat.reduceBEq, Nat.reduceSub, qp, qf, kop, av, RQ, PQ, kres, kres1, kresL, fin, fins, fin1, V.pur?, V.pur1?, V.cells, kld, ones, V.one, Value.oneCell', own, owns, own1, xfill, ksrc, kint, vint, ksub, keqs, kok, V.val1?, ofRes]; rfl
  · simp -implicitDefEqProofs only [ze, Nat.reduceEqDiff, Nat.reduceAdd, Nat.reduceMul, reduceIte, Nat.reduceLT, Nat.reduceLeDiff, reduceCtorEq, Int.reduceEq, Int.reduceLT, Int.reduceLE, Int.reduceNeg, Int.reduceToNat, Nat.reduceBEq, Nat.reduceSub, qp, qf, kop, av, RQ, PQ, kres, kres1, kresL, fin, fins, fin1, V.pur?, V.pur1?, V.cells, kld, ones, V.one, Value.oneCell', own, owns, own1, xfill, ksrc, kint, vint, ksub, keqs, kok, V.val1?, ofRes]
  · simp -implicitDefEqProofs only [ze, Nat.reduceEqDiff, Nat.reduceAdd, Nat.reduceMul, reduceIte, Nat.reduceLT, Nat.reduceLeDiff, reduceCtorEq, Int.reduceEq, Int.reduceLT, Int.reduceLE, Int.reduceNeg, Int.reduceToNat, Nat.reduceBEq, Nat.reduceSub, qp, qf, kop, av, RQ, PQ, kres, kres1, kresL, fin, fins, fin1, V.pur?, V.pur1?, V.cells, kld, ones, V.one, Value.oneCell', own, owns, own1, xfill, ksrc, kint, vint, ksub, keqs, kok, V.val1?, ofRes]
  rintro n tm st nx ⟨i, x, hn, hi, h5, h1, h0, hm, hx⟩
  simp only [k32_l0]
  by_cases hlt : i < bs.length
  · have hd : decide ((i : Int) < (bs.length : Int)) = true := decide_eq_true (by omega)
    obtain ⟨b, hb1⟩ := get_lt (l := bs) (i := i) (by omega)
    obtain ⟨hb2, hb3⟩ := hb b (List.mem_of_getElem? hb1)
    have e : bs.drop i = b :: bs.drop (i + 1) := by rw [List.drop_eq_getElem_cons (by omega)]; rw [List.getElem?_eq_getElem (by omega)] at hb1; rw [Option.some.inj hb1]
    have hup : IntKind.i64.wrap ((i : Int) + 1) = ((i + 1 : Nat) : Int) := wrap_i64 (by omega) (by omega)
    have hg := rgrow_ok x b hx hb2 hb3
    rw [e] at hm
    repeat' (first | (simp -implicitDefEqProofs only [ze, Nat.reduceEqDiff, Nat.reduceAdd, Nat.reduceMul, reduceIte, Nat.reduceLT, Nat.reduceLeDiff, reduceCtorEq, Int.reduceEq, Int.reduceLT, Int.reduceLE, Int.reduceNeg, Int.reduceToNat, Nat.reduceBEq, Nat.reduceSub, qp, qf, kop, av, RQ, PQ, kres, kres1, kresL, fin, fins, fin1, V.pur?, V.pur1?, V.cells, kld, ones, V.one, Value.oneCell', own, owns, own1, xfill, ksrc, kint, vint, ksub, keqs, kok, V.val1?, ofRes, h5, h1, h0, hd, bv_len, bv_get, hb1, hup, hg]) | (with_reducible refine wgd_cases ?_ ?_ <;> intro hb) | (with_reducible refine wcond_cases ?_ ?_ <;> intro hb) | (with_reducible refine qd_i (by kernel_rfl) ?_) | (with_reducible refine W_itn_cases ?_ ?_; omega))
    exact ⟨bs.length - (i + 1), by omega, i + 1, growI x b, rfl, by omega, rfl, rfl, hm, growI_r _ _⟩
  · have hd : decide ((i : Int) < (bs.length : Int)) = false := decide_eq_false (by omega)
    have hin : i = bs.length := by omega
    rw [hin, List.drop_length] at hm
    have hm : mixI s bs = x := hm
    generalize hq : (bs.length : Int) % 4294967296 = q
    have q0 : 0 ≤ q := by omega
    have a1 : q.tdiv 16777216 = q / 16777216 := Int.tdiv_eq_ediv_of_nonneg q0
    have a2 : q.tdiv 65536 = q / 65536 := Int.tdiv_eq_ediv_of_nonneg q0
    have a3 : q.tdiv 256 = q / 256 := Int.tdiv_eq_ediv_of_nonneg q0
    have c1 : (q / 16777216) % 4294967296 = q / 16777216 := by omega
    have c2 : (q / 65536) % 4294967296 = q / 65536 := by omega
    have c3 : (q / 256) % 4294967296 = q / 256 := by omega
    have b2 : (q / 65536).tmod 256 = q / 65536 % 256 := Int.tmod_eq_emod_of_nonneg (by omega)
    have b3 : (q / 256).tmod 256 = q / 256 % 256 := Int.tmod_eq_emod_of_nonneg (by omega)
    have b4 : q.tmod 256 = q % 256 := Int.tmod_eq_emod_of_nonneg q0
    have d2 : q / 65536 % 256 % 256 = q / 65536 % 256 := by omega
    have d3 : q / 256 % 256 % 256 = q / 256 % 256 := by omega
    have d4 : q % 256 % 256 = q % 256 := by omega
    have g1 := rgrow_ok x (q / 16777216 % 256) hx (by omega) (by omega)
    have g2 := rgrow_ok _ (q / 65536 % 256) (growI_r x (q / 16777216 % 256)) (by omega) (by omega)
    have g3 := rgrow_ok _ (q / 256 % 256) (growI_r (growI x (q / 16777216 % 256)) (q / 65536 % 256)) (by omega) (by omega)
    have g4 := rgrow_ok _ (q % 256) (growI_r (growI (growI x (q / 16777216 % 256)) (q / 65536 % 256)) (q / 256 % 256)) (by omega) (by omega)
    repeat' (first | (simp -implicitDefEqProofs only [ze, Nat.reduceEqDiff, Nat.reduceAdd, Nat.reduceMul, reduceIte, Nat.reduceLT, Nat.reduceLeDiff, reduceCtorEq, Int.reduceEq, Int.reduceLT, Int.reduceLE, Int.reduceNeg, Int.reduceToNat, Nat.reduceBEq, Nat.reduceSub, qp, qf, kop, av, RQ, PQ, kres, kres1, kresL, fin, fins, fin1, V.pur?, V.pur1?, V.cells, kld, ones, V.one, Value.oneCell', own, owns, own1, xfill, ksrc, kint, vint, ksub, keqs, kok, V.val1?, ofRes, h5, h1, h0, hd, bv_len, k32_t0, u32_mod, u8_mod, hq, a1, a2, a3, c1, c2, c3, b2, b3, b4, d2, d3, d4, g1, g2, g3, g4, ne_eq]) | (with_reducible refine wgd_cases ?_ ?_ <;> intro hb) | (with_reducible refine wcond_cases ?_ ?_ <;> intro hb) | (with_reducible refine qd_i (by kernel_rfl) ?_) | (with_reducible refine W_itn_cases ?_ ?_; omega))
    unfold nextI; rw [hm, hq]; rfl
end Go.Proofs.YtkbheoganajhaaaDoor.Vm
