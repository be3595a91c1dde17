/- Proved here: the statement CodecEntries, on the machine. Conditions: none. -/
import Derived.Test.YtojbkakdhfmjmaaDoorVp3
import Derived.Test.YtojbkakdhfmjmaaDoorVs17
import Derived.Test.YtojbkakdhfmjmaaDoorVu6
set_option maxRecDepth 10000
set_option linter.unusedVariables false
set_option linter.unusedSimpArgs false
namespace Go.Proofs.YtojbkakdhfmjmaaDoor.Vm
open Go Go.Proofs
theorem bytesOfV_nil : bytesOfV [] = some [] := rfl
theorem entries_ok (x : Entry) (more : List Int) (r : Nat) (hbo : bOK more) (hm : more.length < 4611686018427387904) (hx : smallE x) (rx : rangeE x) : L.pl 5 [encE x, .list 5 (bv more) r] = some (.ret (.bool true)) := by
  refine W_of (pl_w k5_eq ?_)
  obtain ⟨_, hlx, b1, rfl⟩ := large_ok x hx
  have hcx := check_ok x hx rx.amts
  have hrx := rcheck_ok x hx rx.amts
  simp only [k5]
  by_cases h1 : (checkS x).2 = 0
  · have hpx := check_plain h1 rx hx.nils
    rw [h1] at hcx hrx
    have hPx := put_ok x hpx _ hcx
    have hRx := rput_ok x hpx _ hrx
    have hlen : (entryB x).length < 200000000 := by
      have h2 := headB_len x hpx
      have h3 := linesB_len x.lines x.lines.length fun t ht => hpx.lines t (List.mem_of_mem_take ht)
      have h4 := hpx.len
      rw [List.take_length] at h3
      rw [entryB, List.length_append]; omega
    have hfull := take_full x hpx h1 more
    have hT := fun (hl : more.length ≤ 400) => take_ok (entryB x ++ more) (fun b hb2 => by
      rcases List.mem_append.1 hb2 with h | h
      · exact entryB_inR hpx b h
      · exact hbo b h) (by rw [List.length_append]; omega) 0
    rw [hfull] at hT
    have hfn : nilE (fixE x) := by
      refine ⟨fun h => ?_, fun l hl => ?_⟩
      · have : x.lines.isEmpty = true := h
        have : x.lines = [] := by simpa using this
        show x.lines.map fixL = []
        rw [this]; rfl
      · obtain ⟨l0, _, rfl⟩ := List.mem_map.1 hl
        intro h
        have : l0.tags.isEmpty = true := h
        show l0.tags = []
        simpa using this
    have hsame := same_ok x (fixE x) hx.len (fun l hl => (hx.lines l hl).len) hx.nils hfn
    rw [fix_k, decide_eq_true rfl] at hsame
    by_cases hml : more.length ≤ 400
    · have hT := hT hml
      have d1 : decide ((400 : Int) < (more.length : Int)) = false := decide_eq_false (by omega)
      simp only [encE] at hlx hPx hRx hT hsame ⊢
      repeat' (first | (simp -implicitDefEqProofs only [ze, Nat.reduceEqDiff, Nat.reduceAdd, Nat.reduceMul, reduceIte, Nat.reduceLT, Nat.reduceLeDiff, reduceCtorEq, Int.reduceEq, Int.reduceLT, Int.reduceLE, Int.reduceNeg, Int.reduceToNat, Nat.reduceBEq, Nat.reduceSub, qp, qf, kop, av, RQ, PQ, kres, kres1, kresL, fin, fins, fin1, V.pur?, V.pur1?, V.cells, kld, ones, V.one, Value.oneCell', own, owns, own1, xfill, ksrc, kint, vint, ksub, keqs, kok, V.val1?, ofRes, hlx, hPx, hRx, hT, hsame, nr_pur, lives_ok, bv_len, bytesOfV_bv, d1, List.length_append, ← bv_app]) | (with_reducible refine wgd_cases ?_ ?_ <;> intro hb) | (with_reducible refine wcond_cases ?_ ?_ <;> intro hb) | (with_reducible refine qd_i (by kernel_rfl) ?_) | (with_reducible refine W_itn_cases ?_ ?_; omega))
    · have d1 : decide ((400 : Int) < (more.length : Int)) = true := decide_eq_true (by omega)
      simp only [encE] at hlx hPx hRx ⊢
      repeat' (first | (simp -implicitDefEqProofs only [ze, Nat.reduceEqDiff, Nat.reduceAdd, Nat.reduceMul, reduceIte, Nat.reduceLT, Nat.reduceLeDiff, reduceCtorEq, Int.reduceEq, Int.reduceLT, Int.reduceLE, Int.reduceNeg, Int.reduceToNat, Nat.reduceBEq, Nat.reduceSub, qp, qf, kop, av, RQ, PQ, kres, kres1, kresL, fin, fins, fin1, V.pur?, V.pur1?, V.cells, kld, ones, V.one, Value.oneCell', own, owns, own1, xfill, ksrc, kint, vint, ksub, keqs, kok, V.val1?, ofRes, hlx, hPx, hRx, nr_pur, lives_ok, bv_len, d1]) | (with_reducible refine wgd_cases ?_ ?_ <;> intro hb) | (with_reducible refine wcond_cases ?_ ?_ <;> intro hb) | (with_reducible refine qd_i (by kernel_rfl) ?_) | (with_reducible refine W_itn_cases ?_ ?_; omega))
  · have d1 : decide ((checkS x).2 = 0) = false := decide_eq_false h1
    have hPx := put_bad x _ _ hcx h1
    have hRx := rput_bad x _ _ hrx h1
    simp only [encE] at hlx hPx hRx ⊢
    repeat' (first | (simp -implicitDefEqProofs only [ze, Nat.reduceEqDiff, Nat.reduceAdd, Nat.reduceMul, reduceIte, Nat.reduceLT, Nat.reduceLeDiff, reduceCtorEq, Int.reduceEq, Int.reduceLT, Int.reduceLE, Int.reduceNeg, Int.reduceToNat, Nat.reduceBEq, Nat.reduceSub, qp, qf, kop, av, RQ, PQ, kres, kres1, kresL, fin, fins, fin1, V.pur?, V.pur1?, V.cells, kld, ones, V.one, Value.oneCell', own, owns, own1, xfill, ksrc, kint, vint, ksub, keqs, kok, V.val1?, ofRes, hlx, hPx, hRx, nr_pur, lives_ok, d1, bv_len, bytesOfV_nil]) | (with_reducible refine wgd_cases ?_ ?_ <;> intro hb) | (with_reducible refine wcond_cases ?_ ?_ <;> intro hb) | (with_reducible refine qd_i (by kernel_rfl) ?_) | (with_reducible refine W_itn_cases ?_ ?_; omega))
    trace_state
end Go.Proofs.YtojbkakdhfmjmaaDoor.Vm
