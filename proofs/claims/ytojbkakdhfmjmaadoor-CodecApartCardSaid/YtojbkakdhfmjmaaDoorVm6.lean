/- Proved here: what further operations of the machine over pure data do, the model's operations do: conversions, slices, indexes, maps, iterators. Conditions: none. -/
import Derived.Test.YtojbkakdhfmjmaaDoorVm5
set_option linter.unusedVariables false
set_option linter.unusedSimpArgs false
namespace Go.Proofs.YtojbkakdhfmjmaaDoor.Vm
open Go.RowKit
section
variable {P : Program} {G G' : Gh} {st : St} {w w' : World} {a : Act} {tm : Nat → V} {N i0 nx' : Nat} {o : Oper} {K : Act → World → Prop} {Q : Exit → Act → World → Prop} {E : Env}
theorem isU8_u {e : TypeId} (h : isU8 P e = true) : P.underlying e = some (.int .u8) := by
  unfold isU8 at h
  split at h
  · assumption
  · cases h
theorem isStr_u {e : TypeId} (h : isStr P e = true) : P.underlying e = some .string := by
  unfold isStr at h
  split at h
  · assumption
  · cases h
theorem uel_u {t e : TypeId} (h : uel P t = some e) : P.underlying t = some (.slice e) := by
  unfold uel at h
  split at h
  · cases h; assumption
  · cases h
theorem list_parts {p : Pr} {e : TypeId} {xs : List V} {r : Nat} {v : Value} (h : RepP P p (.list e xs r) v) : ∃ A c vs, v = .slice A xs.length c ∧ xs.length ≤ c ∧ (r = 0 ∨ (r = 1 ∧ A = none ∧ xs.length = 0 ∧ c = 0)) ∧ (∀ s, usz P e = some s → ∀ x ∈ xs, x.cells.length = s) ∧
    ones (xs.flatMap V.cells) = true ∧ (vs ≠ [] → ∃ ad, A = some ad ∧ LiesAt p ad vs) ∧ All2 (RepP P p) (xs.flatMap V.cells) vs := by
  cases h with
  | list h1 h2 h3 h4 h5 h6 h7 => subst h1; exact ⟨_, _, _, rfl, h2, h3, h4, h5, h6, h7.all2⟩
theorem flat_len {s : Nat} : ∀ {xs : List V}, (∀ y ∈ xs, y.cells.length = s) → (xs.flatMap V.cells).length = xs.length * s
  | [], _ => by simp
  | y :: ys, h => by rw [List.flatMap_cons, List.length_append, flat_len fun z hz => h z (by simp [hz]), h y (by simp), List.length_cons, Nat.succ_mul]; omega
theorem flat_take {s : Nat} : ∀ {xs : List V} (n : Nat), (∀ y ∈ xs, y.cells.length = s) → (xs.take n).flatMap V.cells = (xs.flatMap V.cells).take (n * s)
  | [], n, _ => by simp
  | y :: ys, 0, h => by simp
  | y :: ys, n + 1, h => by
    have hy := h y (by simp)
    rw [List.take_succ_cons, List.flatMap_cons, List.flatMap_cons, flat_take n fun z hz => h z (by simp [hz]), Nat.succ_mul, Nat.add_comm (n * s) s, ← hy, List.take_append, List.take_of_length_le (l := y.cells) (by omega)]
    simp
theorem flat_drop {s : Nat} : ∀ {xs : List V} (n : Nat), (∀ y ∈ xs, y.cells.length = s) → (xs.drop n).flatMap V.cells = (xs.flatMap V.cells).drop (n * s)
  | [], n, _ => by simp
  | y :: ys, 0, h => by simp
  | y :: ys, n + 1, h => by
    have hy := h y (by simp)
    rw [List.drop_succ_cons, List.flatMap_cons, flat_drop n fun z hz => h z (by simp [hz]), Nat.succ_mul, Nat.add_comm (n * s) s, ← hy, List.drop_append, List.drop_eq_nil_of_le (as := y.cells) (by omega)]
    simp
theorem vint_inv {x : V} {n : Int} (h : vint x = some n) : ∃ k, x = .sc (.int k n) := by
  unfold vint at h
  split at h
  · cases h; exact ⟨_, rfl⟩
  · cases h
theorem op_indexAddr (hgl : GlOK P E.gl G.pr) (hinv : Inv P G st w) (ht : TmR P G N tm a) {t : TypeId} {x y : Operand} {r : R} (ho : o.op = .indexAddr t x y) (hx : xop P E tm st i0 nx' o = some r) (hK : Good P G st i0 nx' a o K Q r) : o.wp P a w K Q := by
  simp only [xop, ho, Option.bind_eq_some_iff] at hx
  obtain ⟨x0, h0, y0, h1, i, hi, hx⟩ := hx
  obtain ⟨k, rfl⟩ := vint_inv hi
  have hv1 := (ev_sound hgl ht h1).sc_inv
  have hr := ev_sound hgl ht h0
  split at hx
  · rename_i e xs _ el hu
    split at hx
    · rename_i hc
      obtain ⟨hc1, rfl⟩ := hc
      rw [Option.bind_eq_some_iff] at hx
      obtain ⟨z, hz, hx⟩ := hx
      rw [Option.bind_eq_some_iff] at hx
      obtain ⟨s, hs, hx⟩ := hx
      split at hx
      · rename_i hsz
        obtain rfl := Option.some.inj hx
        obtain ⟨A, c, hv, hp, _⟩ := hr.list_inv
        obtain ⟨A', c', vs, hv', h2, h3, h4, h5, h6, h7⟩ := list_parts hp
        obtain ⟨rfl, rfl⟩ : A = A' ∧ c = c' := by simpa using hv'
        obtain ⟨hf1, hf2⟩ := flat_get (fun q hq => h4 s hs q hq) hz
        have hlt : i.toNat < xs.length := (List.getElem?_eq_some_iff.1 hz).1
        have hl := h7.length
        obtain ⟨ad, rfl, hlies⟩ := h6 (by intro e; rw [e] at hl; simp only [List.length_nil] at hl; omega)
        have hilt : i < (xs.length : Int) := by omega
        refine good_same hinv hK (v := .pointer (some (ad.add (i.toNat * s)))) ?_ (.pure (.cp ?_ ((hlies.drop (i.toNat * s)).take s) (.of ?_)))
        · simp [execOp, ho, hv, hv1, Instr.indexAt, asIntOf, run_underlying hu, run_size hs, hc1, hilt]
        · rw [← hf1]; exact ones_take (ones_drop h5 _) _
        · rw [← hf1]; exact (h7.drop _).take _
      · cases hx
    · cases hx
  · rename_i cs n el hu
    split at hx
    · rename_i hc
      obtain ⟨hc1, hc2⟩ := hc
      rw [Option.bind_eq_some_iff] at hx
      obtain ⟨s, hs, hx⟩ := hx
      split at hx
      · rename_i hsz
        obtain rfl := Option.some.inj hx
        obtain ⟨ad, vs, hv, h1, h2, h3⟩ := hr.cp_inv
        refine good_same hinv hK (v := .pointer (some (ad.add (i.toNat * s)))) ?_ (.pure (.cp (ones_drop h1 _) (h2.drop _) (.of (h3.drop _))))
        simp [execOp, ho, hv, hv1, Instr.indexAt, asIntOf, run_underlying hu, run_size hs, hc1, hc2, Instr.sureAddr]
      · cases hx
    · cases hx
  · rename_i id off n el hu
    split at hx
    · rename_i hc
      obtain ⟨hc1, hc2⟩ := hc
      rw [Option.bind_eq_some_iff] at hx
      obtain ⟨s, hs, hx⟩ := hx
      split at hx
      · rename_i hsz
        obtain rfl := Option.some.inj hx
        obtain ⟨b, hv, hb⟩ := hr.ptr_inv
        refine good_same hinv hK (v := .pointer (some ⟨b, off + i.toNat * s, none⟩)) ?_ (.ptr hb)
        simp [execOp, ho, hv, hv1, Instr.indexAt, asIntOf, run_underlying hu, run_size hs, hc1, hc2, Instr.sureAddr, blk_add]
      · cases hx
    · cases hx
  · cases hx
theorem op_index (hgl : GlOK P E.gl G.pr) (hinv : Inv P G st w) (ht : TmR P G N tm a) {t : TypeId} {x y : Operand} {r : R} (ho : o.op = .index t x y) (hx : xop P E tm st i0 nx' o = some r) (hK : Good P G st i0 nx' a o K Q r) : o.wp P a w K Q := by
  simp only [xop, ho, Option.bind_eq_some_iff] at hx
  obtain ⟨x0, h0, y0, h1, hx⟩ := hx
  have hr := ev_sound hgl ht h0
  have hr1 := ev_sound hgl ht h1
  split at hx
  · rw [Option.map_eq_some_iff] at hx
    obtain ⟨z, hz, rfl⟩ := hx
    have e1 := hr.sc_inv
    have e2 := hr1.sc_inv
    have hrun := reck_run _ hz w
    refine good_same hinv hK (v := z) ?_ (.pure (.sc _))
    simp only [execOp, ho, e1, e2]
    rw [Sem.run_bind, hrun]
    rfl
  · cases hx
theorem bytesOfV_inv : ∀ {xs : List V} {l : List UInt8}, bytesOfV xs = some l → ∃ ns : List Int, xs = ns.map (fun n => V.sc (.int .u8 n)) ∧ l = ns.map fun n => UInt8.ofNat n.toNat
  | [], l, h => by simp [bytesOfV] at h; subst h; exact ⟨[], rfl, rfl⟩
  | x :: xs, l, h => by
    unfold bytesOfV at h
    split at h
    · rename_i h1; cases h1
    · rename_i n r h1
      obtain ⟨rfl, rfl⟩ : x = .sc (.int .u8 n) ∧ xs = r := by simpa using h1
      rw [Option.map_eq_some_iff] at h
      obtain ⟨l', hl, rfl⟩ := h
      obtain ⟨ns, rfl, rfl⟩ := bytesOfV_inv hl
      exact ⟨n :: ns, rfl, rfl⟩
    · cases h
theorem scs_all2 {p : Pr} {ns : List Int} {vs : List Value} (h : All2 (RepP P p) (ns.map fun n => V.sc (.int .u8 n)) vs) : vs = ns.map (Value.int .u8) := by
  induction ns generalizing vs with
  | nil => cases h; rfl
  | cons n ns ih => cases h with | cons h1 h2 => cases h1; rw [ih h2]; rfl
theorem flat_sc (ns : List Int) : (ns.map fun n => V.sc (.int .u8 n)).flatMap V.cells = ns.map fun n => V.sc (.int .u8 n) := by
  induction ns with
  | nil => rfl
  | cons n ns ih => rw [List.map_cons, List.flatMap_cons, ih]; rfl
/-- New cells that never turn: a block that no name bears. -/
theorem Inv.fixed (h : Inv P G st w) (hg : w.grownBy w' none) (cs : List Value) (hc : ∀ j u, cs[j]? = some u → w'.cell? ⟨w.heap.size, j, none⟩ = some u) :
    G.le { G with pr := fun b o => if b = w.heap.size then cs[o]? else G.pr b o } ∧ Inv P { G with pr := fun b o => if b = w.heap.size then cs[o]? else G.pr b o } st w' := by
  have hle : G.le { G with pr := fun b o => if b = w.heap.size then cs[o]? else G.pr b o } := ⟨rfl, rfl, fun b o v q => by
    have := h.pr_lt q
    show (if _ then _ else _) = _
    rw [if_neg (by omega)]; exact q, fun _ _ q => q, fun t v q => ⟨v, q, Nat.le_refl _, fun _ => rfl⟩, fun b o hb => if_neg (by have := h.size; omega)⟩
  have hb : ∀ b, b < w.heap.size → w'.heap[b]? = w.heap[b]? := fun b hb => hg.block b hb (by simp)
  refine ⟨hle, h.below.trans ⟨hg.os, hg.tape, hg.output, hg.size, fun k hk => hb k (by have := h.size; omega)⟩, Nat.le_trans h.size hg.size, fun b o v hv => ?_, fun i ob hi => ?_, fun i j b hi hj => ?_, fun i b hi o v hv => ?_⟩
  · have hv2 : (if b = w.heap.size then cs[o]? else G.pr b o) = some v := hv
    by_cases e : b = w.heap.size
    · rw [if_pos e] at hv2; rw [e]; exact hc o v hv2
    · rw [if_neg e] at hv2
      rw [cell_same (hb b (h.pr_lt hv2))]; exact h.prot b o v hv2
  · refine (h.objs i ob hi).kept hle rfl fun b hbb => hb b ?_
    refine (h.blk_lt (i := i) ?_).1
    unfold blk; rw [hi]; cases ob <;> exact hbb
  · exact h.apart i j b hi hj
  · have hi' : blk G st i = some b := hi
    have hv : (if b = w.heap.size then cs[o]? else G.pr b o) = some v := hv
    rw [if_neg (by have := (h.blk_lt hi').1; omega)] at hv
    exact h.free i b hi' o v hv
theorem flat_bytes (s : ByteArray) : (bytesV s).flatMap V.cells = bytesV s := by
  unfold bytesV
  induction s.data.toList with
  | nil => rfl
  | cons n ns ih => rw [List.map_cons, List.flatMap_cons, ih]; rfl
theorem bytesV_length (s : ByteArray) : (bytesV s).length = s.size := by simp [bytesV]
theorem bytes_all2 {p : Pr} (l : List UInt8) : All2 (RepP P p) (l.map fun b => V.sc (.int .u8 b.toNat)) (l.map fun b => Value.int .u8 b.toNat) := by
  induction l with
  | nil => exact .nil
  | cons b l ih => exact .cons (.sc _) ih
theorem op_convert (hgl : GlOK P E.gl G.pr) (hinv : Inv P G st w) (ht : TmR P G N tm a) {s d : TypeId} {x : Operand} {r : R} (ho : o.op = .convert s d x) (hx : xop P E tm st i0 nx' o = some r) (hK : Good P G st i0 nx' a o K Q r) : o.wp P a w K Q := by
  simp only [xop, ho, Option.bind_eq_some_iff] at hx
  obtain ⟨x0, h0, hx⟩ := hx
  have hr := ev_sound hgl ht h0
  split at hx
  · rename_i e xs _
    split at hx
    · rename_i e' hs hd
      split at hx
      · rename_i hc
        obtain ⟨hc1, hc2, hc3⟩ := hc
        rw [Option.map_eq_some_iff] at hx
        obtain ⟨l, hl, rfl⟩ := hx
        obtain ⟨A, c, hv, hp, _⟩ := hr.list_inv
        obtain ⟨A', c', vs, hv', h2, h3, h4, h5, h6, h7⟩ := list_parts hp
        obtain ⟨rfl, rfl⟩ : A = A' ∧ c = c' := by simpa using hv'
        obtain ⟨ns, rfl, rfl⟩ := bytesOfV_inv hl
        rw [flat_sc] at h7
        have hvs := scs_all2 h7
        subst hvs
        have hrun : (convert s d (.slice A ns.length c)).run P w = .ok (.string ⟨(ns.map fun n => UInt8.ofNat n.toNat).toArray⟩) w := by
          rw [run_convert_bytes_string w s d e' A ns.length c hs (isU8_u hc1) hd]
          cases A with
          | none =>
            cases ns with
            | nil => simp [Conv.bytesToString]; rfl
            | cons n ns => obtain ⟨ad, h, _⟩ := h6 (by simp); cases h
          | some ad =>
            have hl : (loadCells ad ns.length).run P w = .ok (ns.map (Value.int .u8)).toArray w := by
              have := run_loadCells_list (P := P) w ad (ns.map (Value.int .u8)) (fun j u hu => by
                obtain ⟨ad', h, hlies⟩ := h6 (by intro e; rw [e] at hu; simp at hu)
                obtain rfl := Option.some.inj h
                exact cell_lies hinv hlies hu)
              simpa using this
            rw [run_bytesToString w ad _ _ ns hl, foldl_push_bytes]
            simp [ByteArray.empty, ByteArray.emptyWithCapacity]
            rfl
        refine good_same hinv hK (v := .string _) ?_ (.pure (.sc _))
        simp only [execOp, ho, hv, List.length_map]
        rw [Sem.run_bind, hrun]
        rfl
      · cases hx
    · cases hx
  · rename_i u
    have hv := hr.sc_inv
    split at hx
    · rename_i t ud e hs he
      split at hx
      · rename_i hc
        simp only [Bool.and_eq_true, beq_iff_eq] at hc
        obtain rfl := Option.some.inj hx
        have hrun := Lib.run_convert_string_bytes (P := P) w s d e t hs (uel_u he) (isU8_u hc.1)
        have hcell : ∀ (j : Nat) u, (t.data.toList.map fun b => Value.int .u8 b.toNat)[j]? = some u → (Lib.bytesWorld w e t).cell? ⟨w.heap.size, j, none⟩ = some u := fun j u hu => by
          have hj : j < t.size := by
            have := (List.getElem?_eq_some_iff.1 hu).1
            simpa using this
          rw [Lib.bytesWorld_cell w e t j hj]
          simpa [List.getD_eq_getElem?_getD, List.getElem?_map, hj] using hu
        obtain ⟨hg, hi⟩ := hinv.fixed (w' := Lib.bytesWorld w e t) ⟨rfl, rfl, rfl, by rw [Lib.bytesWorld_size]; omega, fun k hk _ => Lib.bytesWorld_at_old w e t k hk⟩ _ hcell
        refine wp_val (v := .slice (some ⟨w.heap.size, 0, none⟩) t.size (grownCap w t.size 0 e)) ?_ (hK _ _ _ hg (fun k _ => ⟨id, id⟩) hi (.pure (.list (vs := t.data.toList.map fun b => Value.int .u8 b.toNat) (bytesV_length t) (grownCap_ge _ _ _ _) (.inl rfl) ?_ ?_ (fun _ => ⟨_, rfl, fun j u hu => ?_⟩) ?_)))
        · simp only [execOp, ho, hv]
          rw [Sem.run_bind, hrun]
          rfl
        · intro s' hs' x hx
          rw [hc.2] at hs'; obtain rfl := Option.some.inj hs'
          simp only [bytesV, List.mem_map] at hx
          obtain ⟨b, _, rfl⟩ := hx
          rfl
        · rw [flat_bytes]
          refine List.all_eq_true.2 fun x hx => ?_
          simp only [bytesV, List.mem_map] at hx
          obtain ⟨b, _, rfl⟩ := hx
          rfl
        · rw [blk_add]
          exact ⟨rfl, by simpa using hu⟩
        · rw [flat_bytes]
          exact .of (bytes_all2 _)
      · cases hx
    · rw [Option.map_eq_some_iff] at hx
      obtain ⟨z, hz, rfl⟩ := hx
      have hrun := reck_run _ hz w
      refine good_same hinv hK (v := z) ?_ (.pure (.sc _))
      simp only [execOp, ho, hv]
      rw [Sem.run_bind, hrun]
      rfl
  · cases hx
end
end Go.Proofs.YtojbkakdhfmjmaaDoor.Vm
