/- Proved here: rows of the machine's own, and rows that never turn, in a world of the model. Conditions: none. -/
import Derived.Test.YtkbheoganajhaaaDoorVm2
set_option linter.unusedVariables false
set_option linter.unusedSimpArgs false
namespace Go.Proofs.YtkbheoganajhaaaDoor.Vm
open Go.RowKit
section
variable {P : Program} {G G' : Gh} {st st' : St} {w w' : World}
theorem vlen_own {base e s n : Nat} {v : Value} {vs : List Value} (h : w.ownsRow base e s v n vs) : vlen v = n := by
  rcases h.2 with ⟨rfl, rfl⟩ | ⟨g, cap, cur, rfl, _⟩ <;> rfl
theorem own_cells {base e s n g : Nat} {v : Value} {vs : List Value} (h : w.ownsRow base e s v n vs) (hg : v.ownBlock = some g) {o : Nat} {u : Value} (hu : vs[o]? = some u) : w.cell? ⟨g, o, none⟩ = some u := by
  rcases h.2 with ⟨rfl, _⟩ | ⟨g', cap, cur, rfl, _, hh, _, _, _, ht⟩
  · simp [Value.ownBlock] at hg
  · obtain rfl : g' = g := by simpa [Value.ownBlock] using hg
    have ho : o < n * s := by
      have := (List.getElem?_eq_some_iff.1 hu).1
      rw [h.1] at this; exact this
    simp only [World.cell?, hh]
    rw [← ht, List.getElem?_take, if_pos ho] at hu
    simpa using hu
set_option maxHeartbeats 1000000 in
/-- append onto a row of the machine's own, whatever the source is. -/
theorem run_app (w : World) (base : Nat) (t t' ty e : TypeId) (i : TypeInfo) (z : Value) (ht : P.underlying t = some (.slice e)) {d : TypeDesc} (ht' : P.underlying t' = some d) (hd : (∃ e', d = .slice e') ∨ d = .string) (hi : P.info? e = some i) (hz : i.zero = some z)
    (hzs : z.cells.size = i.size) (v : Value) (n : Nat) (vs : List Value) (hown : w.ownsRow base e i.size v n vs) (x : Value) (m : Nat) (news : List Value) (hx1 : ∀ w', (Builtin.lenOf x).run P w' = .ok m w')
    (hx2 : ∀ w' : World, w'.heap = w.heap → (Builtin.firstCells i.size m x).run P w' = .ok news.toArray w') (hl : news.length = m * i.size) (h1 : ∀ u ∈ news, u.oneCell' = true) (h63 : n + m ≤ maxLen) (hbytes : (n + m) * i.bytes ≤ 140737488355328)
    (hbase : base ≤ w.heap.size) :
    ∃ v' w', (Builtin.append_ #[t, t'] ty #[v, x]).run P w = .ok v' w' ∧ w'.ownsRow base e i.size v' (n + m) (vs ++ news) ∧
      ((v'.ownBlock = v.ownBlock ∧ w.grownBy w' v.ownBlock) ∨ (v'.ownBlock = some w.heap.size ∧ w.grownBy w' none)) ∧ (m = 0 → v' = v) := by
  have hlen : (vs ++ news).length = (n + m) * i.size := by rw [List.length_append, hown.1, hl, Nat.add_mul]
  have grown : ∀ old : Nat, old < n + m → (w.drew.alloc (.cells (vs.toArray ++ news.toArray ++ Builtin.zeroCells z.cells (grownCap w (n + m) old e - (n + m))) e)).ownsRow base e i.size
        (.slice (some ⟨w.heap.size, 0, none⟩) (n + m) (grownCap w (n + m) old e)) (n + m) (vs ++ news) ∧
      w.grownBy (w.drew.alloc (.cells (vs.toArray ++ news.toArray ++ Builtin.zeroCells z.cells (grownCap w (n + m) old e - (n + m))) e)) none := by
    intro old ho
    have hge := grownCap_ge w (n + m) old e
    refine ⟨⟨hlen, .inr ⟨w.heap.size, _, _, rfl, hbase, heap_alloc_new w.drew _, hge, grownCap_le_maxLen w (n + m) old e h63, ?_, ?_⟩⟩, ⟨rfl, rfl, rfl, by simp, fun k hk _ => heap_alloc_old w.drew _ hk⟩⟩
    · simp only [Array.size_append, List.size_toArray, size_zeroCells, hzs, hown.1, hl, ← Nat.add_mul]
      congr 1
      omega
    · simp only [Array.toList_append, List.append_assoc]
      rw [← List.append_assoc, ← hlen]
      exact List.take_left
  have h63' : n + m ≤ 9223372036854775807 := by simp only [maxLen] at h63; omega
  rcases hown.2 with ⟨rfl, rfl⟩ | ⟨g, cap, cur, rfl, hbg, hg, hnc, hcm, hcs, htake⟩
  · have hvs : vs = [] := List.eq_nil_of_length_eq_zero (by simpa using hown.1)
    subst hvs
    by_cases hm0 : m = 0
    · subst hm0
      have hn : news = [] := List.eq_nil_of_length_eq_zero (by simpa using hl)
      subst hn
      refine ⟨.slice none 0 0, w, ?_, World.ownsRow_nil w base e i.size, .inl ⟨rfl, rfl, rfl, rfl, Nat.le_refl _, fun _ _ _ => rfl⟩, fun _ => rfl⟩
      have hf := hx2 w rfl
      rcases hd with ⟨e', rfl⟩ | rfl <;> simp [Builtin.append_, run_underlying ht, run_underlying ht', sizeOf, typeInfo, hi, hx1, hf]
    · have hgr := grown 0 (by omega)
      have hf := hx2 w.drew rfl
      have hn : m ≠ 0 := hm0
      have h63'' : ¬ (9223372036854775807 < (m : Int)) := by omega
      have h48' : ¬ (281474976710656 < Builtin.nextslicecap m 0 * i.bytes) := by rw [nextslicecap_zero (by omega)]; simp only [Nat.zero_add] at hbytes; omega
      simp only [Nat.zero_add, List.nil_append, Array.empty_append] at hgr ⊢
      refine ⟨_, _, ?_, hgr.1, .inr ⟨rfl, hgr.2⟩, fun h => absurd h hm0⟩
      rcases hd with ⟨e', rfl⟩ | rfl <;> simp [Builtin.append_, run_underlying ht, run_underlying ht', sizeOf, typeInfo, zeroValue, hi, hz, hx1, hn, h63'', h48', Question.forced, hf, run_firstCells_none, newRow, grownCap]
  · by_cases hroom : n + m ≤ cap
    · have hfit : n * i.size + news.length ≤ cur.size := by rw [hl, hcs, ← Nat.add_mul]; exact Nat.mul_le_mul_right _ hroom
      have hf := hx2 w rfl
      have hst := run_storeCells_at P g (n * i.size) e news 0 cur w hg (by simpa using hfit) h1
      simp only [Nat.add_zero] at hst
      refine ⟨.slice (some ⟨g, 0, none⟩) (n + m) cap, w.setRow g (cur.toList.take (n * i.size) ++ news ++ cur.toList.drop (n * i.size + news.length)).toArray, ?_, ⟨hlen, .inr ⟨g, cap, _, rfl, hbg, setRow_heap w g cur _ e _ hg, hroom, hcm, ?_, ?_⟩⟩, .inl ⟨rfl, rfl, rfl, rfl, by simp, fun k _ hk => setRow_other w g k _ (fun e => hk (by simp [Value.ownBlock, e]))⟩, fun h => by subst h; rfl⟩
      · rcases hd with ⟨e', rfl⟩ | rfl <;> simp [Builtin.append_, run_underlying ht, run_underlying ht', sizeOf, typeInfo, hi, hx1, hroom, hf, Addr.add_lit, hst]
      · simp only [List.size_toArray, List.length_append, List.length_take, List.length_drop, Array.length_toList]
        omega
      · rw [htake, ← hlen]
        exact List.take_left
    · have holds : ∀ j u, vs[j]? = some u → w.cell? ((⟨g, 0, none⟩ : Addr).add j) = some u := hown.cells (g := g) rfl
      have hgr := grown cap (by omega)
      have hf := hx2 w.drew rfl
      have hfo := run_firstCells_some (P := P) w.drew i.size n ⟨g, 0, none⟩ n cap vs hown.1 (by simpa using holds)
      have h63'' : ¬ (9223372036854775807 < ((n : Int) + (m : Int))) := by omega
      have h48' : ¬ (281474976710656 < Builtin.nextslicecap (n + m) cap * i.bytes) := by have := growslice_fits (need := n + m) (old := cap) (bytes := i.bytes) (by omega) hbytes; omega
      refine ⟨_, _, ?_, hgr.1, .inr ⟨rfl, hgr.2⟩, fun h => by omega⟩
      rcases hd with ⟨e', rfl⟩ | rfl <;> (simp [Builtin.append_, run_underlying ht, run_underlying ht', sizeOf, typeInfo, zeroValue, hi, hz, hx1, hroom, h63'', h48', Question.forced, hf, hfo, newRow, grownCap]; congr 2; apply Array.ext'; simp [List.append_assoc])

/-- A row with a right: made, or appended to. -/
theorem Inv.row (h : Inv P G st w) (i : Nat) {v v' : Value} {n n' s e : Nat} {vs news : List Value} (hs : usz P e = some s) (hold : w.ownsRow G.base e s v n vs)
    (hi : (st i = none ∧ G.tl i = none ∧ v = .slice none 0 0) ∨ (st i = some (.tok n e) ∧ G.tl i = some v)) (hbx : G.bx i = none) (hown : w'.ownsRow G.base e s v' n' (vs ++ news))
    (hat2 : (v'.ownBlock = v.ownBlock ∧ w.grownBy w' v.ownBlock) ∨ (v'.ownBlock = some w.heap.size ∧ w.grownBy w' none)) (hlen : n ≤ n') (heq : st i = some (.tok n e) → n = n' → v' = v) :
    G.le { G with pr := fun b o => if some b = v'.ownBlock ∧ o < n' * s then (vs ++ news)[o]? else G.pr b o, tl := upd G.tl i (some v') } ∧
    Inv P { G with pr := fun b o => if some b = v'.ownBlock ∧ o < n' * s then (vs ++ news)[o]? else G.pr b o, tl := upd G.tl i (some v') } (upd st i (some (.tok n' e))) w' := by
  have hat : v'.ownBlock = v.ownBlock ∨ v'.ownBlock = some w.heap.size := hat2.imp (·.1) (·.1)
  have hg : w.grownBy w' v.ownBlock := by
    rcases hat2 with ⟨_, h⟩ | ⟨_, h⟩
    · exact h
    · exact ⟨h.os, h.tape, h.output, h.size, fun k hk _ => h.block k hk (by simp)⟩
  have hbv : ∀ b, v.ownBlock = some b → blk G st i = some b := fun b hb => by
    rcases hi with ⟨_, _, rfl⟩ | ⟨h1, h2⟩
    · simp [Value.ownBlock] at hb
    · unfold blk; rw [h1]; simp [h2, hb]
  have hpr : ∀ b o u, G.pr b o = some u → some b = v'.ownBlock → o < n' * s → (vs ++ news)[o]? = some u := fun b o u hu hb ho => by
    rcases hat with hat | hat
    · rw [hat] at hb
      obtain ⟨m, e', s', h1, h2, h3⟩ := h.free i b (hbv b hb.symm) o u hu
      rcases hi with ⟨_, _, rfl⟩ | ⟨k1, k2⟩
      · simp [Value.ownBlock] at hb
      · rw [k1] at h1
        obtain ⟨rfl, rfl⟩ : n = m ∧ e = e' := by simpa using h1
        rw [hs] at h2
        obtain rfl := Option.some.inj h2
        have hl := hold.1
        rw [List.getElem?_append_left (by omega)]
        have hc := h.prot b o u hu
        have : vs[o]? = some vs[o] := List.getElem?_eq_getElem (by omega)
        rw [own_cells hold hb.symm this] at hc
        rw [this]; exact hc
    · rw [hat] at hb
      obtain rfl := Option.some.inj hb
      have := h.pr_lt hu
      omega
  have hle : G.le { G with pr := fun b o => if some b = v'.ownBlock ∧ o < n' * s then (vs ++ news)[o]? else G.pr b o, tl := upd G.tl i (some v') } := by
    refine ⟨rfl, rfl, fun b o u hu => ?_, fun _ _ q => q, fun t u hu => ?_, fun b o hb => if_neg fun hc => by have := (hown.lt b hc.1.symm).1; omega⟩
    · show (if _ then _ else _) = _
      split
      · rename_i hc; exact hpr b o u hu hc.1 hc.2
      · exact hu
    · show ∃ v'', upd G.tl i (some v') t = some v'' ∧ _
      simp only [upd]
      split
      · rename_i e1; subst e1
        rcases hi with ⟨_, h2, _⟩ | ⟨h1st, h2⟩
        · rw [h2] at hu; cases hu
        · rw [h2] at hu; obtain rfl := Option.some.inj hu
          rw [vlen_own hold]
          exact ⟨v', rfl, by rw [vlen_own hown]; exact hlen, by rw [vlen_own hown]; exact heq (by assumption), fun hq => absurd hbx hq⟩
      · exact ⟨u, hu, Nat.le_refl _, fun _ => rfl, fun _ => rfl⟩
  have hblk' : ∀ b, blk { G with pr := fun b o => if some b = v'.ownBlock ∧ o < n' * s then (vs ++ news)[o]? else G.pr b o, tl := upd G.tl i (some v') } (upd st i (some (.tok n' e))) i = some b → v'.ownBlock = some b := fun b hb => by
    unfold blk at hb; simpa [upd] using hb
  have hne : ∀ j b, j ≠ i → blk G st j = some b → v'.ownBlock ≠ some b := fun j b hj hb hb' => by
    rcases hat with hat | hat
    · rw [hat] at hb'; exact hj (h.apart j i b hb (hbv b hb'))
    · rw [hat] at hb'; have := (h.blk_lt hb).1; have := Option.some.inj hb'; omega
  have hne0 : ∀ j b, j ≠ i → blk G st j = some b → some b ≠ v.ownBlock := fun j b hj hb hb' => hj (h.apart j i b hb (hbv b hb'.symm))
  refine ⟨hle, h.go hle ⟨hg.os, hg.tape, hg.output, hg.size, fun k hk => hg.block k (by have := h.size; omega) fun hv => ?_⟩ (fun b o u hu => ?_) i (fun j hj => by simp [upd, hj]) (fun _ _ => rfl) (fun j hj => by simp [upd, hj])
    (fun j b hj hb => hg.block b (h.blk_lt hb).1 (hne0 j b hj hb)) (fun ob hob => ?_) (fun j b hj hb hb' => hne j b hj hb (hblk' b hb')) (fun b hb o u hu => ?_) (fun j b hj hb o u hu => ?_)⟩
  · have := (hold.lt k hv.symm).1; omega
  · by_cases hc : some b = v'.ownBlock ∧ o < n' * s
    · have hu' : (vs ++ news)[o]? = some u := by
        have : (if some b = v'.ownBlock ∧ o < n' * s then (vs ++ news)[o]? else G.pr b o) = some u := hu
        rwa [if_pos hc] at this
      exact own_cells hown hc.1.symm hu'
    · have hu' : G.pr b o = some u := by
        have : (if some b = v'.ownBlock ∧ o < n' * s then (vs ++ news)[o]? else G.pr b o) = some u := hu
        rwa [if_neg hc] at this
      by_cases hb : some b = v.ownBlock
      · have hb2 := hbv b hb.symm
        obtain ⟨m, e', s', h1, h2, h3⟩ := h.free i b hb2 o u hu'
        rcases hi with ⟨_, _, rfl⟩ | ⟨k1, k2⟩
        · simp [Value.ownBlock] at hb
        · rw [k1] at h1
          obtain ⟨rfl, rfl⟩ : n = m ∧ e = e' := by simpa using h1
          rw [hs] at h2
          obtain rfl := Option.some.inj h2
          have hmul : n * s ≤ n' * s := Nat.mul_le_mul_right _ hlen
          rcases hat with hat | hat
          · exact absurd ⟨by rw [hat]; exact hb, by omega⟩ hc
          · -- the old row, left behind
            rcases hat2 with ⟨h1, _⟩ | ⟨_, hg2⟩
            · exact absurd ⟨by rw [h1]; exact hb, by omega⟩ hc
            · have hlt := h.pr_lt hu'
              rw [cell_same (hg2.block b hlt (by simp))]; exact h.prot b o u hu'
      · have hlt := h.pr_lt hu'
        rw [cell_same (hg.block b hlt hb)]; exact h.prot b o u hu'
  · simp [upd] at hob; subst hob
    exact ⟨v', s, _, by simp [upd], hs, hown, hbx⟩
  · have hb2 := hblk' b hb
    refine ⟨n', e, s, by simp [upd], hs, ?_⟩
    by_cases hc : some b = v'.ownBlock ∧ o < n' * s
    · exact hc.2
    · have hu' : G.pr b o = some u := by
        have : (if some b = v'.ownBlock ∧ o < n' * s then (vs ++ news)[o]? else G.pr b o) = some u := hu
        rwa [if_neg hc] at this
      rcases hat with hat | hat
      · rw [hat] at hb2
        obtain ⟨m, e', s', h1, h2, h3⟩ := h.free i b (hbv b hb2) o u hu'
        rcases hi with ⟨_, _, rfl⟩ | ⟨k1, k2⟩
        · simp [Value.ownBlock] at hb2
        · rw [k1] at h1
          obtain ⟨rfl, rfl⟩ : n = m ∧ e = e' := by simpa using h1
          rw [hs] at h2
          obtain rfl := Option.some.inj h2
          have hmul : n * s ≤ n' * s := Nat.mul_le_mul_right _ hlen
          omega
      · rw [hat] at hb2
        have := h.pr_lt hu'
        have := Option.some.inj hb2
        omega
  · have : (if some b = v'.ownBlock ∧ o < n' * s then (vs ++ news)[o]? else G.pr b o) = some u := hu
    rwa [if_neg (fun hc => hne j b hj hb hc.1.symm)] at this
end
end Go.Proofs.YtkbheoganajhaaaDoor.Vm
