/- Proved here: plain laws of the codec: what is encoded is read back, whatever follows, and reported as too short where it is cut. Conditions: none. -/
import Derived.Test.YtojbkakdhfmjmaaDoorVt5
import Derived.Test.YtojbkakdhfmjmaaDoorVp2
set_option maxRecDepth 10000
set_option linter.unusedVariables false
set_option linter.unusedSimpArgs false
namespace Go.Proofs.YtojbkakdhfmjmaaDoor.Vm
open Go Go.Proofs
/-- What reads w as v: whatever follows, and nowhere shorter. -/
structure Reads {α : Type} (D : List Int → Nat → Except Int (α × Nat)) (w : List Int) (v : α) : Prop where
  full : ∀ bs a m, bs.drop a = w ++ m → D bs a = .ok (v, a + w.length)
  cut : ∀ bs a k, k < w.length → bs.drop a = w.take k → D bs a = .error 6
theorem Reads.pure {α : Type} (v : α) : Reads (fun _ a => .ok (v, a)) [] v := ⟨fun bs a m _ => rfl, fun bs a k h => by simp at h⟩
theorem Reads.bind {α β : Type} {D1 : List Int → Nat → Except Int (α × Nat)} {D2 : α → List Int → Nat → Except Int (β × Nat)} {w1 w2 : List Int} {v1 : α} {v2 : β} (h1 : Reads D1 w1 v1) (h2 : Reads (D2 v1) w2 v2) : Reads (fun bs a => bindD (D1 bs a) fun x a => D2 x bs a) (w1 ++ w2) v2 := by
  refine ⟨fun bs a m h => ?_, fun bs a k hk h => ?_⟩
  · rw [List.append_assoc] at h
    have e1 := h1.full bs a _ h
    have h3 : bs.drop (a + w1.length) = w2 ++ m := by rw [← List.drop_drop, h, List.drop_left]
    simp only [e1, bindD, h2.full bs _ m h3, List.length_append]
    rw [Nat.add_assoc]
  · rw [List.length_append] at hk
    rcases Nat.lt_or_ge k w1.length with hlt | hge
    · have h3 : bs.drop a = w1.take k := by rw [h, List.take_append_of_le_length (by omega)]
      simp only [h1.cut bs a k hlt h3, bindD]
    · have h3 : bs.drop a = w1 ++ w2.take (k - w1.length) := by rw [h, List.take_append, List.take_of_length_le hge]
      have e1 := h1.full bs a _ h3
      have h4 : bs.drop (a + w1.length) = w2.take (k - w1.length) := by rw [← List.drop_drop, h3, List.drop_left]
      simp only [e1, bindD, h2.cut bs _ (k - w1.length) (by omega) h4]
/-! ### Integers -/
theorem tS_cut : ∀ (f : Nat) (y : Int) (i : Nat) (x : Int) (k : Nat), y < 128 ^ (f + 1) → i + f ≤ 9 → 0 ≤ x → 0 ≤ y → x + y * 128 ^ i < 18446744073709551616 → k < (Co.vL (f + 1) y).length → Co.tS ((Co.vL (f + 1) y).take k) i x = (0, 0, 6) := by
  intro f
  induction f with
  | zero =>
    intro y i x k h1 hi hx hy hm hk
    have h1 : y < 128 := h1
    rw [Co.vL, if_neg (by omega)] at hk
    simp at hk
    subst hk
    rw [List.take_zero, Co.tS, if_pos (by omega)]
  | succ f ih =>
    intro y i x k h1 hi hx hy hm hk
    cases k with
    | zero => rw [List.take_zero, Co.tS, if_pos (by omega)]
    | succ k =>
      by_cases hy2 : y ≥ 128
      · rw [Co.vL, if_pos hy2] at hk ⊢
        have hbad : Co.badS i (y % 128 + 128) = false := by
          simp only [Co.badS, Bool.or_eq_false_iff, Bool.and_eq_false_iff, decide_eq_false_iff_not]; omega
        have hp : (0 : Int) < 128 ^ i := Int.pow_pos (by decide)
        have hq : 0 ≤ y % 128 * 128 ^ i := Int.mul_nonneg (by omega) (by omega)
        have e : x + y % 128 * 128 ^ i + y / 128 * 128 ^ (i + 1) = x + y * 128 ^ i := by
          have : y * 128 ^ i = (y % 128 + 128 * (y / 128)) * 128 ^ i := by rw [Int.emod_add_mul_ediv]
          rw [this, Int.pow_succ, Int.add_mul]
          have : y / 128 * (128 ^ i * 128) = 128 * (y / 128) * 128 ^ i := by
            rw [Int.mul_comm (128 ^ i) 128, ← Int.mul_assoc, Int.mul_comm (y / 128) 128]
          omega
        simp only [List.take_succ_cons, Co.tS, hbad, Bool.false_eq_true, if_false, if_neg (show ¬ y % 128 + 128 < 128 by omega), if_pos (show i < 10 by omega), show (y % 128 + 128) % 128 = y % 128 by omega]
        exact ih (y / 128) (i + 1) _ k (Co.div_lt_pow h1) (by omega) (by omega) (by omega) (by rw [e]; exact hm) (by simpa using hk)
      · rw [Co.vL, if_neg hy2] at hk
        simp at hk
theorem tS_putS_cut (n : Int) (hn : i64r n) (k : Nat) (hk : k < (Co.putS n).length) : Co.tS ((Co.putS n).take k) 0 0 = (0, 0, 6) := by
  have hz := Co.zz_range n hn.1 hn.2
  refine tS_cut 9 (Co.zz n) 0 0 k ?_ (by omega) (by omega) hz.1 (by rw [Int.pow_zero]; omega) hk
  have : (128 : Int) ^ (9 + 1) = 1180591620717411303424 := by decide
  omega
theorem reads_int (n : Int) (hn : i64r n) : Reads dInt (Co.putS n) n := by
  refine ⟨fun bs a m h => ?_, fun bs a k hk h => ?_⟩
  · unfold dInt
    rw [h, Co.t_put n hn.1 hn.2]
    simp
  · unfold dInt
    rw [h, tS_putS_cut n hn k hk]
    simp
theorem reads_count (most n : Int) (h0 : 0 ≤ n) (h1 : n ≤ most) (hn : i64r n) : Reads (dCount most) (Co.putS n) n := by
  refine ⟨fun bs a m h => ?_, fun bs a k hk h => ?_⟩
  · unfold dCount
    rw [(reads_int n hn).full bs a m h]
    simp only
    rw [if_neg (by omega)]
  · unfold dCount
    rw [(reads_int n hn).cut bs a k hk h]
/-! ### Texts -/
theorem reads_text (s : ByteArray) (hs : plainS s = true) : Reads dText (ptB s) s := by
  have hz := plain_size hs
  have hn : i64r (s.size : Int) := ⟨by omega, by omega⟩
  have hbl := bytesOf_len s
  refine ⟨fun bs a m h => ?_, fun bs a k hk h => ?_⟩
  · have e : Co.tS (bs.drop a) 0 0 = ((s.size : Int), ((Co.putS s.size).length : Int), 0) := by rw [h, ptB, List.append_assoc, Co.t_put _ hn.1 hn.2]
    have ht : tT (bs.drop a) = (s, ((ptB s).length : Int), 0) := by
      unfold tT
      rw [e]
      simp only
      have h1 : (((bs.drop a).drop (Co.putS (s.size : Int)).length).take s.size) = Co.bytesOf s := by
        rw [h, ptB, List.append_assoc, List.drop_left, List.take_append_of_le_length (by omega), List.take_of_length_le (by omega)]
      have hl : (bs.drop a).length = (ptB s).length + m.length := by rw [h, List.length_append]
      have hp : (ptB s).length = (Co.putS (s.size : Int)).length + s.size := by rw [ptB, List.length_append, hbl]
      rw [if_neg (by simp), if_neg (by omega), if_neg (by omega)]
      simp only [Int.toNat_natCast, h1, strB_of, hs]
      simp only [Bool.true_eq_false, if_false]
      rw [hp]
      simp
    unfold dText
    rw [ht]
    simp
  · have hw : ptB s = Co.putS s.size ++ Co.bytesOf s := rfl
    have hp : (ptB s).length = (Co.putS (s.size : Int)).length + s.size := by rw [ptB, List.length_append, hbl]
    have ht : tT (bs.drop a) = (ByteArray.mk #[], 0, 6) := by
      rcases Nat.lt_or_ge k (Co.putS (s.size : Int)).length with hlt | hge
      · have e : Co.tS (bs.drop a) 0 0 = (0, 0, 6) := by
          rw [h, hw, List.take_append_of_le_length (by omega)]
          exact tS_putS_cut _ hn k hlt
        unfold tT
        rw [e]
        simp
      · have e : Co.tS (bs.drop a) 0 0 = ((s.size : Int), ((Co.putS s.size).length : Int), 0) := by
          rw [h, hw, List.take_append, List.take_of_length_le hge, Co.t_put _ hn.1 hn.2]
        have hl : (bs.drop a).length = k := by rw [h, List.length_take]; omega
        unfold tT
        rw [e]
        simp only
        rw [if_neg (by simp), if_neg (by omega), if_pos (by omega)]
    unfold dText
    rw [ht]
    simp
/-! ### Lines and entries -/
theorem reads_tags : ∀ (l : List Tag) (acc : List Tag), (∀ t ∈ l, plainS t.n = true ∧ plainS t.v = true) → Reads (fun bs => dTags bs l.length acc) (tagsB l) (acc ++ l)
  | [], acc, _ => by rw [List.append_nil]; exact Reads.pure acc
  | t :: l, acc, h => by
    have ht := h t (by simp)
    have hr := reads_tags l (acc ++ [t]) fun x hx => h x (by simp [hx])
    have := (reads_text t.n ht.1).bind (D2 := fun x bs a => bindD (dText bs a) fun y a => dTags bs l.length (acc ++ [⟨x, y⟩]) a) ((reads_text t.v ht.2).bind (D2 := fun y bs a => dTags bs l.length (acc ++ [⟨t.n, y⟩]) a) hr)
    have e : tagsB (t :: l) = ptB t.n ++ (ptB t.v ++ tagsB l) := by simp [tagsB]
    rw [e, show acc ++ t :: l = acc ++ [t] ++ l by simp]
    exact this
/-- A line as it is read. -/
def fixL (l : Line) : Line := { l with tr := l.tags.isEmpty }
def fixE (e : Entry) : Entry := { e with lines := e.lines.map fixL, lr := e.lines.isEmpty }
theorem reads_line (l : Line) (h : plainL l) (h6 : l.tags.length ≤ 6) : Reads dLine (lineB l) (fixL l) := by
  have e : lineB l = ptB l.acc ++ (ptB l.cur ++ (Co.putS l.amt ++ (Co.putS l.base ++ (ptB l.par ++ (ptB l.pty ++ (Co.putS l.tags.length ++ (tagsB l.tags ++ []))))))) := by simp [lineB]
  rw [e]
  refine (reads_text l.acc h.acc).bind (β := Line) (D2 := fun acc bs a => bindD (dText bs a) fun cur a => bindD (dInt bs a) fun amt a => bindD (dInt bs a) fun base a => bindD (dText bs a) fun par a => bindD (dText bs a) fun pty a => bindD (dCount 6 bs a) fun n a => bindD (dTags bs n.toNat [] a) fun tags a => .ok (⟨acc, cur, amt, base, par, pty, tags, tags.isEmpty⟩, a)) ?_
  refine (reads_text l.cur h.cur).bind (β := Line) (D2 := fun cur bs a => bindD (dInt bs a) fun amt a => bindD (dInt bs a) fun base a => bindD (dText bs a) fun par a => bindD (dText bs a) fun pty a => bindD (dCount 6 bs a) fun n a => bindD (dTags bs n.toNat [] a) fun tags a => .ok (⟨l.acc, cur, amt, base, par, pty, tags, tags.isEmpty⟩, a)) ?_
  refine (reads_int l.amt h.amt).bind (β := Line) (D2 := fun amt bs a => bindD (dInt bs a) fun base a => bindD (dText bs a) fun par a => bindD (dText bs a) fun pty a => bindD (dCount 6 bs a) fun n a => bindD (dTags bs n.toNat [] a) fun tags a => .ok (⟨l.acc, l.cur, amt, base, par, pty, tags, tags.isEmpty⟩, a)) ?_
  refine (reads_int l.base h.base).bind (β := Line) (D2 := fun base bs a => bindD (dText bs a) fun par a => bindD (dText bs a) fun pty a => bindD (dCount 6 bs a) fun n a => bindD (dTags bs n.toNat [] a) fun tags a => .ok (⟨l.acc, l.cur, l.amt, base, par, pty, tags, tags.isEmpty⟩, a)) ?_
  refine (reads_text l.par h.par).bind (β := Line) (D2 := fun par bs a => bindD (dText bs a) fun pty a => bindD (dCount 6 bs a) fun n a => bindD (dTags bs n.toNat [] a) fun tags a => .ok (⟨l.acc, l.cur, l.amt, l.base, par, pty, tags, tags.isEmpty⟩, a)) ?_
  refine (reads_text l.pty h.pty).bind (β := Line) (D2 := fun pty bs a => bindD (dCount 6 bs a) fun n a => bindD (dTags bs n.toNat [] a) fun tags a => .ok (⟨l.acc, l.cur, l.amt, l.base, l.par, pty, tags, tags.isEmpty⟩, a)) ?_
  refine (reads_count 6 l.tags.length (by omega) (by omega) ⟨by omega, by omega⟩).bind (β := Line) (D2 := fun n bs a => bindD (dTags bs n.toNat [] a) fun tags a => .ok (⟨l.acc, l.cur, l.amt, l.base, l.par, l.pty, tags, tags.isEmpty⟩, a)) ?_
  have ht := reads_tags l.tags [] h.tags
  rw [List.nil_append] at ht
  refine Reads.bind (β := Line) (D1 := fun bs a => dTags bs ((l.tags.length : Int).toNat) [] a) (D2 := fun tags bs a => .ok (⟨l.acc, l.cur, l.amt, l.base, l.par, l.pty, tags, tags.isEmpty⟩, a)) (v1 := l.tags) ?_ (Reads.pure _)
  rw [Int.toNat_natCast]; exact ht
theorem reads_lines : ∀ (l : List Line) (acc : List Line), (∀ t ∈ l, plainL t ∧ t.tags.length ≤ 6) → Reads (fun bs => dLines bs l.length acc) (linesB l) (acc ++ l.map fixL)
  | [], acc, _ => by rw [List.map_nil, List.append_nil]; exact Reads.pure acc
  | t :: l, acc, h => by
    have ht := h t (by simp)
    have hr := reads_lines l (acc ++ [fixL t]) fun x hx => h x (by simp [hx])
    have := (reads_line t ht.1 ht.2).bind (D2 := fun x bs a => dLines bs l.length (acc ++ [x]) a) hr
    have e : linesB (t :: l) = lineB t ++ linesB l := by simp [linesB]
    rw [e, show acc ++ (t :: l).map fixL = acc ++ [fixL t] ++ l.map fixL by simp]
    exact this
theorem reads_entry (e : Entry) (h : plainE e) (h6 : ∀ t ∈ e.lines, t.tags.length ≤ 6) : Reads dEntry (entryB e) (fixE e) := by
  have hlen := h.len
  have e0 : entryB e = Co.putS e.no ++ (ptB e.ent ++ (Co.putS e.book ++ (Co.putS e.val ++ (Co.putS e.kind ++ (ptB e.ref ++ (ptB e.who ++ (Co.putS e.rev ++ (Co.putS e.lines.length ++ (linesB e.lines ++ []))))))))) := by simp [entryB, headB]
  rw [e0]
  refine (reads_int e.no h.no).bind (β := Entry) (D2 := fun no bs a => bindD (dText bs a) fun ent a => bindD (dInt bs a) fun book a => bindD (dInt bs a) fun val a => bindD (dInt bs a) fun kind a => bindD (dText bs a) fun ref a => bindD (dText bs a) fun who a => bindD (dInt bs a) fun rev a => bindD (dCount 100 bs a) fun n a => bindD (dLines bs n.toNat [] a) fun lines a => .ok (⟨no, ent, book, val, kind, ref, who, rev, lines, lines.isEmpty⟩, a)) ?_
  refine (reads_text e.ent h.ent).bind (β := Entry) (D2 := fun ent bs a => bindD (dInt bs a) fun book a => bindD (dInt bs a) fun val a => bindD (dInt bs a) fun kind a => bindD (dText bs a) fun ref a => bindD (dText bs a) fun who a => bindD (dInt bs a) fun rev a => bindD (dCount 100 bs a) fun n a => bindD (dLines bs n.toNat [] a) fun lines a => .ok (⟨e.no, ent, book, val, kind, ref, who, rev, lines, lines.isEmpty⟩, a)) ?_
  refine (reads_int e.book h.book).bind (β := Entry) (D2 := fun book bs a => bindD (dInt bs a) fun val a => bindD (dInt bs a) fun kind a => bindD (dText bs a) fun ref a => bindD (dText bs a) fun who a => bindD (dInt bs a) fun rev a => bindD (dCount 100 bs a) fun n a => bindD (dLines bs n.toNat [] a) fun lines a => .ok (⟨e.no, e.ent, book, val, kind, ref, who, rev, lines, lines.isEmpty⟩, a)) ?_
  refine (reads_int e.val h.val).bind (β := Entry) (D2 := fun val bs a => bindD (dInt bs a) fun kind a => bindD (dText bs a) fun ref a => bindD (dText bs a) fun who a => bindD (dInt bs a) fun rev a => bindD (dCount 100 bs a) fun n a => bindD (dLines bs n.toNat [] a) fun lines a => .ok (⟨e.no, e.ent, e.book, val, kind, ref, who, rev, lines, lines.isEmpty⟩, a)) ?_
  refine (reads_int e.kind h.kind).bind (β := Entry) (D2 := fun kind bs a => bindD (dText bs a) fun ref a => bindD (dText bs a) fun who a => bindD (dInt bs a) fun rev a => bindD (dCount 100 bs a) fun n a => bindD (dLines bs n.toNat [] a) fun lines a => .ok (⟨e.no, e.ent, e.book, e.val, kind, ref, who, rev, lines, lines.isEmpty⟩, a)) ?_
  refine (reads_text e.ref h.ref).bind (β := Entry) (D2 := fun ref bs a => bindD (dText bs a) fun who a => bindD (dInt bs a) fun rev a => bindD (dCount 100 bs a) fun n a => bindD (dLines bs n.toNat [] a) fun lines a => .ok (⟨e.no, e.ent, e.book, e.val, e.kind, ref, who, rev, lines, lines.isEmpty⟩, a)) ?_
  refine (reads_text e.who h.who).bind (β := Entry) (D2 := fun who bs a => bindD (dInt bs a) fun rev a => bindD (dCount 100 bs a) fun n a => bindD (dLines bs n.toNat [] a) fun lines a => .ok (⟨e.no, e.ent, e.book, e.val, e.kind, e.ref, who, rev, lines, lines.isEmpty⟩, a)) ?_
  refine (reads_int e.rev h.rev).bind (β := Entry) (D2 := fun rev bs a => bindD (dCount 100 bs a) fun n a => bindD (dLines bs n.toNat [] a) fun lines a => .ok (⟨e.no, e.ent, e.book, e.val, e.kind, e.ref, e.who, rev, lines, lines.isEmpty⟩, a)) ?_
  refine (reads_count 100 e.lines.length (by omega) (by omega) ⟨by omega, by omega⟩).bind (β := Entry) (D2 := fun n bs a => bindD (dLines bs n.toNat [] a) fun lines a => .ok (⟨e.no, e.ent, e.book, e.val, e.kind, e.ref, e.who, e.rev, lines, lines.isEmpty⟩, a)) ?_
  have ht := reads_lines e.lines [] fun t ht => ⟨h.lines t ht, h6 t ht⟩
  rw [List.nil_append] at ht
  have e1 : fixE e = ⟨e.no, e.ent, e.book, e.val, e.kind, e.ref, e.who, e.rev, e.lines.map fixL, (e.lines.map fixL).isEmpty⟩ := by
    unfold fixE; congr 1; cases e.lines <;> rfl
  rw [e1]
  refine Reads.bind (β := Entry) (D1 := fun bs a => dLines bs ((e.lines.length : Int).toNat) [] a) (D2 := fun lines bs a => .ok (⟨e.no, e.ent, e.book, e.val, e.kind, e.ref, e.who, e.rev, lines, lines.isEmpty⟩, a)) (v1 := e.lines.map fixL) ?_ (Reads.pure _)
  rw [Int.toNat_natCast]; exact ht
/-! ### The check looks not at the marks -/
theorem fix_k (e : Entry) : (fixE e).k = e.k := by
  unfold fixE Entry.k
  simp only [List.map_map]
  congr 1
theorem lineS_fix (l : Line) : lineS (fixL l) = lineS l := rfl
theorem firstS_fix : ∀ (l : List Line) (k : Nat), firstS (l.map fixL) k = firstS l k
  | [], _ => rfl
  | x :: l, k => by simp only [List.map_cons, firstS, lineS_fix, firstS_fix l (k + 1)]
theorem lineS_six {l : Line} (h : lineS l = 0) : l.tags.length ≤ 6 := by
  unfold lineS at h
  split at h
  · cases h
  split at h
  · cases h
  split at h
  · cases h
  split at h
  · cases h
  split at h
  · cases h
  rename_i h5
  simp only [Bool.not_eq_false, rightS, Bool.and_eq_true, decide_eq_true_eq] at h5
  exact h5.1
theorem check_first {e : Entry} (h : (checkS e).2 = 0) : firstS e.lines 0 = none := by
  unfold checkS at h
  split at h
  · split at h
    · rename_i i er hf
      exfalso
      have : ∀ (l : List Line) (k : Nat), firstS l k = some (i, er) → ¬ er = 0 := by
        intro l
        induction l with
        | nil => intro k h; cases h
        | cons y r ih =>
          intro k h
          unfold firstS at h
          split at h
          · exact ih _ h
          · rename_i hy; simp only [Option.some.injEq, Prod.mk.injEq] at h; rw [← h.2]; exact hy
      exact this _ _ hf h
    · assumption
  · rename_i h0; exact absurd h h0
theorem check_six {e : Entry} (h : (checkS e).2 = 0) : ∀ t ∈ e.lines, t.tags.length ≤ 6 := fun t ht => lineS_six (first_all _ _ (check_first h) t ht)
theorem selA_fix (l : List Line) (k : ByteArray) : selA (l.map fixL) k = selA l k := by
  unfold selA
  rw [List.filter_map, List.map_map]
  rfl
theorem selB_fix (l : List Line) (k : ByteArray) : selB (l.map fixL) k = selB l k := by
  unfold selB
  rw [List.filter_map, List.map_map]
  rfl
theorem balS_fix (l : List Line) : balS (l.map fixL) = balS l := by
  unfold balS okAt
  simp only [selA_fix, selB_fix]
  rw [List.all_map]
  rfl
theorem headS_fix (e : Entry) : headS (fixE e) = headS e := by
  unfold headS fixE
  simp only [List.length_map]
theorem check_fix (e : Entry) : checkS (fixE e) = checkS e := by
  unfold checkS
  rw [headS_fix]
  have h1 : (fixE e).lines = e.lines.map fixL := rfl
  rw [h1, firstS_fix, balS_fix]
theorem take_full (e : Entry) (h : plainE e) (hc : (checkS e).2 = 0) (m : List Int) : takeS (entryB e ++ m) = (fixE e, ((entryB e).length : Int), 0) := by
  have := (reads_entry e h (check_six hc)).full (entryB e ++ m) 0 m rfl
  unfold takeS
  rw [this]
  simp only [check_fix, hc, if_true]
  simp
theorem take_cut (e : Entry) (h : plainE e) (hc : (checkS e).2 = 0) (k : Nat) (hk : k < (entryB e).length) : takeS ((entryB e).take k) = (zeroE, 0, 6) := by
  have := (reads_entry e h (check_six hc)).cut ((entryB e).take k) 0 k hk rfl
  unfold takeS
  rw [this]
end Go.Proofs.YtojbkakdhfmjmaaDoor.Vm
