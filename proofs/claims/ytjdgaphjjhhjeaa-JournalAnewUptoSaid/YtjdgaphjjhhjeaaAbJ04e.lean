import Derived.Test.YtjdgaphjjhhjeaaAbJ04d
/- sinewlaw04.JournalTwice. -/
namespace Go.Ab
open Go.Proofs Go.RowKit Go.Oct
set_option linter.unusedVariables false
set_option linter.unusedSimpArgs false
set_option maxRecDepth 100000
/-- What is read of the beginning. -/
theorem unp_take {s : List UInt8} (h : (unpL s).2.2 = 0) {j : Nat} (hj : (unpL s).2.1 ≤ j) : unpL (s.take j) = unpL s := by
  obtain ⟨u1, u2⟩ := unp_used h
  have h' := h
  unfold unpL at h'
  split at h'
  · simp at h'
  · rename_i c1
    split at h'
    · simp at h'
    · rename_i c2
      split at h'
      · simp at h'
      · rename_i c3
        split at h'
        · simp at h'
        · rename_i c4
          cases hp : parseO ((s.drop 8).take (of4 s)) with
          | none => rw [hp] at h'; simp at h'
          | some n =>
            have hu : (unpL s).2.1 = 8 + of4 s := by
              unfold unpL
              rw [if_neg c1, if_neg c2, if_neg c3, if_neg c4, hp]
            have f1 : of4 (s.take j) = of4 s := by unfold of4; rw [List.take_take, Nat.min_eq_left (by omega)]
            have f2 : of4 ((s.take j).drop 4) = of4 (s.drop 4) := by
              unfold of4
              rw [List.drop_take, List.take_take, Nat.min_eq_left (by omega)]
            have f3 : ((s.take j).drop 8).take (of4 s) = (s.drop 8).take (of4 s) := by
              rw [List.drop_take, List.take_take, Nat.min_eq_left (by omega)]
            have f4 : (s.take j).length = min j s.length := List.length_take
            unfold unpL
            rw [f1, f2, f3, f4, if_neg (by omega), if_neg c2, if_neg (by omega), if_neg c4, if_neg c1, if_neg c2, if_neg c3]
theorem allL_ge (t : List UInt8) : ∀ (m a : Nat) (acc : List Note), a ≤ (allL t m a acc).2
  | 0, a, acc => Nat.le_refl _
  | m + 1, a, acc => by
    unfold allL
    split
    · have := allL_ge t m (a + (unpL (t.drop a)).2.1) (acc ++ [(unpL (t.drop a)).1]); omega
    · exact Nat.le_refl _
theorem allL_idem (t : List UInt8) : ∀ (m a : Nat) (acc : List Note) (m' : Nat), t.length < m + a → a ≤ t.length → (allL t m a acc).2 < m' + a → allL (t.take (allL t m a acc).2) m' a acc = allL t m a acc
  | 0, a, acc, m', h, ha, _ => by omega
  | m + 1, a, acc, m', h, ha, h2 => by
    have hge := allL_ge t (m + 1) a acc
    obtain ⟨m', rfl⟩ : ∃ k, m' = k + 1 := ⟨m' - 1, by omega⟩
    by_cases h0 : (unpL (t.drop a)).2.2 = 0
    · have hu := unp_used h0
      simp only [List.length_drop] at hu
      have e : allL t (m + 1) a acc = allL t m (a + (unpL (t.drop a)).2.1) (acc ++ [(unpL (t.drop a)).1]) := by
        rw [allL, if_pos h0]
      rw [e] at h2 ⊢
      have hge2 := allL_ge t m (a + (unpL (t.drop a)).2.1) (acc ++ [(unpL (t.drop a)).1])
      have et : unpL ((t.take (allL t m (a + (unpL (t.drop a)).2.1) (acc ++ [(unpL (t.drop a)).1])).2).drop a) = unpL (t.drop a) := by
        rw [List.drop_take]
        exact unp_take h0 (by omega)
      rw [allL, et, if_pos h0]
      exact allL_idem t m _ _ m' (by omega) (by omega) (by omega)
    · have e : allL t (m + 1) a acc = (acc, a) := by rw [allL, if_neg h0]
      rw [e]
      simp only
      rw [allL, if_neg]
      rw [List.drop_eq_nil_of_le (by rw [List.length_take]; omega)]
      exact unp_nil
theorem allN_idem (t : List UInt8) : allN (t.take (allN t).2) = allN t := by
  have hle := allN_le t
  have := allL_idem t (t.length + 1) 0 [] ((t.take (allN t).2).length + 1) (by omega) (by omega) (by
    have : (allL t (t.length + 1) 0 []).2 = (allN t).2 := rfl
    rw [this, List.length_take]; omega)
  exact this
/-- Behind a failure all is whole. -/
theorem jfail_whole {s : List UInt8} {sure : Nat} (h : sure ≤ s.length) (keep : Int) : (allN (jfail s sure keep)).2 = (jfail s sure keep).length ∧ (jfail s sure keep).length ≤ s.length := by
  have hk := jkeep_le h keep
  have hw := allN_le (s.take (jkeep s sure keep))
  rw [List.length_take] at hw
  have e : jfail s sure keep = (s.take (jkeep s sure keep)).take (allN (s.take (jkeep s sure keep))).2 := by
    unfold jfail
    rw [List.take_take, Nat.min_eq_left (by omega)]
  have hl : (jfail s sure keep).length = (allN (s.take (jkeep s sure keep))).2 := by
    unfold jfail; rw [List.length_take]; omega
  refine ⟨?_, by omega⟩
  rw [hl, e, allN_idem]
theorem jfail_again {s : List UInt8} (h : (allN s).2 = s.length) (keep : Int) : jfail s s.length keep = s := by
  have hk : jkeep s s.length keep = s.length := by
    unfold jkeep
    rw [Nat.sub_self, Nat.zero_add, Nat.mod_one]; rfl
  unfold jfail
  rw [hk, List.take_length, h, List.take_length]
theorem twice_end (a b : Int) (ha : a ≤ 9223372036854775807) (hb : b ≤ 9223372036854775807) {st : St} {id room sure : Nat} {bv : V} {s : List UInt8} (h : JAt st id room bv s sure) : ∃ st', g5b1111 (.int .i64 a) (.int .i64 b) (.ptr id 0) st = some (.ret (.bool true), st') := by
  unfold g5b1111
  obtain ⟨st1, b1, q1, q2, q3⟩ := jfail_s h a ha
  obtain ⟨w1, w2⟩ := jfail_whole h.le a
  simp only [er1_ptr, er1_int, q1, ret_ret, eql_int, if_true, bne_self_eq_false, cond_false, jnotes_s q2, jsize_s q2, ext_0, ext_1]
  unfold g5b1111111
  obtain ⟨st2, b2, r1, r2, r3⟩ := jfail_s q2 b hb
  rw [jfail_again w1] at r2
  simp only [eql_int, if_true, bne_self_eq_false, guard_ff, er1_ptr, er1_int, r1, ret_ret]
  unfold g5b111111100_10
  have hsm : ∀ n ∈ (allN (jfail s sure a)).1, NoteSM n := fun n hn => ((all_s (jfail s sure a) (by have := h.str; omega) st).2.1 n hn).sm
  have hlen := (all_s (jfail s sure a) (by have := h.str; omega) st).2.2
  obtain ⟨c, h3, h4⟩ := sameAll_s (allN (jfail s sure a)).1 (allN (jfail s sure a)).1 0 0 (by have := h.str; omega) hsm st2
  have hct : c = true := h4.2 rfl
  rw [hct] at h3
  simp only [guard_ff, er1_ptr, jnotes_s r2, ret_ret, er1_lst, h3, un_not, Bool.not_true, cond_false]
  unfold g5b11111111
  simp only [er1_ptr, jsize_s r2, ret_ret, ext_0, ext_1]
  unfold g5b111111111
  simp only [eql_int, Bool.false_eq_true, if_false, beq_self_eq_true, guard_tt, s11_val, ret_ret, er1_bool]
  exact ⟨_, rfl⟩
theorem twice_loop (l : List Note) (hl : l.length ≤ 9223372036854775807) (hn : ∀ n ∈ l, NoteOK n) (a b : Int) (ha : a ≤ 9223372036854775807) (hb : b ≤ 9223372036854775807) (id room : Nat) : ∀ (f i : Nat) (s : List UInt8) (bv : V) (st : St), i ≤ 20 → 20 < f + i → JAt st id room bv s 0 →
    ∃ st', g5b111010 f (.lst (notesV l) 0) (.int .i64 a) (.int .i64 b) (.ptr id 0) (.int .i64 (i : Nat)) st = some (.ret (.bool true), st') := by
  intro f
  induction f with
  | zero => intro i s bv st hi hf; omega
  | succ f ih =>
    intro i s bv st hi hf hj
    unfold g5b111010
    simp only [lenL_lst, notesV_len, bin_lss]
    by_cases h : i < l.length
    · simp only [show ((i : Int) < (l.length : Int)) from by omega, decide_true, guard_tt]
      by_cases h20 : i < 20
      · simp only [show ((i : Int) < 20) from by omega, decide_true, cond_true]
        unfold g5b11101001
        have e4 : ∀ K, A.bin .add (.int .i64 (i : Nat)) (.int .i64 1) K = K (.int .i64 ((i + 1 : Nat) : Int)) := fun K => bin_inc (by omega) K
        have n1 := hn _ (List.getElem_mem h)
        obtain ⟨c, hc⟩ := light_s _ n1 st
        simp only [iaddr_notes 0 h, load_note, er1_note, hc, ret_ret, un_not]
        cases c with
        | false => simp only [Bool.not_false, cond_true, s11_val, ret_ret, er1_bool]; exact ⟨_, rfl⟩
        | true =>
          obtain ⟨st2, b2, w1, w2, w3⟩ := jwrite_s hj l[i] n1
          simp only [Bool.not_true, cond_false, iaddr_notes 0 h, load_note, er1_note, er1_ptr, w1, ret_ret, e4]
          exact ih (i + 1) _ b2 st2 (by omega) (by omega) w2
      · simp only [show ¬ ((i : Int) < 20) from by omega, decide_false, cond_false]
        exact twice_end a b ha hb hj
    · simp only [show ¬ ((i : Int) < (l.length : Int)) from by omega, decide_false, guard_ft]
      exact twice_end a b ha hb hj
theorem journalTwice_law (l : List Note) (hl : l.length ≤ 9223372036854775807) (hn : ∀ n ∈ l, NoteOK n) (a b : Int) (ha : a ≤ 9223372036854775807) (hb : b ≤ 9223372036854775807) (st : St) : ∃ st', s5 [.lst (notesV l) 0, .int .i64 a, .int .i64 b] st = some (.ret (.bool true), st') := by
  rw [s5_eq]
  unfold f5
  have e : V.int .i64 1048576 = .int .i64 ((1048576 : Nat) : Int) := rfl
  rw [show (V.int .i64 1048576).er1 = .int .i64 ((1048576 : Nat) : Int) from rfl]
  simp only [new_s 1048576 (by omega) (by omega), ret_ret, ext_0, ext_1, eql_int, if_true, bne_self_eq_false, guard_ff, eql_ptr, cond_false]
  unfold g5b111
  exact twice_loop l hl hn a b ha hb _ _ big 0 [] _ _ (by omega) (by have := big_le; omega) (new_at_j 1048576 (by omega) (by omega) st)
theorem journalTwice_row {W : World} {v0 v1 v2 : Value} {x0 x1 x2 : V} {n0 n1 n2 : Nat}
    (r0 : Rs (E0 W) [x0] [v0]) (s0 : Sh Try.prog n0 22 x0.cells) (f0 : fit Try.prog 22 x0)
    (r1 : Rs (E0 W) [x1] [v1]) (s1 : Sh Try.prog n1 3 x1.cells) (f1 : fit Try.prog 3 x1)
    (r2 : Rs (E0 W) [x2] [v2]) (s2 : Sh Try.prog n2 3 x2.cells) (f2 : fit Try.prog 3 x2) :
    Calls Try.prog 5 #[v0, v1, v2] W fun e w' => e = .returned (.bool true) ∧ Below W.heap.size W w' := by
  obtain ⟨l, rfl, h1, h2⟩ := in_notes s0 f0
  obtain ⟨a, rfl, ha⟩ := in_int s1 f1 Try.underlying3
  obtain ⟨b, rfl, hb⟩ := in_int s2 f2 Try.underlying3
  obtain ⟨st', hs⟩ := journalTwice_law l h1 h2 a b (wf_i64 ha).2 (wf_i64 hb).2 St0
  exact bool_row sim5 W _ _ _ hs (Rs.cons r0 (Rs.cons r1 r2))
end Go.Ab
