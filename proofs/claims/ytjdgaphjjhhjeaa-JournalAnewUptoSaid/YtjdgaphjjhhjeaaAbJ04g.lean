import Derived.Test.YtjdgaphjjhhjeaaAbJ04f
/- sinewlaw04.JournalAnew (where all is of so much bulk). -/
namespace Go.Ab
open Go.Proofs Go.RowKit Go.Oct
set_option linter.unusedVariables false
set_option linter.unusedSimpArgs false
set_option maxRecDepth 100000
theorem jputs_ok (room : Nat) : ∀ (l : List Note) (s : List UInt8), (∀ n ∈ l, packOK n = true) → ((jputs room l s).1 = 0 ∧ (jputs room l s).2 = s ++ packsB l) ∨ (jputs room l s).1 = 40
  | [], s, _ => .inl ⟨rfl, by simp [jputs, packsB]⟩
  | n :: l, s, h => by
    have hp := h n (by simp)
    unfold jputs
    by_cases hc : room < s.length + (packB n).length
    · have hw : jwrite room s n = (40, s) := by unfold jwrite; rw [if_pos hp, if_pos hc]
      rw [hw]
      exact .inr rfl
    · have hw : jwrite room s n = (0, s ++ packB n) := by unfold jwrite; rw [if_pos hp, if_neg hc]
      rw [hw]
      simp only [if_true]
      rcases jputs_ok room l (s ++ packB n) (fun m hm => h m (List.mem_cons_of_mem _ hm)) with ⟨g1, g2⟩ | g
      · exact .inl ⟨g1, by rw [g2]; simp [packsB]⟩
      · exact .inr g
theorem jbegin_ok (room : Nat) (l : List Note) : ((jbegin room l).1 = 0 ∧ (jbegin room l).2 = packsB l ∧ ∀ n ∈ l, packOK n = true) ∨ (jbegin room l).1 = 1 ∨ (jbegin room l).1 = 40 := by
  unfold jbegin
  cases ha : l.any oddP with
  | true => exact .inr (.inl rfl)
  | false =>
    simp only [Bool.false_eq_true, if_false]
    have hp : ∀ n ∈ l, packOK n = true := fun n hn => by
      have := List.any_eq_false.1 ha n hn
      simpa [oddP] using this
    rcases jputs_ok room l [] hp with ⟨g1, g2⟩ | g
    · exact .inl ⟨g1, by rw [g2]; rfl, hp⟩
    · exact .inr (.inr g)
theorem anew_end (l : List Note) (hl : l.length ≤ 9223372036854775807) (hn : ∀ n ∈ l, NoteOK n ∧ Upto n) (keep : Int) (hk : keep ≤ 9223372036854775807) {st : St} {id room sure : Nat} {bv : V} {s : List UInt8} (h : JAt st id room bv s sure) :
    ∃ st', g7b11111 (.lst (notesV l) 0) (.int .i64 keep) (.ptr id 0) st = some (.ret (.bool true), st') := by
  unfold g7b11111
  obtain ⟨st1, b1, s1, u1, q1, q2, q3, q4, q5⟩ := jbegin_s h l 0 hl (fun n h => (hn n h).1)
  simp only [er1_ptr, er1_lst, er1_int, jnotes_s h, q1, ret_ret, eql_int, if_true]
  rcases jbegin_ok room l with ⟨e, e2, e3⟩ | e
  · obtain ⟨g1, g2⟩ := q4 e
    rw [e2] at g1
    subst g1
    subst g2
    have hG : GoodL l := fun n hm => ⟨e3 n hm, packOK_small (hn n hm).2 (e3 n hm)⟩
    have hfull := allN_full hG
    obtain ⟨st2, b2, r1, r2, r3⟩ := jfail_s q2 keep hk
    rw [jfail_again (by rw [hfull])] at r2
    have hsm : ∀ n ∈ l, NoteSM n := fun n hm => by
      have := (all_s (packsB l) (by have := q2.str; omega) st).2.1 n (by rw [hfull]; exact hm)
      exact this.sm
    have hlen : l.length ≤ (packsB l).length := by
      have := pl_ge l l.length (Nat.le_refl _)
      rwa [pl_all] at this
    obtain ⟨c, h3, h4⟩ := sameAll_s l l 0 0 (by have := q2.str; omega) hsm st2
    have hct : c = true := h4.2 rfl
    rw [hct] at h3
    simp only [e, show (((0 : Nat) : Int) != 0) = false from rfl, cond_false, er1_ptr, er1_int, r1, ret_ret, eql_int, Bool.false_eq_true, if_false, beq_self_eq_true, guard_tt, jnotes_s r2, hfull, er1_lst, h3, s11_val, er1_bool]
    exact ⟨_, rfl⟩
  · have e0 : (jbegin room l).1 ≠ 0 := by omega
    obtain ⟨g1, g2⟩ := q5 e0
    subst g1
    subst g2
    have hsm : ∀ n ∈ (allN s1).1, NoteSM n := fun n hm => ((all_s s1 (by have := h.str; omega) st).2.1 n hm).sm
    have hlen := (all_s s1 (by have := h.str; omega) st).2.2
    obtain ⟨c, h3, h4⟩ := sameAll_s (allN s1).1 (allN s1).1 0 0 (by have := h.str; omega) hsm st1
    have hct : c = true := h4.2 rfl
    rw [hct] at h3
    have tail : g7b11111110100_7 (.ptr id 0) (.lst (notesV (allN s1).1) 0) (.bool true) st1 = A.ret (s11 [] st1) fun a1 z2 => some (.ret a1.er1, z2) := by
      unfold g7b11111110100_7
      simp only [guard_tt, er1_ptr, jnotes_s q2, ret_ret, er1_lst, h3]
      unfold g7b11111110100_13
      simp only [guard_tt]
    rcases e with e | e
    · simp only [e, show (((1 : Nat) : Int) != 0) = true from rfl, cond_true, Bool.false_eq_true, if_false, show (((1 : Nat) : Int) == 1) = true from rfl, guard_tf, tail, s11_val, ret_ret, er1_bool]
      exact ⟨_, rfl⟩
    · simp only [e, show (((40 : Nat) : Int) != 0) = true from rfl, cond_true, Bool.false_eq_true, if_false, show (((40 : Nat) : Int) == 1) = false from rfl, guard_ff, eql_int, show (((40 : Nat) : Int) == 40) = true from rfl, beq_self_eq_true, tail, s11_val, ret_ret, er1_bool]
      exact ⟨_, rfl⟩
theorem anew_l (l : List Note) (hl : l.length ≤ 9223372036854775807) (hn : ∀ n ∈ l, NoteOK n ∧ Upto n) (keep : Int) (hk : keep ≤ 9223372036854775807) {st : St} {id room sure : Nat} {bv : V} {s : List UInt8} (h : JAt st id room bv s sure) :
    ∀ (f i : Nat), i ≤ 20 → i ≤ l.length → 20 < f + i → ∃ st', g7b1111010 f (.lst (notesV l) 0) (.int .i64 keep) (.ptr id 0) (.int .i64 (i : Nat)) st = some (.ret (.bool true), st') := by
  intro f
  induction f with
  | zero => intro i hi hi2 hf; omega
  | succ f ih =>
    intro i hi hi2 hf
    unfold g7b1111010
    simp only [lenL_lst, notesV_len, bin_lss]
    by_cases hlt : i < l.length
    · simp only [show ((i : Int) < (l.length : Int)) from by omega, decide_true, cond_true, bin_geq]
      by_cases h20 : i < 20
      · have e4 : ∀ K, A.bin .add (.int .i64 (i : Nat)) (.int .i64 1) K = K (.int .i64 ((i + 1 : Nat) : Int)) := fun K => bin_inc (by omega) K
        obtain ⟨c, hc⟩ := light_s _ (hn _ (List.getElem_mem hlt)).1 st
        simp only [show ¬ ((20 : Int) ≤ (i : Int)) from by omega, decide_false, guard_ff, iaddr_notes 0 hlt, load_note, er1_note, hc, ret_ret, un_not]
        cases c with
        | false => simp only [Bool.not_false, cond_true, s11_val, ret_ret, er1_bool]; exact ⟨_, rfl⟩
        | true =>
          simp only [Bool.not_true, cond_false, e4]
          exact ih (i + 1) (by omega) (by omega) (by omega)
      · simp only [show ((20 : Int) ≤ (i : Int)) from by omega, decide_true, guard_tf, s11_val, ret_ret, er1_bool]
        exact ⟨_, rfl⟩
    · simp only [show ¬ ((i : Int) < (l.length : Int)) from by omega, decide_false, cond_false]
      exact anew_end l hl hn keep hk h
theorem anew_ahead (a l : List Note) (hla : a.length ≤ 9223372036854775807) (ha : ∀ n ∈ a, NoteOK n) (hl : l.length ≤ 9223372036854775807) (hn : ∀ n ∈ l, NoteOK n ∧ Upto n) (keep : Int) (hk : keep ≤ 9223372036854775807) (id room : Nat) : ∀ (f i : Nat) (s : List UInt8) (bv : V) (st : St), i ≤ 20 → 20 < f + i → JAt st id room bv s 0 →
    ∃ st', g7b111010 f (.lst (notesV a) 0) (.lst (notesV l) 0) (.int .i64 keep) (.ptr id 0) (.int .i64 (i : Nat)) st = some (.ret (.bool true), st') := by
  intro f
  induction f with
  | zero => intro i s bv st hi hf; omega
  | succ f ih =>
    intro i s bv st hi hf hj
    unfold g7b111010
    have fin : ∃ st', g7b1111 (.lst (notesV l) 0) (.int .i64 keep) (.ptr id 0) st = some (.ret (.bool true), st') := by
      unfold g7b1111
      exact anew_l l hl hn keep hk hj big 0 (by omega) (by omega) (by have := big_le; omega)
    simp only [lenL_lst, notesV_len, bin_lss]
    by_cases h : i < a.length
    · simp only [show ((i : Int) < (a.length : Int)) from by omega, decide_true, guard_tt]
      by_cases h20 : i < 20
      · simp only [show ((i : Int) < 20) from by omega, decide_true, cond_true]
        unfold g7b11101001
        have e4 : ∀ K, A.bin .add (.int .i64 (i : Nat)) (.int .i64 1) K = K (.int .i64 ((i + 1 : Nat) : Int)) := fun K => bin_inc (by omega) K
        have n1 := ha _ (List.getElem_mem h)
        obtain ⟨c, hc⟩ := light_s _ n1 st
        simp only [iaddr_notes 0 h, load_note, er1_note, hc, ret_ret, un_not]
        cases c with
        | false => simp only [Bool.not_false, cond_true, s11_val, ret_ret, er1_bool]; exact ⟨_, rfl⟩
        | true =>
          obtain ⟨st2, b2, w1, w2, w3⟩ := jwrite_s hj a[i] n1
          simp only [Bool.not_true, cond_false, iaddr_notes 0 h, load_note, er1_note, er1_ptr, w1, ret_ret, e4]
          exact ih (i + 1) _ b2 st2 (by omega) (by omega) w2
      · simp only [show ¬ ((i : Int) < 20) from by omega, decide_false, cond_false]
        exact fin
    · simp only [show ¬ ((i : Int) < (a.length : Int)) from by omega, decide_false, guard_ft]
      exact fin
theorem journalAnew_law (a l : List Note) (hla : a.length ≤ 9223372036854775807) (ha : ∀ n ∈ a, NoteOK n) (hl : l.length ≤ 9223372036854775807) (hn : ∀ n ∈ l, NoteOK n ∧ Upto n) (keep : Int) (hk : keep ≤ 9223372036854775807) (st : St) : ∃ st', s7 [.lst (notesV a) 0, .lst (notesV l) 0, .int .i64 keep] st = some (.ret (.bool true), st') := by
  rw [s7_eq]
  unfold f7
  rw [show (V.int .i64 65536).er1 = .int .i64 ((65536 : Nat) : Int) from rfl]
  simp only [new_s 65536 (by omega) (by omega), ret_ret, ext_0, ext_1, eql_int, if_true, bne_self_eq_false, guard_ff, eql_ptr, cond_false]
  unfold g7b111
  exact anew_ahead a l hla ha hl hn keep hk st.n 65536 big 0 [] _ _ (by omega) (by have := big_le; omega) (new_at_j 65536 (by omega) (by omega) st)
theorem journalAnew_row {W : World} {v0 v1 v2 : Value} {x0 x1 x2 : V} {n0 n1 n2 : Nat}
    (r0 : Rs (E0 W) [x0] [v0]) (s0 : Sh Try.prog n0 22 x0.cells) (f0 : fit Try.prog 22 x0)
    (r1 : Rs (E0 W) [x1] [v1]) (s1 : Sh Try.prog n1 22 x1.cells) (f1 : fit Try.prog 22 x1)
    (r2 : Rs (E0 W) [x2] [v2]) (s2 : Sh Try.prog n2 3 x2.cells) (f2 : fit Try.prog 3 x2) (hb : x0.bulk + x1.bulk + x2.bulk ≤ 1048576) :
    Calls Try.prog 7 #[v0, v1, v2] W fun e w' => e = .returned (.bool true) ∧ Below W.heap.size W w' := by
  obtain ⟨a, rfl, a1, a2⟩ := in_notes s0 f0
  obtain ⟨l, rfl, h1, h2⟩ := in_notes s1 f1
  obtain ⟨b, rfl, hb'⟩ := in_int s2 f2 Try.underlying3
  have hu := notes_upto (l := l) (t := 0) (by omega)
  obtain ⟨st', hs⟩ := journalAnew_law a l a1 a2 h1 (fun n hn => ⟨h2 n hn, hu n hn⟩) b (wf_i64 hb').2 St0
  exact bool_row sim7 W _ _ _ hs (Rs.cons r0 (Rs.cons r1 r2))
end Go.Ab
