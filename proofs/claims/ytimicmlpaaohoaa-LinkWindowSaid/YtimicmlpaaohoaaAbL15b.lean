import Derived.Test.YtimicmlpaaohoaaAbL15a
/- sinew/link: what each function does. -/
namespace Go.Ab
open Go.Proofs Go.RowKit Go.Oct
set_option linter.unusedVariables false
set_option linter.unusedSimpArgs false
set_option maxRecDepth 100000
/-- A packet, its payload, whether it is one. -/
def rdN (s : List UInt8) : Note × Bool :=
  if oneO s = true ∧ (oneN s).rows.length = 0 then
    (if (oneN s).kind = 2 ∧ (oneN s).nums.length = 3 ∧ (oneN s).texts.length = 0 then (emptyN, true)
     else if (oneN s).kind = 1 ∧ (oneN s).nums.length = 4 ∧ (oneN s).texts.length = 1 then (oneN ((oneN s).texts.getD 0 []), oneO ((oneN s).texts.getD 0 []))
     else (emptyN, false))
  else (emptyN, false)
theorem eq_nat (a b : Nat) : ((a : Int) == (b : Int)) = decide (a = b) := by
  rw [show ((a : Int) == (b : Int)) = decide ((a : Int) = (b : Int)) from rfl]
  apply decide_eq_decide.2; omega
theorem eq_int (a b : Int) : (a == b) = decide (a = b) := rfl
theorem ldv_note {st : St} {p : Nat} {n : Note} (h : st.ob p = some (.cells (noteC n))) : ldv true 4 (.ptr p 0) st = some (noteV n) := by
  unfold ldv
  rw [load_noteb h]; rfl
theorem unp_len (s : List UInt8) : ∀ t ∈ (unpL s).1.texts, t.length ≤ 65536 := by
  by_cases h : (unpL s).2.2 = 0
  · have := (unp_back h).2
    simp only [packOK, Bool.and_eq_true] at this
    have hf := this.1
    unfold fitsW at hf
    simp only [Bool.and_eq_true, Bool.not_eq_true', decide_eq_false_iff_not, Int.not_lt, Nat.not_lt, decide_eq_true_eq] at hf
    obtain ⟨k1, k2, k3, k4, k5, k6, k7, k8⟩ := hf
    exact longT_iff k7
  · unfold unpL at h ⊢
    split
    · simp [emptyN]
    · split
      · simp [emptyN]
      · split
        · simp [emptyN]
        · split
          · simp [emptyN]
          · rename_i c1 c2 c3 c4
            rw [if_neg c1, if_neg c2, if_neg c3, if_neg c4] at h
            cases hp : parseO ((s.drop 8).take (of4 s)) with
            | none => simp [emptyN]
            | some n => rw [hp] at h; simp at h
theorem lread_s (s : List UInt8) (hs : s.length ≤ 9223372036854775807) (st : St) : s35 [.str s] st = some (.ret (.tup [noteV (oneN s), noteV (rdN s).1, .bool (rdN s).2]), st) := by
  rw [s35_eq]
  have key : ∃ st', f35 (.str s) st = some (.ret (.tup [noteV (oneN s), noteV (rdN s).1, .bool (rdN s).2]), st') ∧ Ks st st' := by
    unfold f35
    have oa : ((st.new (.cells (nC 0 [] 1 [] 1 [] 1))).new (.cells (nC 0 [] 1 [] 1 [] 1))).ob st.n = some (.cells (nC 0 [] 1 [] 1 [] 1)) := by simp [new_ob]
    have ob : ((st.new (.cells (nC 0 [] 1 [] 1 [] 1))).new (.cells (nC 0 [] 1 [] 1 [] 1))).ob (st.n + 1) = some (.cells (nC 0 [] 1 [] 1 [] 1)) := by simp [new_ob]
    have k0 := ((Ks.refl st).new (.cells (nC 0 [] 1 [] 1 [] 1))).new (.cells (nC 0 [] 1 [] 1 [] 1))
    simp only [box_zero, new_n]
    generalize (st.new (.cells (nC 0 [] 1 [] 1 [] 1))).new (.cells (nC 0 [] 1 [] 1 [] 1)) = st1 at oa ob k0
    have hpq : st.n + 1 ≠ st.n := by omega
    have kp : st.n ≤ st.n := Nat.le_refl _
    have kq : st.n ≤ st.n + 1 := by omega
    generalize st.n + 1 = q at ob hpq kq
    generalize hpn : st.n = p at oa hpq kp kq
    simp only [er1_str, one_s s hs, ret_ret, ext_0, ext_1, store_note oa]
    have oa1 := put_at st1 p (.cells (noteC (oneN s)))
    have ob1 : (st1.put p (.cells (noteC (oneN s)))).ob q = some (.cells (nC 0 [] 1 [] 1 [] 1)) := by rw [put_ne _ _ hpq]; exact ob
    have k1 := k0.put (i := p) (by omega) (.cells (noteC (oneN s)))
    generalize st1.put p (.cells (noteC (oneN s))) = st2 at oa1 ob1 k1
    -- the end
    have fin1 : ∀ (n : Note) (b : Bool) (st3 : St), st3.ob p = some (.cells (noteC (oneN s))) → st3.ob q = some (.cells (noteC n)) → Ks st st3 → ∃ st', (A.load true 4 (.ptr p 0) st3 fun a1 _ => A.load true 4 (.ptr q 0) st3 fun a2 _ => A.noP (A.store 4 (.ptr p 0) a1 st3 fun s => kid (.tup []) s) fun a3 z4 => A.chk (ldv true 4 (.ptr q 0) z4) a2 (A.noP (A.store 4 (.ptr q 0) a2 z4 fun s => kid (.tup []) s) fun a5 z6 => A.res (rcell (A.load true 4 (.ptr p 0) z6 kid) (rcell (A.load true 4 (.ptr q 0) z6 kid) (rtmp (.bool b) (some [])))) z6)) = some (.ret (.tup [noteV (oneN s), noteV n, .bool b]), st') ∧ Ks st st' := by
      intro n b st3 h1 h2 k3
      have sg : ∀ {st : St} {p : Nat} {m : Note} (h : st.ob p = some (.cells (noteC m))) (n : Note) (K : St → Res), A.store 4 (.ptr p 0) (.agg (noteC n)) st K = K (st.put p (.cells (noteC n))) := fun {st p m} h n K => by
        rw [store_agg, h, obo_some]; simp [noteC, Go.Ab.putL]
      have h3 : (st3.put p (.cells (noteC (oneN s)))).ob q = some (.cells (noteC n)) := by rw [put_ne _ _ hpq]; exact h2
      have h4 := put_at st3 p (.cells (noteC (oneN s)))
      have h5 : ((st3.put p (.cells (noteC (oneN s)))).put q (.cells (noteC n))).ob p = some (.cells (noteC (oneN s))) := by rw [put_ne _ _ (Ne.symm hpq)]; exact h4
      have h6 := put_at (st3.put p (.cells (noteC (oneN s)))) q (.cells (noteC n))
      have c : ∀ k : Res, A.chk (ldv true 4 (.ptr q 0) (st3.put p (.cells (noteC (oneN s))))) (.agg (noteC n)) k = k := fun k => by rw [ldv_note h3]; exact chk_same _ _
      have hnv : ∀ n : Note, (V.agg (noteC n)).er1 = noteV n := fun n => rfl
      simp only [load_noteb h1, load_noteb h2, sg h1, kid_eq, noP_ret, c, sg h3, load_noteb h5, load_noteb h6, rtmp_some, rcell_some, res_two, hnv, er1_bool]
      exact ⟨_, rfl, (k3.put (by omega) _).put (by omega) _⟩
    have hem : (nC 0 [] 1 [] 1 [] 1) = nC 0 [] 1 [] 1 [] 1 := rfl
    -- where the second cell is still the empty note (its lists are nil)
    have fin0 : ∀ (b : Bool), ∃ st', (A.load true 4 (.ptr p 0) st2 fun a1 _ => A.load true 4 (.ptr q 0) st2 fun a2 _ => A.noP (A.store 4 (.ptr p 0) a1 st2 fun s => kid (.tup []) s) fun a3 z4 => A.chk (ldv true 4 (.ptr q 0) z4) a2 (A.noP (A.store 4 (.ptr q 0) a2 z4 fun s => kid (.tup []) s) fun a5 z6 => A.res (rcell (A.load true 4 (.ptr p 0) z6 kid) (rcell (A.load true 4 (.ptr q 0) z6 kid) (rtmp (.bool b) (some [])))) z6)) = some (.ret (.tup [noteV (oneN s), noteV emptyN, .bool b]), st') ∧ Ks st st' := by
      intro b
      have lz : ∀ {st : St} (h : st.ob q = some (.cells (nC 0 [] 1 [] 1 [] 1))) (K : V → St → Res), A.load true 4 (.ptr q 0) st K = K (.agg (nC 0 [] 1 [] 1 [] 1)) st := fun {st} h K => by
        rw [load_obA, h, obo_some]; rfl
      have sg : ∀ {st : St} {p : Nat} {m : Note} (h : st.ob p = some (.cells (noteC m))) (n : Note) (K : St → Res), A.store 4 (.ptr p 0) (.agg (noteC n)) st K = K (st.put p (.cells (noteC n))) := fun {st p m} h n K => by
        rw [store_agg, h, obo_some]; simp [noteC, Go.Ab.putL]
      have sz : ∀ {st : St} (h : st.ob q = some (.cells (nC 0 [] 1 [] 1 [] 1))) (K : St → Res), A.store 4 (.ptr q 0) (.agg (nC 0 [] 1 [] 1 [] 1)) st K = K (st.put q (.cells (nC 0 [] 1 [] 1 [] 1))) := fun {st} h K => by
        rw [store_agg, h, obo_some]; simp [nC, Go.Ab.putL]
      have h3 : (st2.put p (.cells (noteC (oneN s)))).ob q = some (.cells (nC 0 [] 1 [] 1 [] 1)) := by rw [put_ne _ _ hpq]; exact ob1
      have h4 := put_at st2 p (.cells (noteC (oneN s)))
      have h5 : ((st2.put p (.cells (noteC (oneN s)))).put q (.cells (nC 0 [] 1 [] 1 [] 1))).ob p = some (.cells (noteC (oneN s))) := by rw [put_ne _ _ (Ne.symm hpq)]; exact h4
      have h6 := put_at (st2.put p (.cells (noteC (oneN s)))) q (.cells (nC 0 [] 1 [] 1 [] 1))
      have c : ∀ k : Res, A.chk (ldv true 4 (.ptr q 0) (st2.put p (.cells (noteC (oneN s))))) (.agg (nC 0 [] 1 [] 1 [] 1)) k = k := fun k => by
        have : ldv true 4 (.ptr q 0) (st2.put p (.cells (noteC (oneN s)))) = some (.agg (nC 0 [] 1 [] 1 [] 1)) := by unfold ldv; rw [lz h3]; rfl
        rw [this]; exact chk_same _ _
      have hnv : ∀ n : Note, (V.agg (noteC n)).er1 = noteV n := fun n => rfl
      have hne : (V.agg (nC 0 [] 1 [] 1 [] 1)).er1 = noteV emptyN := rfl
      simp only [load_noteb oa1, lz ob1, sg oa1, kid_eq, noP_ret, c, sz h3, load_noteb h5, lz h6, rtmp_some, rcell_some, res_two, hnv, hne, er1_bool]
      exact ⟨_, rfl, (k1.put (by omega) _).put (by omega) _⟩
    have l0 : ∀ K, A.load false 1 (.ptr p 0) st2 K = K (.int .i64 (oneN s).kind) st2 := fun K => by simp [oa1, noteC]
    have l1 : ∀ K, A.load false 1 (.ptr p 1) st2 K = K (.lst (intsV (oneN s).nums) 0) st2 := fun K => by simp [oa1, noteC]
    have l2 : ∀ K, A.load false 1 (.ptr p 2) st2 K = K (.lst (strsV (oneN s).texts) 0) st2 := fun K => by simp [oa1, noteC]
    have l3 : ∀ K, A.load false 1 (.ptr p 3) st2 K = K (.lst (rowsV (oneN s).rows) 0) st2 := fun K => by simp [oa1, noteC]
    unfold rdN
    cases ho : oneO s with
    | false =>
      simp only [un_not, Bool.not_false, guard_tf, Bool.false_eq_true, false_and, if_false]
      unfold g35b1101
      simp only [cond_true]
      exact fin0 false
    | true =>
      simp only [un_not, Bool.not_true, guard_ff, faddr_ptr, Nat.zero_add, l3, lenL_lst, rowsV_len, bin_gtr, true_and]
      unfold g35b1101
      by_cases hr : (oneN s).rows.length = 0
      · simp only [hr, Int.natCast_zero, Int.lt_irrefl, decide_false, cond_false, if_true]
        unfold g35b111
        simp only [faddr_ptr, Nat.zero_add, l0, l1, l2, eql_int, Bool.false_eq_true, if_false, eq_int, lenL_lst, intsV_len, strsV_len]
        -- bare
        have e3 : decide (((oneN s).nums.length : Int) = 3) = decide ((oneN s).nums.length = 3) := by apply decide_eq_decide.2; omega
        have e0 : decide (((oneN s).texts.length : Int) = 0) = decide ((oneN s).texts.length = 0) := by apply decide_eq_decide.2; omega
        have e4 : decide (((oneN s).nums.length : Int) = 4) = decide ((oneN s).nums.length = 4) := by apply decide_eq_decide.2; omega
        have e1 : decide (((oneN s).texts.length : Int) = 1) = decide ((oneN s).texts.length = 1) := by apply decide_eq_decide.2; omega
        have full : ∃ st', g35b111001 (.ptr p 0) (.ptr q 0) (.bool true) (.bool false) st2 = some (.ret (.tup [noteV (oneN s), noteV (if (oneN s).kind = 1 ∧ (oneN s).nums.length = 4 ∧ (oneN s).texts.length = 1 then (oneN ((oneN s).texts.getD 0 []), oneO ((oneN s).texts.getD 0 [])) else (emptyN, false)).1, .bool (if (oneN s).kind = 1 ∧ (oneN s).nums.length = 4 ∧ (oneN s).texts.length = 1 then (oneN ((oneN s).texts.getD 0 []), oneO ((oneN s).texts.getD 0 [])) else (emptyN, false)).2]), st') ∧ Ks st st' := by
          unfold g35b111001
          simp only [cond_false, faddr_ptr, Nat.zero_add, l0, l1, l2, eql_int, Bool.false_eq_true, if_false, eq_int, lenL_lst, intsV_len, strsV_len]
          by_cases hk : (oneN s).kind = 1
          · simp only [hk, decide_true, guard_tt, true_and, e4]
            unfold g35b11100110_10
            by_cases h4 : (oneN s).nums.length = 4
            · simp only [h4, decide_true, guard_tt, true_and, faddr_ptr, Nat.zero_add, l2, lenL_lst, strsV_len, eql_int, Bool.false_eq_true, if_false, eq_int, e1]
              unfold g35b11100111
              by_cases h1 : (oneN s).texts.length = 1
              · have hlt : 0 < (oneN s).texts.length := by omega
                have hg : (oneN s).texts.getD 0 [] = (oneN s).texts[0] := by rw [List.getD_eq_getElem?_getD, List.getElem?_eq_getElem hlt]; rfl
                have hlen := unp_len s _ (List.getElem_mem hlt)
                have ia : ∀ K, A.iaddr 1 (.lst (strsV (oneN s).texts) 0) (.int .i64 0) K = K (.lptr [.str (oneN s).texts[0]]) := fun K => iaddr_strs 0 hlt K
                simp only [h1, decide_true, cond_true, faddr_ptr, Nat.zero_add, l2, ia, load_l1', er1_str, one_s _ (show ((oneN s).texts[0]).length ≤ 9223372036854775807 by have : ((oneN s).texts[0]).length ≤ 65536 := hlen; omega), ret_ret, ext_0, ext_1, store_note ob1, if_true, hg]
                unfold g35b1111
                exact fin1 _ _ _ (by rw [put_ne _ _ (Ne.symm hpq)]; exact oa1) (put_at _ _ _) (k1.put (by omega) _)
              · simp only [h1, decide_false, cond_false, if_false]
                unfold g35b1111
                exact fin0 false
            · simp only [h4, decide_false, guard_ft, false_and, if_false]
              unfold g35b11100111
              simp only [cond_false]
              unfold g35b1111
              exact fin0 false
          · simp only [hk, decide_false, guard_ft, false_and, if_false]
            unfold g35b11100110_10
            simp only [guard_ft]
            unfold g35b11100111
            simp only [cond_false]
            unfold g35b1111
            exact fin0 false
        have bare : g35b111001 (.ptr p 0) (.ptr q 0) (.bool true) (.bool true) st2 = g35b1111 (.ptr p 0) (.ptr q 0) (.bool true) st2 := by
          unfold g35b111001; simp only [cond_true]
        by_cases hk : (oneN s).kind = 2
        · simp only [hk, decide_true, guard_tt, true_and, e3]
          unfold g35b111000_10
          by_cases h3 : (oneN s).nums.length = 3
          · simp only [h3, decide_true, guard_tt, true_and, faddr_ptr, Nat.zero_add, l2, lenL_lst, strsV_len, eql_int, Bool.false_eq_true, if_false, eq_int, e0]
            by_cases h0 : (oneN s).texts.length = 0
            · simp only [h0, decide_true, if_true, bare]
              unfold g35b1111
              exact fin0 true
            · simp only [h0, decide_false, if_false]
              simpa [hk, h3] using full
          · simp only [h3, decide_false, guard_ft, false_and, if_false]
            simpa [hk, h3] using full
        · simp only [hk, decide_false, guard_ft, false_and, if_false]
          unfold g35b111000_10
          simp only [guard_ft]
          exact full
      · have : (0 : Int) < ((oneN s).rows.length : Int) := by omega
        simp only [this, decide_true, cond_true, hr, if_false]
        exact fin0 false
  obtain ⟨st', h1, h2⟩ := key
  have hp := pu_note (oneN s)
  have hp2 := pu_note (rdN s).1
  have := fg_of h1 h2 (by
    have e : (V.tup [noteV (oneN s), noteV (rdN s).1, .bool (rdN s).2]).era = .tup [noteV (oneN s), noteV (rdN s).1, .bool (rdN s).2] := rfl
    rw [e]; simp [hp, hp2])
  exact this
end Go.Ab
