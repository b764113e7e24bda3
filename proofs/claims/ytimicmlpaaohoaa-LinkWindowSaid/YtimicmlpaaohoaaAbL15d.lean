import Derived.Test.YtimicmlpaaohoaaAbL15c
/- sinew/link: Take, the whole. -/
namespace Go.Ab
open Go.Proofs Go.RowKit Go.Oct
set_option linter.unusedVariables false
set_option linter.unusedSimpArgs false
set_option maxRecDepth 100000
theorem lgiven_s {st : St} {id t : Nat} {l : Lk} (h : st.ob id = some (.cells (lkC l t))) (hl : 1 ≤ l.epoch) : s31 [.ptr id 0] st = some (.ret (.bool true), st) := by
  rw [s31_eq]
  unfold f31
  obtain ⟨l0, _⟩ := lload h
  simp only [eql_ptr, guard_tt, nilc_ptr, faddr_ptr, Nat.zero_add, l0, bin_gtr, show ((0 : Int) < (l.epoch : Int)) from by omega, decide_true, er1_bool]
/-- Behind the epochs. -/
theorem take_mid {st0 st : St} {id t c nn pp : Nat} {l : Lk} {n p : Note} {a : Bool} (h : st.ob id = some (.cells (lkC l t))) (hl : LkOK l) (hp : Pkt n) (hc : st.ob c = some (.cells (cC [] 1 [] 1 a))) (hn : st.ob nn = some (.cells (noteC n))) (hpp : st.ob pp = some (.cells (noteC p)))
    (hid : id < st0.n) (hc0 : st0.n ≤ c) (hn0 : st0.n ≤ nn) (hp0 : st0.n ≤ pp) (hcn : c ≠ nn) (hcp : c ≠ pp) (fr : TFr st0 st id) :
    ∃ st', g19b1111 (.ptr id 0) (.ptr c 0) (.ptr nn 0) (.ptr pp 0) st = some (.ret (if nth n 1 ≠ l.epoch then cameV [] [pkt (pk2 l)] a else if n.kind = 1 then (if nth n 2 = l.want then cameV [p] [pkt (pk2 (nextP (ackP l (nth n (n.nums.length - 1)))))] a else cameV [] [pkt (pk2 (ackP l (nth n (n.nums.length - 1))))] a) else cameV [] [] a), st') ∧
      st'.ob id = some (.cells (lkC (if nth n 1 ≠ l.epoch then l else if n.kind = 1 then (if nth n 2 = l.want then nextP (ackP l (nth n (n.nums.length - 1))) else ackP l (nth n (n.nums.length - 1))) else ackP l (nth n (n.nums.length - 1))) t)) ∧ TFr st0 st' id := by
  unfold g19b1111
  have hlen : 3 ≤ n.nums.length ∧ n.nums.length ≤ 4 := by rcases hp.kind with ⟨_, g⟩ | ⟨_, g⟩ <;> omega
  have m1 : ∀ K, A.load false 1 (.ptr nn 1) st K = K (.lst (intsV n.nums) 0) st := fun K => by simp [hn, noteC]
  obtain ⟨l0, l1, l2, l3, l4⟩ := lload h
  have h1 : 1 < n.nums.length := by omega
  obtain ⟨y1, y2⟩ := hp.at h1
  have ia : ∀ K, A.iaddr 1 (.lst (intsV n.nums) 0) (.int .i64 1) K = K (.lptr [.int .i64 n.nums[1]]) := fun K => iaddr_ints 0 h1 K
  have e : ((((nth n 1 : Nat) : Int)) != (l.epoch : Int)) = decide (nth n 1 ≠ l.epoch) := by
    rw [bne, eq_nat]
    by_cases g : nth n 1 = l.epoch <;> simp [g]
  simp only [faddr_ptr, Nat.zero_add, m1, ia, y1, load_l1', nilc_ptr, l0, eql_int, if_true, e]
  by_cases hw : nth n 1 = l.epoch
  · simp only [hw, ne_eq, not_true_eq_false, decide_false, cond_false, if_false]
    exact take_tail h hl hp hc hn hpp hid hc0 hn0 hp0 hcn hcp fr hw
  · have sc : ∀ (ks : List (List UInt8)) K, A.store 1 (.ptr c 1) (.lst (strsV ks) 0) st K = K (st.put c (.cells (cC [] 1 ks 0 a))) := fun ks K => by
      simp [hc, cC]
    simp only [hw, ne_eq, not_false_eq_true, decide_true, cond_true, if_true, er1_ptr, lstands_s h, ret_ret, faddr_ptr, Nat.zero_add, sc, took (put_at _ _ _)]
    exact ⟨_, rfl, by rw [put_ne _ _ (by omega), put_ne _ _ (by omega)]; exact h, (fr.put (.inr hc0) _).put (.inr hc0) _⟩
theorem take_s {st : St} {id t : Nat} {l : Lk} (h : LAt st id t l) (hl : LkOK l) (s : List UInt8) (hs : s.length ≤ 9223372036854775807) :
    ∃ st' t', s19 [.ptr id 0, .str s] st = some (.ret (cameV (takeP l s).2.1 (takeP l s).2.2.1 (takeP l s).2.2.2), st') ∧ LAt st' id t' (takeP l s).1 ∧ TFr st st' id ∧ (t' = t ∨ t' = 1) := by
  rw [s19_eq]
  unfold f19
  have hid := h.lt
  have bx : ∀ K, A.box (.agg [.lst [] 1, .lst [] 1, .bool false]) st K = K (.ptr st.n 0) (st.new (.cells (cC [] 1 [] 1 false))) := fun K => rfl
  have f0 := (TFr.refl st id).new (.cells (cC [] 1 [] 1 false))
  have c0 := new_at st (.cells (cC [] 1 [] 1 false))
  have n0 : (st.new (.cells (cC [] 1 [] 1 false))).n = st.n + 1 := by simp
  have i0 : (st.new (.cells (cC [] 1 [] 1 false))).ob id = some (.cells (lkC l t)) := by rw [new_ne _ _ (by omega)]; exact h.ob
  simp only [bx]
  generalize st.new (.cells (cC [] 1 [] 1 false)) = st1 at f0 c0 n0 i0
  simp only [er1_str, lread_s s hs, ret_ret, ext_0, ext_1, ext_2, box_zero, new_n, n0]
  have f1 := (f0.new (.cells (nC 0 [] 1 [] 1 [] 1))).new (.cells (nC 0 [] 1 [] 1 [] 1))
  have c1 : ((st1.new (.cells (nC 0 [] 1 [] 1 [] 1))).new (.cells (nC 0 [] 1 [] 1 [] 1))).ob st.n = some (.cells (cC [] 1 [] 1 false)) := by rw [new_ne _ _ (by simp; omega), new_ne _ _ (by omega)]; exact c0
  have i1 : ((st1.new (.cells (nC 0 [] 1 [] 1 [] 1))).new (.cells (nC 0 [] 1 [] 1 [] 1))).ob id = some (.cells (lkC l t)) := by rw [new_ne _ _ (by simp; omega), new_ne _ _ (by omega)]; exact i0
  have a1 : ((st1.new (.cells (nC 0 [] 1 [] 1 [] 1))).new (.cells (nC 0 [] 1 [] 1 [] 1))).ob (st.n + 1) = some (.cells (nC 0 [] 1 [] 1 [] 1)) := by rw [new_ne _ _ (by simp; omega), ← n0]; exact new_at _ _
  have b1 : ((st1.new (.cells (nC 0 [] 1 [] 1 [] 1))).new (.cells (nC 0 [] 1 [] 1 [] 1))).ob (st.n + 1 + 1) = some (.cells (nC 0 [] 1 [] 1 [] 1)) := by
    have : st.n + 1 + 1 = (st1.new (.cells (nC 0 [] 1 [] 1 [] 1))).n := by simp [n0]
    rw [this]; exact new_at _ _
  generalize (st1.new (.cells (nC 0 [] 1 [] 1 [] 1))).new (.cells (nC 0 [] 1 [] 1 [] 1)) = st2 at f1 c1 a1 b1 i1
  have b2 : (st2.put (st.n + 1) (.cells (noteC (oneN s)))).ob (st.n + 1 + 1) = some (.cells (nC 0 [] 1 [] 1 [] 1)) := by rw [put_ne _ _ (by omega)]; exact b1
  simp only [store_note a1, store_note b2]
  have f3 := (f1.put (j := st.n + 1) (.inr (by omega)) (.cells (noteC (oneN s)))).put (j := st.n + 1 + 1) (.inr (by omega)) (.cells (noteC (rdN s).1))
  have c3 : ((st2.put (st.n + 1) (.cells (noteC (oneN s)))).put (st.n + 1 + 1) (.cells (noteC (rdN s).1))).ob st.n = some (.cells (cC [] 1 [] 1 false)) := by rw [put_ne _ _ (by omega), put_ne _ _ (by omega)]; exact c1
  have a3 : ((st2.put (st.n + 1) (.cells (noteC (oneN s)))).put (st.n + 1 + 1) (.cells (noteC (rdN s).1))).ob (st.n + 1) = some (.cells (noteC (oneN s))) := by rw [put_ne _ _ (by omega)]; exact put_at _ _ _
  have b3 := put_at (st2.put (st.n + 1) (.cells (noteC (oneN s)))) (st.n + 1 + 1) (.cells (noteC (rdN s).1))
  have i3 : ((st2.put (st.n + 1) (.cells (noteC (oneN s)))).put (st.n + 1 + 1) (.cells (noteC (rdN s).1))).ob id = some (.cells (lkC l t)) := by rw [put_ne _ _ (by omega), put_ne _ _ (by omega)]; exact i1
  generalize (st2.put (st.n + 1) (.cells (noteC (oneN s)))).put (st.n + 1 + 1) (.cells (noteC (rdN s).1)) = st3 at f3 c3 a3 b3 i3
  unfold g19b11
  simp only [er1_ptr, lgiven_s i3 hl.e1, ret_ret, kid_eq, noP_ret, un_not, Bool.not_true, guard_ff]
  have ow := fun st' (f : TFr st st' id) => f.own h.own
  have nothing : ∀ (hq : (rdN s).2 = false ∨ nth (oneN s) 0 < max l.other 1), ∃ st' t', (A.build [.lst [] 1, .lst [] 1, .bool false] [] fun a13 => A.store 3 (.ptr st.n 0) a13 st3 fun z14 => A.res (rcell (A.load true 3 (.ptr st.n 0) z14 kid) (some [])) z14) = some (.ret (cameV (takeP l s).2.1 (takeP l s).2.2.1 (takeP l s).2.2.2), st') ∧ LAt st' id t' (takeP l s).1 ∧ TFr st st' id ∧ (t' = t ∨ t' = 1) := by
    intro hq
    have hT : takeP l s = (l, [], [], false) := by unfold takeP; rw [if_pos hq]
    have b : ∀ K, A.build [.lst [] 1, .lst [] 1, .bool false] [] K = K (.agg (cC [] 1 [] 1 false)) := fun K => rfl
    have s1 : ∀ K, A.store 3 (.ptr st.n 0) (.agg (cC [] 1 [] 1 false)) st3 K = K (st3.put st.n (.cells (cC [] 1 [] 1 false))) := fun K => by
      rw [store_agg, c3, obo_some]; simp [cC, Go.Ab.putL]
    have l1 : ∀ K, A.load true 3 (.ptr st.n 0) (st3.put st.n (.cells (cC [] 1 [] 1 false))) K = K (.agg (cC [] 1 [] 1 false)) (st3.put st.n (.cells (cC [] 1 [] 1 false))) := fun K => by
      rw [load_obA, put_at, obo_some]; rfl
    have her : (V.agg (cC [] 1 [] 1 false)).er1 = cameV [] [] false := rfl
    have ff := f3.put (j := st.n) (.inr (Nat.le_refl _)) (.cells (cC [] 1 [] 1 false))
    simp only [b, s1, l1, kid_eq, rcell_some, res_one, her, hT]
    exact ⟨_, t, rfl, ⟨by rw [put_ne _ _ (by omega)]; exact i3, by have := ff.n; omega, ow _ ff⟩, ff, .inl rfl⟩
  cases hr : (rdN s).2 with
  | false =>
    simp only [Bool.not_false]
    unfold g19b1100_8
    simp only [guard_tf]
    exact nothing (.inl hr)
  | true =>
    have hp := rd_pkt hr
    simp only [Bool.not_true]
    unfold g19b1100_8
    have hlen : 3 ≤ (oneN s).nums.length := by rcases hp.kind with ⟨_, g⟩ | ⟨_, g⟩ <;> omega
    have h0 : 0 < (oneN s).nums.length := by omega
    obtain ⟨y1, y2⟩ := hp.at h0
    have ia : ∀ K, A.iaddr 1 (.lst (intsV (oneN s).nums) 0) (.int .i64 0) K = K (.lptr [.int .i64 (oneN s).nums[0]]) := fun K => iaddr_ints 0 h0 K
    have m1 : ∀ K, A.load false 1 (.ptr (st.n + 1) 1) st3 K = K (.lst (intsV (oneN s).nums) 0) st3 := fun K => by simp [a3, noteC]
    obtain ⟨l0, l1, l2, l3, l4⟩ := lload i3
    have em : ∀ K, A.max (.int .i64 (l.other : Nat)) (.int .i64 1) K = K (.int .i64 ((max l.other 1 : Nat) : Int)) := fun K => by
      show K (.int .i64 (if (1 : Int) > (l.other : Int) then 1 else (l.other : Int))) = _
      congr 2
      split <;> omega
    have ec : decide (((nth (oneN s) 0 : Nat) : Int) < ((max l.other 1 : Nat) : Int)) = decide (nth (oneN s) 0 < max l.other 1) := by apply decide_eq_decide.2; omega
    simp only [guard_ff, faddr_ptr, Nat.zero_add, m1, ia, y1, load_l1', nilc_ptr, l1, em, bin_lss, ec]
    by_cases hq : nth (oneN s) 0 < max l.other 1
    · simp only [hq, decide_true, cond_true]
      exact nothing (.inr hq)
    · simp only [hq, decide_false, cond_false]
      unfold g19b111
      have eg : decide ((l.other : Int) < ((nth (oneN s) 0 : Nat) : Int)) = decide (l.other < nth (oneN s) 0) := by apply decide_eq_decide.2; omega
      simp only [faddr_ptr, Nat.zero_add, m1, ia, y1, load_l1', nilc_ptr, l1, bin_gtr, eg]
      -- the rest, of the end that is known now
      have rest : ∀ (l' : Lk) (t' : Nat) (a : Bool) (st4 : St), l' = freshP l (nth (oneN s) 0) → a = (decide (l.other < nth (oneN s) 0) && decide (0 < l.other)) → LkOK l' → (t' = t ∨ t' = 1) → st4.ob id = some (.cells (lkC l' t')) → st4.ob st.n = some (.cells (cC [] 1 [] 1 a)) → st4.ob (st.n + 1) = some (.cells (noteC (oneN s))) → st4.ob (st.n + 1 + 1) = some (.cells (noteC (rdN s).1)) → TFr st st4 id →
          ∃ st' t', g19b1111 (.ptr id 0) (.ptr st.n 0) (.ptr (st.n + 1) 0) (.ptr (st.n + 1 + 1) 0) st4 = some (.ret (cameV (takeP l s).2.1 (takeP l s).2.2.1 (takeP l s).2.2.2), st') ∧ LAt st' id t' (takeP l s).1 ∧ TFr st st' id ∧ (t' = t ∨ t' = 1) := by
        intro l' t' a st4 e1 e2 hl' ht' q1 q2 q3 q4 q5
        obtain ⟨st', r1, r2, r3⟩ := take_mid q1 hl' hp q2 q3 q4 hid (Nat.le_refl _) (by omega) (by omega) (by omega) (by omega) q5
        have hep : l'.epoch = l.epoch := by rw [e1]; unfold freshP; split <;> (try split) <;> rfl
        have hnot : ¬ ((rdN s).2 = false ∨ nth (oneN s) 0 < max l.other 1) := by
          rw [hr]; intro g; rcases g with g | g
          · cases g
          · exact hq g
        have ho' : OwnN st' 1 t' := by
          rcases ht' with g | g
          · rw [g]; exact ow _ r3
          · exact .inl g
        refine ⟨st', t', ?_, ⟨?_, by have := r3.n; omega, ho'⟩, r3, ht'⟩
        · rw [r1]
          unfold takeP
          rw [if_neg hnot, ← e1, ← e2, hep]
          split
          · rfl
          · split
            · split <;> rfl
            · rfl
        · rw [r2]
          unfold takeP
          rw [if_neg hnot, ← e1, ← e2, hep]
          split
          · rfl
          · split
            · split <;> rfl
            · rfl
      by_cases hg : l.other < nth (oneN s) 0
      · have sa : ∀ (a : Bool) K, A.store 1 (.ptr st.n 2) (.bool a) st3 K = K (st3.put st.n (.cells (cC [] 1 [] 1 a))) := fun a K => by simp [c3, cC]
        have eo : decide ((0 : Int) < (l.other : Int)) = decide (0 < l.other) := by apply decide_eq_decide.2; omega
        simp only [hg, decide_true, cond_true, nilc_ptr, faddr_ptr, Nat.zero_add, l1, bin_gtr, eo, sa]
        have f4 := f3.put (j := st.n) (.inr (Nat.le_refl _)) (.cells (cC [] 1 [] 1 (decide (0 < l.other))))
        have c4 := put_at st3 st.n (.cells (cC [] 1 [] 1 (decide (0 < l.other))))
        have a4 : (st3.put st.n (.cells (cC [] 1 [] 1 (decide (0 < l.other))))).ob (st.n + 1) = some (.cells (noteC (oneN s))) := by rw [put_ne _ _ (by omega)]; exact a3
        have b4 : (st3.put st.n (.cells (cC [] 1 [] 1 (decide (0 < l.other))))).ob (st.n + 1 + 1) = some (.cells (noteC (rdN s).1)) := by rw [put_ne _ _ (by omega)]; exact b3
        have i4 : (st3.put st.n (.cells (cC [] 1 [] 1 (decide (0 < l.other))))).ob id = some (.cells (lkC l t)) := by rw [put_ne _ _ (by omega)]; exact i3
        generalize st3.put st.n (.cells (cC [] 1 [] 1 (decide (0 < l.other)))) = st4 at f4 c4 a4 b4 i4
        unfold g19b11101001
        have lc : ∀ K, A.load false 1 (.ptr st.n 2) st4 K = K (.bool (decide (0 < l.other))) st4 := fun K => by simp [c4, cC]
        have m4 : ∀ {st5 : St} (hh : st5.ob (st.n + 1) = some (.cells (noteC (oneN s)))) K, A.load false 1 (.ptr (st.n + 1) 1) st5 K = K (.lst (intsV (oneN s).nums) 0) st5 := fun {st5} hh K => by simp [hh, noteC]
        simp only [faddr_ptr, Nat.zero_add, lc]
        by_cases hz : 0 < l.other
        · have sq : ∀ K, A.store 1 (.ptr id 4) (.lst [] 1) st4 K = K (st4.put id (.cells (lkC ⟨l.epoch, l.other, l.first, l.want, []⟩ 1))) := fun K => by simp [i4, lkC]
          have sf : ∀ K, A.store 1 (.ptr id 2) (.int .i64 1) (st4.put id (.cells (lkC ⟨l.epoch, l.other, l.first, l.want, []⟩ 1))) K = K (st4.put id (.cells (lkC ⟨l.epoch, l.other, 1, l.want, []⟩ 1))) := fun K => by simp [lkC]
          simp only [hz, decide_true, cond_true, nilc_ptr, faddr_ptr, Nat.zero_add, sq, sf]
          unfold g19b1110101
          have a5 : (st4.put id (.cells (lkC ⟨l.epoch, l.other, 1, l.want, []⟩ 1))).ob (st.n + 1) = some (.cells (noteC (oneN s))) := by rw [put_ne _ _ (by omega)]; exact a4
          have so : ∀ K, A.store 1 (.ptr id 1) (.int .i64 (nth (oneN s) 0 : Nat)) (st4.put id (.cells (lkC ⟨l.epoch, l.other, 1, l.want, []⟩ 1))) K = K (st4.put id (.cells (lkC ⟨l.epoch, nth (oneN s) 0, 1, l.want, []⟩ 1))) := fun K => by simp [lkC]
          have sw : ∀ K, A.store 1 (.ptr id 3) (.int .i64 1) (st4.put id (.cells (lkC ⟨l.epoch, nth (oneN s) 0, 1, l.want, []⟩ 1))) K = K (st4.put id (.cells (lkC ⟨l.epoch, nth (oneN s) 0, 1, 1, []⟩ 1))) := fun K => by simp [lkC]
          simp only [faddr_ptr, Nat.zero_add, m4 a5, ia, y1, load_l1', nilc_ptr, so, sw]
          refine rest ⟨l.epoch, nth (oneN s) 0, 1, 1, []⟩ 1 true _ (by unfold freshP; rw [if_pos hg, if_pos hz]) (by simp [hg, hz]) ⟨hl.e1, hl.e2, y2, by show 1 ≤ 1000000000000; omega, by show 1 ≤ 1000000000000; omega, by simp⟩ (.inr rfl) (put_at _ _ _) ?_ ?_ ?_ (f4.put (.inl rfl) _)
          · rw [put_ne _ _ (by omega), c4]; simp [hz]
          · rw [put_ne _ _ (by omega)]; exact a4
          · rw [put_ne _ _ (by omega)]; exact b4
        · simp only [hz, decide_false, cond_false]
          unfold g19b1110101
          have so : ∀ K, A.store 1 (.ptr id 1) (.int .i64 (nth (oneN s) 0 : Nat)) st4 K = K (st4.put id (.cells (lkC ⟨l.epoch, nth (oneN s) 0, l.first, l.want, l.q⟩ t))) := fun K => by simp [i4, lkC]
          have sw : ∀ K, A.store 1 (.ptr id 3) (.int .i64 1) (st4.put id (.cells (lkC ⟨l.epoch, nth (oneN s) 0, l.first, l.want, l.q⟩ t))) K = K (st4.put id (.cells (lkC ⟨l.epoch, nth (oneN s) 0, l.first, 1, l.q⟩ t))) := fun K => by simp [lkC]
          simp only [faddr_ptr, Nat.zero_add, m4 a4, ia, y1, load_l1', nilc_ptr, so, sw]
          refine rest ⟨l.epoch, nth (oneN s) 0, l.first, 1, l.q⟩ t false _ (by unfold freshP; rw [if_pos hg, if_neg hz]) (by simp [hg, hz]) ⟨hl.e1, hl.e2, y2, hl.f, by show 1 ≤ 1000000000000; omega, hl.q⟩ (.inl rfl) (put_at _ _ _) ?_ ?_ ?_ (f4.put (.inl rfl) _)
          · rw [put_ne _ _ (by omega), c4]; simp [hz]
          · rw [put_ne _ _ (by omega)]; exact a4
          · rw [put_ne _ _ (by omega)]; exact b4
      · simp only [hg, decide_false, cond_false]
        exact rest l t false st3 (by unfold freshP; rw [if_neg hg]) (by simp [hg]) hl (.inl rfl) i3 c3 a3 b3 f3
end Go.Ab
