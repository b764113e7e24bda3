import Derived.Test.YtimicmlpaaohoaaAbL15merged0
/- sinewlaw15.LinkPlays (where all is of so much bulk). -/
namespace Go.Ab
open Go.Proofs Go.RowKit Go.Oct
set_option linter.unusedVariables false
set_option linter.unusedSimpArgs false
set_option maxRecDepth 100000
theorem ext_3 (a b c d : V) (l : List V) (K : V → Res) : A.ext (.tup (a :: b :: c :: d :: l)) 3 K = K d := rfl
structure PlAt (st : St) (lid t qid : Nat) (l : Lk) : Prop where
  a : LAt st lid t l
  q : st.ob qid = some (.cells (lkC l 0))
  lt : qid < st.n
  ne : lid ≠ qid
theorem PlAt.ks {st st' : St} {lid t qid : Nat} {l : Lk} (h : PlAt st lid t qid l) (k : Ks st st') : PlAt st' lid t qid l := by
  refine ⟨⟨by rw [k.ob _ h.a.lt]; exact h.a.ob, Nat.lt_of_lt_of_le h.a.lt k.n, ?_⟩, by rw [k.ob _ h.lt]; exact h.q, Nat.lt_of_lt_of_le h.lt k.n, h.ne⟩
  rcases h.a.own with g | g | ⟨j, g1, g2, g3⟩
  · exact .inl g
  · exact .inr (.inl g)
  · exact .inr (.inr ⟨j, g1, Nat.lt_of_lt_of_le g2 k.nt, by rw [k.tk _ g2]; exact g3⟩)
theorem pl_tail {st : St} {lid t qid : Nat} {l : Lk} (h : PlAt st lid t qid l) (hl : 1 ≤ l.epoch) (L : V → V → V → V → St → Res) (x1 : V) (i : Nat) (hi : i ≤ 1000) :
    g3bz1e07 L x1 (.ptr lid 0) (.ptr qid 0) (.int .i64 (i : Nat)) st = L x1 (.ptr lid 0) (.ptr qid 0) (.int .i64 ((i + 1 : Nat) : Int)) st := by
  unfold g3bz1e07
  obtain ⟨l0, l1, l2, l3, l4⟩ := lload h.q
  have v4 : ldv false 1 (.ptr qid 4) st = some (.lst (strsV l.q) 0) := by simp [ldv, h.q, lkC]
  have v1 : ldv false 1 (.ptr qid 1) st = some (.int .i64 (l.other : Nat)) := by simp [ldv, h.q, lkC]
  have e4 : ∀ K, A.bin .add (.int .i64 (i : Nat)) (.int .i64 1) K = K (.int .i64 ((i + 1 : Nat) : Int)) := fun K => bin_inc (by omega) K
  simp only [er1_ptr, lwaits_s h.a hl, ret_ret, kid_eq, noP_ret, faddr_ptr, Nat.zero_add, l4, v4, chk_same, lenL_lst, strsV_len, eql_int, if_true, bne_self_eq_false, guard_ff, lother_s h.a hl, l1, v1, cond_false, e4]
theorem pl_set {st : St} {lid t qid : Nat} {l l' : Lk} (ha : LAt st lid t l') (hq : st.ob qid = some (.cells (lkC l 0))) (hlt : qid < st.n) (hne : lid ≠ qid) : PlAt (st.put qid (.cells (lkC l' 0))) lid t qid l' :=
  ⟨⟨by rw [put_ne _ _ hne]; exact ha.ob, by rw [put_n]; exact ha.lt, ha.own⟩, put_at _ _ _, by rw [put_n]; exact hlt, hne⟩
def lopsV (ops : List LOp) : List V := ops.map lopV
theorem lopsV_len (ops : List LOp) : (lopsV ops).length = ops.length := by simp [lopsV]
theorem iaddr_ops {l : List LOp} {i : Nat} (t : Nat) (h : i < l.length) (K : V → Res) : A.iaddr 8 (.lst (lopsV l) t) (.int .i64 (i : Nat)) K = K (.lptr (lopC l[i])) := iaddr_lst (v := lopV l[i]) K (by simp [lopsV, h]) rfl
theorem load_op (o : LOp) (st : St) (K : V → St → Res) : A.load true 8 (.lptr (lopC o)) st K = K (lopV o) st := load_lagg K rfl
structure LOpOK (o : LOp) : Prop where
  n : NoteOK o.n
  u : Upto o.n
  t : o.text.length ≤ 9223372036854775807
  s : o.nums.length ≤ 9223372036854775807
theorem take_pays (l : Lk) (s : List UInt8) (hs : s.length ≤ 9223372036854775807) : ∀ n ∈ (takeP l s).2.1, NoteSM n := by
  have hsm : (rdN s).2 = true → NoteSM (rdN s).1 := by
    intro h
    unfold rdN at h ⊢
    split at h
    · rename_i h0
      rw [if_pos h0]
      split at h
      · rename_i h1; rw [if_pos h1]; exact small_empty.sm
      · rename_i h1
        rw [if_neg h1]
        split at h
        · rename_i h2
          rw [if_pos h2]
          refine (one_small _ ?_).sm
          have htl : 0 < (oneN s).texts.length := by omega
          have hg : (oneN s).texts.getD 0 [] = (oneN s).texts[0] := by rw [List.getD_eq_getElem?_getD, List.getElem?_eq_getElem htl]; rfl
          rw [hg]
          have := (one_fits h0.1).2.2 _ (List.getElem_mem htl)
          omega
        · cases h
    · cases h
  intro n hn
  unfold takeP at hn
  by_cases h0 : (rdN s).2 = false ∨ nth (oneN s) 0 < max l.other 1
  · rw [if_pos h0] at hn; cases hn
  · rw [if_neg h0] at hn
    have hr : (rdN s).2 = true := by
      cases hq : (rdN s).2 with
      | true => rfl
      | false => exact absurd (.inl hq) h0
    split at hn
    · cases hn
    · split at hn
      · split at hn
        · rw [List.mem_singleton.1 hn]; exact hsm hr
        · cases hn
      · cases hn
/-- A packet comes to both. -/
theorem pl_take {st : St} {lid t qid : Nat} {l : Lk} (h : PlAt st lid t qid l) (hl : LkOK l) (s : List UInt8) (hs : s.length ≤ 2000000) (L : V → V → V → V → St → Res) (x1 : V) (i : Nat) (hi : i ≤ 1000) :
    ∃ st' t', g3bz9vlbz L x1 (.ptr lid 0) (.ptr qid 0) (.int .i64 (i : Nat)) (.str s) st = L x1 (.ptr lid 0) (.ptr qid 0) (.int .i64 ((i + 1 : Nat) : Int)) st' ∧ PlAt st' lid t' qid (takeP l s).1 := by
  unfold g3bz9vlbz
  obtain ⟨st1, t1, q1, q2, q3, _⟩ := take_s h.a hl s (by omega)
  have hq1 : st1.ob qid = some (.cells (lkC l 0)) := by rw [q3.ob _ h.lt (Ne.symm h.ne)]; exact h.q
  have hlt1 : qid < st1.n := by have := q3.n; have := h.lt; omega
  have hps := take_pays l s (by omega)
  have ho := (take_out l s).1
  have ho2 := (take_out l s).2.1
  have hep : 1 ≤ (takeP l s).1.epoch := by
    have he : (takeP l s).1.epoch = l.epoch := by
      have ee : ∀ o, (freshP l o).epoch = l.epoch := fun o => by unfold freshP; split; split <;> rfl; rfl
      unfold takeP
      split
      · rfl
      · split
        · exact ee _
        · split
          · split
            · exact ee _
            · exact ee _
          · exact ee _
    rw [he]; exact hl.e1
  have hr := fun st => rtake_s l hl s (by omega) st
  unfold take4 at hr
  simp only [er1_ptr, er1_str, q1, ret_ret]
  generalize (takeP l s).2.1 = ps at *
  generalize (takeP l s).2.2.1 = ks at *
  generalize (takeP l s).2.2.2 = a at *
  rw [came_box]
  have hc := put_at (st1.new (.cells (cC [] 1 [] 1 false))) st1.n (.cells (cC ps 0 ks 0 a))
  have k1 := ((Ks.refl st1).new (.cells (cC [] 1 [] 1 false))).put (Nat.le_refl _) (.cells (cC ps 0 ks 0 a))
  have hn1 : ((st1.new (.cells (cC [] 1 [] 1 false))).put st1.n (.cells (cC ps 0 ks 0 a))).n = st1.n + 1 := by simp
  generalize (st1.new (.cells (cC [] 1 [] 1 false))).put st1.n (.cells (cC ps 0 ks 0 a)) = st2 at hc k1 hn1
  have hq2 : st2.ob qid = some (.cells (lkC l 0)) := by rw [k1.ob _ hlt1]; exact hq1
  have lq : ∀ K, A.load true 5 (.ptr qid 0) st2 K = K (.agg (lkC l 0)) st2 := fun K => load_lk hq2 K
  simp only [lq, lkV_er, hr, ret_ret, ext_0, ext_1, ext_2, ext_3, box_lkZ]
  have so : ∀ K, A.store 5 (.ptr st2.n 0) (.agg (lkC (takeP l s).1 0)) (st2.new (.cells (lkC lkZ 1))) K = K ((st2.new (.cells (lkC lkZ 1))).put st2.n (.cells (lkC (takeP l s).1 0))) := fun K => store_lk (new_at _ _) K
  rw [show lkV (takeP l s).1 = .agg (lkC (takeP l s).1 0) from rfl, so]
  have ho3 := put_at (st2.new (.cells (lkC lkZ 1))) st2.n (.cells (lkC (takeP l s).1 0))
  have k2 := ((Ks.refl st2).new (.cells (lkC lkZ 1))).put (Nat.le_refl _) (.cells (lkC (takeP l s).1 0))
  have hn2 : ((st2.new (.cells (lkC lkZ 1))).put st2.n (.cells (lkC (takeP l s).1 0))).n = st2.n + 1 := by simp
  generalize (st2.new (.cells (lkC lkZ 1))).put st2.n (.cells (lkC (takeP l s).1 0)) = st3 at ho3 k2 hn2
  have hc3 : st3.ob st1.n = some (.cells (cC ps 0 ks 0 a)) := by rw [k2.ob _ (by omega)]; exact hc
  obtain ⟨c0, c1, c2⟩ := came_ld hc3
  obtain ⟨b, h21, h21'⟩ := sameAll_s ps ps 0 0 (by omega) hps st3
  have hb : b = true := h21'.2 rfl
  subst hb
  have h15 := same_s ks ks 0 0 (by omega) st3
  rw [decide_eq_true rfl] at h15
  unfold g3bz13idbz
  simp only [faddr_ptr, Nat.zero_add, c0, er1_lst, h21, ret_ret, un_not, Bool.not_true]
  unfold g3bz4e1hbw_6
  simp only [guard_ff, faddr_ptr, Nat.zero_add, c1, er1_lst, h15, ret_ret, un_not, Bool.not_true]
  unfold g3bz4e1hbw_13
  have l18 : ∀ K, A.load true 5 (.ptr st2.n 0) st3 K = K (.agg (lkC (takeP l s).1 0)) st3 := fun K => load_lk ho3 K
  have hq3 : st3.ob qid = some (.cells (lkC l 0)) := by rw [k2.ob _ (by omega)]; exact hq2
  have s7 : ∀ K, A.store 5 (.ptr qid 0) (.agg (lkC (takeP l s).1 0)) st3 K = K (st3.put qid (.cells (lkC (takeP l s).1 0))) := fun K => store_lk hq3 K
  simp only [guard_ff, faddr_ptr, Nat.zero_add, c2, eql_bool, if_true, bne_self_eq_false, cond_false, l18, s7]
  have hla : LAt st3 lid t1 (takeP l s).1 := by
    have hk := k1.trans k2
    refine ⟨by rw [hk.ob _ q2.lt]; exact q2.ob, Nat.lt_of_lt_of_le q2.lt hk.n, ?_⟩
    rcases q2.own with g | g | ⟨j, g1, g2, g3⟩
    · exact .inl g
    · exact .inr (.inl g)
    · exact .inr (.inr ⟨j, g1, Nat.lt_of_lt_of_le g2 hk.nt, by rw [hk.tk _ g2]; exact g3⟩)
  have hP := pl_set (qid := qid) hla hq3 (by omega) h.ne
  exact ⟨_, t1, pl_tail hP hep L x1 i hi, hP⟩
/-- A payload is put at both. -/
theorem pl_put {st : St} {lid t qid p : Nat} {l : Lk} {o : LOp} (h : PlAt st lid t qid l) (hl : LkOK l) (ho : LOpOK o) (hp : st.ob p = some (.cells (lopC o))) (hpn : p < st.n) (hpl : p ≠ lid) (L : V → V → V → V → St → Res) (x1 : V) (i : Nat) (hi : i ≤ 1000) :
    ∃ st' t', (A.ret (s13 [(V.ptr lid 0).er1, (noteV o.n).er1] st) fun a8 z9 => A.ext a8 0 fun a10 => A.ext a8 1 fun a11 => g3bz18g5x L x1 (.ptr lid 0) (.ptr qid 0) (.int .i64 (i : Nat)) (.ptr p 0) a10 a11 z9) = L x1 (.ptr lid 0) (.ptr qid 0) (.int .i64 ((i + 1 : Nat) : Int)) st' ∧ PlAt st' lid t' qid (putP l o.n).1 := by
  obtain ⟨st1, t1, q1, q2, q3⟩ := lput_s h.a hl o.n ho.n
  have hq1 : st1.ob qid = some (.cells (lkC l 0)) := by rw [q3.ob _ h.lt (Ne.symm h.ne)]; exact h.q
  have hp1 : st1.ob p = some (.cells (lopC o)) := by rw [q3.ob _ hpn hpl]; exact hp
  have hlt1 : qid < st1.n := by have := q3.n; have := h.lt; omega
  have hr := rput_s l hl o.n ho.n ho.u st1
  have hlen : (putP l o.n).2.1.length ≤ 1 := by unfold putP; split; simp; split; simp; split <;> simp
  have hep : 1 ≤ (putP l o.n).1.epoch := by
    have he : (putP l o.n).1.epoch = l.epoch := by unfold putP; split; rfl; split; rfl; split <;> rfl
    rw [he]; exact hl.e1
  have nr : (noteV o.n).er1 = noteV o.n := rfl
  simp only [er1_ptr, nr, q1, ret_ret, ext_0, ext_1]
  unfold g3bz18g5x
  obtain ⟨o0, o1, o2, o3, o4, o5⟩ := lopld hp1
  have lq : ∀ K, A.load true 5 (.ptr qid 0) st1 K = K (.agg (lkC l 0)) st1 := fun K => load_lk hq1 K
  simp only [lq, faddr_ptr, Nat.zero_add, o1, lkV_er, nr, hr, ret_ret, ext_0, ext_1, ext_2, box_lkZ]
  generalize (putP l o.n).2.1 = ps at *
  generalize (putP l o.n).2.2 = e at *
  generalize (putP l o.n).1 = l' at *
  have so : ∀ K, A.store 5 (.ptr st1.n 0) (.agg (lkC l' 0)) (st1.new (.cells (lkC lkZ 1))) K = K ((st1.new (.cells (lkC lkZ 1))).put st1.n (.cells (lkC l' 0))) := fun K => store_lk (new_at _ _) K
  rw [show lkV l' = .agg (lkC l' 0) from rfl, so]
  have ho3 := put_at (st1.new (.cells (lkC lkZ 1))) st1.n (.cells (lkC l' 0))
  have k2 := ((Ks.refl st1).new (.cells (lkC lkZ 1))).put (Nat.le_refl _) (.cells (lkC l' 0))
  generalize (st1.new (.cells (lkC lkZ 1))).put st1.n (.cells (lkC l' 0)) = st3 at ho3 k2
  have hq3 : st3.ob qid = some (.cells (lkC l 0)) := by rw [k2.ob _ (by omega)]; exact hq1
  have h15 := same_s ps ps (tokP ps) 0 (by omega) st3
  rw [decide_eq_true rfl] at h15
  unfold g3bz2gwbv
  have l13 : ∀ K, A.load true 5 (.ptr st1.n 0) st3 K = K (.agg (lkC l' 0)) st3 := fun K => load_lk ho3 K
  have s7 : ∀ K, A.store 5 (.ptr qid 0) (.agg (lkC l' 0)) st3 K = K (st3.put qid (.cells (lkC l' 0))) := fun K => store_lk hq3 K
  simp only [er1_lst, h15, ret_ret, un_not, Bool.not_true, guard_ff, eql_int, if_true, bne_self_eq_false, cond_false, l13, s7]
  have hla : LAt st3 lid t1 l' := by
    refine ⟨by rw [k2.ob _ q2.lt]; exact q2.ob, Nat.lt_of_lt_of_le q2.lt k2.n, ?_⟩
    rcases q2.own with g | g | ⟨j, g1, g2, g3⟩
    · exact .inl g
    · exact .inr (.inl g)
    · exact .inr (.inr ⟨j, g1, Nat.lt_of_lt_of_le g2 k2.nt, by rw [k2.tk _ g2]; exact g3⟩)
  have hP := pl_set (qid := qid) hla hq3 (by have := k2.n; omega) h.ne
  exact ⟨_, t1, pl_tail hP hep L x1 i hi, hP⟩
theorem putP_n {l : Lk} {X Y : Nat} (h : LkN l X Y) (n : Note) : LkN (putP l n).1 (X + 1) Y := by
  obtain ⟨⟨a1, a2, a3, a4, a5, a6⟩, b, c⟩ := h
  have base : LkN l (X + 1) Y := ⟨⟨a1, a2, a3, a4, a5, a6⟩, by omega, c⟩
  unfold putP
  split
  · exact base
  · split
    · exact base
    · rename_i h4
      split
      · exact ⟨⟨a1, a2, a3, a4, a5, by simp; omega⟩, by simp; omega, c⟩
      · exact ⟨⟨a1, a2, a3, a4, a5, by simp; omega⟩, by simp; omega, c⟩
theorem pl_loop (ops : List LOp) (hops : ops.length ≤ 9223372036854775807) (hok : ∀ o ∈ ops, LOpOK o) {lid qid : Nat} : ∀ (f i t : Nat) (l : Lk) (st : St), i ≤ 100 → 100 < f + i → i ≤ ops.length → LkN l (i + 1) (i + 1) → PlAt st lid t qid l →
    ∃ st', g3bze2 f (.lst (lopsV ops) 0) (.ptr lid 0) (.ptr qid 0) (.int .i64 (i : Nat)) st = some (.ret (.bool true), st') := by
  intro f
  induction f with
  | zero => intro i t l st hi hf; omega
  | succ f ih =>
    intro i t l st hi hf hik hN h
    unfold g3bze2
    by_cases h1 : i < ops.length
    · by_cases h2 : i < 100
      · have ho := hok _ (List.getElem_mem h1)
        simp only [lenL_lst, lopsV_len, bin_lss, show ((i : Int) < (ops.length : Int)) from by omega, decide_true, guard_tt, show ((i : Int) < 100) from by omega, cond_true]
        unfold g3bz1k9
        simp only [iaddr_ops 0 h1, load_op]
        generalize ops[i] = o at ho
        have bx : ∀ K, A.box (.agg [.int .i64 0, .int .i64 0, .lst [] 1, .lst [] 1, .lst [] 1, .str [], .lst [] 1, .int .i64 0]) st K = K (.ptr st.n 0) (st.new (.cells [.int .i64 0, .int .i64 0, .lst [] 1, .lst [] 1, .lst [] 1, .str [], .lst [] 1, .int .i64 0])) := fun K => rfl
        have so : ∀ K, A.store 8 (.ptr st.n 0) (lopV o) (st.new (.cells [.int .i64 0, .int .i64 0, .lst [] 1, .lst [] 1, .lst [] 1, .str [], .lst [] 1, .int .i64 0])) K = K ((st.new (.cells [.int .i64 0, .int .i64 0, .lst [] 1, .lst [] 1, .lst [] 1, .str [], .lst [] 1, .int .i64 0])).put st.n (.cells (lopC o))) := fun K => by
          rw [lopV, store_agg, new_at, obo_some]; simp [lopC, Go.Ab.putL]
        simp only [bx, so]
        have hob := put_at (st.new (.cells [.int .i64 0, .int .i64 0, .lst [] 1, .lst [] 1, .lst [] 1, .str [], .lst [] 1, .int .i64 0])) st.n (.cells (lopC o))
        have ks := ((Ks.refl st).new (.cells [.int .i64 0, .int .i64 0, .lst [] 1, .lst [] 1, .lst [] 1, .str [], .lst [] 1, .int .i64 0])).put (Nat.le_refl _) (.cells (lopC o))
        have hn1 : ((st.new (.cells [.int .i64 0, .int .i64 0, .lst [] 1, .lst [] 1, .lst [] 1, .str [], .lst [] 1, .int .i64 0])).put st.n (.cells (lopC o))).n = st.n + 1 := by simp
        generalize (st.new (.cells [.int .i64 0, .int .i64 0, .lst [] 1, .lst [] 1, .lst [] 1, .str [], .lst [] 1, .int .i64 0])).put st.n (.cells (lopC o)) = st1 at hob ks hn1
        have h' := h.ks ks
        obtain ⟨o0, o1, o2, o3, o4, o5⟩ := lopld hob
        have nr : (noteV o.n).er1 = noteV o.n := rfl
        simp only [faddr_ptr, Nat.zero_add, o1, nr, lx_s o.n ho.n ho.u, ret_ret, un_not]
        by_cases hlight : lightN o.n < 2048
        · simp only [hlight, decide_true, Bool.not_true, guard_ff, faddr_ptr, Nat.zero_add, o2, lenS_str, bin_gtr]
          by_cases htx : 4096 < o.text.length
          · simp only [show ((4096 : Int) < (o.text.length : Int)) from by omega, decide_true, cond_true, s11_val, ret_ret, er1_bool]
            exact ⟨_, rfl⟩
          · simp only [show ¬ ((4096 : Int) < (o.text.length : Int)) from by omega, decide_false, cond_false]
            have hpl : st.n ≠ lid := by have := h.a.lt; omega
            -- a packet comes
            have came : ∀ s : List UInt8, s.length ≤ 2000000 → ∃ st', g3bz9vlbz (g3bze2 f) (.lst (lopsV ops) 0) (.ptr lid 0) (.ptr qid 0) (.int .i64 (i : Nat)) (.str s) st1 = some (.ret (.bool true), st') := fun s hs => by
              obtain ⟨st2, t2, r1, r2⟩ := pl_take h' hN.ok s hs (g3bze2 f) (.lst (lopsV ops) 0) i (by omega)
              rw [r1]
              have hN2 := take_n hN (by omega) (by omega) (by omega) (by omega) s
              exact ih (i + 1) t2 _ st2 (by omega) (by omega) (by omega) ⟨hN2.ok, by have := hN2.f; omega, hN2.w⟩ r2
            unfold g3bzp03
            by_cases k1 : o.kind = 1
            · have hb : (o.kind == 1) = true := by rw [k1]; rfl
              simp only [faddr_ptr, Nat.zero_add, o0, eql_int, Bool.false_eq_true, if_false, hb, cond_true, o1]
              obtain ⟨st2, t2, r1, r2⟩ := pl_put h' hN.ok ho hob (by omega) hpl (g3bze2 f) (.lst (lopsV ops) 0) i (by omega)
              rw [r1]
              have hN2 := putP_n hN o.n
              exact ih (i + 1) t2 _ st2 (by omega) (by omega) (by omega) ⟨hN2.ok, hN2.f, by have := hN2.w; omega⟩ r2
            · have hb : (o.kind == 1) = false := by rw [beq_eq_false_iff_ne]; exact k1
              simp only [faddr_ptr, Nat.zero_add, o0, eql_int, Bool.false_eq_true, if_false, hb, cond_false]
              by_cases k2 : o.kind = 2
              · have hb2 : (o.kind == 2) = true := by rw [k2]; rfl
                have lq : ∀ K, A.load true 5 (.ptr qid 0) st1 K = K (.agg (lkC l 0)) st1 := fun K => load_lk h'.q K
                have htl : (tickP l).length ≤ 64 := by unfold tickP; rw [List.length_map, List.length_range]; omega
                have h15 := same_s (tickP l) (tickP l) 0 0 (by omega) st1
                rw [decide_eq_true rfl] at h15
                have h17 := rtick_s l hN.ok st1
                have lv : (V.agg (lkC l 0)).er1 = lkV l := rfl
                simp only [hb2, cond_true, er1_ptr, ltick_s h'.a hN.ok, ret_ret, kid_eq, noP_ret, lq, ldv_lk h'.q, chk_same, lv, h17, er1_lst, h15, un_not, Bool.not_true, cond_false]
                rw [pl_tail h' hN.ok.e1 (g3bze2 f) (.lst (lopsV ops) 0) i (by omega)]
                exact ih (i + 1) t l st1 (by omega) (by omega) (by omega) ⟨hN.ok, by have := hN.f; omega, by have := hN.w; omega⟩ h'
              · have hb2 : (o.kind == 2) = false := by rw [beq_eq_false_iff_ne]; exact k2
                simp only [hb2, cond_false, faddr_ptr, Nat.zero_add, o2, o0, eql_int, Bool.false_eq_true, if_false]
                by_cases k4 : o.kind = 4
                · have hb4 : (o.kind == 4) = true := by rw [k4]; rfl
                  obtain ⟨s, hs, hm⟩ := made_s o ho.n ho.u ho.s st1
                  have lo : (lopV o).er1 = lopV o := rfl
                  simp only [hb4, cond_true, o5, lo, hm, ret_ret]
                  exact came s (by omega)
                · have hb4 : (o.kind == 4) = false := by rw [beq_eq_false_iff_ne]; exact k4
                  simp only [hb4, cond_false]
                  exact came o.text (by omega)
        · simp only [hlight, decide_false, Bool.not_false, guard_tf, s11_val, ret_ret, er1_bool]
          exact ⟨_, rfl⟩
      · simp only [lenL_lst, lopsV_len, bin_lss, show ((i : Int) < (ops.length : Int)) from by omega, decide_true, guard_tt, show ¬ ((i : Int) < 100) from by omega, decide_false, cond_false, s11_val, ret_ret, er1_bool]
        exact ⟨_, rfl⟩
    · simp only [lenL_lst, lopsV_len, bin_lss, show ¬ ((i : Int) < (ops.length : Int)) from by omega, decide_false, guard_ft, s11_val, ret_ret, er1_bool]
      exact ⟨_, rfl⟩
theorem linkPlays_law (e : Int) (ops : List LOp) (hops : ops.length ≤ 9223372036854775807) (hok : ∀ o ∈ ops, LOpOK o) (st : St) : ∃ st', s3 [.int .i64 e, .lst (lopsV ops) 0] st = some (.ret (.bool true), st') := by
  rw [s3_eq]
  unfold f3
  by_cases hbad : e < 1 ∨ 1099511627776 < e
  · have so : ∀ K, A.store 5 (.ptr st.n 0) (lkV lkZ) (st.new (.cells (lkC lkZ 1))) K = K ((st.new (.cells (lkC lkZ 1))).put st.n (.cells (lkC lkZ 0))) := fun K => store_lk (new_at _ _) K
    simp only [er1_int, lnew_no e hbad, rnew_no e hbad, ret_ret, ext_0, ext_1, box_lkZ, so]
    unfold g3b111
    simp only [eql_int, if_true, bne_self_eq_false, guard_ff, eql_ptr0, Bool.false_eq_true, if_false, show ((1 : Int) == 0) = false from rfl, eql_bool, Bool.not_true, cond_false]
    unfold g3b1111
    simp only [eql_ptr0, Bool.not_false, cond_true, s11_val, ret_ret, er1_bool]
    exact ⟨_, rfl⟩
  · obtain ⟨k, rfl⟩ : ∃ k : Nat, e = (k : Int) := ⟨e.toNat, by omega⟩
    have h1 : 1 ≤ k := by omega
    have h2 : k ≤ 1099511627776 := by omega
    have hn1 : (st.new (.cells (lkC (newP k) 1))).n = st.n + 1 := by simp
    have so : ∀ K, A.store 5 (.ptr (st.n + 1) 0) (lkV (newP k)) ((st.new (.cells (lkC (newP k) 1))).new (.cells (lkC lkZ 1))) K = K (((st.new (.cells (lkC (newP k) 1))).new (.cells (lkC lkZ 1))).put (st.n + 1) (.cells (lkC (newP k) 0))) := fun K => by
      rw [← hn1]; exact store_lk (new_at _ _) K
    simp only [er1_int, lnew_s k h1 h2, rnew_s k h1 h2, ret_ret, ext_0, ext_1, box_lkZ, hn1, so]
    unfold g3b111
    simp only [eql_int, if_true, bne_self_eq_false, guard_ff, eql_ptr, Bool.false_eq_true, if_false, beq_self_eq_true, eql_bool, cond_false]
    unfold g3b1111
    simp only [eql_ptr, cond_false]
    refine pl_loop ops hops hok big 0 1 (newP k) _ (by omega) (lt_big (by omega)) (by omega) ⟨newP_ok h1 h2, by simp [newP], by simp [newP]⟩ ⟨⟨?_, by simp; omega, .inl rfl⟩, put_at _ _ _, by simp, by omega⟩
    rw [put_ne _ _ (by omega), new_ne _ _ (by rw [hn1]; omega)]; exact new_at _ _
theorem in_lop {n : Nat} {x : V} (s : Sh Try.prog n 38 x.cells) (f : fit Try.prog 38 x) : ∃ o : LOp, x = lopV o ∧ NoteOK o.n ∧ o.text.length ≤ 9223372036854775807 ∧ o.nums.length ≤ 9223372036854775807 := by
  obtain ⟨cs, rfl⟩ := fit_ag f (isAg_of.2 (.inl ⟨_, Try.underlying38⟩))
  obtain ⟨k, h1, h2⟩ := s.struct Try.underlying38
  rw [cells_agg] at h1 h2
  have c38 : Try.prog.cellsOf 38 = 8 := by kernel_rfl
  have c36 : Try.prog.cellsOf 36 = 4 := by kernel_rfl
  have c3 : Try.prog.cellsOf 3 = 1 := by kernel_rfl
  have c9 : Try.prog.cellsOf 9 = 1 := by kernel_rfl
  have c33 : Try.prog.cellsOf 33 = 1 := by kernel_rfl
  rw [c38] at h1
  obtain ⟨a, b1, b2, b3, b4, c, d, e, rfl⟩ : ∃ a b1 b2 b3 b4 c d e, cs = [a, b1, b2, b3, b4, c, d, e] := by
    match cs, h1 with
    | [a, b1, b2, b3, b4, c, d, e], _ => exact ⟨a, b1, b2, b3, b4, c, d, e, rfl⟩
  have q0 := h2 ⟨ "Kind", 3, 0, false, "", "", 0⟩ (by simp)
  have q1 := h2 ⟨ "N", 36, 1, false, "", "", 8⟩ (by simp)
  have q2 := h2 ⟨ "Text", 9, 5, false, "", "", 88⟩ (by simp)
  have q3 := h2 ⟨ "Nums", 33, 6, false, "", "", 104⟩ (by simp)
  have q4 := h2 ⟨ "Number", 3, 7, false, "", "", 128⟩ (by simp)
  simp only [c3, c9, c33, c36, List.drop_zero, List.drop_succ_cons, List.take_succ_cons, List.take_zero] at q0 q1 q2 q3 q4
  obtain ⟨kind, e0, _⟩ := q0.int Try.underlying3
  obtain ⟨m, em, hm⟩ := in_note (x := .agg [b1, b2, b3, b4]) (by rw [cells_agg]; exact q1) (by
    unfold fit
    rw [if_pos (isAg_of.2 (.inl ⟨_, Try.underlying36⟩))]
    exact ⟨_, rfl⟩)
  obtain ⟨tx, e2, g2⟩ := q2.str Try.underlying9
  obtain ⟨l3, m3, e3, g3, w3⟩ := q3.slice Try.underlying33
  obtain ⟨num, e4, _⟩ := q4.int Try.underlying3
  cases e0; cases e2; cases e3; cases e4
  obtain ⟨nums, rfl, _⟩ := list_pick (g := fun x => V.int .i64 x) (Q := fun _ => True) (l := l3) (fun v hv => by
    obtain ⟨y, r1, _⟩ := in_int (w3 v hv).1 (w3 v hv).2 Try.underlying3
    exact ⟨y, r1, trivial⟩)
  simp only [noteV, noteC, nC, V.agg.injEq, List.cons.injEq, and_true] at em
  obtain ⟨rfl, rfl, rfl, rfl⟩ := em
  exact ⟨⟨kind, m, tx, nums, num⟩, rfl, hm, by simpa [maxLen] using g2, by simpa [maxLen] using g3⟩
theorem lop_bulk (o : LOp) : (noteV o.n).bulk ≤ (lopV o).bulk := by
  simp only [noteV, noteC, nC, lopV, lopC, V.bulk, bulkL]; omega
theorem linkPlays_row {W : World} {v0 v1 : Value} {x0 x1 : V} {n0 n1 : Nat}
    (r0 : Rs (E0 W) [x0] [v0]) (s0 : Sh Try.prog n0 3 x0.cells) (f0 : fit Try.prog 3 x0)
    (r1 : Rs (E0 W) [x1] [v1]) (s1 : Sh Try.prog n1 22 x1.cells) (f1 : fit Try.prog 22 x1) (hb : x0.bulk + x1.bulk ≤ 1048576) :
    Calls Try.prog 3 #[v0, v1] W fun e w' => e = .returned (.bool true) ∧ Below W.heap.size W w' := by
  obtain ⟨k, rfl, _⟩ := in_int s0 f0 Try.underlying3
  obtain ⟨l, m, rfl, h1, h2⟩ := in_slice s1 f1 Try.underlying22
  obtain ⟨ops, rfl, h3⟩ := list_pick (g := lopV) (Q := fun o => NoteOK o.n ∧ o.text.length ≤ 9223372036854775807 ∧ o.nums.length ≤ 9223372036854775807) (l := l) (fun v hv => in_lop (h2 v hv).1 (h2 v hv).2)
  have hu : ∀ o ∈ ops, Upto o.n := by
    intro o ho
    have a1 := note_bulk o.n
    have a2 := lop_bulk o
    have a3 := bulkL_mem (l := ops.map lopV) (v := lopV o) (List.mem_map.2 ⟨o, ho, rfl⟩)
    simp only [V.bulk] at hb
    unfold Upto; omega
  obtain ⟨st', hs⟩ := linkPlays_law k ops (by simpa using h1) (fun o ho => ⟨(h3 o ho).1, hu o ho, (h3 o ho).2.1, (h3 o ho).2.2⟩) St0
  exact bool_row sim3 W _ _ _ hs (Rs.cons r0 r1)
end Go.Ab
