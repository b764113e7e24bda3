import Derived.Test.YtjmkmfolpimieaaAbF16h
/- sinewlaw16: FieldPlays. -/
namespace Go.Ab
open Go.Proofs Go.RowKit
set_option linter.unusedVariables false
set_option linter.unusedSimpArgs false
set_option maxRecDepth 100000
structure FOp where
  kind : Int
  a : Int
  b : Int
  tx : List UInt8
def opC (o : FOp) : List V := [.int .i64 o.kind, .int .i64 o.a, .int .i64 o.b, .str o.tx]
theorem ldo {st : St} {i : Nat} {o : FOp} (h : st.ob i = some (.cells (opC o))) : (∀ K : V → St → Res, A.load false 1 (.ptr i 0) st K = K (.int .i64 o.kind) st) ∧ (∀ K : V → St → Res, A.load false 1 (.ptr i 1) st K = K (.int .i64 o.a) st) ∧ (∀ K : V → St → Res, A.load false 1 (.ptr i 2) st K = K (.int .i64 o.b) st) ∧ (∀ K : V → St → Res, A.load false 1 (.ptr i 3) st K = K (.str o.tx) st) :=
  ⟨fun K => by simp [h, opC], fun K => by simp [h, opC], fun K => by simp [h, opC], fun K => by simp [h, opC]⟩
/-- Program and document side by side. -/
structure PAt (st : St) (d m q : Nat) (f : Fd) (i : Nat) : Prop where
  fa : FAt st d m f
  qob : ∃ t, st.ob q = some (.cells (qC f t))
  qlt : q < st.n
  qd : q ≠ d
  qm : q ≠ m
  last : f.last ≤ i
theorem PAt.ks {st st' : St} {d m q : Nat} {f : Fd} {i : Nat} (h : PAt st d m q f i) (k : Ks st st') : PAt st' d m q f i :=
  ⟨h.fa.ks k, by obtain ⟨t, ht⟩ := h.qob; exact ⟨t, (k.ob _ h.qlt).trans ht⟩, Nat.lt_of_lt_of_le h.qlt k.n, h.qd, h.qm, h.last⟩
theorem PAt.up {st : St} {d m q : Nat} {f : Fd} {i j : Nat} (h : PAt st d m q f i) (hj : i ≤ j) : PAt st d m q f j := ⟨h.fa, h.qob, h.qlt, h.qd, h.qm, Nat.le_trans h.last hj⟩
theorem ldv3 {st : St} {i t : Nat} {f : Fd} (h : st.ob i = some (.cells (qC f t))) : ldv true 3 (.ptr i 0) st = some (.agg (qC f t)) := by unfold ldv; rw [ld3 h]; rfl
theorem play_tail {st : St} {d m q : Nat} {f : Fd} {i : Nat} (h : PAt st d m q f (i + 1)) (hi : i < 200) (L : V → V → V → V → St → Res) (x1 : V) :
    ∃ st', g4b111110100100111 L x1 (.ptr d 0) (.ptr q 0) (.int .i64 (i : Nat)) st = L x1 (.ptr d 0) (.ptr q 0) (.int .i64 ((i + 1 : Nat) : Int)) st' ∧ PAt st' d m q f (i + 1) := by
  unfold g4b111110100100111
  obtain ⟨st1, v, q1, q2, q3⟩ := ids_s h.fa
  obtain ⟨t, ht⟩ := h.qob
  have h1 := h.ks q2
  have ht1 := (q2.ob q h.qlt).trans ht
  obtain ⟨st2, u, r1, r2⟩ := rids_s h.fa.ok (-1) st1
  have hsel : f.ps.filter (selP (-1)) = f.ps := List.filter_eq_self.2 (fun p _ => by unfold selP; simp)
  rw [hsel] at r1
  have hil : (idsP f.ps).length = f.ps.length := by simp [idsP]
  have hlen := h.fa.ok.len
  have hsm := h.fa.ok.small
  have e4 : ∀ K, A.bin .add (.int .i64 (i : Nat)) (.int .i64 1) K = K (.int .i64 ((i + 1 : Nat) : Int)) := fun K => bin_inc (by omega) K
  simp only [er1_ptr, q1, ret_ret, kid_eq, noP_ret, ld3 ht1, ldv3 ht, chk_same, er3, er1_int, r1, q3.er, er1_lst, same_s (q3.ks r2) u (show (idsP f.ps).length ≤ 100000 by omega), decide_true, un_not, Bool.not_true, cond_false, e4]
  exact ⟨st2, rfl, h1.ks r2⟩
theorem PAt.wrote {st st' : St} {d m q : Nat} {f f' : Fd} {i : Nat} (h : PAt st d m q f i) (h' : FAt st' d m f') (fr : FFr st st' d m) (hl : f'.last ≤ i + 1) (t : Nat) : PAt (st'.put q (.cells (qC f' t))) d m q f' (i + 1) := by
  have := fr.n; have := h.qlt
  exact ⟨⟨by rw [put_ne _ _ (Ne.symm h.qd)]; exact h'.ob, by rw [put_ne _ _ (Ne.symm h.qm)]; exact h'.mob, by simp; exact h'.lt, by simp; exact h'.mlt, h'.ne, h'.ok⟩, ⟨t, put_at _ _ _⟩, by simp; omega, h.qd, h.qm, hl⟩
theorem play_body {st : St} {d m q c : Nat} {f : Fd} {i : Nat} {o : FOp} (h : PAt st d m q f i) (hi : i < 200) (hc : st.ob c = some (.cells (opC o))) (hcn : c < st.n) (hcd : c ≠ d) (hcm : c ≠ m) (hcq : c ≠ q) (hw : -9223372036854775808 ≤ o.a ∧ o.a ≤ 9223372036854775807) (L : V → V → V → V → St → Res) (x1 : V) :
    ∃ st' f', g4b11111010010011 L x1 (.ptr d 0) (.ptr q 0) (.int .i64 (i : Nat)) (.ptr c 0) st = L x1 (.ptr d 0) (.ptr q 0) (.int .i64 ((i + 1 : Nat) : Int)) st' ∧ PAt st' d m q f' (i + 1) := by
  unfold g4b11111010010011
  obtain ⟨l0, l1, l2, l3⟩ := ldo hc
  have hok := h.fa.ok
  have hlast := h.last
  simp only [faddr_ptr, Nat.zero_add, l0, eql_int, Bool.false_eq_true, if_false]
  cases hk1 : (o.kind == 1) with
  | true =>
    obtain ⟨st1, q1, q2, q3⟩ := send_s h.fa (by omega) o.a o.b o.tx
    have c1 := (q3.ob c hcn hcd hcm).trans hc
    obtain ⟨t, ht⟩ := h.qob
    have t1 := (q3.ob q h.qlt h.qd h.qm).trans ht
    have n1 := q3.n
    have hql := h.qlt
    obtain ⟨p0, p1, p2, p3⟩ := ldo c1
    obtain ⟨st2, r1, r2⟩ := rsend_s hok (by omega) o.a o.b o.tx st1
    simp only [cond_true, faddr_ptr, Nat.zero_add, l1, l2, l3, er1_ptr, er1_int, er1_str, q1, ret_ret, ext_0, ext_1]
    unfold g4b11111010010011010101
    simp only [ld3 t1, faddr_ptr, Nat.zero_add, p1, p2, p3, er3, er1_int, er1_str, r1, ret_ret, ext_0, ext_1, ext_2, bx3, sv3q _ (new_at _ _)]
    unfold g4b111110100100110101011
    have k3 : Ks st1 ((st2.new (.cells (qC f00 1))).put st2.n (.cells (qC (sendF f o.a o.b o.tx).1 0))) := (r2.new _).put r2.n _
    have o3 := put_at (st2.new (.cells (qC f00 1))) st2.n (.cells (qC (sendF f o.a o.b o.tx).1 0))
    have t3 := (k3.ob q (by omega)).trans t1
    simp only [eql_int, if_true, bne_self_eq_false, guard_ff, cond_false, ld3 o3, sv3 _ _ t3]
    have hl := sendF_last f o.a o.b o.tx
    obtain ⟨st', w1, w2⟩ := play_tail (h.wrote (q2.ks k3) (q3.trans (k3.ffr d m)) (by omega) 0) hi L x1
    exact ⟨st', _, w1, w2⟩
  | false =>
  simp only [cond_false]
  cases hk2 : (o.kind == 2) with
  | true =>
    obtain ⟨st1, q1, q2, q3⟩ := arr_s h.fa o.a
    have c1 := (q3.ob c hcn hcd hcm).trans hc
    obtain ⟨t, ht⟩ := h.qob
    have t1 := (q3.ob q h.qlt h.qd h.qm).trans ht
    have n1 := q3.n
    have hql := h.qlt
    simp only [cond_true, faddr_ptr, Nat.zero_add, l1, er1_ptr, er1_int, q1, ret_ret, ext_0, ext_1, bx4, sv4 _ (new_at _ _)]
    unfold g4b1111101001001101011101
    have k2 : Ks st1 ((st1.new (.cells (pkC pk0))).put st1.n (.cells (pkC (arrF f o.a).2.1))) := ((Ks.refl st1).new _).put (Nat.le_refl _) _
    have o2 := put_at (st1.new (.cells (pkC pk0))) st1.n (.cells (pkC (arrF f o.a).2.1))
    have on2 : st1.n < ((st1.new (.cells (pkC pk0))).put st1.n (.cells (pkC (arrF f o.a).2.1))).n := by simp
    have c2 := (k2.ob c (by omega)).trans c1
    have t2 := (k2.ob q (by omega)).trans t1
    have kn2 := k2.n
    generalize hpp : st1.n = pp at o2 on2 ⊢
    rw [hpp] at k2 c2 t2 kn2
    generalize (st1.new (.cells (pkC pk0))).put pp (.cells (pkC (arrF f o.a).2.1)) = st2 at k2 o2 on2 c2 t2 kn2 ⊢
    obtain ⟨p0, p1, p2, p3⟩ := ldo c2
    obtain ⟨st3, r1, r2⟩ := rarr_s hok o.a st2
    simp only [ld3 t2, faddr_ptr, Nat.zero_add, p1, er3, er1_int, r1, ret_ret, ext_0, ext_1, ext_2, bx3, bx4, new_n]
    have rn := r2.n
    have o3 := (r2.ob pp on2).trans o2
    have t3 := (r2.ob q (by omega)).trans t2
    have a2 : ((st3.new (.cells (qC f00 1))).new (.cells (pkC pk0))).ob (st3.n + 1) = some (.cells (pkC pk0)) := by
      have := new_at (st3.new (.cells (qC f00 1))) (.cells (pkC pk0)); simpa using this
    have a1 : ((st3.new (.cells (qC f00 1))).new (.cells (pkC pk0))).ob st3.n = some (.cells (qC f00 1)) := by
      rw [new_ne _ _ (by simp)]; exact new_at _ _
    have a2' : (((st3.new (.cells (qC f00 1))).new (.cells (pkC pk0))).put st3.n (.cells (qC (arrF f o.a).1 0))).ob (st3.n + 1) = some (.cells (pkC pk0)) := by rw [put_ne _ _ (by omega)]; exact a2
    simp only [sv3q _ a1, sv4 _ a2']
    have k5 : Ks st3 ((((st3.new (.cells (qC f00 1))).new (.cells (pkC pk0))).put st3.n (.cells (qC (arrF f o.a).1 0))).put (st3.n + 1) (.cells (pkC (arrF f o.a).2.1))) := ((((Ks.refl st3).new _).new _).put (Nat.le_refl _) _).put (by omega) _
    have b2 := put_at (((st3.new (.cells (qC f00 1))).new (.cells (pkC pk0))).put st3.n (.cells (qC (arrF f o.a).1 0))) (st3.n + 1) (.cells (pkC (arrF f o.a).2.1))
    have b1 : ((((st3.new (.cells (qC f00 1))).new (.cells (pkC pk0))).put st3.n (.cells (qC (arrF f o.a).1 0))).put (st3.n + 1) (.cells (pkC (arrF f o.a).2.1))).ob st3.n = some (.cells (qC (arrF f o.a).1 0)) := by rw [put_ne _ _ (by omega)]; exact put_at _ _ _
    have b3 := (k5.ob pp (by omega)).trans o3
    have b4 := (k5.ob q (by omega)).trans t3
    generalize (((st3.new (.cells (qC f00 1))).new (.cells (pkC pk0))).put st3.n (.cells (qC (arrF f o.a).1 0))).put (st3.n + 1) (.cells (pkC (arrF f o.a).2.1)) = st5 at k5 b1 b2 b3 b4 ⊢
    unfold g4b11111010010011010111011
    simp only [ld4 b3, ld4 b2, eqs4, decide_true, Bool.and_self, if_true, Bool.not_true, guard_ff, eql_int, bne_self_eq_false, cond_false, ld3 b1, sv3 _ _ b4]
    have k15 := k2.trans (r2.trans k5)
    have hl := arrF_last f o.a
    obtain ⟨st', w1, w2⟩ := play_tail (h.wrote (q2.ks k15) (q3.trans (k15.ffr d m)) (by omega) 0) hi L x1
    exact ⟨st', _, w1, w2⟩
  | false =>
  simp only [cond_false]
  cases hk3 : (o.kind == 3) with
  | true =>
    obtain ⟨st1, q1, q2, q3⟩ := copy_s h.fa (by omega) o.a
    have c1 := (q3.ob c hcn hcd hcm).trans hc
    obtain ⟨t, ht⟩ := h.qob
    have t1 := (q3.ob q h.qlt h.qd h.qm).trans ht
    have n1 := q3.n
    have hql := h.qlt
    obtain ⟨p0, p1, p2, p3⟩ := ldo c1
    obtain ⟨st2, r1, r2⟩ := rcopy_s hok (by omega) o.a st1
    simp only [cond_true, faddr_ptr, Nat.zero_add, l1, er1_ptr, er1_int, q1, ret_ret, ext_0, ext_1]
    unfold g4b111110100100110101111101
    simp only [ld3 t1, faddr_ptr, Nat.zero_add, p1, er3, er1_int, r1, ret_ret, ext_0, ext_1, ext_2, bx3, sv3q _ (new_at _ _)]
    unfold g4b1111101001001101011111011
    have k3 : Ks st1 ((st2.new (.cells (qC f00 1))).put st2.n (.cells (qC (copyF f o.a).1 0))) := (r2.new _).put r2.n _
    have o3 := put_at (st2.new (.cells (qC f00 1))) st2.n (.cells (qC (copyF f o.a).1 0))
    have t3 := (k3.ob q (by omega)).trans t1
    simp only [eql_int, if_true, bne_self_eq_false, guard_ff, cond_false, ld3 o3, sv3 _ _ t3]
    have hl := copyF_last f o.a
    obtain ⟨st', w1, w2⟩ := play_tail (h.wrote (q2.ks k3) (q3.trans (k3.ffr d m)) (by omega) 0) hi L x1
    exact ⟨st', _, w1, w2⟩
  | false =>
  simp only [cond_false]
  have ldc : ∀ {s : St}, Ks st s → (∀ K : V → St → Res, A.load false 1 (.ptr c 1) s K = K (.int .i64 o.a) s) := fun k => (ldo ((k.ob c hcn).trans hc)).2.1
  have lvc : ldv false 1 (.ptr c 1) st = some (.int .i64 o.a) := by unfold ldv; rw [l1]; rfl
  obtain ⟨t, ht⟩ := h.qob
  cases hk4 : (o.kind == 4) with
  | true =>
    obtain ⟨st1, q1, q2⟩ := pick_s h.fa o.a hw
    have t1 := (q2.ob q h.qlt).trans ht
    obtain ⟨st2, r1, r2⟩ := rpick_s hok o.a st1
    simp only [cond_true, l1, er1_ptr, er1_int, q1, ret_ret, kid_eq, noP_ret, ld3 t1, ldv3 ht, chk_same, ldc q2, lvc, er3, r1, eql_int, if_true, bne_self_eq_false, cond_false]
    obtain ⟨st', w1, w2⟩ := play_tail ((h.ks (q2.trans r2)).up (Nat.le_succ i)) hi L x1
    exact ⟨st', _, w1, w2⟩
  | false =>
    simp only [cond_false, l1, bin_geq]
    by_cases h0 : 0 ≤ o.a
    · obtain ⟨st1, v, zs, q1, q2, q3⟩ := to_s h.fa o.a
      rw [toK_ids hok] at q3
      have t1 := (q2.ob q h.qlt).trans ht
      obtain ⟨st2, u, r1, r2⟩ := rids_s hok o.a st1
      have hsel : f.ps.filter (selP o.a) = f.ps.filter (fun p => p.to == o.a) := List.filter_congr (fun p _ => by unfold selP; simp [show ¬ (o.a < 0) by omega])
      rw [hsel] at r1
      have hlen := hok.len
      have hsm := hok.small
      have hfl := List.length_filter_le (fun p : Pk => p.to == o.a) f.ps
      have hil : (idsP (f.ps.filter fun p => p.to == o.a)).length ≤ 100000 := by simp only [idsP, List.length_map]; omega
      simp only [h0, decide_true, guard_tt, l1, er1_ptr, er1_int, q1, ret_ret, kid_eq, noP_ret, ld3 t1, ldv3 ht, chk_same, ldc q2, lvc, er3, r1, q3.er, er1_lst, same_s (q3.ks r2) u hil, un_not, Bool.not_true, cond_false]
      obtain ⟨st', w1, w2⟩ := play_tail ((h.ks (q2.trans r2)).up (Nat.le_succ i)) hi L x1
      exact ⟨st', _, w1, w2⟩
    · simp only [h0, decide_false, guard_ft]
      obtain ⟨st', w1, w2⟩ := play_tail (h.up (Nat.le_succ i)) hi L x1
      exact ⟨st', _, w1, w2⟩
def fopsV (l : List FOp) : List V := l.map fun o => .agg (opC o)
theorem play_loop {d m q : Nat} (ops : List FOp) (hw : ∀ o ∈ ops, -9223372036854775808 ≤ o.a ∧ o.a ≤ 9223372036854775807) : ∀ (n i : Nat) (st : St) (f : Fd), i ≤ ops.length → ops.length < n + i → i ≤ 200 → PAt st d m q f i →
    ∃ st', g4b11111010 n (.lst (fopsV ops) 0) (.ptr d 0) (.ptr q 0) (.int .i64 (i : Nat)) st = some (.ret (.bool true), st') := by
  intro n
  induction n with
  | zero => intro i st f hi hn; omega
  | succ n ih =>
    intro i st f hi hn h200 h
    unfold g4b11111010
    have hl : (fopsV ops).length = ops.length := by simp [fopsV]
    simp only [lenL_lst, hl, bin_lss]
    by_cases hlt : i < ops.length
    · by_cases h1 : i < 200
      · simp only [show ((i : Int) < (ops.length : Int)) from by omega, decide_true, guard_tt, show ((i : Int) < 200) from by omega, cond_true]
        unfold g4b1111101001
        have ia : ∀ K, A.iaddr 4 (.lst (fopsV ops) 0) (.int .i64 (i : Nat)) K = K (.lptr (opC ops[i])) := fun K => iaddr_lst (v := .agg (opC ops[i])) K (by simp [fopsV, hlt]) rfl
        have la : ∀ K : V → St → Res, A.load true 4 (.lptr (opC ops[i])) st K = K (.agg (opC ops[i])) st := fun K => by rw [load_lptrA]; rfl
        have so : ∀ K, A.store 4 (.ptr st.n 0) (.agg (opC ops[i])) (st.new (.cells (pkC pk0))) K = K ((st.new (.cells (pkC pk0))).put st.n (.cells (opC ops[i]))) := fun K => by
          rw [store_agg, new_at, obo_some, if_pos ⟨rfl, by simp [pkC], rfl⟩]; rfl
        simp only [ia, la, bx4, so]
        have k2 : Ks st ((st.new (.cells (pkC pk0))).put st.n (.cells (opC ops[i]))) := ((Ks.refl st).new _).put (Nat.le_refl _) _
        have o2 := put_at (st.new (.cells (pkC pk0))) st.n (.cells (opC ops[i]))
        have on2 : st.n < ((st.new (.cells (pkC pk0))).put st.n (.cells (opC ops[i]))).n := by simp
        have hd := h.fa.lt; have hm := h.fa.mlt; have hq := h.qlt
        have h2 := h.ks k2
        generalize (st.new (.cells (pkC pk0))).put st.n (.cells (opC ops[i])) = st2 at k2 o2 on2 h2 ⊢
        obtain ⟨l0, l1, l2, l3⟩ := ldo o2
        obtain ⟨st3, f3, w1, w2⟩ := play_body h2 h1 o2 on2 (by omega) (by omega) (by omega) (hw _ (List.getElem_mem hlt)) (g4b11111010 n) (.lst (fopsV ops) 0)
        obtain ⟨st4, w3⟩ := ih (i + 1) st3 f3 (by omega) (by omega) (by omega) w2
        rw [w3] at w1
        simp only [faddr_ptr, Nat.zero_add, l3, lenS_str, bin_gtr]
        by_cases g1 : 4096 < ((ops[i].tx.length : Nat) : Int)
        · simp only [g1, decide_true, guard_tt, bin_leq]
          by_cases g2 : ((ops[i].tx.length : Nat) : Int) ≤ 1048640
          · simp only [g2, decide_true, cond_true, s13_val, ret_ret, er1_bool]
            exact ⟨_, rfl⟩
          · simp only [g2, decide_false, cond_false]
            exact ⟨_, w1⟩
        · simp only [g1, decide_false, guard_ft]
          exact ⟨_, w1⟩
      · simp only [show ((i : Int) < (ops.length : Int)) from by omega, decide_true, guard_tt, show ¬ ((i : Int) < 200) from by omega, decide_false, cond_false, s13_val, ret_ret, er1_bool]
        exact ⟨_, rfl⟩
    · simp only [show ¬ ((i : Int) < (ops.length : Int)) from by omega, decide_false, guard_ft, s13_val, ret_ret, er1_bool]
      exact ⟨_, rfl⟩
theorem fieldPlays_law (n : Int) (ops : List FOp) (hl : ops.length ≤ 9223372036854775807) (hw : ∀ o ∈ ops, -9223372036854775808 ≤ o.a ∧ o.a ≤ 9223372036854775807) (st : St) : ∃ st', s4 [.int .i64 n, .lst (fopsV ops) 0] st = some (.ret (.bool true), st') := by
  rw [s4_eq]
  unfold f4
  by_cases hn : 1 ≤ n ∧ n ≤ 65
  · have hf := new_f n hn.1 st
    have hnn : ((st.new (.map [])).new (.cells [.int .i64 n, .int .i64 0, .map st.n])).n = st.n + 1 + 1 := by simp
    simp only [er1_int, new_s, if_pos hn, ret_ret, ext_0, ext_1]
    generalize (st.new (.map [])).new (.cells [.int .i64 n, .int .i64 0, .map st.n]) = st1 at hf hnn ⊢
    obtain ⟨st2, q1, q2⟩ := rnew_s n st1
    rw [if_pos hn, if_pos hn] at q1
    simp only [q1, ret_ret, ext_0, ext_1, bx3, sv3q _ (new_at _ _)]
    have k3 : Ks st1 ((st2.new (.cells (qC f00 1))).put st2.n (.cells (qC ⟨n, 0, []⟩ 0))) := (q2.new _).put q2.n _
    have o3 := put_at (st2.new (.cells (qC f00 1))) st2.n (.cells (qC ⟨n, 0, []⟩ 0))
    have on3 : st2.n < ((st2.new (.cells (qC f00 1))).put st2.n (.cells (qC ⟨n, 0, []⟩ 0))).n := by simp
    have h3 := hf.ks k3
    have hn2 := q2.n
    generalize (st2.new (.cells (qC f00 1))).put st2.n (.cells (qC ⟨n, 0, []⟩ 0)) = st3 at k3 o3 on3 h3 ⊢
    unfold g4b111
    simp only [eql_int, if_true, bne_self_eq_false, guard_ff, eql_ptr, Bool.false_eq_true, if_false, beq_self_eq_true, eql_bool, cond_false]
    unfold g4b1111
    simp only [eql_ptr, cond_false]
    exact play_loop ops hw big 0 st3 ⟨n, 0, []⟩ (by omega) (lt_big (by omega)) (by omega) ⟨h3, ⟨0, o3⟩, on3, by omega, by omega, by simp⟩
  · simp only [er1_int, new_s, if_neg hn, ret_ret, ext_0, ext_1]
    obtain ⟨st2, q1, q2⟩ := rnew_s n st
    rw [if_neg hn, if_neg hn] at q1
    simp only [q1, ret_ret, ext_0, ext_1, bx3, sv3q _ (new_at _ _)]
    unfold g4b111
    simp only [eql_int, if_true, bne_self_eq_false, guard_ff, eql_ptr0, Bool.false_eq_true, if_false, show ((1 : Int) == 0) = false from rfl, Bool.not_true, eql_bool, cond_false]
    unfold g4b1111
    simp only [eql_ptr0, Bool.not_false, cond_true, s13_val, ret_ret, er1_bool]
    exact ⟨_, rfl⟩
theorem in_fop {n : Nat} {x : V} (s : Sh Try.prog n 48 x.cells) (f : fit Try.prog 48 x) : ∃ o : FOp, x = .agg (opC o) ∧ (-9223372036854775808 ≤ o.a ∧ o.a ≤ 9223372036854775807) := by
  obtain ⟨cs, rfl⟩ := fit_ag f (isAg_of.2 (.inl ⟨_, Try.underlying48⟩))
  obtain ⟨k, h1, h2⟩ := s.struct Try.underlying48
  rw [cells_agg] at h1 h2
  have c48 : Try.prog.cellsOf 48 = 4 := by kernel_rfl
  have c3 : Try.prog.cellsOf 3 = 1 := by kernel_rfl
  have c9 : Try.prog.cellsOf 9 = 1 := by kernel_rfl
  rw [c48] at h1
  obtain ⟨a, b, c, d, rfl⟩ : ∃ a b c d, cs = [a, b, c, d] := by
    match cs, h1 with
    | [a, b, c, d], _ => exact ⟨a, b, c, d, rfl⟩
  have q0 := h2 ⟨ "Kind", 3, 0, false, "", "", 0⟩ (by simp)
  have q1 := h2 ⟨ "A", 3, 1, false, "", "", 8⟩ (by simp)
  have q2 := h2 ⟨ "B", 3, 2, false, "", "", 16⟩ (by simp)
  have q3 := h2 ⟨ "Text", 9, 3, false, "", "", 24⟩ (by simp)
  simp only [c3, c9, List.drop_zero, List.drop_succ_cons, List.take_succ_cons, List.take_zero] at q0 q1 q2 q3
  obtain ⟨k0, e0, _⟩ := q0.int Try.underlying3
  obtain ⟨k1, e1, w1⟩ := q1.int Try.underlying3
  obtain ⟨k2, e2, _⟩ := q2.int Try.underlying3
  obtain ⟨tx, e3, _⟩ := q3.str Try.underlying9
  cases e0; cases e1; cases e2; cases e3
  refine ⟨⟨k0, k1, k2, tx⟩, rfl, ?_⟩
  simp only [Lit.wf, Bool.and_eq_true, decide_eq_true_eq] at w1
  exact w1
theorem fieldPlays_row {W : World} {v0 v1 : Value} {x0 x1 : V} {n0 n1 : Nat}
    (r0 : Rs (E0 W) [x0] [v0]) (s0 : Sh Try.prog n0 3 x0.cells) (f0 : fit Try.prog 3 x0)
    (r1 : Rs (E0 W) [x1] [v1]) (s1 : Sh Try.prog n1 41 x1.cells) (f1 : fit Try.prog 41 x1) :
    Calls Try.prog 4 #[v0, v1] W fun e w' => e = .returned (.bool true) ∧ Below W.heap.size W w' := by
  obtain ⟨k, rfl, _⟩ := in_int s0 f0 Try.underlying3
  obtain ⟨l, m, rfl, h1, h2⟩ := in_slice s1 f1 Try.underlying41
  obtain ⟨ops, rfl, h3⟩ := list_pick (g := fun o => V.agg (opC o)) (Q := fun o => -9223372036854775808 ≤ o.a ∧ o.a ≤ 9223372036854775807) (l := l) (fun v hv => in_fop (h2 v hv).1 (h2 v hv).2)
  obtain ⟨st', hs⟩ := fieldPlays_law k ops (by simpa using h1) h3 St0
  exact bool_row sim4 W _ _ _ hs (Rs.cons r0 r1)
end Go.Ab
