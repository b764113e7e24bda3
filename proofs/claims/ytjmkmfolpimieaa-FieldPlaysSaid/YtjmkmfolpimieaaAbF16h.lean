import Derived.Test.YtjmkmfolpimieaaAbF16g
/- sinew/sinewref16: Arrive, Copy, Pick, Ids. -/
namespace Go.Ab
open Go.Proofs Go.RowKit
set_option linter.unusedVariables false
set_option linter.unusedSimpArgs false
set_option maxRecDepth 100000
theorem posF_some {f : Fd} {x : Int} {i : Nat} {p : Pk} (h : findP x f.ps 0 = some (i, p)) : posF f x = (i : Int) ∧ ∃ hi : i < f.ps.length, f.ps[i] = p := by
  obtain ⟨_, h2, _⟩ := findP_some h
  rw [Nat.sub_zero] at h2
  obtain ⟨h3, h4⟩ := List.getElem?_eq_some_iff.1 h2
  exact ⟨by unfold posF; rw [h], h3, h4⟩
theorem pks_take (ps : List Pk) (i : Nat) : (pksV ps).take i = pksV (ps.take i) := by simp [pksV, List.map_take]
theorem pks_drop (ps : List Pk) (i : Nat) : (pksV ps).drop i = pksV (ps.drop i) := by simp [pksV, List.map_drop]
theorem rarr_s {f : Fd} (h : FOK f) (x : Int) (st : St) :
    ∃ st', s16 [qV f, .int .i64 x] st = some (.ret (.tup [qV (arrF f x).1, .agg (pkC (arrF f x).2.1), .int .i64 (arrF f x).2.2]), st') ∧ Ks st st' := by
  rw [s16_eq]
  unfold f16
  simp only [bxq, bx3, bx4, new_n]
  have k3 := (((Ks.refl st).new (.cells (qC f 0))).new (.cells (qC f00 1))).new (.cells (pkC pk0))
  have o3 : (((st.new (.cells (qC f 0))).new (.cells (qC f00 1))).new (.cells (pkC pk0))).ob (st.n + 1 + 1) = some (.cells (pkC pk0)) := by
    have := new_at ((st.new (.cells (qC f 0))).new (.cells (qC f00 1))) (.cells (pkC pk0)); simpa using this
  have o2 : (((st.new (.cells (qC f 0))).new (.cells (qC f00 1))).new (.cells (pkC pk0))).ob (st.n + 1) = some (.cells (qC f00 1)) := by
    rw [new_ne _ _ (by simp)]
    have := new_at (st.new (.cells (qC f 0))) (.cells (qC f00 1)); simpa using this
  have o1 : (((st.new (.cells (qC f 0))).new (.cells (qC f00 1))).new (.cells (pkC pk0))).ob st.n = some (.cells (qC f 0)) := by
    rw [new_ne _ _ (by simp; omega), new_ne _ _ (by simp)]; exact new_at _ _
  have n3 : (((st.new (.cells (qC f 0))).new (.cells (qC f00 1))).new (.cells (pkC pk0))).n = st.n + 1 + 1 + 1 := by simp
  generalize ((st.new (.cells (qC f 0))).new (.cells (qC f00 1))).new (.cells (pkC pk0)) = st3 at k3 o1 o2 o3 n3 ⊢
  obtain ⟨st4, q1, q2⟩ := place_s h x st3
  have k4 := k3.trans q2
  have p1 := (q2.ob st.n (by omega)).trans o1
  have p2 := (q2.ob (st.n + 1) (by omega)).trans o2
  have p3 := (q2.ob (st.n + 1 + 1) (by omega)).trans o3
  have n4 := q2.n
  simp only [ld3 o1, er3, er1_int, q1, ret_ret, bin_lss]
  cases hq : findP x f.ps 0 with
  | none =>
    have e : arrF f x = (f, pk0, 3) := by unfold arrF; rw [hq]
    have ep : posF f x = -1 := by unfold posF; rw [hq]
    have r3 : (st4.put (st.n + 1) (.cells (qC f 0))).ob (st.n + 1 + 1) = some (.cells (pkC pk0)) := by rw [put_ne _ _ (by omega)]; exact p3
    have r2 : ((st4.put (st.n + 1) (.cells (qC f 0))).put (st.n + 1 + 1) (.cells (pkC pk0))).ob (st.n + 1) = some (.cells (qC f 0)) := by rw [put_ne _ _ (by omega)]; exact put_at _ _ _
    rw [e, ep]
    simp only [show ((-1 : Int) < 0) from by omega, decide_true, cond_true, ld3 p1, bu4, sv3 _ _ p2, sv4 _ r3, ld3 r2, ld4 (put_at _ _ _), kid_eq, rtmp_some, rcell_some, res_two, er3, er4, er1_int]
    exact ⟨_, rfl, (k4.put (by omega) _).put (by omega) _⟩
  | some q =>
    obtain ⟨i, p⟩ := q
    obtain ⟨ep, hi, hp⟩ := posF_some hq
    have e : arrF f x = (⟨f.nodes, f.last, f.ps.eraseIdx i⟩, p, 0) := by unfold arrF; rw [hq]
    rw [e, ep]
    have hlen := h.len
    have hsm := h.small
    obtain ⟨l0, l1, l2⟩ := ld3f p1
    simp only [show ¬ ((i : Int) < 0) from by omega, decide_false, cond_false]
    unfold g16b111
    simp only [faddr_ptr, Nat.zero_add, l2, iaddr_pk _ hi, hp, (ll4 _ _).2, bx4, sv4 _ (new_at _ _)]
    have k5 : Ks st ((st4.new (.cells (pkC pk0))).put st4.n (.cells (pkC p))) := (k4.new _).put k4.n _
    have r4 := put_at (st4.new (.cells (pkC pk0))) st4.n (.cells (pkC p))
    have kk : Ks st4 ((st4.new (.cells (pkC pk0))).put st4.n (.cells (pkC p))) := ((Ks.refl st4).new _).put (Nat.le_refl _) _
    have r1 := (kk.ob st.n (by omega)).trans p1
    have r2 := (kk.ob (st.n + 1) (by omega)).trans p2
    have r3 := (kk.ob (st.n + 1 + 1) (by omega)).trans p3
    clear kk
    generalize hcN : st4.n = c4 at r4 n4 k5 r1 r2 r3 ⊢
    generalize (st4.new (.cells (pkC pk0))).put c4 (.cells (pkC p)) = st5 at k5 r1 r2 r3 r4 ⊢
    obtain ⟨l0, l1, l2⟩ := ld3f r1
    simp only [l2, slice_to _ _ _ _ _ (show i ≤ (pksV f.ps).length by rw [pksV_len]; omega) (szok_pks _), pks_take, elemsOf_lst _ _ _ _ (szok_pks _)]
    rw [app_own _ (.nil st st5 4) (by simp [pksV_len]; omega) rfl]
    obtain ⟨k6, ow⟩ := (Own.nil st st5 4).app k5
    rw [List.nil_append]
    have a1 : (appSt st5 1 4).ob st.n = some (.cells (qC f 0)) := by rw [appSt_ob]; exact r1
    have a2 : (appSt st5 1 4).ob (st.n + 1) = some (.cells (qC f00 1)) := by rw [appSt_ob]; exact r2
    have a3 : (appSt st5 1 4).ob (st.n + 1 + 1) = some (.cells (pkC pk0)) := by rw [appSt_ob]; exact r3
    have a4 : (appSt st5 1 4).ob c4 = some (.cells (pkC p)) := by rw [appSt_ob]; exact r4
    generalize hu : st5.nt + 3 = u at ow
    generalize appSt st5 1 4 = st6 at k6 ow a1 a2 a3 a4 ⊢
    unfold g16b111111
    obtain ⟨l0, l1, l2⟩ := ld3f a1
    have e4 : ∀ K, A.bin .add (.int .i64 (i : Nat)) (.int .i64 1) K = K (.int .i64 ((i + 1 : Nat) : Int)) := fun K => bin_inc (by omega) K
    simp only [faddr_ptr, Nat.zero_add, l2, e4, slice_from _ _ _ _ _ (show i + 1 ≤ (pksV f.ps).length by rw [pksV_len]; omega) (szok_pks _), pks_drop, elemsOf_lst _ _ _ _ (szok_pks _)]
    rw [app_own _ ow (by simp [pksV_len]; omega) (szok_pks _), ← pksV_app, ← List.eraseIdx_eq_take_drop_succ]
    obtain ⟨k7, ow7⟩ := ow.app k6
    have b1 : (appSt st6 u 4).ob st.n = some (.cells (qC f 0)) := by rw [appSt_ob]; exact a1
    have b2 : (appSt st6 u 4).ob (st.n + 1) = some (.cells (qC f00 1)) := by rw [appSt_ob]; exact a2
    have b3 : (appSt st6 u 4).ob (st.n + 1 + 1) = some (.cells (pkC pk0)) := by rw [appSt_ob]; exact a3
    have b4 : (appSt st6 u 4).ob c4 = some (.cells (pkC p)) := by rw [appSt_ob]; exact a4
    generalize hu7 : st6.nt + 3 = u7 at ow7
    generalize appSt st6 u 4 = st7 at k7 ow7 b1 b2 b3 b4 ⊢
    have sw : ∀ K, A.store 1 (.ptr st.n 2) (.lst (pksV (f.ps.eraseIdx i)) u7) st7 K = K (st7.put st.n (.cells (qC ⟨f.nodes, f.last, f.ps.eraseIdx i⟩ u7))) := fun K => by
      rw [store_lst, b1]; rfl
    simp only [sw]
    have k8 := k7.put (Nat.le_refl _) (.cells (qC ⟨f.nodes, f.last, f.ps.eraseIdx i⟩ u7))
    have c1 := put_at st7 st.n (.cells (qC ⟨f.nodes, f.last, f.ps.eraseIdx i⟩ u7))
    have c2 : (st7.put st.n (.cells (qC ⟨f.nodes, f.last, f.ps.eraseIdx i⟩ u7))).ob (st.n + 1) = some (.cells (qC f00 1)) := by rw [put_ne _ _ (by omega)]; exact b2
    have c3 : (st7.put st.n (.cells (qC ⟨f.nodes, f.last, f.ps.eraseIdx i⟩ u7))).ob (st.n + 1 + 1) = some (.cells (pkC pk0)) := by rw [put_ne _ _ (by omega)]; exact b3
    have c4' : (st7.put st.n (.cells (qC ⟨f.nodes, f.last, f.ps.eraseIdx i⟩ u7))).ob c4 = some (.cells (pkC p)) := by rw [put_ne _ _ (by omega)]; exact b4
    generalize st7.put st.n (.cells (qC ⟨f.nodes, f.last, f.ps.eraseIdx i⟩ u7)) = st8 at k8 c1 c2 c3 c4' ⊢
    have d4 : (st8.put (st.n + 1) (.cells (qC ⟨f.nodes, f.last, f.ps.eraseIdx i⟩ u7))).ob c4 = some (.cells (pkC p)) := by rw [put_ne _ _ (by omega)]; exact c4'
    have d3 : (st8.put (st.n + 1) (.cells (qC ⟨f.nodes, f.last, f.ps.eraseIdx i⟩ u7))).ob (st.n + 1 + 1) = some (.cells (pkC pk0)) := by rw [put_ne _ _ (by omega)]; exact c3
    have c : ldv true 4 (.ptr c4 0) (st8.put (st.n + 1) (.cells (qC ⟨f.nodes, f.last, f.ps.eraseIdx i⟩ u7))) = some (.agg (pkC p)) := by unfold ldv; rw [ld4 d4]; rfl
    have d2 : ((st8.put (st.n + 1) (.cells (qC ⟨f.nodes, f.last, f.ps.eraseIdx i⟩ u7))).put (st.n + 1 + 1) (.cells (pkC p))).ob (st.n + 1) = some (.cells (qC ⟨f.nodes, f.last, f.ps.eraseIdx i⟩ u7)) := by rw [put_ne _ _ (by omega)]; exact put_at _ _ _
    simp only [ld3 c1, ld4 c4', sv3 _ _ c2, kid_eq, noP_ret, c, chk_same, sv4 _ d3, ld3 d2, ld4 (put_at _ _ _), rtmp_some, rcell_some, res_two, er3, er4, er1_int]
    exact ⟨_, rfl, (k8.put (by omega) _).put (by omega) _⟩
theorem rcopy_s {f : Fd} (h : FOK f) (hl : f.last ≤ 9999) (x : Int) (st : St) :
    ∃ st', s17 [qV f, .int .i64 x] st = some (.ret (.tup [qV (copyF f x).1, .int .i64 ((copyF f x).2.1 : Nat), .int .i64 (copyF f x).2.2]), st') ∧ Ks st st' := by
  rw [s17_eq]
  unfold f17
  simp only [bxq, bx3, new_n]
  have k2 := ((Ks.refl st).new (.cells (qC f 0))).new (.cells (qC f00 1))
  have o2 : ((st.new (.cells (qC f 0))).new (.cells (qC f00 1))).ob (st.n + 1) = some (.cells (qC f00 1)) := by
    have := new_at (st.new (.cells (qC f 0))) (.cells (qC f00 1)); simpa using this
  have o1 : ((st.new (.cells (qC f 0))).new (.cells (qC f00 1))).ob st.n = some (.cells (qC f 0)) := by
    rw [new_ne _ _ (by simp)]; exact new_at _ _
  have n2 : ((st.new (.cells (qC f 0))).new (.cells (qC f00 1))).n = st.n + 1 + 1 := by simp
  generalize (st.new (.cells (qC f 0))).new (.cells (qC f00 1)) = st2 at k2 o1 o2 n2 ⊢
  obtain ⟨st4, q1, q2⟩ := place_s h x st2
  have k4 := k2.trans q2
  have p1 := (q2.ob st.n (by omega)).trans o1
  have p2 := (q2.ob (st.n + 1) (by omega)).trans o2
  have n4 := q2.n
  simp only [ld3 o1, er3, er1_int, q1, ret_ret, bin_lss]
  cases hq : findP x f.ps 0 with
  | none =>
    have e : copyF f x = (f, 0, 3) := by unfold copyF; rw [hq]
    have ep : posF f x = -1 := by unfold posF; rw [hq]
    rw [e, ep]
    simp only [show ((-1 : Int) < 0) from by omega, decide_true, cond_true, ld3 p1, sv3 _ _ p2, ld3 (put_at _ _ _), kid_eq, rtmp_some, rcell_some, res_two, er3, er1_int]
    exact ⟨_, rfl, k4.put (by omega) _⟩
  | some q =>
    obtain ⟨i, p⟩ := q
    obtain ⟨ep, hi, hp⟩ := posF_some hq
    have e : copyF f x = sendF f p.fr p.to p.bs := by unfold copyF; rw [hq]
    rw [e, ep]
    obtain ⟨l0, l1, l2⟩ := ld3f p1
    simp only [show ¬ ((i : Int) < 0) from by omega, decide_false, cond_false]
    unfold g17b111
    obtain ⟨st5, r1, r2⟩ := rsend_s h hl p.fr p.to p.bs st4
    have k5 := k4.trans r2
    have b2 := (r2.ob (st.n + 1) (by omega)).trans p2
    simp only [ld3 p1, faddr_ptr, Nat.zero_add, l2, iaddr_pk _ hi, hp, (fl4 _).2.1, (fl4 _).2.2.1, (fl4 _).2.2.2, load_l1', er3, er1_int, er1_str, r1, ret_ret, kid_eq, noP_ret, ext_0, ext_1, ext_2, sv3q _ b2, ld3 (put_at _ _ _), rtmp_some, rcell_some, res_two]
    exact ⟨_, rfl, k5.put (by omega) _⟩
theorem rpick_end {f : Fd} {c : Nat} {st : St} (hc : st.ob c = some (.cells (qC f 0))) (k : Nat) (hk : k < f.ps.length) : g18b11111 (.ptr c 0) (.int .i64 (k : Nat)) st = some (.ret (.int .i64 (f.ps[k].id : Nat)), st) := by
  unfold g18b11111
  obtain ⟨l0, l1, l2⟩ := ld3f hc
  simp only [faddr_ptr, Nat.zero_add, l2, iaddr_pk _ hk, (fl4 _).1, (ll4 _ _).1, er1_int]
theorem rpick_s {f : Fd} (h : FOK f) (x : Int) (st : St) : ∃ st', s18 [qV f, .int .i64 x] st = some (.ret (.int .i64 (pickF f x)), st') ∧ Ks st st' := by
  rw [s18_eq]
  unfold f18
  have hlen := h.len
  have hsm := h.small
  simp only [bxq]
  have k1 := (Ks.refl st).new (.cells (qC f 0))
  have o1 := new_at st (.cells (qC f 0))
  generalize st.new (.cells (qC f 0)) = st1 at k1 o1 ⊢
  obtain ⟨l0, l1, l2⟩ := ld3f o1
  simp only [faddr_ptr, Nat.zero_add, l2, lenL_lst, pksV_len, eql_int, Bool.false_eq_true, if_false]
  by_cases h0 : f.ps.length = 0
  · have : f.ps = [] := List.eq_nil_of_length_eq_zero h0
    simp only [h0, show (((0 : Nat) : Int) == 0) = true from rfl, cond_true, er1_int]
    refine ⟨_, ?_, k1⟩
    unfold pickF; rw [this]; rfl
  · have e0 : ((f.ps.length : Nat) : Int) ≠ 0 := by omega
    have e1 : (((f.ps.length : Nat) : Int) == 0) = false := by simpa using e0
    simp only [e1, cond_false, bin_rem _ e0]
    have hpl := pickI_lt x (n := f.ps.length) (by omega)
    have hv : pickF f x = (f.ps[pickI x f.ps.length].id : Int) := by
      unfold pickF; rw [List.getElem?_eq_getElem hpl]
    have fin : ∀ k : Int, k.natAbs = pickI x f.ps.length → ∃ st', g18b1111 (.ptr st.n 0) (.int .i64 k) st1 = some (.ret (.int .i64 (pickF f x)), st') ∧ Ks st st' := fun k hk => by
      unfold g18b1111
      simp only [bin_lss]
      by_cases hneg : k < 0
      · have e2 : ∀ K, A.bin .sub (.int .i64 0) (.int .i64 k) K = K (.int .i64 ((pickI x f.ps.length : Nat) : Int)) := fun K => by
          rw [bin_sub K (by omega) (by omega)]; congr 2; omega
        simp only [hneg, decide_true, cond_true, e2]
        rw [rpick_end o1 _ hpl, hv]
        exact ⟨_, rfl, k1⟩
      · simp only [hneg, decide_false, cond_false]
        rw [show k = ((pickI x f.ps.length : Nat) : Int) by omega, rpick_end o1 _ hpl, hv]
        exact ⟨_, rfl, k1⟩
    unfold g18b111
    simp only [eql_int, Bool.false_eq_true, if_false]
    by_cases hm : x = -9223372036854775808
    · simp only [show (x == -9223372036854775808) = true by rw [beq_iff_eq]; exact hm, cond_true]
      exact fin 0 (by unfold pickI; rw [if_pos hm]; rfl)
    · simp only [show (x == -9223372036854775808) = false by rw [beq_eq_false_iff_ne]; exact hm, cond_false]
      exact fin _ (by unfold pickI; rw [if_neg hm])
/-- What the document's Ids lists. -/
def selP (k : Int) (p : Pk) : Bool := decide (k < 0) || (p.to == k)
theorem rids_loop {f : Fd} {k : Int} {c : Nat} {st0 : St} (hl : f.ps.length ≤ 100000) (hcl : c < st0.n) (hc : st0.ob c = some (.cells (qC f 0))) : ∀ (n i u : Nat) (st : St), i ≤ f.ps.length → f.ps.length < n + i → Ks st0 st → Own st0 st 1 u →
    ∃ st' u', g21b11010 n (.int .i64 k) (.ptr c 0) (.lst (intsV (idsP ((f.ps.take i).filter (selP k)))) u) (.int .i64 (i : Nat)) st = some (.ret (.lst (intsV (idsP (f.ps.filter (selP k)))) u'), st') ∧ Ks st0 st' := by
  intro n
  induction n with
  | zero => intro i u st hi hn; omega
  | succ n ih =>
    intro i u st hi hn hk how
    unfold g21b11010
    have hc' := (hk.ob c hcl).trans hc
    obtain ⟨l0, l1, l2⟩ := ld3f hc'
    simp only [faddr_ptr, Nat.zero_add, l2, lenL_lst, pksV_len, bin_lss]
    by_cases hil : i < f.ps.length
    · have e4 : ∀ K, A.bin .add (.int .i64 (i : Nat)) (.int .i64 1) K = K (.int .i64 ((i + 1 : Nat) : Int)) := fun K => bin_inc (by omega) K
      have htk : (f.ps.take (i + 1)).filter (selP k) = (f.ps.take i).filter (selP k) ++ (if selP k f.ps[i] = true then [f.ps[i]] else []) := by
        rw [List.take_add_one, List.getElem?_eq_getElem hil, List.filter_append]
        congr 1
        cases hq : selP k f.ps[i] <;> simp [hq]
      have hfl : ((f.ps.take i).filter (selP k)).length ≤ i := Nat.le_trans (List.length_filter_le _ _) (by simp; omega)
      have key : ∃ st' u', g21b1101001001 (g21b11010 n) (.int .i64 k) (.ptr c 0) (.lst (intsV (idsP ((f.ps.take i).filter (selP k)))) u) (.int .i64 (i : Nat)) (.bool (selP k f.ps[i])) st = some (.ret (.lst (intsV (idsP (f.ps.filter (selP k)))) u'), st') ∧ Ks st0 st' := by
        unfold g21b1101001001
        cases hq : selP k f.ps[i] with
        | true =>
          rw [hq, if_pos rfl] at htk
          simp only [cond_true, faddr_ptr, Nat.zero_add, l2, iaddr_pk _ hil, (fl4 _).1, (ll4 _ _).1, bslice_int1, elemsOf_ints]
          rw [app_own _ how (by simp [idsP]; omega) (szok_ints _), ← intsV_app]
          obtain ⟨k2, o2⟩ := how.app hk
          simp only [e4]
          have : idsP ((f.ps.take i).filter (selP k)) ++ [(f.ps[i].id : Int)] = idsP ((f.ps.take (i + 1)).filter (selP k)) := by rw [htk]; simp [idsP]
          rw [this]
          exact ih (i + 1) _ _ (by omega) (by omega) k2 o2
        | false =>
          rw [hq] at htk
          simp only [cond_false, e4]
          have : (f.ps.take i).filter (selP k) = (f.ps.take (i + 1)).filter (selP k) := by rw [htk]; simp
          rw [this]
          exact ih (i + 1) u st (by omega) (by omega) hk how
      simp only [show ((i : Int) < (f.ps.length : Int)) from by omega, decide_true, cond_true]
      by_cases hkn : k < 0
      · have : selP k f.ps[i] = true := by unfold selP; simp [hkn]
        rw [this] at key
        simp only [hkn, decide_true, guard_tf]
        exact key
      · have : selP k f.ps[i] = (f.ps[i].to == k) := by unfold selP; simp [hkn]
        rw [this] at key
        simp only [hkn, decide_false, guard_ff, iaddr_pk _ hil, (fl4 _).2.2.1, load_l1', eql_int, Bool.false_eq_true, if_false]
        exact key
    · have : i = f.ps.length := by omega
      subst this
      rw [List.take_length]
      simp only [Int.lt_irrefl, decide_false, cond_false, er1_lst]
      exact ⟨st, u, rfl, hk⟩
theorem rids_s {f : Fd} (h : FOK f) (k : Int) (st : St) : ∃ st' u, s21 [qV f, .int .i64 k] st = some (.ret (.lst (intsV (idsP (f.ps.filter (selP k)))) u), st') ∧ Ks st st' := by
  rw [s21_eq]
  unfold f21
  have hlen := h.len
  have hsm := h.small
  simp only [bxq]
  have k1 := (Ks.refl st).new (.cells (qC f 0))
  obtain ⟨st', u', q1, q2⟩ := rids_loop (k := k) (st0 := st.new (.cells (qC f 0))) (by omega) (by simp) (new_at st (.cells (qC f 0))) big 0 1 _ (by omega) (lt_big (by omega)) (Ks.refl _) (.inl rfl)
  rw [show ((0 : Nat) : Int) = 0 from rfl] at q1
  exact ⟨st', u', q1, k1.trans q2⟩
theorem same_loop {st0 st : St} {v : V} {xs ys zs : List Int} (hv : IL st0 st v xs zs) {u : Nat} (hlen : xs.length = ys.length) (hl : xs.length ≤ 100000) : ∀ (n i : Nat), i ≤ xs.length → xs.length < n + i → xs.take i = ys.take i → 
    g27b11010 n v (.lst (intsV ys) u) (.int .i64 (i : Nat)) st = some (.ret (.bool (decide (xs = ys))), st) := by
  intro n
  induction n with
  | zero => intro i hi hn; omega
  | succ n ih =>
    intro i hi hn ht
    unfold g27b11010
    rw [hv.len]
    simp only [bin_lss]
    by_cases hil : i < xs.length
    · have hiy : i < ys.length := by omega
      have e4 : ∀ K, A.bin .add (.int .i64 (i : Nat)) (.int .i64 1) K = K (.int .i64 ((i + 1 : Nat) : Int)) := fun K => bin_inc (by omega) K
      simp only [show ((i : Int) < (xs.length : Int)) from by omega, decide_true, cond_true]
      rw [hv.at hil]
      simp only [iaddr_ints u hiy, load_l1', eql_int, if_true]
      by_cases he : xs[i] = ys[i]
      · simp only [show (xs[i] != ys[i]) = false by simp [he], cond_false, e4]
        exact ih (i + 1) (by omega) (by omega) (by rw [List.take_add_one, List.take_add_one, List.getElem?_eq_getElem hil, List.getElem?_eq_getElem hiy, ht, he])
      · simp only [show (xs[i] != ys[i]) = true by simp [he], cond_true, er1_bool]
        rw [decide_eq_false (fun g => he (by subst g; rfl))]
    · have : i = xs.length := by omega
      subst this
      have : xs = ys := by
        rw [List.take_length] at ht
        rw [ht, hlen, List.take_length]
      simp only [Int.lt_irrefl, decide_false, cond_false, er1_bool, this, decide_true]
theorem same_s {st0 st : St} {v : V} {xs ys zs : List Int} (hv : IL st0 st v xs zs) (u : Nat) (hl : xs.length ≤ 100000) : s19 [v, .lst (intsV ys) u] st = some (.ret (.bool (decide (xs = ys))), st) := by
  rw [s19_eq]
  unfold f19
  have : s27 [v, .lst (intsV ys) u] st = some (.ret (.bool (decide (xs = ys))), st) := by
    rw [s27_eq]
    unfold f27
    rw [hv.len]
    simp only [lenL_lst, intsV_len, eql_int, if_true]
    by_cases he : xs.length = ys.length
    · simp only [show ((xs.length : Int) != (ys.length : Int)) = false by simp [he], cond_false]
      exact same_loop hv he hl big 0 (by omega) (lt_big (by omega)) rfl
    · have hne : ((xs.length : Int) != (ys.length : Int)) = true := by
        rw [bne_iff_ne]; omega
      simp only [hne, cond_true, er1_bool]
      rw [decide_eq_false (fun g => he (by rw [g]))]
  simp only [hv.er, er1_lst, this, ret_ret, er1_bool]
end Go.Ab
