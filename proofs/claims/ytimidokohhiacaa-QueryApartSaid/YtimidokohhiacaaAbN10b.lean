import Derived.Test.YtimidokohhiacaaAbN10a
/- sinew/query: the walk of Check. -/
namespace Go.Ab
open Go.Proofs Go.RowKit
set_option linter.unusedVariables false
set_option linter.unusedSimpArgs false
set_option maxRecDepth 100000
theorem odd_v (s : List UInt8) (st : St) : s41 [.str s] st = some (.ret (.bool (!isWord s)), st) := by
  rw [s41_eq]
  unfold f41
  rw [er1_str, word_s, ret_ret, un_not]; rfl
theorem idx_vs (vs : List (List UInt8)) (t : Nat) (hl : vs.length ≤ 1000000000) (st : St) : ∀ (n i : Nat), i ≤ vs.length → vs.length < n + i →
    ∃ (r : Int), g75b1010 n (.lst (strsV vs) t) (.fn 41 [] []) (.int .i64 (vs.length : Nat)) (.int .i64 (i : Nat)) st = some (.ret (.int .i64 r), st) ∧ decide (0 ≤ r) = !(vs.drop i).all isWord := by
  intro n
  induction n with
  | zero => intro i hi hn; omega
  | succ n ih =>
    intro i hi hn
    rw [g75b1010]
    simp only [bin_lss]
    by_cases hil : i < vs.length
    · have e4 : ∀ K, A.bin .add (.int .i64 (i : Nat)) (.int .i64 1) K = K (.int .i64 ((i + 1 : Nat) : Int)) := fun K => bin_inc (by omega) K
      have call : ∀ (v : V) (s : St) K, A.call g75T (.fn 41 [] []) [v] s K = A.ret (s41 [v.er1] s) K := fun v s K => rfl
      simp only [show ((i : Int) < (vs.length : Int)) from by omega, decide_true, cond_true, iaddr_strs t hil, load_l1', call, er1_str, odd_v, ret_ret]
      rw [List.drop_eq_getElem_cons hil, List.all_cons]
      cases h : isWord vs[i] with
      | false => exact ⟨i, rfl, by rw [decide_eq_true (by omega)]; rfl⟩
      | true =>
        rw [Bool.not_true, cond_false, e4, Bool.true_and]
        exact ih (i + 1) (by omega) (by omega)
    · have : i = vs.length := by omega
      subst this
      simp only [Int.lt_irrefl, decide_false, cond_false, List.drop_length]
      exact ⟨-1, rfl, rfl⟩
theorem anyodd_v (vs : List (List UInt8)) (t : Nat) (hl : vs.length ≤ 1000000000) (st : St) : s42 [.lst (strsV vs) t, .fn 41 [] []] st = some (.ret (.bool (!vs.all isWord)), st) := by
  rw [s42_eq]
  unfold f42
  rw [er1_lst, show (V.fn 41 [] []).er1 = .fn 41 [] [] from rfl, s75_eq]
  unfold f75
  rw [lenL_lst, strsV_len]
  obtain ⟨r, q, hr⟩ := idx_vs vs t hl st big 0 (by omega) (lt_big (by omega))
  rw [show (.int .i64 0 : V) = .int .i64 ((0 : Nat) : Int) from rfl, q, ret_ret]
  rw [List.drop_zero] at hr
  rw [show (.int .i64 ((0 : Nat) : Int) : V) = .int .i64 0 from rfl, bin_geq, er1_bool, hr]
/-- May an atom be? -/
def okAt (a : AtP) : Bool := isWord a.s.n && (isWord a.o.n && (a.p.fitsP 12 24).isSome)
/-- May a request be? -/
def okAll (r : Rq) : Bool :=
  if r.kind = 2 then r.vars.length + r.atoms.length == 0 && okB r.ch
  else if r.kind = 1 then r.ch.length == 0 && (decide (0 < r.vars.length) && (decide (0 < r.atoms.length) && (decide (r.vars.length ≤ 6) && (decide (r.atoms.length ≤ 6) && (r.vars.all isWord && (r.atoms.all okAt && whyP r == 0))))))
  else false
/-- The atoms one by one. -/
theorem check_loop {c : Nat} {r : Rq} {st0 : St} (hc : c < st0.n) (oc : st0.ob c = some (.cells (rqC r))) (hw : okW r) : ∀ (n i : Nat) (ok : Bool) (st : St), i ≤ r.atoms.length → r.atoms.length < n + i → Ks st0 st →
    ∃ st', g19b111010111011010 n (.ptr c 0) (.bool ok) (.fn 41 [] []) (.lst (r.atoms.map atpV) 0) (.int .i64 (r.atoms.length : Nat)) (.int .i64 (i : Nat)) st = some (.ret (.int .i64 (if (ok && ((r.atoms.drop i).all okAt && whyP r == 0)) = true then 0 else 1)), st') ∧ Ks st0 st' := by
  intro n
  induction n with
  | zero => intro i ok st hi hn; omega
  | succ n ih =>
    intro i ok st hi hn hk
    have kn := hk.n
    rw [g19b111010111011010]
    simp only [bin_lss]
    by_cases hil : i < r.atoms.length
    · have e4 : ∀ K, A.bin .add (.int .i64 (i : Nat)) (.int .i64 1) K = K (.int .i64 ((i + 1 : Nat) : Int)) := fun K => bin_inc (by have := hw.2.1; omega) K
      have ld : ∀ (s : St) K, A.load true 7 (.lptr (atpC r.atoms[i])) s K = K (.agg (atpC r.atoms[i])) s := fun s K => by rw [load_lptrA]; rfl
      simp only [show ((i : Int) < (r.atoms.length : Int)) from by omega, decide_true, cond_true, iaddr_atp 0 hil, ld, bx_atp]
      rw [sv_all 7 _ (new_at _ _) rfl rfl rfl]
      have k2 : Ks st0 ((st.new (.cells [(.bool false), (.str []), (.int .i64 0), (.str []), (.lst [] 1), (.bool false), (.str [])])).put st.n (.cells (atpC r.atoms[i]))) := (hk.new _).put hk.n _
      have o2 := put_at (st.new (.cells [(.bool false), (.str []), (.int .i64 0), (.str []), (.lst [] 1), (.bool false), (.str [])])) st.n (.cells (atpC r.atoms[i]))
      have n2 : ((st.new (.cells [(.bool false), (.str []), (.int .i64 0), (.str []), (.lst [] 1), (.bool false), (.str [])])).put st.n (.cells (atpC r.atoms[i]))).n = st.n + 1 := by simp
      generalize (st.new (.cells [(.bool false), (.str []), (.int .i64 0), (.str []), (.lst [] 1), (.bool false), (.str [])])).put st.n (.cells (atpC r.atoms[i])) = s2 at k2 o2 n2 ⊢
      have bx1 : ∀ K : V → St → Res, A.box (.int .i64 0) s2 K = K (.ptr s2.n 0) (s2.new (.cells [.int .i64 0])) := fun K => rfl
      have so1 : ∀ K : St → Res, A.store 1 (.ptr s2.n 0) (.int .i64 24) (s2.new (.cells [.int .i64 0])) K = K ((s2.new (.cells [.int .i64 0])).put s2.n (.cells [.int .i64 24])) := fun K => by rw [store_ob _ _ _ _ _ rfl, new_at]; rfl
      rw [bx1, so1]
      have k3 : Ks st0 ((s2.new (.cells [.int .i64 0])).put s2.n (.cells [.int .i64 24])) := (k2.new _).put (by omega) _
      have o3 : ((s2.new (.cells [.int .i64 0])).put s2.n (.cells [.int .i64 24])).ob st.n = _ := (put_ne _ _ (by omega)).trans ((new_ne _ _ (by omega)).trans o2)
      have q3 := put_at (s2.new (.cells [.int .i64 0])) s2.n (.cells [.int .i64 24])
      have n3 : ((s2.new (.cells [.int .i64 0])).put s2.n (.cells [.int .i64 24])).n = s2.n + 1 := by simp
      generalize (s2.new (.cells [.int .i64 0])).put s2.n (.cells [.int .i64 24]) = s3 at k3 o3 q3 n3 ⊢
      have w1 : ∀ K : V → St → Res, A.load false 1 (.ptr st.n 1) s3 K = K (.str r.atoms[i].s.n) s3 := fun K => by rw [load_ob, o3]; rfl
      have w6 : ∀ K : V → St → Res, A.load false 1 (.ptr st.n 6) s3 K = K (.str r.atoms[i].o.n) s3 := fun K => by rw [load_ob, o3]; rfl
      have w2 : ∀ K : V → St → Res, A.load true 3 (.ptr st.n 2) s3 K = K (r.atoms[i].p).v s3 := fun K => by rw [load_obA, o3, pth_c]; rfl
      have call : ∀ (v : V) (s : St) K, A.call g19T (.fn 41 [] []) [v] s K = A.ret (s41 [v.er1] s) K := fun v s K => rfl
      obtain ⟨b1, b2, b3⟩ := hw.2.2.2 r.atoms[i] (List.getElem_mem hil)
      have hd : ((r.atoms.drop i).all okAt) = (okAt r.atoms[i] && (r.atoms.drop (i + 1)).all okAt) := by rw [List.drop_eq_getElem_cons hil, List.all_cons]
      rw [hd]
      have t18 : ∀ v : Bool, ∃ st', g19b1110101110110100110011_18 (g19b111010111011010 n) (.ptr c 0) (.fn 41 [] []) (.ptr st.n 0) (.ptr s2.n 0) (.lst (r.atoms.map atpV) 0) (.int .i64 (r.atoms.length : Nat)) (.int .i64 (i : Nat)) (.bool v) s3 = some (.ret (.int .i64 (if ((v && (r.atoms[i].p.fitsP 12 24).isSome) && ((r.atoms.drop (i + 1)).all okAt && whyP r == 0)) = true then 0 else 1)), st') ∧ Ks st0 st' := fun v => by
        unfold g19b1110101110110100110011_18
        cases v with
        | false =>
          rw [guard_ft, e4]
          obtain ⟨st', r1, r2⟩ := ih (i + 1) false s3 (by omega) (by omega) k3
          exact ⟨st', r1, r2⟩
        | true =>
          rw [guard_tt, faddr_ptr, Nat.zero_add, w2, pth_er, er1_int, er1_ptr]
          obtain ⟨s4, y, q4, k4, o4, _⟩ := fits_s r.atoms[i].p s2.n 12 (by omega) 24 s3 b3 (by omega) (by omega) q3 (by omega)
          rw [show (.int .i64 12 : V) = .int .i64 ((12 : Nat) : Int) from rfl, q4, ret_ret, e4]
          have k34 : Ks st0 s4 := ⟨fun j hj => (k4.ob j (by omega) (by omega)).trans (k3.ob j hj), by have := k4.n; omega, Nat.le_trans k3.nt k4.nt, fun t ht => (k4.tk t (Nat.lt_of_lt_of_le ht k3.nt)).trans (k3.tk t ht)⟩
          obtain ⟨st', r1, r2⟩ := ih (i + 1) (r.atoms[i].p.fitsP 12 24).isSome s4 (by omega) (by omega) k34
          exact ⟨st', r1, r2⟩
      have t10 : ∀ v : Bool, ∃ st', g19b1110101110110100110011_10 (g19b111010111011010 n) (.ptr c 0) (.fn 41 [] []) (.ptr st.n 0) (.ptr s2.n 0) (.lst (r.atoms.map atpV) 0) (.int .i64 (r.atoms.length : Nat)) (.int .i64 (i : Nat)) (.bool v) s3 = some (.ret (.int .i64 (if ((v && (isWord r.atoms[i].o.n && (r.atoms[i].p.fitsP 12 24).isSome)) && ((r.atoms.drop (i + 1)).all okAt && whyP r == 0)) = true then 0 else 1)), st') ∧ Ks st0 st' := fun v => by
        unfold g19b1110101110110100110011_10
        cases v with
        | false => rw [guard_ft]; exact t18 false
        | true =>
          rw [guard_tt]
          simp only [faddr_ptr, Nat.zero_add, w6, call, er1_str, odd_v, ret_ret, un_not, Bool.not_not, Bool.true_and]
          exact t18 _
      cases ok with
      | false => rw [guard_ft]; exact t10 false
      | true =>
        rw [guard_tt]
        simp only [faddr_ptr, Nat.zero_add, w1, call, er1_str, odd_v, ret_ret, un_not, Bool.not_not, Bool.true_and]
        obtain ⟨st', r1, r2⟩ := t10 (isWord r.atoms[i].s.n)
        refine ⟨st', ?_, r2⟩
        rw [r1, Bool.and_assoc (okAt r.atoms[i])]; rfl
    · have : i = r.atoms.length := by omega
      subst this
      simp only [Int.lt_irrefl, decide_false, cond_false, List.drop_length, List.all_nil, Bool.true_and]
      have o := (hk.ob c hc).trans oc
      cases ok with
      | false => rw [guard_ft]; exact ⟨st, rfl, hk⟩
      | true =>
        have ld : ∀ K : V → St → Res, A.load true 4 (.ptr c 0) st K = K (rqV r) st := fun K => by rw [load_obA, o]; rfl
        rw [guard_tt, ld, show (rqV r).er1 = rqV r from rfl, why_s hw, ret_ret, eql_int, if_neg Bool.false_ne_true]
        unfold g19b1111
        cases h : (whyP r == 0) with
        | true => exact ⟨st, rfl, hk⟩
        | false => exact ⟨st, rfl, hk⟩
theorem check_s {r : Rq} (hw : okW r) (st : St) : s19 [rqV r] st = some (.ret (.int .i64 (if okAll r = true then 0 else 1)), st) := by
  rw [s19_eq]
  have main : ∃ st', f19 (rqV r) st = some (.ret (.int .i64 (if okAll r = true then 0 else 1)), st') ∧ Ks st st' := by
    unfold f19
    have bx : ∀ K : V → St → Res, A.box (rqV r) st K = K (.ptr st.n 0) (st.new (.cells (rqC r))) := fun K => rfl
    rw [bx]
    have o1 := new_at st (.cells (rqC r))
    have k1 : Ks st (st.new (.cells (rqC r))) := (Ks.refl st).new _
    have n1 : (st.new (.cells (rqC r))).n = st.n + 1 := rfl
    generalize st.new (.cells (rqC r)) = s1 at o1 k1 n1 ⊢
    have ld2 : ∀ K : V → St → Res, A.load true 2 (.ptr st.n 1) s1 K = K (.agg (qC r.vars 0 r.atoms 0)) s1 := fun K => by rw [load_obA, o1]; rfl
    have bx2 : ∀ K : V → St → Res, A.box (.agg [(.lst [] 1), (.lst [] 1)]) s1 K = K (.ptr s1.n 0) (s1.new (.cells [.lst [] 1, .lst [] 1])) := fun K => rfl
    rw [faddr_ptr, Nat.zero_add, ld2, bx2, sv_all 2 _ (new_at _ _) rfl rfl rfl]
    have k2 : Ks st ((s1.new (.cells [.lst [] 1, .lst [] 1])).put s1.n (.cells (qC r.vars 0 r.atoms 0))) := (k1.new _).put (by omega) _
    have o2 := put_at (s1.new (.cells [.lst [] 1, .lst [] 1])) s1.n (.cells (qC r.vars 0 r.atoms 0))
    have o12 : ((s1.new (.cells [.lst [] 1, .lst [] 1])).put s1.n (.cells (qC r.vars 0 r.atoms 0))).ob st.n = some (.cells (rqC r)) := by rw [put_ne _ _ (by omega), new_ne _ _ (by omega)]; exact o1
    have n2 : ((s1.new (.cells [.lst [] 1, .lst [] 1])).put s1.n (.cells (qC r.vars 0 r.atoms 0))).n = s1.n + 1 := by simp
    generalize (s1.new (.cells [.lst [] 1, .lst [] 1])).put s1.n (.cells (qC r.vars 0 r.atoms 0)) = s2 at k2 o2 o12 n2 ⊢
    obtain ⟨w0, _, _, w3⟩ := rq_load o12
    have y0 : ∀ K : V → St → Res, A.load false 1 (.ptr s1.n 0) s2 K = K (.lst (strsV r.vars) 0) s2 := fun K => by rw [load_ob, o2]; rfl
    have y1 : ∀ K : V → St → Res, A.load false 1 (.ptr s1.n 1) s2 K = K (.lst (r.atoms.map atpV) 0) s2 := fun K => by rw [load_ob, o2]; rfl
    simp only [faddr_ptr, Nat.zero_add, w0, eql_int, Bool.false_eq_true, if_false]
    unfold g19b1110101
    obtain ⟨hv, ha, hch, _⟩ := hw
    have hw' : okW r := ⟨hv, ha, hch, by assumption⟩
    have no : ∀ {s : St}, Ks st s → ∃ st', g19b1111 (.bool false) s = some (.ret (.int .i64 1), st') ∧ Ks st st' := fun {s} k => ⟨s, rfl, k⟩
    unfold okAll
    by_cases hk2 : r.kind = 2
    · rw [show (r.kind == 2) = true from by rw [hk2]; rfl, cond_true, if_pos hk2]
      simp only [faddr_ptr, Nat.zero_add, y0, y1, lenL_lst, List.length_map, strsV_len]
      rw [bin_addN r.vars.length r.atoms.length _ (by omega)]
      simp only [eql_int, Bool.false_eq_true, if_false]
      have e0 : (((r.vars.length + r.atoms.length : Nat) : Int) == 0) = (r.vars.length + r.atoms.length == 0) := by
        cases hz : (r.vars.length + r.atoms.length == 0) with
        | true => rw [beq_iff_eq] at hz ⊢; omega
        | false => rw [beq_eq_false_iff_ne] at hz ⊢; omega
      rw [e0]
      unfold g19b111010101_9
      cases hz : (r.vars.length + r.atoms.length == 0) with
      | false =>
        rw [guard_ft]
        unfold g19b111010101_15
        rw [guard_ft]
        unfold g19b111010101_21
        rw [guard_ft]
        exact no k2
      | true =>
        rw [guard_tt]
        simp only [faddr_ptr, Nat.zero_add, w3, lenL_lst, List.length_map, bin_gtr, Bool.true_and]
        unfold g19b111010101_15 okB
        by_cases h1 : 0 < r.ch.length
        case neg =>
          rw [decide_eq_false (show ¬ ((0 : Int) < (r.ch.length : Int)) by omega), guard_ft, decide_eq_false h1]
          unfold g19b111010101_21
          rw [guard_ft]
          exact no k2
        rw [decide_eq_true (show ((0 : Int) < (r.ch.length : Int)) by omega), guard_tt, decide_eq_true h1, Bool.true_and]
        simp only [faddr_ptr, Nat.zero_add, w3, lenL_lst, List.length_map, bin_leq]
        unfold g19b111010101_21
        by_cases h2 : r.ch.length ≤ 64
        case neg =>
          rw [decide_eq_false (show ¬ ((r.ch.length : Int) ≤ 64) by omega), guard_ft, decide_eq_false h2]
          exact no k2
        rw [decide_eq_true (show ((r.ch.length : Int) ≤ 64) by omega), guard_tt, decide_eq_true h2, Bool.true_and]
        obtain ⟨s3, q3, k3⟩ := anyodd_ch r.ch 0 (by omega) s2
        simp only [faddr_ptr, Nat.zero_add, w3, er1_lst, er1_fn, q3, ret_ret, un_not, Bool.not_not]
        unfold g19b1111
        cases h3 : r.ch.all okCh with
        | true => exact ⟨s3, rfl, k2.trans k3⟩
        | false => exact ⟨s3, rfl, k2.trans k3⟩
    · rw [show (r.kind == 2) = false from beq_eq_false_iff_ne.2 hk2, cond_false, if_neg hk2, eql_int, if_neg Bool.false_ne_true]
      by_cases hk1 : r.kind = 1
      case neg =>
        rw [show (r.kind == 1) = false from beq_eq_false_iff_ne.2 hk1, cond_false, if_neg hk1]
        exact no k2
      rw [show (r.kind == 1) = true from by rw [hk1]; rfl, cond_true, if_pos hk1]
      simp only [faddr_ptr, Nat.zero_add, w3, lenL_lst, List.length_map, eql_int, Bool.false_eq_true, if_false]
      have e0 : ((r.ch.length : Int) == 0) = (r.ch.length == 0) := by
        cases hz : (r.ch.length == 0) with
        | true => rw [beq_iff_eq] at hz ⊢; omega
        | false => rw [beq_eq_false_iff_ne] at hz ⊢; omega
      rw [e0]
      have edg : ∀ a b : Nat, decide ((a : Int) < (b : Int)) = decide (a < b) := fun a b => by by_cases h : a < b; rw [decide_eq_true h, decide_eq_true (by omega)]; rw [decide_eq_false h, decide_eq_false (by omega)]
      have edl : ∀ a b : Nat, decide ((a : Int) ≤ (b : Int)) = decide (a ≤ b) := fun a b => by by_cases h : a ≤ b; rw [decide_eq_true h, decide_eq_true (by omega)]; rw [decide_eq_false h, decide_eq_false (by omega)]
      -- from the end
      have t0 : ∀ ok : Bool, ∃ st', g19b111010111011 (.ptr st.n 0) (.bool ok) (.ptr s1.n 0) (.fn 41 [] []) s2 = some (.ret (.int .i64 (if (ok && (r.atoms.all okAt && whyP r == 0)) = true then 0 else 1)), st') ∧ Ks st st' := fun ok => by
        unfold g19b111010111011
        simp only [faddr_ptr, Nat.zero_add, y1, lenL_lst, List.length_map]
        obtain ⟨st', r1, r2⟩ := check_loop (st0 := s2) (by omega) o12 hw' big 0 ok s2 (by omega) (lt_big (by omega)) (Ks.refl s2)
        rw [List.drop_zero] at r1
        exact ⟨st', r1, k2.trans r2⟩
      have t29 : ∀ v : Bool, ∃ st', g19b111010111010_29 (.ptr st.n 0) (.ptr s1.n 0) (.fn 41 [] []) (.bool v) s2 = some (.ret (.int .i64 (if (v && (r.vars.all isWord && (r.atoms.all okAt && whyP r == 0))) = true then 0 else 1)), st') ∧ Ks st st' := fun v => by
        unfold g19b111010111010_29
        cases v with
        | false => rw [guard_ft]; exact t0 false
        | true =>
          rw [guard_tt]
          simp only [faddr_ptr, Nat.zero_add, y0, er1_lst, er1_fn, anyodd_v r.vars 0 (by omega) s2, ret_ret, un_not, Bool.not_not, Bool.true_and]
          exact t0 _
      have t23 : ∀ v : Bool, ∃ st', g19b111010111010_23 (.ptr st.n 0) (.ptr s1.n 0) (.fn 41 [] []) (.bool v) s2 = some (.ret (.int .i64 (if (v && (decide (r.atoms.length ≤ 6) && (r.vars.all isWord && (r.atoms.all okAt && whyP r == 0)))) = true then 0 else 1)), st') ∧ Ks st st' := fun v => by
        unfold g19b111010111010_23
        cases v with
        | false => rw [guard_ft]; exact t29 false
        | true =>
          rw [guard_tt]
          simp only [faddr_ptr, Nat.zero_add, y1, lenL_lst, List.length_map, bin_leq, Bool.true_and]
          have := t29 (decide (r.atoms.length ≤ 6))
          rw [← edl r.atoms.length 6] at this ⊢
          exact this
      have t17 : ∀ v : Bool, ∃ st', g19b111010111010_17 (.ptr st.n 0) (.ptr s1.n 0) (.fn 41 [] []) (.bool v) s2 = some (.ret (.int .i64 (if (v && (decide (r.vars.length ≤ 6) && (decide (r.atoms.length ≤ 6) && (r.vars.all isWord && (r.atoms.all okAt && whyP r == 0))))) = true then 0 else 1)), st') ∧ Ks st st' := fun v => by
        unfold g19b111010111010_17
        cases v with
        | false => rw [guard_ft]; exact t23 false
        | true =>
          rw [guard_tt]
          simp only [faddr_ptr, Nat.zero_add, y0, lenL_lst, strsV_len, bin_leq, Bool.true_and]
          have := t23 (decide (r.vars.length ≤ 6))
          rw [← edl r.vars.length 6] at this ⊢
          exact this
      have t11 : ∀ v : Bool, ∃ st', g19b111010111010_11 (.ptr st.n 0) (.ptr s1.n 0) (.fn 41 [] []) (.bool v) s2 = some (.ret (.int .i64 (if (v && (decide (0 < r.atoms.length) && (decide (r.vars.length ≤ 6) && (decide (r.atoms.length ≤ 6) && (r.vars.all isWord && (r.atoms.all okAt && whyP r == 0)))))) = true then 0 else 1)), st') ∧ Ks st st' := fun v => by
        unfold g19b111010111010_11
        cases v with
        | false => rw [guard_ft]; exact t17 false
        | true =>
          rw [guard_tt]
          simp only [faddr_ptr, Nat.zero_add, y1, lenL_lst, List.length_map, bin_gtr, Bool.true_and]
          have := t17 (decide (0 < r.atoms.length))
          rw [← edg 0 r.atoms.length] at this ⊢
          exact this
      cases hz : (r.ch.length == 0) with
      | false => rw [guard_ft]; exact t11 false
      | true =>
        rw [guard_tt]
        simp only [faddr_ptr, Nat.zero_add, y0, lenL_lst, strsV_len, bin_gtr, Bool.true_and]
        have := t11 (decide (0 < r.vars.length))
        rw [← edg 0 r.vars.length] at this ⊢
        exact this
  obtain ⟨st', q1, q2⟩ := main
  exact fg_of q1 q2 rfl
end Go.Ab
