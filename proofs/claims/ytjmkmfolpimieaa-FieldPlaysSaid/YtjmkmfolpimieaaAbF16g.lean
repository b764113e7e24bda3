import Derived.Test.YtjmkmfolpimieaaAbF16f
/- sinew/sinewref16: what the document says of a field. -/
namespace Go.Ab
open Go.Proofs Go.RowKit
set_option linter.unusedVariables false
set_option linter.unusedSimpArgs false
set_option maxRecDepth 100000
def pksV (ps : List Pk) : List V := ps.map fun p => .agg (pkC p)
theorem pksV_len (ps : List Pk) : (pksV ps).length = ps.length := by simp [pksV]
theorem pksV_app (ps qs : List Pk) : pksV (ps ++ qs) = pksV ps ++ pksV qs := by simp [pksV]
theorem szok_pks (ps : List Pk) : szok 4 (pksV ps) = true := szok_of (by intro v hv; obtain ⟨p, _, rfl⟩ := List.mem_map.1 hv; rfl)
def qC (f : Fd) (t : Nat) : List V := [.int .i64 f.nodes, .int .i64 (f.last : Nat), .lst (pksV f.ps) t]
def qV (f : Fd) : V := .agg (qC f 0)
def f00 : Fd := ⟨0, 0, []⟩
theorem er3 (f : Fd) (t : Nat) : (V.agg (qC f t)).er1 = qV f := rfl
theorem er3q (f : Fd) : (qV f).er1 = qV f := rfl
theorem bx3 (st : St) (K : V → St → Res) : A.box (.agg [(.int .i64 0), (.int .i64 0), (.lst [] 1)]) st K = K (.ptr st.n 0) (st.new (.cells (qC f00 1))) := rfl
theorem bxq (f : Fd) (st : St) (K : V → St → Res) : A.box (qV f) st K = K (.ptr st.n 0) (st.new (.cells (qC f 0))) := rfl
theorem sv3 {st : St} {i t : Nat} {f : Fd} (g : Fd) (u : Nat) (h : st.ob i = some (.cells (qC f t))) (K : St → Res) : A.store 3 (.ptr i 0) (.agg (qC g u)) st K = K (st.put i (.cells (qC g u))) := by
  rw [store_agg, h, obo_some, if_pos ⟨rfl, by simp [qC], rfl⟩]; rfl
theorem sv3q {st : St} {i t : Nat} {f : Fd} (g : Fd) (h : st.ob i = some (.cells (qC f t))) (K : St → Res) : A.store 3 (.ptr i 0) (qV g) st K = K (st.put i (.cells (qC g 0))) := sv3 g 0 h K
theorem ld3 {st : St} {i t : Nat} {f : Fd} (h : st.ob i = some (.cells (qC f t))) (K : V → St → Res) : A.load true 3 (.ptr i 0) st K = K (.agg (qC f t)) st := by
  rw [load_obA, h]; rfl
theorem ld3f {st : St} {i t : Nat} {f : Fd} (h : st.ob i = some (.cells (qC f t))) : (∀ K : V → St → Res, A.load false 1 (.ptr i 0) st K = K (.int .i64 f.nodes) st) ∧ (∀ K : V → St → Res, A.load false 1 (.ptr i 1) st K = K (.int .i64 (f.last : Nat)) st) ∧ (∀ K : V → St → Res, A.load false 1 (.ptr i 2) st K = K (.lst (pksV f.ps) t) st) :=
  ⟨fun K => by simp [h, qC], fun K => by simp [h, qC], fun K => by simp [h, qC]⟩
theorem iaddr_pk {ps : List Pk} {i : Nat} (t : Nat) (h : i < ps.length) (K : V → Res) : A.iaddr 4 (.lst (pksV ps) t) (.int .i64 (i : Nat)) K = K (.lptr (pkC ps[i])) :=
  iaddr_lst (v := .agg (pkC ps[i])) K (by simp [pksV, h]) rfl
theorem fl4 (p : Pk) : (∀ K, A.faddr 0 (.lptr (pkC p)) K = K (.lptr (pkC p))) ∧ (∀ K, A.faddr 1 (.lptr (pkC p)) K = K (.lptr [.int .i64 p.fr, .int .i64 p.to, .str p.bs])) ∧ (∀ K, A.faddr 2 (.lptr (pkC p)) K = K (.lptr [.int .i64 p.to, .str p.bs])) ∧ (∀ K, A.faddr 3 (.lptr (pkC p)) K = K (.lptr [.str p.bs])) := ⟨fun K => rfl, fun K => rfl, fun K => rfl, fun K => rfl⟩
theorem ll4 (p : Pk) (st : St) : (∀ K : V → St → Res, A.load false 1 (.lptr (pkC p)) st K = K (.int .i64 (p.id : Nat)) st) ∧ (∀ K : V → St → Res, A.load true 4 (.lptr (pkC p)) st K = K (.agg (pkC p)) st) := ⟨fun K => rfl, fun K => by rw [load_lptrA]; rfl⟩
theorem rnew_s (n : Int) (st : St) : ∃ st', s14 [.int .i64 n] st = some (.ret (.tup [qV (if 1 ≤ n ∧ n ≤ 65 then ⟨n, 0, []⟩ else f00), .int .i64 (if 1 ≤ n ∧ n ≤ 65 then 0 else 1)]), st') ∧ Ks st st' := by
  rw [s14_eq]
  unfold f14
  simp only [bx3, bin_lss]
  have o := new_at st (.cells (qC f00 1))
  have k := (Ks.refl st).new (.cells (qC f00 1))
  have bu0 : ∀ K, A.build [(.int .i64 0), (.int .i64 0), (.lst [] 1)] [] K = K (.agg (qC f00 1)) := fun K => rfl
  by_cases h0 : n < 1
  · rw [if_neg (by omega), if_neg (by omega)]
    simp only [h0, decide_true, guard_tf, bu0, sv3 _ _ o, ld3 (put_at _ _ _), kid_eq, rtmp_some, rcell_some, res_two, er3, er1_int]
    exact ⟨_, rfl, k.put (Nat.le_refl _) _⟩
  · simp only [h0, decide_false, guard_ff, bin_gtr]
    by_cases h1 : 65 < n
    · rw [if_neg (by omega), if_neg (by omega)]
      simp only [h1, decide_true, cond_true, bu0, sv3 _ _ o, ld3 (put_at _ _ _), kid_eq, rtmp_some, rcell_some, res_two, er3, er1_int]
      exact ⟨_, rfl, k.put (Nat.le_refl _) _⟩
    · rw [if_pos (by omega), if_pos (by omega)]
      have bu1 : ∀ K, A.build [(.int .i64 0), (.int .i64 0), (.lst [] 1)] [(0, 1, .int .i64 n)] K = K (.agg (qC ⟨n, 0, []⟩ 1)) := fun K => rfl
      simp only [h1, decide_false, cond_false, bu1, sv3 _ _ o, ld3 (put_at _ _ _), kid_eq, rtmp_some, rcell_some, res_two, er3, er1_int]
      exact ⟨_, rfl, k.put (Nat.le_refl _) _⟩
theorem rsend_s {f : Fd} (h : FOK f) (hl : f.last ≤ 9999) (a b : Int) (s : List UInt8) (st : St) :
    ∃ st', s15 [qV f, .int .i64 a, .int .i64 b, .str s] st = some (.ret (.tup [qV (sendF f a b s).1, .int .i64 ((sendF f a b s).2.1 : Nat), .int .i64 (sendF f a b s).2.2]), st') ∧ Ks st st' := by
  rw [s15_eq]
  unfold f15
  simp only [bxq, bx3, new_n]
  have k1 := (Ks.refl st).new (.cells (qC f 0))
  have k2 := k1.new (.cells (qC f00 1))
  have o2 : ((st.new (.cells (qC f 0))).new (.cells (qC f00 1))).ob (st.n + 1) = some (.cells (qC f00 1)) := by
    have := new_at (st.new (.cells (qC f 0))) (.cells (qC f00 1)); simpa using this
  have o1 : ((st.new (.cells (qC f 0))).new (.cells (qC f00 1))).ob st.n = some (.cells (qC f 0)) := by
    rw [new_ne _ _ (by simp)]; exact new_at _ _
  generalize (st.new (.cells (qC f 0))).new (.cells (qC f00 1)) = st2 at k2 o1 o2 ⊢
  obtain ⟨l0, l1, l2⟩ := ld3f o1
  have hlen := h.len
  have bad : sendF f a b s = (f, 0, 1) → ∃ st', (A.load true 3 (.ptr st.n 0) st2 fun a1 z2 => A.store 3 (.ptr (st.n + 1) 0) a1 z2 fun z3 => A.res (rcell (A.load true 3 (.ptr (st.n + 1) 0) z3 kid) (rtmp (.int .i64 0) (rtmp (.int .i64 1) (some [])))) z3) = some (.ret (.tup [qV (sendF f a b s).1, .int .i64 ((sendF f a b s).2.1 : Nat), .int .i64 (sendF f a b s).2.2]), st') ∧ Ks st st' := fun e => by
    rw [e]
    simp only [ld3 o1, sv3 _ _ o2, ld3 (put_at _ _ _), kid_eq, rtmp_some, rcell_some, res_two, er3, er1_int]
    exact ⟨_, rfl, k2.put (by omega) _⟩
  simp only [bin_lss]
  by_cases ha0 : a < 0
  · simp only [ha0, decide_true, guard_tf]
    unfold g15b100_9; simp only [guard_tf]
    unfold g15b100_19; simp only [guard_tf]
    unfold g15b101; simp only [cond_true]
    exact bad (by unfold sendF okS; rw [if_neg (by simp; omega)])
  simp only [ha0, decide_false, guard_ff, faddr_ptr, Nat.zero_add, l0, bin_geq]
  by_cases ha1 : f.nodes ≤ a
  · simp only [ha1, decide_true]
    unfold g15b100_9; simp only [guard_tf]
    unfold g15b100_19; simp only [guard_tf]
    unfold g15b101; simp only [cond_true]
    exact bad (by unfold sendF okS; rw [if_neg (by simp; omega)])
  simp only [ha1, decide_false]
  unfold g15b100_9
  simp only [guard_ff, bin_lss]
  by_cases hb0 : b < 0
  · simp only [hb0, decide_true, guard_tf]
    unfold g15b100_19; simp only [guard_tf]
    unfold g15b101; simp only [cond_true]
    exact bad (by unfold sendF okS; rw [if_neg (by simp; omega)])
  simp only [hb0, decide_false, guard_ff, faddr_ptr, Nat.zero_add, l0, bin_geq]
  by_cases hb1 : f.nodes ≤ b
  · simp only [hb1, decide_true]
    unfold g15b100_19; simp only [guard_tf]
    unfold g15b101; simp only [cond_true]
    exact bad (by unfold sendF okS; rw [if_neg (by simp; omega)])
  simp only [hb1, decide_false]
  unfold g15b100_19
  simp only [guard_ff, lenS_str, bin_gtr]
  unfold g15b101
  by_cases hs : s.length ≤ 1048640
  · have hok : okS f a b s = true := by unfold okS; simp only [Bool.and_eq_true, decide_eq_true_eq]; omega
    rw [sendF_ok hok]
    simp only [show ¬ ((1048640 : Int) < (s.length : Int)) from by omega, decide_false, cond_false]
    unfold g15b11
    simp only [faddr_ptr, Nat.zero_add, l2, lenL_lst, pksV_len, bin_geq, show ¬ ((16384 : Int) ≤ (f.ps.length : Int)) from by omega, decide_false, cond_false]
    unfold g15b111
    have e1 : ∀ K, A.bin .add (.int .i64 (f.last : Nat)) (.int .i64 1) K = K (.int .i64 ((f.last + 1 : Nat) : Int)) := fun K => bin_inc (by omega) K
    have sl : ∀ K, A.store 1 (.ptr st.n 1) (.int .i64 ((f.last + 1 : Nat) : Int)) st2 K = K (st2.put st.n (.cells (qC ⟨f.nodes, f.last + 1, f.ps⟩ 0))) := fun K => by
      rw [store_int, o1]; rfl
    simp only [faddr_ptr, Nat.zero_add, l1, e1, sl]
    have k3 := k2.put (Nat.le_refl _) (.cells (qC ⟨f.nodes, f.last + 1, f.ps⟩ 0))
    have p1 := put_at st2 st.n (.cells (qC ⟨f.nodes, f.last + 1, f.ps⟩ 0))
    have p2 : (st2.put st.n (.cells (qC ⟨f.nodes, f.last + 1, f.ps⟩ 0))).ob (st.n + 1) = some (.cells (qC f00 1)) := by rw [put_ne _ _ (by omega)]; exact o2
    generalize st2.put st.n (.cells (qC ⟨f.nodes, f.last + 1, f.ps⟩ 0)) = st3 at k3 p1 p2 ⊢
    obtain ⟨m0, m1, m2⟩ := ld3f p1
    simp only [m2, elemsOf_lst _ _ _ _ (szok_pks _)]
    rw [app_own _ (.nil st st3 4) (by simp [pksV_len]; omega) rfl]
    obtain ⟨k4, ow⟩ := (Own.nil st st3 4).app k3
    have p1' : (appSt st3 1 4).ob st.n = some (.cells (qC ⟨f.nodes, f.last + 1, f.ps⟩ 0)) := by rw [appSt_ob]; exact p1
    have p2' : (appSt st3 1 4).ob (st.n + 1) = some (.cells (qC f00 1)) := by rw [appSt_ob]; exact p2
    rw [List.nil_append]
    generalize hu : st3.nt + 3 = u at ow
    generalize appSt st3 1 4 = st4 at k4 ow p1' p2' ⊢
    unfold g15b111111
    obtain ⟨m0, m1, m2⟩ := ld3f p1'
    have bu : ∀ K, A.build [(.int .i64 0), (.int .i64 0), (.int .i64 0), (.str [])] [(0, 1, .int .i64 ((f.last + 1 : Nat) : Int)), (1, 1, .int .i64 a), (2, 1, .int .i64 b), (3, 1, .str s)] K = K (.agg (pkC ⟨f.last + 1, a, b, s⟩)) := fun K => rfl
    have bs : ∀ (p : Pk) K, A.bslice 4 (.agg [(.int .i64 0), (.int .i64 0), (.int .i64 0), (.str [])]) 1 [(0, .agg (pkC p))] K = K (.lst (pksV [p]) 2) := fun p K => rfl
    simp only [faddr_ptr, Nat.zero_add, m1, bu, bs, elemsOf_lst _ _ _ _ (szok_pks _)]
    rw [app_own _ ow (by simp [pksV_len]; omega) (szok_pks _), ← pksV_app]
    obtain ⟨k5, ow5⟩ := ow.app k4
    have p1'' : (appSt st4 u 4).ob st.n = some (.cells (qC ⟨f.nodes, f.last + 1, f.ps⟩ 0)) := by rw [appSt_ob]; exact p1'
    have p2'' : (appSt st4 u 4).ob (st.n + 1) = some (.cells (qC f00 1)) := by rw [appSt_ob]; exact p2'
    generalize hu5 : st4.nt + 3 = u5 at ow5
    generalize appSt st4 u 4 = st5 at k5 ow5 p1'' p2'' ⊢
    have sw : ∀ K, A.store 1 (.ptr st.n 2) (.lst (pksV (f.ps ++ [⟨f.last + 1, a, b, s⟩])) u5) st5 K = K (st5.put st.n (.cells (qC ⟨f.nodes, f.last + 1, f.ps ++ [⟨f.last + 1, a, b, s⟩]⟩ u5))) := fun K => by
      rw [store_lst, p1'']; rfl
    simp only [faddr_ptr, Nat.zero_add, sw]
    have k6 := k5.put (Nat.le_refl _) (.cells (qC ⟨f.nodes, f.last + 1, f.ps ++ [⟨f.last + 1, a, b, s⟩]⟩ u5))
    have r1 := put_at st5 st.n (.cells (qC ⟨f.nodes, f.last + 1, f.ps ++ [⟨f.last + 1, a, b, s⟩]⟩ u5))
    have r2 : (st5.put st.n (.cells (qC ⟨f.nodes, f.last + 1, f.ps ++ [⟨f.last + 1, a, b, s⟩]⟩ u5))).ob (st.n + 1) = some (.cells (qC f00 1)) := by rw [put_ne _ _ (by omega)]; exact p2''
    generalize st5.put st.n (.cells (qC ⟨f.nodes, f.last + 1, f.ps ++ [⟨f.last + 1, a, b, s⟩]⟩ u5)) = st6 at k6 r1 r2 ⊢
    unfold g15b1111111
    obtain ⟨m0, m1, m2⟩ := ld3f r1
    have r3 : (st6.put (st.n + 1) (.cells (qC ⟨f.nodes, f.last + 1, f.ps ++ [⟨f.last + 1, a, b, s⟩]⟩ u5))).ob st.n = some (.cells (qC ⟨f.nodes, f.last + 1, f.ps ++ [⟨f.last + 1, a, b, s⟩]⟩ u5)) := by rw [put_ne _ _ (by omega)]; exact r1
    obtain ⟨n0, n1, n2⟩ := ld3f r3
    have c : ldv false 1 (.ptr st.n 1) (st6.put (st.n + 1) (.cells (qC ⟨f.nodes, f.last + 1, f.ps ++ [⟨f.last + 1, a, b, s⟩]⟩ u5))) = some (.int .i64 ((f.last + 1 : Nat) : Int)) := by unfold ldv; rw [n1]; rfl
    simp only [ld3 r1, faddr_ptr, Nat.zero_add, m1, sv3 _ _ r2, kid_eq, noP_ret, c, chk_same, ld3 (put_at _ _ _), rtmp_some, rcell_some, res_two, er3, er1_int]
    exact ⟨_, rfl, k6.put (by omega) _⟩
  · simp only [show (1048640 : Int) < (s.length : Int) from by omega, decide_true, cond_true]
    exact bad (by unfold sendF okS; rw [if_neg (by simp; omega)])
/-- Where a number stands. -/
def posF (f : Fd) (x : Int) : Int := match findP x f.ps 0 with | some (i, _) => (i : Int) | none => -1
theorem place_loop {f : Fd} {x : Int} {c : Nat} (hl : f.ps.length ≤ 100000) {st : St} (hc : st.ob c = some (.cells (qC f 0))) : ∀ (n i : Nat), i ≤ f.ps.length → f.ps.length < n + i → 
    g26b1010 n (.int .i64 x) (.ptr c 0) (.int .i64 (i : Nat)) st = some (.ret (.int .i64 (match findP x (f.ps.drop i) i with | some (i, _) => (i : Int) | none => -1)), st) := by
  intro n
  induction n with
  | zero => intro i hi hn; omega
  | succ n ih =>
    intro i hi hn
    unfold g26b1010
    obtain ⟨l0, l1, l2⟩ := ld3f hc
    simp only [faddr_ptr, Nat.zero_add, l2, lenL_lst, pksV_len, bin_lss]
    by_cases hil : i < f.ps.length
    · have e4 : ∀ K, A.bin .add (.int .i64 (i : Nat)) (.int .i64 1) K = K (.int .i64 ((i + 1 : Nat) : Int)) := fun K => bin_inc (by omega) K
      rw [List.drop_eq_getElem_cons hil]
      unfold findP
      simp only [show ((i : Int) < (f.ps.length : Int)) from by omega, decide_true, cond_true, iaddr_pk _ hil, (fl4 _).1, (ll4 _ _).1, eql_int, Bool.false_eq_true, if_false]
      by_cases hx : x = (f.ps[i].id : Int)
      · have : ((f.ps[i].id : Int) == x) = true := by rw [beq_iff_eq]; exact hx.symm
        simp only [this, cond_true, er1_int, if_pos hx]
      · have : ((f.ps[i].id : Int) == x) = false := by rw [beq_eq_false_iff_ne]; exact fun g => hx g.symm
        simp only [this, cond_false, e4, if_neg hx]
        exact ih (i + 1) (by omega) (by omega)
    · have : i = f.ps.length := by omega
      subst this
      simp only [Int.lt_irrefl, decide_false, cond_false, er1_int, List.drop_length]
      rfl
theorem place_s {f : Fd} (h : FOK f) (x : Int) (st : St) : ∃ st', s26 [qV f, .int .i64 x] st = some (.ret (.int .i64 (posF f x)), st') ∧ Ks st st' := by
  rw [s26_eq]
  unfold f26
  have hl := h.len
  have hs := h.small
  simp only [bxq]
  have := place_loop (f := f) (x := x) (c := st.n) (by omega) (new_at st (.cells (qC f 0))) big 0 (by omega) (lt_big (by omega))
  rw [show ((0 : Nat) : Int) = 0 from rfl] at this
  rw [this]
  exact ⟨_, rfl, (Ks.refl st).new _⟩
end Go.Ab
