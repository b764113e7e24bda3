import Derived.Test.YtimidokohhiacaaAbA09j
import Derived.Test.YtimidokohhiacaaAbA09v
import Derived.Test.YtimidokohhiacaaAbA09w
/- sinewref09: the walk of why. -/
namespace Go.Ab
open Go.Proofs Go.RowKit
set_option linter.unusedVariables false
set_option linter.unusedSimpArgs false
set_option maxRecDepth 100000
/-- The places of a path, as the reference counts them. -/
def Pth.pl : Pth → Nat
  | .mk k _ l => if k = 1 then 1 else pll l
where pll : List Pth → Nat
  | [] => 0
  | p :: l => p.pl + pll l
abbrev Pth.pll := Pth.pl.pll
theorem pl_eq (k : Int) (w : List UInt8) (l : List Pth) : (Pth.mk k w l).pl = if k = 1 then 1 else Pth.pll l := rfl
theorem pll_cons (p : Pth) (l : List Pth) : Pth.pll (p :: l) = p.pl + Pth.pll l := rfl
theorem pll_nil : Pth.pll [] = 0 := rfl
theorem pll_mem {l : List Pth} {p : Pth} (h : p ∈ l) : p.pl ≤ Pth.pll l := by
  induction l with
  | nil => cases h
  | cons a l ih =>
    rw [pll_cons]
    rcases List.mem_cons.1 h with rfl | g
    · omega
    · have := ih g; omega
mutual
theorem pl_nd : ∀ p : Pth, p.pl ≤ p.nd
  | .mk k w l => by
    rw [pl_eq, nd_eq]
    have := pll_nd l
    split <;> omega
theorem pll_nd : ∀ l : List Pth, Pth.pll l ≤ Pth.ndl l
  | [] => Nat.le_refl _
  | p :: l => by rw [pll_cons, ndl_cons]; have := pl_nd p; have := pll_nd l; omega
end
mutual
theorem sz2_nd : ∀ p : Pth, p.sz.2 ≤ p.nd
  | .mk k w l => by
    rw [sz_eq, nd_eq]
    have := szl2_nd l
    simp only; omega
theorem szl2_nd : ∀ l : List Pth, (Pth.szl l).2 ≤ Pth.ndl l
  | [] => Nat.le_refl _
  | p :: l => by rw [szl_cons, ndl_cons]; have := sz2_nd p; have := szl2_nd l; simp only; omega
end
theorem places_loop {R : Fn} {st0 : St} {c : Nat} {k : Int} {w : List UInt8} {l : List Pth} (hc : c < st0.n) (hoc : st0.ob c = some (.cells (pthC (.mk k w l)))) (hR : ∀ p ∈ l, ∀ st, R [p.v] st = some (.ret (.int .i64 (p.pl : Nat)), st)) (hlen : l.length ≤ 1000000000) :
    ∀ (n i a : Nat) (st : St), i ≤ l.length → l.length < n + i → Ks st0 st → a + Pth.pll (l.drop i) ≤ 1000000000 →
      ∃ st', g61bz3e R n (.ptr c 0) (.int .i64 (a : Nat)) (.int .i64 (i : Nat)) st = some (.ret (.int .i64 ((a + Pth.pll (l.drop i) : Nat) : Int)), st') ∧ Ks st0 st' := by
  intro n
  induction n with
  | zero => intro i a st hi hn; omega
  | succ n ih =>
    intro i a st hi hn hk ha
    rw [g61bz3e]
    have o := (hk.ob c hc).trans hoc
    have w2 : ∀ K : V → St → Res, A.load false 1 (.ptr c 2) st K = K (.lst (l.map Pth.v) 0) st := fun K => by rw [load_ob, o]; rfl
    simp only [faddr_ptr, Nat.zero_add, w2, lenL_lst, List.length_map, bin_lss]
    by_cases hil : i < l.length
    · rw [List.drop_eq_getElem_cons hil, pll_cons] at ha ⊢
      simp only [show ((i : Int) < (l.length : Int)) from by omega, decide_true, cond_true, iaddr_pth 0 hil, load_pth, pth_er, hR l[i] (List.getElem_mem hil), ret_ret]
      rw [bin_addN a l[i].pl _ (by omega), bin_inc (by omega)]
      obtain ⟨st', q1, q2⟩ := ih (i + 1) (a + l[i].pl) st (by omega) (by omega) hk (by omega)
      exact ⟨st', by rw [q1, Nat.add_assoc], q2⟩
    · have : i = l.length := by omega
      subst this
      simp only [Int.lt_irrefl, decide_false, cond_false, List.drop_length, pll_nil, er1_int]
      exact ⟨st, rfl, hk⟩
theorem places_n : ∀ (n : Nat) (p : Pth), p.sz.2 ≤ n → p.nd ≤ 1000000 → ∀ st : St, s61n n [p.v] st = some (.ret (.int .i64 (p.pl : Nat)), st)
  | 0, p, h, _, st => by cases p; rw [sz_eq] at h; simp at h
  | n + 1, .mk k w l, h1, h4, st => by
    rw [s61n_eq]
    have hs := sz_eq k w l
    have hn := nd_eq k w l
    rw [hs] at h1
    rw [hn] at h4
    simp only at h1
    have hll := ndl_len l
    have hpn := pll_nd l
    have hR : ∀ q ∈ l, ∀ st, s61n n [q.v] st = some (.ret (.int .i64 (q.pl : Nat)), st) := fun q hq st => by
      have a := szl_mem hq
      have b := ndl_mem hq
      exact places_n n q (by omega) (by omega) st
    have main : ∃ st', f61 (s61n n) (Pth.mk k w l).v st = some (.ret (.int .i64 ((Pth.mk k w l).pl : Nat)), st') ∧ Ks st st' := by
      unfold f61
      have bx : ∀ K : V → St → Res, A.box (Pth.mk k w l).v st K = K (.ptr st.n 0) (st.new (.cells (pthC (.mk k w l)))) := fun K => by rw [pth_c]; rfl
      have o1 := new_at st (.cells (pthC (.mk k w l)))
      have k1 : Ks st (st.new (.cells (pthC (.mk k w l)))) := (Ks.refl st).new _
      have n1 : st.n < (st.new (.cells (pthC (.mk k w l)))).n := by simp
      rw [bx]
      generalize st.new (.cells (pthC (.mk k w l))) = s1 at o1 k1 n1 ⊢
      have w0 : ∀ K : V → St → Res, A.load false 1 (.ptr st.n 0) s1 K = K (.int .i64 k) s1 := fun K => by rw [load_ob, o1]; rfl
      simp only [faddr_ptr, Nat.zero_add, w0, eql_int, Bool.false_eq_true, if_false]
      by_cases hk : k = 1
      · rw [show (k == 1) = true from by rw [hk]; rfl, cond_true, pl_eq, if_pos hk]
        exact ⟨s1, rfl, k1⟩
      · rw [show (k == 1) = false from beq_eq_false_iff_ne.2 hk, cond_false, pl_eq, if_neg hk]
        obtain ⟨st', q1, q2⟩ := places_loop n1 o1 hR (by omega) big 0 0 s1 (by omega) (lt_big (by omega)) (Ks.refl s1) (by rw [List.drop_zero]; omega)
        refine ⟨st', ?_, k1.trans q2⟩
        rw [List.drop_zero, Nat.zero_add] at q1
        exact q1
    obtain ⟨st', q1, q2⟩ := main
    exact fg_of q1 q2 rfl
theorem places_s (p : Pth) (h : p.nd ≤ 1000000) (st : St) : s61 [p.v] st = some (.ret (.int .i64 (p.pl : Nat)), st) := by
  rw [s61_n]; exact places_n big p (Nat.le_of_lt (lt_big (by have := sz2_nd p; omega))) h st
theorem deep_loop {R : Fn} {st0 : St} {c : Nat} {k : Int} {w : List UInt8} {l : List Pth} (hc : c < st0.n) (hoc : st0.ob c = some (.cells (pthC (.mk k w l)))) (hR : ∀ p ∈ l, ∀ st, R [p.v] st = some (.ret (.int .i64 (p.sz.2 : Nat)), st)) (hlen : l.length ≤ 1000000000) (hs : (Pth.szl l).2 ≤ 1000000000) :
    ∀ (n i a : Nat) (st : St), i ≤ l.length → l.length < n + i → Ks st0 st → a ≤ 1000000000 →
      ∃ st', g62b11010 R n (.ptr c 0) (.int .i64 (a : Nat)) (.int .i64 (i : Nat)) st = some (.ret (.int .i64 ((max a (Pth.szl (l.drop i)).2 + 1 : Nat) : Int)), st') ∧ Ks st0 st' := by
  intro n
  induction n with
  | zero => intro i a st hi hn; omega
  | succ n ih =>
    intro i a st hi hn hk ha
    rw [g62b11010]
    have o := (hk.ob c hc).trans hoc
    have w2 : ∀ K : V → St → Res, A.load false 1 (.ptr c 2) st K = K (.lst (l.map Pth.v) 0) st := fun K => by rw [load_ob, o]; rfl
    simp only [faddr_ptr, Nat.zero_add, w2, lenL_lst, List.length_map, bin_lss]
    by_cases hil : i < l.length
    · have hm := (szl_mem (List.getElem_mem hil)).2
      rw [szl_drop hil]
      simp only [show ((i : Int) < (l.length : Int)) from by omega, decide_true, cond_true, iaddr_pth 0 hil, load_pth, pth_er, hR l[i] (List.getElem_mem hil), ret_ret]
      rw [max_nat, bin_inc (by omega)]
      obtain ⟨st', q1, q2⟩ := ih (i + 1) (max a l[i].sz.2) st (by omega) (by omega) hk (by omega)
      exact ⟨st', by rw [q1, Nat.max_assoc], q2⟩
    · have : i = l.length := by omega
      subst this
      simp only [Int.lt_irrefl, decide_false, cond_false, List.drop_length, szl_nil, er1_int]
      rw [bin_inc (by omega), Nat.max_zero]
      exact ⟨st, rfl, hk⟩
theorem deep_n : ∀ (n : Nat) (p : Pth), p.sz.2 ≤ n → p.nd ≤ 1000000 → ∀ st : St, s62n n [p.v] st = some (.ret (.int .i64 (p.sz.2 : Nat)), st)
  | 0, p, h, _, st => by cases p; rw [sz_eq] at h; simp at h
  | n + 1, .mk k w l, h1, h4, st => by
    rw [s62n_eq]
    have hs := sz_eq k w l
    have hn := nd_eq k w l
    rw [hs] at h1
    rw [hn] at h4
    simp only at h1
    have hll := ndl_len l
    have hpn := szl2_nd l
    have hR : ∀ q ∈ l, ∀ st, s62n n [q.v] st = some (.ret (.int .i64 (q.sz.2 : Nat)), st) := fun q hq st => by
      have a := szl_mem hq
      have b := ndl_mem hq
      exact deep_n n q (by omega) (by omega) st
    have main : ∃ st', f62 (s62n n) (Pth.mk k w l).v st = some (.ret (.int .i64 ((Pth.mk k w l).sz.2 : Nat)), st') ∧ Ks st st' := by
      unfold f62
      have bx : ∀ K : V → St → Res, A.box (Pth.mk k w l).v st K = K (.ptr st.n 0) (st.new (.cells (pthC (.mk k w l)))) := fun K => by rw [pth_c]; rfl
      have o1 := new_at st (.cells (pthC (.mk k w l)))
      have k1 : Ks st (st.new (.cells (pthC (.mk k w l)))) := (Ks.refl st).new _
      have n1 : st.n < (st.new (.cells (pthC (.mk k w l)))).n := by simp
      rw [bx]
      generalize st.new (.cells (pthC (.mk k w l))) = s1 at o1 k1 n1 ⊢
      obtain ⟨st', q1, q2⟩ := deep_loop n1 o1 hR (by omega) (by omega) big 0 0 s1 (by omega) (lt_big (by omega)) (Ks.refl s1) (by omega)
      refine ⟨st', ?_, k1.trans q2⟩
      rw [List.drop_zero, Nat.zero_max] at q1
      rw [hs]
      exact q1
    obtain ⟨st', q1, q2⟩ := main
    exact fg_of q1 q2 rfl
theorem deep_s (p : Pth) (h : p.nd ≤ 1000000) (st : St) : s62 [p.v] st = some (.ret (.int .i64 (p.sz.2 : Nat)), st) := by
  rw [s62_n]; exact deep_n big p (Nat.le_of_lt (lt_big (by have := sz2_nd p; omega))) h st
theorem alike_loop (vars : List (List UInt8)) (t : Nat) (hv : vars.length ≤ 100000) (st : St) : ∀ (n i : Nat), i ≤ vars.length → vars.length < n + i →
    g63b1010 n (.lst (strsV vars) t) (.int .i64 (i : Nat)) st = some (.ret (.bool (dupF (vars.take i) (vars.drop i))), st) := by
  intro n
  induction n with
  | zero => intro i hi hn; omega
  | succ n ih =>
    intro i hi hn'
    rw [g63b1010]
    simp only [lenL_lst, strsV_len, bin_lss]
    by_cases hil : i < vars.length
    · have e4 : ∀ K, A.bin .add (.int .i64 (i : Nat)) (.int .i64 1) K = K (.int .i64 ((i + 1 : Nat) : Int)) := fun K => bin_inc (by omega) K
      simp only [show ((i : Int) < (vars.length : Int)) from by omega, decide_true, cond_true]
      rw [slice_strs vars t i _ (by omega)]
      simp only [iaddr_strs t hil, load_l1', er1_lst, er1_str, rin_s (vars.take i) _ vars[i] st (by simp; omega), ret_kid, ret_ret]
      rw [List.drop_eq_getElem_cons hil, dupF]
      cases hc : (vars.take i).contains vars[i] with
      | true => rfl
      | false =>
        rw [cond_false, e4, Bool.false_or, ih (i + 1) (by omega) (by omega), List.take_add_one, List.getElem?_eq_getElem hil]
        rfl
    · have : i = vars.length := by omega
      subst this
      simp only [Int.lt_irrefl, decide_false, cond_false, List.drop_length, er1_bool]
      rfl
theorem alike_s (vars : List (List UInt8)) (t : Nat) (hv : vars.length ≤ 100000) (st : St) : s63 [.lst (strsV vars) t] st = some (.ret (.bool (dupF [] vars)), st) := by
  rw [s63_eq]
  refine fg_of (v := .bool (dupF [] vars)) (st' := st) ?_ (Ks.refl st) rfl
  unfold f63
  have := alike_loop vars t hv st big 0 (by omega) (lt_big (by omega))
  rw [List.take_zero, List.drop_zero] at this
  exact this
/-! why -/
def deepR (l : List AtP) : Bool := l.any fun a => decide (24 < a.p.pl) || decide (12 < a.p.sz.2)
def whyR (r : Rq) : Int :=
  if deepR r.atoms = true then 100
  else if 6 < r.vars.length ∨ 6 < r.atoms.length ∨ 6 < (namesP r.atoms).length ∨ 64 < r.ch.length then 2
  else if dupF [] r.vars = true then 1
  else if (r.vars.any fun v => !(namesP r.atoms).contains v) = true then 91 else 0
def okR (r : Rq) : Prop := r.vars.length ≤ 10000 ∧ r.atoms.length ≤ 10000 ∧ ∀ a ∈ r.atoms, a.p.nd ≤ 1000000
theorem rbound_loop {q : Nat} {st : St} (names : List (List UInt8)) (u : Nat) (r : Rq) (oq : st.ob q = some (.cells (qC r.vars 0 r.atoms 0))) (hn : names.length ≤ 100000) (hv : r.vars.length ≤ 100000) : ∀ (n i : Nat), i ≤ r.vars.length → r.vars.length < n + i →
    g29bzsa n (.ptr q 0) (.lst (strsV names) u) (.int .i64 (i : Nat)) st = some (.ret (.int .i64 (if ((r.vars.drop i).any fun v => !names.contains v) = true then 91 else 0)), st) := by
  intro n
  induction n with
  | zero => intro i hi hn; omega
  | succ n ih =>
    intro i hi hn'
    rw [g29bzsa]
    have w0 : ∀ K : V → St → Res, A.load false 1 (.ptr q 0) st K = K (.lst (strsV r.vars) 0) st := fun K => by rw [load_ob, oq]; rfl
    simp only [faddr_ptr, Nat.zero_add, w0, lenL_lst, strsV_len, bin_lss]
    by_cases hil : i < r.vars.length
    · have e4 : ∀ K, A.bin .add (.int .i64 (i : Nat)) (.int .i64 1) K = K (.int .i64 ((i + 1 : Nat) : Int)) := fun K => bin_inc (by omega) K
      simp only [show ((i : Int) < (r.vars.length : Int)) from by omega, decide_true, cond_true, iaddr_strs 0 hil, load_l1', er1_lst, er1_str, rin_s names u r.vars[i] st hn, ret_ret, un_not]
      rw [List.drop_eq_getElem_cons hil, List.any_cons]
      cases hc : names.contains r.vars[i] with
      | true =>
        rw [Bool.not_true, cond_false, e4, Bool.false_or]
        exact ih (i + 1) (by omega) (by omega)
      | false => rfl
    · have : i = r.vars.length := by omega
      subst this
      simp only [Int.lt_irrefl, decide_false, cond_false, List.drop_length, er1_int]
      rfl
theorem rwhy_tail {c q : Nat} {st : St} {r : Rq} (oc : st.ob c = some (.cells (rqC r))) (oq : st.ob q = some (.cells (qC r.vars 0 r.atoms 0))) (hc : c < st.n) (hq : q < st.n) (h : okR r) :
    ∃ st', g29b111 (.ptr c 0) (.ptr q 0) st = some (.ret (.int .i64 (if 6 < r.vars.length ∨ 6 < r.atoms.length ∨ 6 < (namesP r.atoms).length ∨ 64 < r.ch.length then 2
  else if dupF [] r.vars = true then 1
  else if (r.vars.any fun v => !(namesP r.atoms).contains v) = true then 91 else 0)), st') ∧ Ks st st' := by
  unfold g29b111
  have ld : ∀ K : V → St → Res, A.load true 2 (.ptr q 0) st K = K (.agg (qyC r.vars 0 (r.atoms.map toA) 0)) st := fun K => by
    rw [load_obA, oq]
    show K (.agg [.lst (strsV r.vars) 0, .lst (r.atoms.map atpV) 0]) st = _
    rw [← atsV_toA]; rfl
  obtain ⟨s2, u, q1, k2⟩ := rnames_s r.vars (r.atoms.map toA) (by simp; exact h.2.1) st
  have er : (V.agg (qyC r.vars 0 (r.atoms.map toA) 0)).er1 = .agg (qyC r.vars 0 (r.atoms.map toA) 0) := rfl
  rw [ld, er, q1, ret_ret, namesL_toA]
  have oc2 := (k2.ob c hc).trans oc
  have oq2 := (k2.ob q hq).trans oq
  have hnl := namesP_len r.atoms
  have hnames : (namesP r.atoms).length ≤ 100000 := by have := h.2.1; omega
  have w0 : ∀ K : V → St → Res, A.load false 1 (.ptr q 0) s2 K = K (.lst (strsV r.vars) 0) s2 := fun K => by rw [load_ob, oq2]; rfl
  have w1 : ∀ K : V → St → Res, A.load false 1 (.ptr q 1) s2 K = K (.lst (r.atoms.map atpV) 0) s2 := fun K => by rw [load_ob, oq2]; rfl
  have w3 : ∀ K : V → St → Res, A.load false 1 (.ptr c 3) s2 K = K (.lst (r.ch.map chV) 0) s2 := fun K => by rw [load_ob, oc2]; rfl
  refine ⟨s2, ?_, k2⟩
  have fin : (6 < r.vars.length ∨ 6 < r.atoms.length ∨ 6 < (namesP r.atoms).length ∨ 64 < r.ch.length) → some (Out.ret ((.int .i64 2 : V).er1), s2) = some (.ret (.int .i64 (if 6 < r.vars.length ∨ 6 < r.atoms.length ∨ 6 < (namesP r.atoms).length ∨ 64 < r.ch.length then 2
  else if dupF [] r.vars = true then 1
  else if (r.vars.any fun v => !(namesP r.atoms).contains v) = true then 91 else 0)), s2) := fun hc => by rw [if_pos hc]; rfl
  simp only [faddr_ptr, Nat.zero_add, w0, lenL_lst, strsV_len, bin_gtr]
  by_cases c1 : 6 < r.vars.length
  · simp only [show ((6 : Int) < (r.vars.length : Int)) from by omega, decide_true, guard_tf]
    unfold g29bz3g_11
    rw [guard_tf]
    exact fin (.inl c1)
  simp only [show ¬ ((6 : Int) < (r.vars.length : Int)) from by omega, decide_false, guard_ff, faddr_ptr, Nat.zero_add, w1, lenL_lst, List.length_map, bin_gtr]
  unfold g29bz3g_11
  by_cases c2 : 6 < r.atoms.length
  · simp only [show ((6 : Int) < (r.atoms.length : Int)) from by omega, decide_true, guard_tf]
    exact fin (.inr (.inl c2))
  simp only [show ¬ ((6 : Int) < (r.atoms.length : Int)) from by omega, decide_false, guard_ff, lenL_lst, strsV_len, bin_gtr]
  by_cases c3 : 6 < (namesP r.atoms).length
  · simp only [show ((6 : Int) < ((namesP r.atoms).length : Int)) from by omega, decide_true, guard_tf]
    exact fin (.inr (.inr (.inl c3)))
  simp only [show ¬ ((6 : Int) < ((namesP r.atoms).length : Int)) from by omega, decide_false, guard_ff, faddr_ptr, Nat.zero_add, w3, lenL_lst, List.length_map, bin_gtr]
  by_cases c4 : 64 < r.ch.length
  · simp only [show ((64 : Int) < (r.ch.length : Int)) from by omega, decide_true, cond_true]
    exact fin (.inr (.inr (.inr c4)))
  simp only [show ¬ ((64 : Int) < (r.ch.length : Int)) from by omega, decide_false, cond_false]
  rw [if_neg (by omega)]
  unfold g29b11111
  simp only [faddr_ptr, Nat.zero_add, w0, er1_lst, alike_s r.vars 0 (by have := h.1; omega) s2, ret_ret]
  cases hd : dupF [] r.vars with
  | true => rfl
  | false =>
    rw [cond_false]
    have := rbound_loop (namesP r.atoms) u r oq2 hnames (by have := h.1; omega) big 0 (by omega) (lt_big (by have := h.1; omega))
    rw [List.drop_zero] at this
    rw [if_neg (by simp)]
    exact this
theorem rwhy_loop {st0 : St} {c q : Nat} {r : Rq} (hc : c < st0.n) (hq : q < st0.n) (hoc : st0.ob c = some (.cells (rqC r))) (hoq : st0.ob q = some (.cells (qC r.vars 0 r.atoms 0))) (h : okR r) :
    ∀ (n i : Nat) (st : St), i ≤ r.atoms.length → r.atoms.length < n + i → Ks st0 st →
      ∃ st', g29b11010 n (.ptr c 0) (.ptr q 0) (.int .i64 (i : Nat)) st = some (.ret (.int .i64 (if deepR (r.atoms.drop i) = true then 100
  else if 6 < r.vars.length ∨ 6 < r.atoms.length ∨ 6 < (namesP r.atoms).length ∨ 64 < r.ch.length then 2
  else if dupF [] r.vars = true then 1
  else if (r.vars.any fun v => !(namesP r.atoms).contains v) = true then 91 else 0)), st') ∧ Ks st0 st' := by
  intro n
  induction n with
  | zero => intro i st hi hn; omega
  | succ n ih =>
    intro i st hi hn hk
    rw [g29b11010]
    have oc := (hk.ob c hc).trans hoc
    have oq := (hk.ob q hq).trans hoq
    have hkn := hk.n
    have w1 : ∀ K : V → St → Res, A.load false 1 (.ptr q 1) st K = K (.lst (r.atoms.map atpV) 0) st := fun K => by rw [load_ob, oq]; rfl
    simp only [faddr_ptr, Nat.zero_add, w1, lenL_lst, List.length_map, bin_lss]
    by_cases hil : i < r.atoms.length
    · have e4 : ∀ K, A.bin .add (.int .i64 (i : Nat)) (.int .i64 1) K = K (.int .i64 ((i + 1 : Nat) : Int)) := fun K => bin_inc (by have := h.2.1; omega) K
      have fa : ∀ K, A.faddr 2 (.lptr (atpC r.atoms[i])) K = K (.lptr ((atpC r.atoms[i]).drop 2)) := fun K => rfl
      have ld : ∀ (s : St) K, A.load true 3 (.lptr ((atpC r.atoms[i]).drop 2)) s K = K (r.atoms[i].p).v s := fun s K => by rw [load_lptrA, pth_c]; rfl
      have hnd := h.2.2 r.atoms[i] (List.getElem_mem hil)
      simp only [show ((i : Int) < (r.atoms.length : Int)) from by omega, decide_true, cond_true, iaddr_atp 0 hil, fa, ld, pth_er, places_s r.atoms[i].p hnd, ret_ret, bin_gtr]
      have hd : deepR (r.atoms.drop i) = ((decide (24 < r.atoms[i].p.pl) || decide (12 < r.atoms[i].p.sz.2)) || deepR (r.atoms.drop (i + 1))) := by
        rw [List.drop_eq_getElem_cons hil]; rfl
      rw [hd]
      unfold g29bz1fs_9
      by_cases c1 : 24 < r.atoms[i].p.pl
      · simp only [show ((24 : Int) < (r.atoms[i].p.pl : Int)) from by omega, decide_true, guard_tf, c1, Bool.true_or, if_true, er1_int]
        exact ⟨st, rfl, hk⟩
      simp only [show ¬ ((24 : Int) < (r.atoms[i].p.pl : Int)) from by omega, decide_false, guard_ff, c1, Bool.false_or, faddr_ptr, Nat.zero_add, w1, iaddr_atp 0 hil, fa, ld, pth_er, deep_s r.atoms[i].p hnd, ret_ret, bin_gtr]
      by_cases c2 : 12 < r.atoms[i].p.sz.2
      · simp only [show ((12 : Int) < (r.atoms[i].p.sz.2 : Int)) from by omega, decide_true, cond_true, c2, Bool.true_or, if_true, er1_int]
        exact ⟨st, rfl, hk⟩
      simp only [show ¬ ((12 : Int) < (r.atoms[i].p.sz.2 : Int)) from by omega, decide_false, cond_false, c2, Bool.false_or, e4]
      exact ih (i + 1) st (by omega) (by omega) hk
    · have : i = r.atoms.length := by omega
      subst this
      simp only [Int.lt_irrefl, decide_false, cond_false, List.drop_length]
      obtain ⟨st', q1, q2⟩ := rwhy_tail oc oq (by omega) (by omega) h
      exact ⟨st', q1, hk.trans q2⟩
theorem rwhy_s {r : Rq} (h : okR r) (st : St) : s29 [rqV r] st = some (.ret (.int .i64 (whyR r)), st) := by
  have main : ∃ st', f29 (rqV r) st = some (.ret (.int .i64 (whyR r)), st') ∧ Ks st st' := by
    unfold f29
    have bx : ∀ K : V → St → Res, A.box (rqV r) st K = K (.ptr st.n 0) (st.new (.cells (rqC r))) := fun K => rfl
    have o1 := new_at st (.cells (rqC r))
    have k1 : Ks st (st.new (.cells (rqC r))) := (Ks.refl st).new _
    have n1 : (st.new (.cells (rqC r))).n = st.n + 1 := by simp
    rw [bx]
    generalize st.new (.cells (rqC r)) = s1 at o1 k1 n1 ⊢
    have w1 : ∀ K : V → St → Res, A.load true 2 (.ptr st.n 1) s1 K = K (.agg (qC r.vars 0 r.atoms 0)) s1 := fun K => by
      rw [load_obA, o1]; rfl
    have bx2 : ∀ K : V → St → Res, A.box (.agg [(.lst [] 1), (.lst [] 1)]) s1 K = K (.ptr s1.n 0) (s1.new (.cells [.lst [] 1, .lst [] 1])) := fun K => rfl
    rw [faddr_ptr, Nat.zero_add, w1, bx2, sv_all 2 _ (new_at _ _) rfl rfl rfl]
    have k2 : Ks st ((s1.new (.cells [.lst [] 1, .lst [] 1])).put s1.n (.cells (qC r.vars 0 r.atoms 0))) := (k1.new _).put (by omega) _
    have oq := put_at (s1.new (.cells [.lst [] 1, .lst [] 1])) s1.n (.cells (qC r.vars 0 r.atoms 0))
    have oc : ((s1.new (.cells [.lst [] 1, .lst [] 1])).put s1.n (.cells (qC r.vars 0 r.atoms 0))).ob st.n = some (.cells (rqC r)) := by rw [put_ne _ _ (by omega), new_ne _ _ (by omega)]; exact o1
    have n2 : ((s1.new (.cells [.lst [] 1, .lst [] 1])).put s1.n (.cells (qC r.vars 0 r.atoms 0))).n = s1.n + 1 := by simp
    generalize (s1.new (.cells [.lst [] 1, .lst [] 1])).put s1.n (.cells (qC r.vars 0 r.atoms 0)) = s2 at k2 oq oc n2 ⊢
    obtain ⟨st', r1, r2⟩ := rwhy_loop (by omega) (by omega) oc oq h big 0 s2 (by omega) (lt_big (by have := h.2.1; omega)) (Ks.refl s2)
    rw [List.drop_zero] at r1
    exact ⟨st', r1, k2.trans r2⟩
  obtain ⟨st', q1, q2⟩ := main
  rw [s29_eq]
  exact fg_of q1 q2 rfl
end Go.Ab
