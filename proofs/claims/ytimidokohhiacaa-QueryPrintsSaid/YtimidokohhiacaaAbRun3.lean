import Derived.Test.YtimidokohhiacaaAbRun2
import Derived.Test.YtimidokohhiacaaAbRun0
import Derived.Test.YtimidokohhiacaaAbP09r
/- sinewlaw09: requests that are given. -/
namespace Go.Ab
open Go.Proofs Go.RowKit
set_option linter.unusedVariables false
set_option linter.unusedSimpArgs false
set_option maxRecDepth 100000
theorem box_rq (st : St) (r : Rq) (K : V → St → Res) : A.box (rqV r) st K = K (.ptr st.n 0) (st.new (.cells (rqC r))) := rfl
theorem er_rq (r : Rq) : (rqV r).er1 = rqV r := rfl
/-! requests that are given -/
def atWok (a : AtP) : Prop := a.s.n.length ≤ 9223372036854775807 ∧ a.p.wok ∧ a.o.n.length ≤ 9223372036854775807
def chWok (c : Chg) : Prop := c.s.length ≤ 9223372036854775807 ∧ c.p.length ≤ 9223372036854775807 ∧ c.o.length ≤ 9223372036854775807
def rqWok (r : Rq) : Prop := (∀ v ∈ r.vars, v.length ≤ 9223372036854775807) ∧ (∀ a ∈ r.atoms, atWok a) ∧ ∀ c ∈ r.ch, chWok c
theorem in_term2 {n : Nat} {cs : List V} (s : Sh Try.prog n 63 cs) : ∃ t : Tm, cs = [.bool t.v, .str t.n] ∧ t.n.length ≤ 9223372036854775807 := by
  obtain ⟨k, h1, h2⟩ := s.struct Try.underlying63
  have c63 : Try.prog.cellsOf 63 = 2 := by kernel_rfl
  have c4 : Try.prog.cellsOf 4 = 1 := by kernel_rfl
  have c9 : Try.prog.cellsOf 9 = 1 := by kernel_rfl
  rw [c63] at h1
  obtain ⟨a, b, rfl⟩ : ∃ a b, cs = [a, b] := by
    match cs, h1 with
    | [a, b], _ => exact ⟨a, b, rfl⟩
  have q0 := h2 ⟨ "Var", 4, 0, false, "", "", 0⟩ (by simp)
  have q1 := h2 ⟨ "Name", 9, 1, false, "", "", 8⟩ (by simp)
  simp only [c4, c9, List.drop_zero, List.drop_succ_cons, List.take_succ_cons, List.take_zero] at q0 q1
  obtain ⟨v, e0⟩ := q0.bool Try.underlying4
  obtain ⟨t, e1, ht⟩ := q1.str Try.underlying9
  cases e0; cases e1
  exact ⟨⟨v, t⟩, rfl, by simpa [maxLen] using ht⟩
theorem in_atp {n : Nat} {x : V} (s : Sh Try.prog n 65 x.cells) (f : fit Try.prog 65 x) : ∃ a : AtP, x = atpV a ∧ atWok a := by
  obtain ⟨cs, rfl⟩ := fit_ag f (isAg_of.2 (.inl ⟨_, Try.underlying65⟩))
  obtain ⟨k, h1, h2⟩ := s.struct Try.underlying65
  rw [cells_agg] at h1 h2
  have c65 : Try.prog.cellsOf 65 = 7 := by kernel_rfl
  have c63 : Try.prog.cellsOf 63 = 2 := by kernel_rfl
  have c61 : Try.prog.cellsOf 61 = 3 := by kernel_rfl
  rw [c65] at h1
  obtain ⟨a1, a2, p1, p2, p3, b1, b2, rfl⟩ : ∃ a1 a2 p1 p2 p3 b1 b2, cs = [a1, a2, p1, p2, p3, b1, b2] := by
    match cs, h1 with
    | [a1, a2, p1, p2, p3, b1, b2], _ => exact ⟨a1, a2, p1, p2, p3, b1, b2, rfl⟩
  have q0 := h2 ⟨ "S", 63, 0, false, "", "", 0⟩ (by simp)
  have q1 := h2 ⟨ "Path", 61, 2, false, "", "", 24⟩ (by simp)
  have q2 := h2 ⟨ "O", 63, 5, false, "", "", 72⟩ (by simp)
  simp only [c63, c61, List.drop_zero, List.drop_succ_cons, List.take_succ_cons, List.take_zero] at q0 q1 q2
  obtain ⟨t0, e0, w0⟩ := in_term2 q0
  obtain ⟨p, e1, w1⟩ := in_pth (.agg [p1, p2, p3]) k (by rw [cells_agg]; exact q1) (by unfold fit; rw [if_pos (isAg_of.2 (.inl ⟨_, Try.underlying61⟩))]; exact ⟨_, rfl⟩)
  obtain ⟨t2, e2, w2⟩ := in_term2 q2
  rw [pth_c] at e1
  cases e0; cases e2; cases e1
  exact ⟨⟨t0, p, t2⟩, rfl, w0, w1, w2⟩
theorem in_change2 {n : Nat} {x : V} (s : Sh Try.prog n 46 x.cells) (f : fit Try.prog 46 x) : ∃ c, x = chV c ∧ chWok c := by
  obtain ⟨cs, rfl⟩ := fit_ag f (isAg_of.2 (.inl ⟨_, Try.underlying46⟩))
  obtain ⟨k, h1, h2⟩ := s.struct Try.underlying46
  rw [cells_agg] at h1 h2
  have c46 : Try.prog.cellsOf 46 = 4 := by kernel_rfl
  have c44 : Try.prog.cellsOf 44 = 3 := by kernel_rfl
  have c4 : Try.prog.cellsOf 4 = 1 := by kernel_rfl
  have c9 : Try.prog.cellsOf 9 = 1 := by kernel_rfl
  rw [c46] at h1
  obtain ⟨a, b, c, d, rfl⟩ : ∃ a b c d, cs = [a, b, c, d] := by
    match cs, h1 with
    | [a, b, c, d], _ => exact ⟨a, b, c, d, rfl⟩
  have q0 := h2 ⟨ "Gone", 4, 0, false, "", "", 0⟩ (by simp)
  have q1 := h2 ⟨ "T", 44, 1, false, "", "", 8⟩ (by simp)
  simp only [c4, c44, List.drop_zero, List.drop_succ_cons, List.take_succ_cons, List.take_zero] at q0 q1
  obtain ⟨v, e0⟩ := q0.bool Try.underlying4
  obtain ⟨k2, g1, g2⟩ := q1.struct Try.underlying44
  have p0 := g2 ⟨ "S", 9, 0, false, "", "", 0⟩ (by simp)
  have p1 := g2 ⟨ "P", 9, 1, false, "", "", 16⟩ (by simp)
  have p2 := g2 ⟨ "O", 9, 2, false, "", "", 32⟩ (by simp)
  simp only [c9, List.drop_zero, List.drop_succ_cons, List.take_succ_cons, List.take_zero] at p0 p1 p2
  obtain ⟨s0, e1, w0⟩ := p0.str Try.underlying9
  obtain ⟨s1, e2, w1⟩ := p1.str Try.underlying9
  obtain ⟨s2, e3, w2⟩ := p2.str Try.underlying9
  cases e0; cases e1; cases e2; cases e3
  exact ⟨⟨v, s0, s1, s2⟩, rfl, by simpa [maxLen] using w0, by simpa [maxLen] using w1, by simpa [maxLen] using w2⟩
theorem in_request {n : Nat} {x : V} (s : Sh Try.prog n 28 x.cells) (f : fit Try.prog 28 x) : ∃ r : Rq, x = rqV r ∧ rqWok r := by
  obtain ⟨cs, rfl⟩ := fit_ag f (isAg_of.2 (.inl ⟨_, Try.underlying28⟩))
  obtain ⟨k, h1, h2⟩ := s.struct Try.underlying28
  rw [cells_agg] at h1 h2
  have c28 : Try.prog.cellsOf 28 = 4 := by kernel_rfl
  have c25 : Try.prog.cellsOf 25 = 2 := by kernel_rfl
  have c22 : Try.prog.cellsOf 22 = 1 := by kernel_rfl
  have c23 : Try.prog.cellsOf 23 = 1 := by kernel_rfl
  have c26 : Try.prog.cellsOf 26 = 1 := by kernel_rfl
  have c3 : Try.prog.cellsOf 3 = 1 := by kernel_rfl
  rw [c28] at h1
  obtain ⟨a, b, c, d, rfl⟩ : ∃ a b c d, cs = [a, b, c, d] := by
    match cs, h1 with
    | [a, b, c, d], _ => exact ⟨a, b, c, d, rfl⟩
  have q0 := h2 ⟨ "Kind", 3, 0, false, "", "", 0⟩ (by simp)
  have q1 := h2 ⟨ "Query", 25, 1, false, "", "", 8⟩ (by simp)
  have q2 := h2 ⟨ "Changes", 26, 3, false, "", "", 56⟩ (by simp)
  simp only [c3, c25, c26, List.drop_zero, List.drop_succ_cons, List.take_succ_cons, List.take_zero] at q0 q1 q2
  obtain ⟨kind, e0, _⟩ := q0.int Try.underlying3
  obtain ⟨k2, g1, g2⟩ := q1.struct Try.underlying25
  have p0 := g2 ⟨ "Vars", 22, 0, false, "", "", 0⟩ (by simp)
  have p1 := g2 ⟨ "Atoms", 23, 1, false, "", "", 24⟩ (by simp)
  simp only [c22, c23, List.drop_zero, List.drop_succ_cons, List.take_succ_cons, List.take_zero] at p0 p1
  obtain ⟨l0, m0, e1, _, w0⟩ := p0.slice Try.underlying22
  obtain ⟨l1, m1, e2, _, w1⟩ := p1.slice Try.underlying23
  obtain ⟨l2, m2, e3, _, w2⟩ := q2.slice Try.underlying26
  cases e0; cases e1; cases e2; cases e3
  obtain ⟨vs, rfl, hv⟩ := list_pick (g := V.str) (Q := fun v => v.length ≤ 9223372036854775807) (l := l0) (fun v hv => by
    obtain ⟨y, r1, r2⟩ := in_str (w0 v hv).1 (w0 v hv).2 Try.underlying9
    exact ⟨y, r1, by simpa [maxLen] using r2⟩)
  obtain ⟨ats, rfl, ha⟩ := list_pick (g := atpV) (Q := atWok) (l := l1) (fun v hv => in_atp (w1 v hv).1 (w1 v hv).2)
  obtain ⟨chs, rfl, hc⟩ := list_pick (g := chV) (Q := chWok) (l := l2) (fun v hv => in_change2 (w2 v hv).1 (w2 v hv).2)
  exact ⟨⟨kind, vs, ats, chs⟩, rfl, hv, ha, hc⟩
end Go.Ab

/- sinewref09: the walk of why. -/
namespace Go.Ab
open Go.Proofs Go.RowKit
set_option linter.unusedVariables false
set_option linter.unusedSimpArgs false
set_option maxRecDepth 100000
theorem places_loop {R : Fn} {st0 : St} {c : Nat} {k : Int} {w : List UInt8} {l : List Pth} (hc : c < st0.n) (hoc : st0.ob c = some (.cells (pthC (.mk k w l)))) (hR : ∀ p ∈ l, ∀ st, R [p.v] st = some (.ret (.int .i64 (p.pl : Nat)), st)) (hlen : l.length ≤ 1000000000) :
    ∀ (n i a : Nat) (st : St), i ≤ l.length → l.length < n + i → Ks st0 st → a + Pth.pll (l.drop i) ≤ 1000000000 →
      ∃ st', g61b111010 R n (.ptr c 0) (.int .i64 (a : Nat)) (.int .i64 (i : Nat)) st = some (.ret (.int .i64 ((a + Pth.pll (l.drop i) : Nat) : Int)), st') ∧ Ks st0 st' := by
  intro n
  induction n with
  | zero => intro i a st hi hn; omega
  | succ n ih =>
    intro i a st hi hn hk ha
    rw [g61b111010]
    have o := (hk.ob c hc).trans hoc
    have w2 : ∀ K : V → St → Res, A.load false 1 (.ptr c 2) st K = K (.lst (l.map Pth.v) 0) st := fun K => by rw [load_ob, o]; rfl
    simp only [faddr_ptr, Nat.zero_add, w2, lenL_lst, List.length_map, bin_lss]
    by_cases hil : i < l.length
    · rw [List.drop_eq_getElem_cons hil, pll_cons] at ha ⊢
      simp only [show ((i : Int) < (l.length : Int)) from by omega, decide_true, cond_true, iaddr_pth 0 hil, load_pth, pth_er, hR l[i] (List.getElem_mem hil), ret_ret]
      rw [bin_addN a l[i].pl _ (by omega), bin_inc (by omega)]
      obtain ⟨st', q1, q2⟩ := ih (i + 1) (a + l[i].pl) st (by omega) (by omega) hk (by omega)
      exact ⟨st', by rw [q1, Nat.add_assoc], q2⟩
    · have : i = l.length := by omega
      subst this
      simp only [Int.lt_irrefl, decide_false, cond_false, List.drop_length, pll_nil, er1_int]
      exact ⟨st, rfl, hk⟩
theorem places_n : ∀ (n : Nat) (p : Pth), p.sz.2 ≤ n → p.nd ≤ 1000000 → ∀ st : St, s61n n [p.v] st = some (.ret (.int .i64 (p.pl : Nat)), st)
  | 0, p, h, _, st => by cases p; rw [sz_eq] at h; simp at h
  | n + 1, .mk k w l, h1, h4, st => by
    rw [s61n_eq]
    have hs := sz_eq k w l
    have hn := nd_eq k w l
    rw [hs] at h1
    rw [hn] at h4
    simp only at h1
    have hll := ndl_len l
    have hpn := pll_nd l
    have hR : ∀ q ∈ l, ∀ st, s61n n [q.v] st = some (.ret (.int .i64 (q.pl : Nat)), st) := fun q hq st => by
      have a := szl_mem hq
      have b := ndl_mem hq
      exact places_n n q (by omega) (by omega) st
    have main : ∃ st', f61 (s61n n) (Pth.mk k w l).v st = some (.ret (.int .i64 ((Pth.mk k w l).pl : Nat)), st') ∧ Ks st st' := by
      unfold f61
      have bx : ∀ K : V → St → Res, A.box (Pth.mk k w l).v st K = K (.ptr st.n 0) (st.new (.cells (pthC (.mk k w l)))) := fun K => by rw [pth_c]; rfl
      have o1 := new_at st (.cells (pthC (.mk k w l)))
      have k1 : Ks st (st.new (.cells (pthC (.mk k w l)))) := (Ks.refl st).new _
      have n1 : st.n < (st.new (.cells (pthC (.mk k w l)))).n := by simp
      rw [bx]
      generalize st.new (.cells (pthC (.mk k w l))) = s1 at o1 k1 n1 ⊢
      have w0 : ∀ K : V → St → Res, A.load false 1 (.ptr st.n 0) s1 K = K (.int .i64 k) s1 := fun K => by rw [load_ob, o1]; rfl
      simp only [faddr_ptr, Nat.zero_add, w0, eql_int, Bool.false_eq_true, if_false]
      by_cases hk : k = 1
      · rw [show (k == 1) = true from by rw [hk]; rfl, cond_true, pl_eq, if_pos hk]
        exact ⟨s1, rfl, k1⟩
      · rw [show (k == 1) = false from beq_eq_false_iff_ne.2 hk, cond_false, pl_eq, if_neg hk]
        obtain ⟨st', q1, q2⟩ := places_loop n1 o1 hR (by omega) big 0 0 s1 (by omega) (lt_big (by omega)) (Ks.refl s1) (by rw [List.drop_zero]; omega)
        refine ⟨st', ?_, k1.trans q2⟩
        rw [List.drop_zero, Nat.zero_add] at q1
        exact q1
    obtain ⟨st', q1, q2⟩ := main
    exact fg_of q1 q2 rfl
theorem places_s (p : Pth) (h : p.nd ≤ 1000000) (st : St) : s61 [p.v] st = some (.ret (.int .i64 (p.pl : Nat)), st) := by
  rw [s61_n]; exact places_n big p (Nat.le_of_lt (lt_big (by have := sz2_nd p; omega))) h st
theorem deep_loop {R : Fn} {st0 : St} {c : Nat} {k : Int} {w : List UInt8} {l : List Pth} (hc : c < st0.n) (hoc : st0.ob c = some (.cells (pthC (.mk k w l)))) (hR : ∀ p ∈ l, ∀ st, R [p.v] st = some (.ret (.int .i64 (p.sz.2 : Nat)), st)) (hlen : l.length ≤ 1000000000) (hs : (Pth.szl l).2 ≤ 1000000000) :
    ∀ (n i a : Nat) (st : St), i ≤ l.length → l.length < n + i → Ks st0 st → a ≤ 1000000000 →
      ∃ st', g62b11010 R n (.ptr c 0) (.int .i64 (a : Nat)) (.int .i64 (i : Nat)) st = some (.ret (.int .i64 ((max a (Pth.szl (l.drop i)).2 + 1 : Nat) : Int)), st') ∧ Ks st0 st' := by
  intro n
  induction n with
  | zero => intro i a st hi hn; omega
  | succ n ih =>
    intro i a st hi hn hk ha
    rw [g62b11010]
    have o := (hk.ob c hc).trans hoc
    have w2 : ∀ K : V → St → Res, A.load false 1 (.ptr c 2) st K = K (.lst (l.map Pth.v) 0) st := fun K => by rw [load_ob, o]; rfl
    simp only [faddr_ptr, Nat.zero_add, w2, lenL_lst, List.length_map, bin_lss]
    by_cases hil : i < l.length
    · have hm := (szl_mem (List.getElem_mem hil)).2
      rw [szl_drop hil]
      simp only [show ((i : Int) < (l.length : Int)) from by omega, decide_true, cond_true, iaddr_pth 0 hil, load_pth, pth_er, hR l[i] (List.getElem_mem hil), ret_ret]
      rw [max_nat, bin_inc (by omega)]
      obtain ⟨st', q1, q2⟩ := ih (i + 1) (max a l[i].sz.2) st (by omega) (by omega) hk (by omega)
      exact ⟨st', by rw [q1, Nat.max_assoc], q2⟩
    · have : i = l.length := by omega
      subst this
      simp only [Int.lt_irrefl, decide_false, cond_false, List.drop_length, szl_nil, er1_int]
      rw [bin_inc (by omega), Nat.max_zero]
      exact ⟨st, rfl, hk⟩
theorem deep_n : ∀ (n : Nat) (p : Pth), p.sz.2 ≤ n → p.nd ≤ 1000000 → ∀ st : St, s62n n [p.v] st = some (.ret (.int .i64 (p.sz.2 : Nat)), st)
  | 0, p, h, _, st => by cases p; rw [sz_eq] at h; simp at h
  | n + 1, .mk k w l, h1, h4, st => by
    rw [s62n_eq]
    have hs := sz_eq k w l
    have hn := nd_eq k w l
    rw [hs] at h1
    rw [hn] at h4
    simp only at h1
    have hll := ndl_len l
    have hpn := szl2_nd l
    have hR : ∀ q ∈ l, ∀ st, s62n n [q.v] st = some (.ret (.int .i64 (q.sz.2 : Nat)), st) := fun q hq st => by
      have a := szl_mem hq
      have b := ndl_mem hq
      exact deep_n n q (by omega) (by omega) st
    have main : ∃ st', f62 (s62n n) (Pth.mk k w l).v st = some (.ret (.int .i64 ((Pth.mk k w l).sz.2 : Nat)), st') ∧ Ks st st' := by
      unfold f62
      have bx : ∀ K : V → St → Res, A.box (Pth.mk k w l).v st K = K (.ptr st.n 0) (st.new (.cells (pthC (.mk k w l)))) := fun K => by rw [pth_c]; rfl
      have o1 := new_at st (.cells (pthC (.mk k w l)))
      have k1 : Ks st (st.new (.cells (pthC (.mk k w l)))) := (Ks.refl st).new _
      have n1 : st.n < (st.new (.cells (pthC (.mk k w l)))).n := by simp
      rw [bx]
      generalize st.new (.cells (pthC (.mk k w l))) = s1 at o1 k1 n1 ⊢
      obtain ⟨st', q1, q2⟩ := deep_loop n1 o1 hR (by omega) (by omega) big 0 0 s1 (by omega) (lt_big (by omega)) (Ks.refl s1) (by omega)
      refine ⟨st', ?_, k1.trans q2⟩
      rw [List.drop_zero, Nat.zero_max] at q1
      rw [hs]
      exact q1
    obtain ⟨st', q1, q2⟩ := main
    exact fg_of q1 q2 rfl
theorem deep_s (p : Pth) (h : p.nd ≤ 1000000) (st : St) : s62 [p.v] st = some (.ret (.int .i64 (p.sz.2 : Nat)), st) := by
  rw [s62_n]; exact deep_n big p (Nat.le_of_lt (lt_big (by have := sz2_nd p; omega))) h st
theorem alike_loop (vars : List (List UInt8)) (t : Nat) (hv : vars.length ≤ 100000) (st : St) : ∀ (n i : Nat), i ≤ vars.length → vars.length < n + i →
    g63b1010 n (.lst (strsV vars) t) (.int .i64 (i : Nat)) st = some (.ret (.bool (dupF (vars.take i) (vars.drop i))), st) := by
  intro n
  induction n with
  | zero => intro i hi hn; omega
  | succ n ih =>
    intro i hi hn'
    rw [g63b1010]
    simp only [lenL_lst, strsV_len, bin_lss]
    by_cases hil : i < vars.length
    · have e4 : ∀ K, A.bin .add (.int .i64 (i : Nat)) (.int .i64 1) K = K (.int .i64 ((i + 1 : Nat) : Int)) := fun K => bin_inc (by omega) K
      simp only [show ((i : Int) < (vars.length : Int)) from by omega, decide_true, cond_true]
      rw [slice_strs vars t i _ (by omega)]
      simp only [iaddr_strs t hil, load_l1', er1_lst, er1_str, rin_s (vars.take i) _ vars[i] st (by simp; omega), ret_kid, ret_ret]
      rw [List.drop_eq_getElem_cons hil, dupF]
      cases hc : (vars.take i).contains vars[i] with
      | true => rfl
      | false =>
        rw [cond_false, e4, Bool.false_or, ih (i + 1) (by omega) (by omega), List.take_add_one, List.getElem?_eq_getElem hil]
        rfl
    · have : i = vars.length := by omega
      subst this
      simp only [Int.lt_irrefl, decide_false, cond_false, List.drop_length, er1_bool]
      rfl
theorem alike_s (vars : List (List UInt8)) (t : Nat) (hv : vars.length ≤ 100000) (st : St) : s63 [.lst (strsV vars) t] st = some (.ret (.bool (dupF [] vars)), st) := by
  rw [s63_eq]
  refine fg_of (v := .bool (dupF [] vars)) (st' := st) ?_ (Ks.refl st) rfl
  unfold f63
  have := alike_loop vars t hv st big 0 (by omega) (lt_big (by omega))
  rw [List.take_zero, List.drop_zero] at this
  exact this
/-! why -/
def deepR (l : List AtP) : Bool := l.any fun a => decide (24 < a.p.pl) || decide (12 < a.p.sz.2)
def whyR (r : Rq) : Int :=
  if deepR r.atoms = true then 100
  else if 6 < r.vars.length ∨ 6 < r.atoms.length ∨ 6 < (namesP r.atoms).length ∨ 64 < r.ch.length then 2
  else if dupF [] r.vars = true then 1
  else if (r.vars.any fun v => !(namesP r.atoms).contains v) = true then 91 else 0
theorem whyR_eq {r : Rq} (h : ∀ a ∈ r.atoms, a.p.pl = a.p.sz.1) : whyR r = whyP r := by
  have e : deepR r.atoms = deepA r.atoms := by
    unfold deepR deepA
    generalize r.atoms = l at h
    induction l with
    | nil => rfl
    | cons a l ih => rw [List.any_cons, List.any_cons, h a (by simp), ih fun b hb => h b (by simp [hb])]
  unfold whyR whyP
  rw [e]
def okR (r : Rq) : Prop := r.vars.length ≤ 10000 ∧ r.atoms.length ≤ 10000 ∧ ∀ a ∈ r.atoms, a.p.nd ≤ 1000000
theorem rbound_loop {q : Nat} {st : St} (names : List (List UInt8)) (u : Nat) (r : Rq) (oq : st.ob q = some (.cells (qC r.vars 0 r.atoms 0))) (hn : names.length ≤ 100000) (hv : r.vars.length ≤ 100000) : ∀ (n i : Nat), i ≤ r.vars.length → r.vars.length < n + i →
    g29b111111010 n (.ptr q 0) (.lst (strsV names) u) (.int .i64 (i : Nat)) st = some (.ret (.int .i64 (if ((r.vars.drop i).any fun v => !names.contains v) = true then 91 else 0)), st) := by
  intro n
  induction n with
  | zero => intro i hi hn; omega
  | succ n ih =>
    intro i hi hn'
    rw [g29b111111010]
    have w0 : ∀ K : V → St → Res, A.load false 1 (.ptr q 0) st K = K (.lst (strsV r.vars) 0) st := fun K => by rw [load_ob, oq]; rfl
    simp only [faddr_ptr, Nat.zero_add, w0, lenL_lst, strsV_len, bin_lss]
    by_cases hil : i < r.vars.length
    · have e4 : ∀ K, A.bin .add (.int .i64 (i : Nat)) (.int .i64 1) K = K (.int .i64 ((i + 1 : Nat) : Int)) := fun K => bin_inc (by omega) K
      simp only [show ((i : Int) < (r.vars.length : Int)) from by omega, decide_true, cond_true, iaddr_strs 0 hil, load_l1', er1_lst, er1_str, rin_s names u r.vars[i] st hn, ret_ret, un_not]
      rw [List.drop_eq_getElem_cons hil, List.any_cons]
      cases hc : names.contains r.vars[i] with
      | true =>
        rw [Bool.not_true, cond_false, e4, Bool.false_or]
        exact ih (i + 1) (by omega) (by omega)
      | false => rfl
    · have : i = r.vars.length := by omega
      subst this
      simp only [Int.lt_irrefl, decide_false, cond_false, List.drop_length, er1_int]
      rfl
theorem rwhy_tail {c q : Nat} {st : St} {r : Rq} (oc : st.ob c = some (.cells (rqC r))) (oq : st.ob q = some (.cells (qC r.vars 0 r.atoms 0))) (hc : c < st.n) (hq : q < st.n) (h : okR r) :
    ∃ st', g29b111 (.ptr c 0) (.ptr q 0) st = some (.ret (.int .i64 (if 6 < r.vars.length ∨ 6 < r.atoms.length ∨ 6 < (namesP r.atoms).length ∨ 64 < r.ch.length then 2
  else if dupF [] r.vars = true then 1
  else if (r.vars.any fun v => !(namesP r.atoms).contains v) = true then 91 else 0)), st') ∧ Ks st st' := by
  unfold g29b111
  have ld : ∀ K : V → St → Res, A.load true 2 (.ptr q 0) st K = K (.agg (qyC r.vars 0 (r.atoms.map toA) 0)) st := fun K => by
    rw [load_obA, oq]
    show K (.agg [.lst (strsV r.vars) 0, .lst (r.atoms.map atpV) 0]) st = _
    rw [← atsV_toA]; rfl
  obtain ⟨s2, u, q1, k2⟩ := rnames_s r.vars (r.atoms.map toA) (by simp; exact h.2.1) st
  have er : (V.agg (qyC r.vars 0 (r.atoms.map toA) 0)).er1 = .agg (qyC r.vars 0 (r.atoms.map toA) 0) := rfl
  rw [ld, er, q1, ret_ret, namesL_toA]
  have oc2 := (k2.ob c hc).trans oc
  have oq2 := (k2.ob q hq).trans oq
  have hnl := namesP_len r.atoms
  have hnames : (namesP r.atoms).length ≤ 100000 := by have := h.2.1; omega
  have w0 : ∀ K : V → St → Res, A.load false 1 (.ptr q 0) s2 K = K (.lst (strsV r.vars) 0) s2 := fun K => by rw [load_ob, oq2]; rfl
  have w1 : ∀ K : V → St → Res, A.load false 1 (.ptr q 1) s2 K = K (.lst (r.atoms.map atpV) 0) s2 := fun K => by rw [load_ob, oq2]; rfl
  have w3 : ∀ K : V → St → Res, A.load false 1 (.ptr c 3) s2 K = K (.lst (r.ch.map chV) 0) s2 := fun K => by rw [load_ob, oc2]; rfl
  refine ⟨s2, ?_, k2⟩
  have fin : (6 < r.vars.length ∨ 6 < r.atoms.length ∨ 6 < (namesP r.atoms).length ∨ 64 < r.ch.length) → some (Out.ret ((.int .i64 2 : V).er1), s2) = some (.ret (.int .i64 (if 6 < r.vars.length ∨ 6 < r.atoms.length ∨ 6 < (namesP r.atoms).length ∨ 64 < r.ch.length then 2
  else if dupF [] r.vars = true then 1
  else if (r.vars.any fun v => !(namesP r.atoms).contains v) = true then 91 else 0)), s2) := fun hc => by rw [if_pos hc]; rfl
  simp only [faddr_ptr, Nat.zero_add, w0, lenL_lst, strsV_len, bin_gtr]
  by_cases c1 : 6 < r.vars.length
  · simp only [show ((6 : Int) < (r.vars.length : Int)) from by omega, decide_true, guard_tf]
    unfold g29b111100_11
    rw [guard_tf]
    exact fin (.inl c1)
  simp only [show ¬ ((6 : Int) < (r.vars.length : Int)) from by omega, decide_false, guard_ff, faddr_ptr, Nat.zero_add, w1, lenL_lst, List.length_map, bin_gtr]
  unfold g29b111100_11
  by_cases c2 : 6 < r.atoms.length
  · simp only [show ((6 : Int) < (r.atoms.length : Int)) from by omega, decide_true, guard_tf]
    exact fin (.inr (.inl c2))
  simp only [show ¬ ((6 : Int) < (r.atoms.length : Int)) from by omega, decide_false, guard_ff, lenL_lst, strsV_len, bin_gtr]
  by_cases c3 : 6 < (namesP r.atoms).length
  · simp only [show ((6 : Int) < ((namesP r.atoms).length : Int)) from by omega, decide_true, guard_tf]
    exact fin (.inr (.inr (.inl c3)))
  simp only [show ¬ ((6 : Int) < ((namesP r.atoms).length : Int)) from by omega, decide_false, guard_ff, faddr_ptr, Nat.zero_add, w3, lenL_lst, List.length_map, bin_gtr]
  by_cases c4 : 64 < r.ch.length
  · simp only [show ((64 : Int) < (r.ch.length : Int)) from by omega, decide_true, cond_true]
    exact fin (.inr (.inr (.inr c4)))
  simp only [show ¬ ((64 : Int) < (r.ch.length : Int)) from by omega, decide_false, cond_false]
  rw [if_neg (by omega)]
  unfold g29b11111
  simp only [faddr_ptr, Nat.zero_add, w0, er1_lst, alike_s r.vars 0 (by have := h.1; omega) s2, ret_ret]
  cases hd : dupF [] r.vars with
  | true => rfl
  | false =>
    rw [cond_false]
    have := rbound_loop (namesP r.atoms) u r oq2 hnames (by have := h.1; omega) big 0 (by omega) (lt_big (by have := h.1; omega))
    rw [List.drop_zero] at this
    rw [if_neg (by simp)]
    exact this
theorem rwhy_loop {st0 : St} {c q : Nat} {r : Rq} (hc : c < st0.n) (hq : q < st0.n) (hoc : st0.ob c = some (.cells (rqC r))) (hoq : st0.ob q = some (.cells (qC r.vars 0 r.atoms 0))) (h : okR r) :
    ∀ (n i : Nat) (st : St), i ≤ r.atoms.length → r.atoms.length < n + i → Ks st0 st →
      ∃ st', g29b11010 n (.ptr c 0) (.ptr q 0) (.int .i64 (i : Nat)) st = some (.ret (.int .i64 (if deepR (r.atoms.drop i) = true then 100
  else if 6 < r.vars.length ∨ 6 < r.atoms.length ∨ 6 < (namesP r.atoms).length ∨ 64 < r.ch.length then 2
  else if dupF [] r.vars = true then 1
  else if (r.vars.any fun v => !(namesP r.atoms).contains v) = true then 91 else 0)), st') ∧ Ks st0 st' := by
  intro n
  induction n with
  | zero => intro i st hi hn; omega
  | succ n ih =>
    intro i st hi hn hk
    rw [g29b11010]
    have oc := (hk.ob c hc).trans hoc
    have oq := (hk.ob q hq).trans hoq
    have hkn := hk.n
    have w1 : ∀ K : V → St → Res, A.load false 1 (.ptr q 1) st K = K (.lst (r.atoms.map atpV) 0) st := fun K => by rw [load_ob, oq]; rfl
    simp only [faddr_ptr, Nat.zero_add, w1, lenL_lst, List.length_map, bin_lss]
    by_cases hil : i < r.atoms.length
    · have e4 : ∀ K, A.bin .add (.int .i64 (i : Nat)) (.int .i64 1) K = K (.int .i64 ((i + 1 : Nat) : Int)) := fun K => bin_inc (by have := h.2.1; omega) K
      have fa : ∀ K, A.faddr 2 (.lptr (atpC r.atoms[i])) K = K (.lptr ((atpC r.atoms[i]).drop 2)) := fun K => rfl
      have ld : ∀ (s : St) K, A.load true 3 (.lptr ((atpC r.atoms[i]).drop 2)) s K = K (r.atoms[i].p).v s := fun s K => by rw [load_lptrA, pth_c]; rfl
      have hnd := h.2.2 r.atoms[i] (List.getElem_mem hil)
      simp only [show ((i : Int) < (r.atoms.length : Int)) from by omega, decide_true, cond_true, iaddr_atp 0 hil, fa, ld, pth_er, places_s r.atoms[i].p hnd, ret_ret, bin_gtr]
      have hd : deepR (r.atoms.drop i) = ((decide (24 < r.atoms[i].p.pl) || decide (12 < r.atoms[i].p.sz.2)) || deepR (r.atoms.drop (i + 1))) := by
        rw [List.drop_eq_getElem_cons hil]; rfl
      rw [hd]
      unfold g29b1101001000_9
      by_cases c1 : 24 < r.atoms[i].p.pl
      · simp only [show ((24 : Int) < (r.atoms[i].p.pl : Int)) from by omega, decide_true, guard_tf, c1, Bool.true_or, if_true, er1_int]
        exact ⟨st, rfl, hk⟩
      simp only [show ¬ ((24 : Int) < (r.atoms[i].p.pl : Int)) from by omega, decide_false, guard_ff, c1, Bool.false_or, faddr_ptr, Nat.zero_add, w1, iaddr_atp 0 hil, fa, ld, pth_er, deep_s r.atoms[i].p hnd, ret_ret, bin_gtr]
      by_cases c2 : 12 < r.atoms[i].p.sz.2
      · simp only [show ((12 : Int) < (r.atoms[i].p.sz.2 : Int)) from by omega, decide_true, cond_true, c2, Bool.true_or, if_true, er1_int]
        exact ⟨st, rfl, hk⟩
      simp only [show ¬ ((12 : Int) < (r.atoms[i].p.sz.2 : Int)) from by omega, decide_false, cond_false, c2, Bool.false_or, e4]
      exact ih (i + 1) st (by omega) (by omega) hk
    · have : i = r.atoms.length := by omega
      subst this
      simp only [Int.lt_irrefl, decide_false, cond_false, List.drop_length]
      obtain ⟨st', q1, q2⟩ := rwhy_tail oc oq (by omega) (by omega) h
      exact ⟨st', q1, hk.trans q2⟩
theorem rwhy_s {r : Rq} (h : okR r) (st : St) : s29 [rqV r] st = some (.ret (.int .i64 (whyR r)), st) := by
  have main : ∃ st', f29 (rqV r) st = some (.ret (.int .i64 (whyR r)), st') ∧ Ks st st' := by
    unfold f29
    have bx : ∀ K : V → St → Res, A.box (rqV r) st K = K (.ptr st.n 0) (st.new (.cells (rqC r))) := fun K => rfl
    have o1 := new_at st (.cells (rqC r))
    have k1 : Ks st (st.new (.cells (rqC r))) := (Ks.refl st).new _
    have n1 : (st.new (.cells (rqC r))).n = st.n + 1 := by simp
    rw [bx]
    generalize st.new (.cells (rqC r)) = s1 at o1 k1 n1 ⊢
    have w1 : ∀ K : V → St → Res, A.load true 2 (.ptr st.n 1) s1 K = K (.agg (qC r.vars 0 r.atoms 0)) s1 := fun K => by
      rw [load_obA, o1]; rfl
    have bx2 : ∀ K : V → St → Res, A.box (.agg [(.lst [] 1), (.lst [] 1)]) s1 K = K (.ptr s1.n 0) (s1.new (.cells [.lst [] 1, .lst [] 1])) := fun K => rfl
    rw [faddr_ptr, Nat.zero_add, w1, bx2, sv_all 2 _ (new_at _ _) rfl rfl rfl]
    have k2 : Ks st ((s1.new (.cells [.lst [] 1, .lst [] 1])).put s1.n (.cells (qC r.vars 0 r.atoms 0))) := (k1.new _).put (by omega) _
    have oq := put_at (s1.new (.cells [.lst [] 1, .lst [] 1])) s1.n (.cells (qC r.vars 0 r.atoms 0))
    have oc : ((s1.new (.cells [.lst [] 1, .lst [] 1])).put s1.n (.cells (qC r.vars 0 r.atoms 0))).ob st.n = some (.cells (rqC r)) := by rw [put_ne _ _ (by omega), new_ne _ _ (by omega)]; exact o1
    have n2 : ((s1.new (.cells [.lst [] 1, .lst [] 1])).put s1.n (.cells (qC r.vars 0 r.atoms 0))).n = s1.n + 1 := by simp
    generalize (s1.new (.cells [.lst [] 1, .lst [] 1])).put s1.n (.cells (qC r.vars 0 r.atoms 0)) = s2 at k2 oq oc n2 ⊢
    obtain ⟨st', r1, r2⟩ := rwhy_loop (by omega) (by omega) oc oq h big 0 s2 (by omega) (lt_big (by have := h.2.1; omega)) (Ks.refl s2)
    rw [List.drop_zero] at r1
    exact ⟨st', r1, k2.trans r2⟩
  obtain ⟨st', q1, q2⟩ := main
  rw [s29_eq]
  exact fg_of q1 q2 rfl
end Go.Ab

/- sinewref09: the walk of May. -/
namespace Go.Ab
open Go.Proofs Go.RowKit
set_option linter.unusedVariables false
set_option linter.unusedSimpArgs false
set_option maxRecDepth 100000
theorem part_iff' (b : UInt8) : partB b = true ↔ ((48 : Int) ≤ b.toNat ∧ (b.toNat : Int) ≤ 57) ∨ ((97 : Int) ≤ b.toNat ∧ (b.toNat : Int) ≤ 122) ∨ (b.toNat : Int) = 45 ∨ (b.toNat : Int) = 58 := by
  unfold partB partI
  simp only [Bool.or_eq_true, Bool.and_eq_true, decide_eq_true_eq, beq_iff_eq]
/-- The bytes of a word, as the reference asks for them. -/
theorem risx_29 (L : V → V → St → Res) (s : List UInt8) {i : Nat} (hi : i < s.length) (hl : s.length ≤ 9223372036854775807) (st : St) (v : Bool) : g69b101001000_29 L (.str s) (.int .i64 (i : Nat)) (.bool v) st = if v = true ∧ (s[i].toNat : Int) ≠ 58 then some (.ret (.bool false), st) else L (.str s) (.int .i64 ((i + 1 : Nat) : Int)) st := by
  have e4 : ∀ K, A.bin .add (.int .i64 (i : Nat)) (.int .i64 1) K = K (.int .i64 ((i + 1 : Nat) : Int)) := fun K => bin_inc (by omega) K
  unfold g69b101001000_29
  cases v with
  | false => rw [guard_ft, e4, if_neg (by simp)]
  | true =>
    rw [guard_tt]
    simp only [idxS_at hi, eql_int, if_true]
    by_cases h : (s[i].toNat : Int) = 58
    · rw [show ((s[i].toNat : Int) != 58) = false from by rw [h]; rfl, cond_false, e4, if_neg (by simp [h])]
    · rw [show ((s[i].toNat : Int) != 58) = true from bne_iff_ne.2 h, cond_true, if_pos ⟨trivial, h⟩]; rfl
theorem risx_23 (L : V → V → St → Res) (s : List UInt8) {i : Nat} (hi : i < s.length) (hl : s.length ≤ 9223372036854775807) (st : St) (v : Bool) : g69b101001000_23 L (.str s) (.int .i64 (i : Nat)) (.bool v) st = if v = true ∧ (s[i].toNat : Int) ≠ 45 ∧ (s[i].toNat : Int) ≠ 58 then some (.ret (.bool false), st) else L (.str s) (.int .i64 ((i + 1 : Nat) : Int)) st := by
  unfold g69b101001000_23
  cases v with
  | false => rw [guard_ft, risx_29 L s hi hl st false, if_neg (by simp), if_neg (by simp)]
  | true =>
    rw [guard_tt]
    simp only [idxS_at hi, eql_int, if_true]
    rw [risx_29 L s hi hl st _]
    by_cases h : (s[i].toNat : Int) = 45
    · rw [show ((s[i].toNat : Int) != 45) = false from by rw [h]; rfl, if_neg (by simp), if_neg (by simp [h])]
    · rw [show ((s[i].toNat : Int) != 45) = true from bne_iff_ne.2 h]
      by_cases h2 : (s[i].toNat : Int) = 58
      · rw [if_neg (by simp [h2]), if_neg (by simp [h2])]
      · rw [if_pos ⟨rfl, h2⟩, if_pos ⟨trivial, h, h2⟩]
theorem risx_11 (L : V → V → St → Res) (s : List UInt8) {i : Nat} (hi : i < s.length) (hl : s.length ≤ 9223372036854775807) (st : St) (v : Bool) : g69b101001000_11 L (.str s) (.int .i64 (i : Nat)) (.bool v) st = if v = true ∧ ((s[i].toNat : Int) < 48 ∨ 57 < (s[i].toNat : Int)) ∧ (s[i].toNat : Int) ≠ 45 ∧ (s[i].toNat : Int) ≠ 58 then some (.ret (.bool false), st) else L (.str s) (.int .i64 ((i + 1 : Nat) : Int)) st := by
  unfold g69b101001000_11
  cases v with
  | false => rw [guard_ft, risx_23 L s hi hl st false, if_neg (by simp), if_neg (by simp)]
  | true =>
    rw [guard_tt]
    simp only [idxS_at hi, bin_lss, guardT_b, bin_gtr]
    by_cases h : (s[i].toNat : Int) < 48
    · rw [decide_eq_true h, guard_tf, risx_23 L s hi hl st true]
      by_cases h2 : (s[i].toNat : Int) ≠ 45 ∧ (s[i].toNat : Int) ≠ 58
      · rw [if_pos ⟨rfl, h2⟩, if_pos ⟨trivial, .inl h, h2⟩]
      · rw [if_neg (fun g => h2 g.2), if_neg (fun g => h2 g.2.2)]
    · rw [decide_eq_false h, guard_ff, risx_23 L s hi hl st _]
      by_cases h1 : 57 < (s[i].toNat : Int)
      · rw [decide_eq_true h1]
        by_cases h2 : (s[i].toNat : Int) ≠ 45 ∧ (s[i].toNat : Int) ≠ 58
        · rw [if_pos ⟨rfl, h2⟩, if_pos ⟨trivial, .inr h1, h2⟩]
        · rw [if_neg (fun g => h2 g.2), if_neg (fun g => h2 g.2.2)]
      · rw [decide_eq_false h1, if_neg (by simp), if_neg (by rintro ⟨_, g | g, _⟩; exact h g; exact h1 g)]
theorem risx_loop (s : List UInt8) (hl : s.length ≤ 9223372036854775807) (st : St) : ∀ (n i : Nat), i ≤ s.length → s.length < n + i → g69b1010 n (.str s) (.int .i64 (i : Nat)) st = some (.ret (.bool ((s.drop i).all partB && (decide (1 ≤ s.length) && decide (s.length ≤ 16)))), st) := by
  intro n
  induction n with
  | zero => intro i hi hn; omega
  | succ n ih =>
    intro i hi hn
    rw [g69b1010]
    simp only [lenS_str, bin_lss]
    by_cases hil : i < s.length
    · rw [decide_eq_true (show ((i : Int) < (s.length : Int)) by omega), cond_true, List.drop_eq_getElem_cons hil, List.all_cons]
      have step : (A.idxS (.str s) (.int .i64 (i : Nat)) fun a3 => A.bin .lss a3 (.int .u8 97) fun a4 => A.guard a4 false (A.idxS (.str s) (.int .i64 (i : Nat)) fun a5 => A.bin .gtr a5 (.int .u8 122) fun a6 => g69b101001000_11 (g69b1010 n) (.str s) (.int .i64 (i : Nat)) a6 st) (g69b101001000_11 (g69b1010 n) (.str s) (.int .i64 (i : Nat)) (.bool true) st)) = if partB s[i] = true then (g69b1010 n) (.str s) (.int .i64 ((i + 1 : Nat) : Int)) st else some (.ret (.bool false), st) := by
        simp only [idxS_at hil, bin_lss, bin_gtr]
        have hp := part_iff' s[i]
        by_cases h1 : (s[i].toNat : Int) < 97
        · rw [decide_eq_true h1, guard_tf, risx_11 _ s hil hl st true]
          by_cases h2 : partB s[i] = true
          · rw [if_pos h2, if_neg]
            rintro ⟨_, g1, g2, g3⟩
            have := hp.1 h2
            omega
          · rw [if_neg h2, if_pos]
            refine ⟨rfl, ?_, ?_, ?_⟩
            · rcases Int.lt_or_le (s[i].toNat : Int) 48 with g | g
              · exact .inl g
              · rcases Int.lt_or_le 57 (s[i].toNat : Int) with g' | g'
                · exact .inr g'
                · exact absurd (hp.2 (.inl ⟨g, g'⟩)) h2
            · exact fun g => h2 (hp.2 (.inr (.inr (.inl g))))
            · exact fun g => h2 (hp.2 (.inr (.inr (.inr g))))
        · rw [decide_eq_false h1, guard_ff, risx_11 _ s hil hl st _]
          by_cases h3 : 122 < (s[i].toNat : Int)
          · rw [decide_eq_true h3]
            have hnp : ¬ partB s[i] = true := fun g => by have := hp.1 g; omega
            rw [if_neg hnp, if_pos ⟨rfl, .inr (by omega), by omega, by omega⟩]
          · rw [decide_eq_false h3, if_neg (by simp), if_pos (hp.2 (.inr (.inl ⟨by omega, by omega⟩)))]
      rw [step]
      cases hp : partB s[i] with
      | true => rw [if_pos rfl, ih (i + 1) (by omega) (by omega), Bool.true_and]
      | false => rw [if_neg Bool.false_ne_true]; rfl
    · have : i = s.length := by omega
      subst this
      rw [decide_eq_false (Int.lt_irrefl _), cond_false, List.drop_length]
      simp only [lenS_str, bin_geq, bin_leq]
      by_cases h1 : 1 ≤ s.length
      · rw [decide_eq_true (show ((1 : Int) ≤ (s.length : Int)) by omega), guard_tt, decide_eq_true h1]
        by_cases h2 : s.length ≤ 16
        · rw [decide_eq_true (show ((s.length : Int) ≤ 16) by omega), decide_eq_true h2]; rfl
        · rw [decide_eq_false (show ¬ ((s.length : Int) ≤ 16) by omega), decide_eq_false h2]; rfl
      · rw [decide_eq_false (show ¬ ((1 : Int) ≤ (s.length : Int)) by omega), guard_ft, decide_eq_false h1]; rfl
theorem rwordx_s (s : List UInt8) (hl : s.length ≤ 9223372036854775807) (st : St) : s69 [.str s] st = some (.ret (.bool (isWord s)), st) := by
  rw [s69_eq]
  refine fg_of (v := .bool (isWord s)) (st' := st) ?_ (Ks.refl st) rfl
  unfold f69
  have := risx_loop s hl st big 0 (by omega) (lt_big (by omega))
  rw [show ((0 : Nat) : Int) = 0 from rfl, List.drop_zero] at this
  rw [this]
  have e : (s.all partB && (decide (1 ≤ s.length) && decide (s.length ≤ 16))) = isWord s := by
    unfold isWord
    rw [Bool.eq_iff_iff]
    simp only [Bool.and_eq_true, decide_eq_true_eq, bne_iff_ne, ne_eq]
    constructor
    · rintro ⟨h1, h2, h3⟩; exact ⟨by rintro rfl; simp at h2, h3, h1⟩
    · rintro ⟨h1, h2, h3⟩; exact ⟨h3, List.length_pos_iff.2 h1, h2⟩
  rw [e]
theorem maycx_loop {c d : Nat} {st0 : St} {r : Rq} (hc : c < st0.n) (oc : st0.ob c = some (.cells (rqC r))) (hd : d < st0.n) (od : st0.ob d = some (.cells (qC r.vars 0 r.atoms 0))) (hlen : r.ch.length ≤ 1000000000) (hv : r.vars.length ≤ 1000000) (ha : r.atoms.length ≤ 1000000) (hw : ∀ x ∈ r.ch, chWok x) :
    ∀ (n i : Nat) (st : St), i ≤ r.ch.length → r.ch.length < n + i → Ks st0 st → ∃ st', g35b11010010 n (.ptr c 0) (.ptr d 0) (.int .i64 (i : Nat)) st = some (.ret (.bool ((r.ch.drop i).all okCh && ((r.vars.length + r.atoms.length == 0) && (decide (0 < r.ch.length) && decide (r.ch.length ≤ 64))))), st') ∧ Ks st0 st' := by
  intro n
  induction n with
  | zero => intro i st hi hn; omega
  | succ n ih =>
    intro i st hi hn hk
    rw [g35b11010010]
    obtain ⟨_, _, _, w3⟩ := rq_load ((hk.ob c hc).trans oc)
    have od' := (hk.ob d hd).trans od
    simp only [faddr_ptr, Nat.zero_add, w3, lenL_lst, List.length_map, bin_lss]
    by_cases hil : i < r.ch.length
    · have e4 : ∀ K, A.bin .add (.int .i64 (i : Nat)) (.int .i64 1) K = K (.int .i64 ((i + 1 : Nat) : Int)) := fun K => bin_inc (by omega) K
      have fa : ∀ K : V → Res, A.faddr 1 (.lptr (chC r.ch[i])) K = K (.lptr [.str r.ch[i].s, .str r.ch[i].p, .str r.ch[i].o]) := fun K => rfl
      have la : ∀ K : V → St → Res, A.load true 3 (.lptr [.str r.ch[i].s, .str r.ch[i].p, .str r.ch[i].o]) st K = K (.agg [.str r.ch[i].s, .str r.ch[i].p, .str r.ch[i].o]) st := fun K => by rw [load_lptrA]; rfl
      have bx : ∀ K : V → St → Res, A.box (.agg [(.str []), (.str []), (.str [])]) st K = K (.ptr st.n 0) (st.new (.cells [.str [], .str [], .str []])) := fun K => rfl
      simp only [show ((i : Int) < (r.ch.length : Int)) from by omega, decide_true, cond_true, iaddr_ch 0 hil, fa, la, bx]
      rw [sv_all 3 _ (new_at _ _) rfl rfl rfl]
      have k2 : Ks st0 ((st.new (.cells [.str [], .str [], .str []])).put st.n (.cells [.str r.ch[i].s, .str r.ch[i].p, .str r.ch[i].o])) := (hk.new _).put hk.n _
      have o2 := put_at (st.new (.cells [.str [], .str [], .str []])) st.n (.cells [.str r.ch[i].s, .str r.ch[i].p, .str r.ch[i].o])
      generalize (st.new (.cells [.str [], .str [], .str []])).put st.n (.cells [.str r.ch[i].s, .str r.ch[i].p, .str r.ch[i].o]) = s2 at k2 o2 ⊢
      obtain ⟨z1, z2, z3⟩ := hw r.ch[i] (List.getElem_mem hil)
      have v1 : ∀ K : V → St → Res, A.load false 1 (.ptr st.n 0) s2 K = K (.str r.ch[i].s) s2 := fun K => by rw [load_ob, o2]; rfl
      have v2 : ∀ K : V → St → Res, A.load false 1 (.ptr st.n 1) s2 K = K (.str r.ch[i].p) s2 := fun K => by rw [load_ob, o2]; rfl
      have v3 : ∀ K : V → St → Res, A.load false 1 (.ptr st.n 2) s2 K = K (.str r.ch[i].o) s2 := fun K => by rw [load_ob, o2]; rfl
      rw [List.drop_eq_getElem_cons hil, List.all_cons]
      have hok : okCh r.ch[i] = (isWord r.ch[i].s && (isWord r.ch[i].p && isWord r.ch[i].o)) := rfl
      rw [hok]
      unfold g35b1101001001001
      simp only [faddr_ptr, Nat.zero_add, v1, er1_str, rwordx_s r.ch[i].s z1, ret_ret, un_not]
      cases h1 : isWord r.ch[i].s with
      | false =>
        rw [Bool.not_false, guard_tf]
        unfold g35b11010010010010_11
        rw [guard_tf]
        exact ⟨s2, rfl, k2⟩
      | true =>
        rw [Bool.not_true, guard_ff]
        simp only [faddr_ptr, Nat.zero_add, v2, er1_str, rwordx_s r.ch[i].p z2, ret_ret, un_not]
        unfold g35b11010010010010_11
        cases h2 : isWord r.ch[i].p with
        | false => rw [Bool.not_false, guard_tf]; exact ⟨s2, rfl, k2⟩
        | true =>
          rw [Bool.not_true, guard_ff]
          simp only [faddr_ptr, Nat.zero_add, v3, er1_str, rwordx_s r.ch[i].o z3, ret_ret, un_not]
          cases h3 : isWord r.ch[i].o with
          | false => exact ⟨s2, rfl, k2⟩
          | true =>
            rw [Bool.not_true, cond_false, e4]
            simp only [Bool.true_and]
            exact ih (i + 1) s2 (by omega) (by omega) k2
    · have : i = r.ch.length := by omega
      subst this
      simp only [Int.lt_irrefl, decide_false, cond_false, List.drop_length]
      unfold g35b110101
      have y0 : ∀ K : V → St → Res, A.load false 1 (.ptr d 0) st K = K (.lst (strsV r.vars) 0) st := fun K => by rw [load_ob, od']; rfl
      have y1 : ∀ K : V → St → Res, A.load false 1 (.ptr d 1) st K = K (.lst (r.atoms.map atpV) 0) st := fun K => by rw [load_ob, od']; rfl
      simp only [faddr_ptr, Nat.zero_add, y0, y1, lenL_lst, List.length_map, strsV_len]
      rw [bin_addN r.vars.length r.atoms.length _ (by omega)]
      simp only [eql_int, Bool.false_eq_true, if_false]
      have e0 : (((r.vars.length + r.atoms.length : Nat) : Int) == 0) = (r.vars.length + r.atoms.length == 0) := by
        cases hz : (r.vars.length + r.atoms.length == 0) with
        | true => rw [beq_iff_eq] at hz ⊢; omega
        | false => rw [beq_eq_false_iff_ne] at hz ⊢; omega
      rw [e0]
      unfold g35b1101010_9
      refine ⟨st, ?_, hk⟩
      cases hz : (r.vars.length + r.atoms.length == 0) with
      | false => rw [guard_ft]; unfold g35b1101010_15; rw [guard_ft]; rfl
      | true =>
        rw [guard_tt]
        simp only [faddr_ptr, Nat.zero_add, w3, lenL_lst, List.length_map, bin_geq]
        unfold g35b1101010_15
        by_cases h1 : 0 < r.ch.length
        · rw [decide_eq_true (show ((1 : Int) ≤ (r.ch.length : Int)) by omega), guard_tt, decide_eq_true h1]
          simp only [faddr_ptr, Nat.zero_add, w3, lenL_lst, List.length_map, bin_leq]
          by_cases h2 : r.ch.length ≤ 64
          · rw [decide_eq_true (show ((r.ch.length : Int) ≤ 64) by omega), decide_eq_true h2]; rfl
          · rw [decide_eq_false (show ¬ ((r.ch.length : Int) ≤ 64) by omega), decide_eq_false h2]; rfl
        · rw [decide_eq_false (show ¬ ((1 : Int) ≤ (r.ch.length : Int)) by omega), guard_ft, decide_eq_false h1]; rfl
end Go.Ab

/- sinewref09: the walk of shaped, MayPath, May. -/
namespace Go.Ab
open Go.Proofs Go.RowKit
set_option linter.unusedVariables false
set_option linter.unusedSimpArgs false
set_option maxRecDepth 100000
def shape2 (k : Int) (w : List UInt8) (n d : Nat) : Bool := shape1 k w n && (decide (0 < d) && decide (n ≤ 24))
def Pth.shd : Pth → Nat → Bool
  | .mk k w l, d => if k = 1 then decide (0 < d) && (l.length == 0 && isWord w) else shape2 k w l.length d && shdl l (d - 1)
where shdl : List Pth → Nat → Bool
  | [], _ => true
  | p :: l, d => p.shd d && shdl l d
abbrev Pth.shdl := Pth.shd.shdl
theorem shd_eq (k : Int) (w : List UInt8) (l : List Pth) (d : Nat) : (Pth.mk k w l).shd d = if k = 1 then decide (0 < d) && (l.length == 0 && isWord w) else shape2 k w l.length d && Pth.shdl l (d - 1) := rfl
mutual
theorem shd_sh : ∀ (p : Pth) (d : Nat), p.shd d = true → p.shP = true ∧ p.sz.2 ≤ d
  | .mk k w l, d, h => by
    rw [shd_eq] at h
    rw [shP_eq, sz_eq]
    by_cases hk : k = 1
    · rw [if_pos hk] at h
      rw [if_pos hk]
      simp only [Bool.and_eq_true, decide_eq_true_eq, beq_iff_eq] at h
      have hl : l = [] := List.length_eq_zero_iff.1 h.2.1
      subst hl
      exact ⟨by simp [h.2.2], by rw [szl_nil]; simp only; omega⟩
    · rw [if_neg hk] at h
      rw [if_neg hk]
      unfold shape2 at h
      simp only [Bool.and_eq_true, decide_eq_true_eq] at h
      obtain ⟨⟨h1, h2, h3⟩, h4⟩ := h
      obtain ⟨a, b⟩ := shdl_sh l (d - 1) h4
      exact ⟨by rw [h1, a]; rfl, by simp only; omega⟩
theorem shdl_sh : ∀ (l : List Pth) (d : Nat), Pth.shdl l d = true → Pth.shPl l = true ∧ (Pth.szl l).2 ≤ d
  | [], d, h => ⟨rfl, Nat.zero_le _⟩
  | p :: l, d, h => by
    have h' : (p.shd d && Pth.shdl l d) = true := h
    rw [Bool.and_eq_true] at h'
    obtain ⟨a, b⟩ := shd_sh p d h'.1
    obtain ⟨c, e⟩ := shdl_sh l d h'.2
    refine ⟨?_, by rw [szl_cons]; simp only; omega⟩
    show (p.shP && Pth.shPl l) = true
    rw [a, c]; rfl
end
mutual
theorem pl_pos : ∀ p : Pth, p.shP = true → 1 ≤ p.pl
  | .mk k w l, h => by
    rw [pl_eq]
    rcases shP_cases h with ⟨rfl, _⟩ | ⟨hk, _, hl, hq⟩ | ⟨hk, _, q, rfl, hq⟩
    · rw [if_pos rfl]; omega
    · have h1 : k ≠ 1 := by rcases hk with rfl | rfl <;> decide
      rw [if_neg h1]
      have := pll_len l hq
      omega
    · have h1 : k ≠ 1 := by rcases hk with rfl | rfl | rfl <;> decide
      rw [if_neg h1, pll_cons]
      have := pl_pos q hq
      omega
theorem pll_len : ∀ l : List Pth, (∀ p ∈ l, p.shP = true) → l.length ≤ Pth.pll l
  | [], _ => Nat.le_refl _
  | p :: l, h => by
    rw [pll_cons]
    have h1 := pl_pos p (h p (by simp))
    have h2 := pll_len l fun q hq => h q (by simp [hq])
    simp only [List.length_cons]; omega
end
mutual
theorem sh_shd : ∀ (p : Pth) (d : Nat), p.shP = true → p.sz.2 ≤ d → p.pl ≤ 24 → p.shd d = true
  | .mk k w l, d, h, hd, hp => by
    rw [shd_eq]
    rw [sz_eq] at hd
    rw [pl_eq] at hp
    rw [shP_eq] at h
    simp only at hd
    by_cases hk : k = 1
    · rw [if_pos hk] at h ⊢
      rw [Bool.and_eq_true, List.isEmpty_iff] at h
      obtain ⟨rfl, hw⟩ := h
      rw [hw, decide_eq_true (by omega)]; rfl
    · rw [if_neg hk] at h hp ⊢
      rw [Bool.and_eq_true] at h
      have hall : ∀ p ∈ l, p.shP = true := by have := h.2; rw [shPl_all] at this; exact List.all_eq_true.1 this
      have hlen := pll_len l hall
      unfold shape2
      rw [h.1, decide_eq_true (show 0 < d by omega), decide_eq_true (show l.length ≤ 24 by omega), shl_shdl l (d - 1) hall (by omega) hp]; rfl
theorem shl_shdl : ∀ (l : List Pth) (d : Nat), (∀ p ∈ l, p.shP = true) → (Pth.szl l).2 ≤ d → Pth.pll l ≤ 24 → Pth.shdl l d = true
  | [], d, h, hd, hp => rfl
  | p :: l, d, h, hd, hp => by
    rw [szl_cons] at hd
    rw [pll_cons] at hp
    simp only at hd
    show (p.shd d && Pth.shdl l d) = true
    rw [sh_shd p d (h p (by simp)) (by omega) (by omega), shl_shdl l d (fun q hq => h q (by simp [hq])) (by omega) (by omega)]; rfl
end
theorem may_path (p : Pth) : (p.shd 12 && decide (p.pl ≤ 24)) = (p.fitsP 12 24).isSome := by
  rw [Bool.eq_iff_iff, fits_some, Bool.and_eq_true, decide_eq_true_eq]
  constructor
  · rintro ⟨a, b⟩; obtain ⟨c, e⟩ := shd_sh p 12 a; exact ⟨c, b, e⟩
  · rintro ⟨a, b, c⟩; exact ⟨sh_shd p 12 a c b, b⟩
theorem shaped_loop {R : Fn} {d : Nat} (hd : d ≤ 1000) {st0 : St} {c : Nat} {k : Int} {w : List UInt8} {l : List Pth} (hc : c < st0.n) (hoc : st0.ob c = some (.cells (pthC (.mk k w l)))) (hlen : l.length ≤ 24) (hR : ∀ p ∈ l, ∀ st, R [p.v, .int .i64 (d : Nat)] st = some (.ret (.bool (p.shd d)), st)) :
    ∀ (n i : Nat) (st : St), i ≤ l.length → l.length < n + i → Ks st0 st →
      ∃ st', g91b11111010 R n (.int .i64 ((d + 1 : Nat) : Int)) (.ptr c 0) (.int .i64 (l.length : Nat)) (.int .i64 (i : Nat)) st = some (.ret (.bool (Pth.shdl (l.drop i) d)), st') ∧ Ks st0 st' := by
  intro n
  induction n with
  | zero => intro i st hi hn; omega
  | succ n ih =>
    intro i st hi hn hk
    rw [g91b11111010, bin_lss]
    have o := (hk.ob c hc).trans hoc
    have w2 : ∀ K : V → St → Res, A.load false 1 (.ptr c 2) st K = K (.lst (l.map Pth.v) 0) st := fun K => by rw [load_ob, o]; rfl
    by_cases hil : i < l.length
    · rw [List.drop_eq_getElem_cons hil, decide_eq_true (show ((i : Int) < (l.length : Int)) by omega), cond_true, faddr_ptr, Nat.zero_add, w2, iaddr_pth 0 hil, load_pth, bin_dec (d + 1) (by omega), show (((d + 1 : Nat) : Int) - 1) = ((d : Nat) : Int) from by omega, pth_er, er1_int, hR l[i] (List.getElem_mem hil), ret_ret, un_not]
      have e : Pth.shdl (l[i] :: l.drop (i + 1)) d = (l[i].shd d && Pth.shdl (l.drop (i + 1)) d) := rfl
      rw [e]
      cases l[i].shd d with
      | false => rw [Bool.not_false, cond_true]; exact ⟨st, rfl, hk⟩
      | true =>
        rw [Bool.not_true, cond_false, bin_inc (by omega), Bool.true_and]
        exact ih (i + 1) st (by omega) (by omega) hk
    · have : i = l.length := by omega
      subst this
      rw [decide_eq_false (show ¬ ((l.length : Int) < (l.length : Int)) by omega), cond_false, List.drop_length]
      exact ⟨st, rfl, hk⟩
theorem shaped_n : ∀ (d n : Nat), d ≤ n → d ≤ 1000 → ∀ (p : Pth) (st : St), p.wok → s91n (n + 1) [p.v, .int .i64 (d : Nat)] st = some (.ret (.bool (p.shd d)), st)
  | d, n, hn, hd, .mk k w l, st, hwok => by
    rw [s91n_eq]
    obtain ⟨hwl, hwk⟩ : w.length ≤ 9223372036854775807 ∧ Pth.wokl l := hwok
    have hkok : ∀ q ∈ l, q.wok := by
      clear hn hd
      induction l with
      | nil => intro q hq; cases hq
      | cons a l ih =>
        intro q hq
        obtain ⟨g1, g2⟩ : a.wok ∧ Pth.wokl l := hwk
        rcases List.mem_cons.1 hq with rfl | g
        · exact g1
        · exact ih g2 q g
    have main : ∃ st', f91 (s91n n) (Pth.mk k w l).v (.int .i64 (d : Nat)) st = some (.ret (.bool ((Pth.mk k w l).shd d)), st') ∧ Ks st st' := by
      unfold f91
      have bx : ∀ K : V → St → Res, A.box (Pth.mk k w l).v st K = K (.ptr st.n 0) (st.new (.cells (pthC (.mk k w l)))) := fun K => by rw [pth_c]; rfl
      have o1 := new_at st (.cells (pthC (.mk k w l)))
      have k1 : Ks st (st.new (.cells (pthC (.mk k w l)))) := (Ks.refl st).new _
      have n1 : st.n < (st.new (.cells (pthC (.mk k w l)))).n := by simp
      rw [bx]
      generalize st.new (.cells (pthC (.mk k w l))) = s1 at o1 k1 n1 ⊢
      have w0 : ∀ K : V → St → Res, A.load false 1 (.ptr st.n 0) s1 K = K (.int .i64 k) s1 := fun K => by rw [load_ob, o1]; rfl
      have w1 : ∀ K : V → St → Res, A.load false 1 (.ptr st.n 1) s1 K = K (.str w) s1 := fun K => by rw [load_ob, o1]; rfl
      have w2 : ∀ K : V → St → Res, A.load false 1 (.ptr st.n 2) s1 K = K (.lst (l.map Pth.v) 0) s1 := fun K => by rw [load_ob, o1]; rfl
      have edg : decide ((0 : Int) < (d : Int)) = decide (0 < d) := by
        by_cases h : 0 < d
        · rw [decide_eq_true h, decide_eq_true (by omega)]
        · rw [decide_eq_false h, decide_eq_false (by omega)]
      simp only [faddr_ptr, Nat.zero_add, w2, lenL_lst, List.length_map, bin_gtr, w0, edg]
      rw [shd_eq]
      unfold g91b11101
      rw [eql_int, if_neg Bool.false_ne_true]
      by_cases hk1 : k = 1
      · rw [show (k == 1) = true from by rw [hk1]; rfl, cond_true, if_pos hk1]
        cases hd0 : decide (0 < d) with
        | false => rw [guard_ft]; exact ⟨s1, rfl, k1⟩
        | true =>
          rw [guard_tt, eql_int, if_neg Bool.false_ne_true]
          have e0 : ((l.length : Int) == 0) = (l.length == 0) := by
            cases hz : (l.length == 0) with
            | true => rw [beq_iff_eq] at hz ⊢; omega
            | false => rw [beq_eq_false_iff_ne] at hz ⊢; omega
          rw [e0]
          cases hz : (l.length == 0) with
          | false => rw [guard_ft]; exact ⟨s1, rfl, k1⟩
          | true =>
            rw [guard_tt, faddr_ptr, Nat.zero_add, w1, er1_str, rwordx_s w hwl, ret_ret]
            exact ⟨s1, rfl, k1⟩
      · rw [show (k == 1) = false from beq_eq_false_iff_ne.2 hk1, cond_false, if_neg hk1]
        -- behind the switch
        have tail : ∀ ok : Bool, (ok && w == []) = (shape1 k w l.length && decide (0 < d)) → ∃ st', g91b1111 (s91n n) (.int .i64 (d : Nat)) (.ptr st.n 0) (.int .i64 (l.length : Nat)) (.bool ok) s1 = some (.ret (.bool (shape2 k w l.length d && Pth.shdl l (d - 1))), st') ∧ Ks st st' := fun ok hok => by
          have e2 : shape2 k w l.length d = ((ok && w == []) && decide (l.length ≤ 24)) := by
            rw [hok]; unfold shape2; rw [Bool.and_assoc]
          rw [e2]
          unfold g91b1111
          rw [un_not]
          cases ok with
          | false => rw [Bool.not_false, guard_tf]; exact ⟨s1, rfl, k1⟩
          | true =>
            rw [Bool.not_true, guard_ff, faddr_ptr, Nat.zero_add, w1, eql_str, if_pos rfl]
            by_cases hw : w = []
            case neg =>
              rw [show (w != []) = true from bne_iff_ne.2 hw, guard_tf, show (w == []) = false from beq_eq_false_iff_ne.2 hw]
              exact ⟨s1, rfl, k1⟩
            have hd0 : 0 < d := by
              rw [hw] at hok
              have : (true && ([] : List UInt8) == []) = true := rfl
              rw [this] at hok
              have := hok.symm
              rw [Bool.and_eq_true, decide_eq_true_eq] at this
              exact this.2
            rw [show (w != []) = false from by rw [hw]; rfl, guard_ff, show (w == []) = true from by rw [hw]; rfl, bin_gtr]
            by_cases h24 : l.length ≤ 24
            case neg =>
              rw [decide_eq_true (show ((24 : Int) < (l.length : Int)) by omega), cond_true, decide_eq_false h24]
              exact ⟨s1, rfl, k1⟩
            rw [decide_eq_false (show ¬ ((24 : Int) < (l.length : Int)) by omega), cond_false, decide_eq_true h24]
            unfold g91b11111
            obtain ⟨d, rfl⟩ : ∃ d', d = d' + 1 := ⟨d - 1, by omega⟩
            obtain ⟨m, rfl⟩ : ∃ m, n = m + 1 := ⟨n - 1, by omega⟩
            obtain ⟨st', q1, q2⟩ := shaped_loop (d := d) (by omega) n1 o1 h24 (fun q hq st => shaped_n d m (by omega) (by omega) q st (hkok q hq)) big 0 s1 (by omega) (lt_big (by omega)) (Ks.refl s1)
            rw [List.drop_zero] at q1
            exact ⟨st', q1, k1.trans q2⟩
        have e1 : ((l.length : Int) == 1) = (l.length == 1) := by
          cases hz : (l.length == 1) with
          | true => rw [beq_iff_eq] at hz ⊢; omega
          | false => rw [beq_eq_false_iff_ne] at hz ⊢; omega
        have e2 : decide ((2 : Int) ≤ (l.length : Int)) = decide (2 ≤ l.length) := by
          by_cases h : 2 ≤ l.length
          · rw [decide_eq_true h, decide_eq_true (by omega)]
          · rw [decide_eq_false h, decide_eq_false (by omega)]
        have post : ∀ c : Bool, (c = true ↔ k = 4 ∨ k = 5 ∨ k = 6) → (k ≠ 2 ∧ k ≠ 3) → ∃ st', g91b11101011111 (s91n n) (.int .i64 (d : Nat)) (.ptr st.n 0) (.int .i64 (l.length : Nat)) (.bool (decide (0 < d))) (.bool c) s1 = some (.ret (.bool (shape2 k w l.length d && Pth.shdl l (d - 1))), st') ∧ Ks st st' := fun c hc hk23 => by
          unfold g91b11101011111
          have b2 : (k == 2) = false := beq_eq_false_iff_ne.2 hk23.1
          have b3 : (k == 3) = false := beq_eq_false_iff_ne.2 hk23.2
          cases c with
          | false =>
            rw [cond_false]
            have hn : ¬ (k = 4 ∨ k = 5 ∨ k = 6) := fun h => by have := hc.2 h; cases this
            have b4 : (k == 4) = false := beq_eq_false_iff_ne.2 fun h => hn (.inl h)
            have b5 : (k == 5) = false := beq_eq_false_iff_ne.2 fun h => hn (.inr (.inl h))
            have b6 : (k == 6) = false := beq_eq_false_iff_ne.2 fun h => hn (.inr (.inr h))
            have : shape2 k w l.length d = false := by unfold shape2 shape1; rw [b2, b3, b4, b5, b6]; rfl
            rw [this]
            exact ⟨s1, rfl, k1⟩
          | true =>
            have h456 := hc.1 rfl
            have hs : shape1 k w l.length = (l.length == 1 && w == []) := by
              unfold shape1
              rw [b2, b3]
              have : (k == 4 || (k == 5 || k == 6)) = true := by rcases h456 with rfl | rfl | rfl <;> rfl
              rw [this]; rfl
            rw [cond_true]
            cases hd0 : decide (0 < d) with
            | false => rw [guard_ft]; exact tail false (by rw [hd0, Bool.and_false]; rfl)
            | true =>
              rw [guard_tt, eql_int, if_neg Bool.false_ne_true, e1]
              exact tail _ (by rw [hd0, hs, Bool.and_true])
        have more : ∀ c : Bool, (c = true ↔ k = 2 ∨ k = 3) → ∃ st', g91b111010111 (s91n n) (.int .i64 (d : Nat)) (.ptr st.n 0) (.int .i64 (l.length : Nat)) (.bool (decide (0 < d))) (.int .i64 k) (.bool c) s1 = some (.ret (.bool (shape2 k w l.length d && Pth.shdl l (d - 1))), st') ∧ Ks st st' := fun c hc => by
          unfold g91b111010111
          cases c with
          | true =>
            have h23 := hc.1 rfl
            have hs : shape1 k w l.length = (decide (2 ≤ l.length) && w == []) := by
              unfold shape1
              rcases h23 with rfl | rfl
              · cases decide (2 ≤ l.length) <;> rfl
              · cases decide (2 ≤ l.length) <;> rfl
            rw [cond_true]
            cases hd0 : decide (0 < d) with
            | false => rw [guard_ft]; exact tail false (by rw [hd0, Bool.and_false]; rfl)
            | true =>
              rw [guard_tt, bin_geq, e2]
              exact tail _ (by rw [hd0, hs, Bool.and_true])
          | false =>
            have h2 : k ≠ 2 := fun h => by have := hc.2 (.inl h); cases this
            have h3 : k ≠ 3 := fun h => by have := hc.2 (.inr h); cases this
            rw [cond_false, eql_int, if_neg Bool.false_ne_true]
            by_cases h4 : k = 4
            · rw [show (k == 4) = true from by rw [h4]; rfl, cond_true]; exact post true (by simp [h4]) ⟨h2, h3⟩
            rw [show (k == 4) = false from beq_eq_false_iff_ne.2 h4, cond_false, eql_int, if_neg Bool.false_ne_true]
            by_cases h5 : k = 5
            · rw [show (k == 5) = true from by rw [h5]; rfl, cond_true]; exact post true (by simp [h5]) ⟨h2, h3⟩
            rw [show (k == 5) = false from beq_eq_false_iff_ne.2 h5, cond_false, eql_int, if_neg Bool.false_ne_true]
            refine post _ ?_ ⟨h2, h3⟩
            rw [beq_iff_eq]
            exact ⟨fun h => .inr (.inr h), fun h => (h.resolve_left h4).resolve_left h5⟩
        rw [eql_int, if_neg Bool.false_ne_true]
        by_cases h2 : k = 2
        · rw [show (k == 2) = true from by rw [h2]; rfl, cond_true]
          exact more true (by simp [h2])
        · rw [show (k == 2) = false from beq_eq_false_iff_ne.2 h2, cond_false, eql_int, if_neg Bool.false_ne_true]
          refine more _ ?_
          rw [beq_iff_eq]
          exact ⟨.inr, fun h => h.resolve_left h2⟩
    obtain ⟨st', q1, q2⟩ := main
    exact fg_of q1 q2 rfl
theorem shaped_s (p : Pth) (hw : p.wok) (d : Nat) (hd : d ≤ 1000) (st : St) : s91 [p.v, .int .i64 (d : Nat)] st = some (.ret (.bool (p.shd d)), st) := by
  rw [s91_n]
  obtain ⟨M, hM, hM2⟩ := big_succ
  rw [hM]
  exact shaped_n d M (by omega) hd p st hw
theorem mayPath_s (p : Pth) (hw : p.wok) (hn : p.nd ≤ 1000000) (st : St) : s70 [p.v] st = some (.ret (.bool (p.fitsP 12 24).isSome), st) := by
  rw [s70_eq]
  have main : ∃ st', f70 p.v st = some (.ret (.bool (p.fitsP 12 24).isSome), st') ∧ Ks st st' := by
    unfold f70
    have bx : ∀ K : V → St → Res, A.box p.v st K = K (.ptr st.n 0) (st.new (.cells (pthC p))) := fun K => by rw [pth_c]; rfl
    have o1 := new_at st (.cells (pthC p))
    have k1 : Ks st (st.new (.cells (pthC p))) := (Ks.refl st).new _
    rw [bx]
    generalize st.new (.cells (pthC p)) = s1 at o1 k1 ⊢
    have ld : ∀ K : V → St → Res, A.load true 3 (.ptr st.n 0) s1 K = K p.v s1 := fun K => by rw [load_obA, o1, pth_c]; rfl
    rw [ld, pth_er, er1_int, show (.int .i64 12 : V) = .int .i64 ((12 : Nat) : Int) from rfl, shaped_s p hw 12 (by omega), ret_ret, ← may_path]
    cases p.shd 12 with
    | false => rw [guard_ft]; exact ⟨s1, rfl, k1⟩
    | true =>
      have e : decide ((p.pl : Int) ≤ 24) = decide (p.pl ≤ 24) := by
        by_cases h : p.pl ≤ 24
        · rw [decide_eq_true h, decide_eq_true (by omega)]
        · rw [decide_eq_false h, decide_eq_false (by omega)]
      rw [guard_tt, ld, pth_er, places_s p hn, ret_ret, bin_leq, e]
      exact ⟨s1, rfl, k1⟩
  obtain ⟨st', q1, q2⟩ := main
  exact fg_of q1 q2 rfl
end Go.Ab

/- sinewref09: the walk of May. -/
namespace Go.Ab
open Go.Proofs Go.RowKit
set_option linter.unusedVariables false
set_option linter.unusedSimpArgs false
set_option maxRecDepth 100000
mutual
theorem sh_pl : ∀ p : Pth, p.shP = true → p.pl = p.sz.1
  | .mk k w l, h => by
    rw [pl_eq, sz_eq]
    rcases shP_cases h with ⟨rfl, rfl, _⟩ | ⟨hk, _, _, hq⟩ | ⟨hk, _, q, rfl, hq⟩
    · rfl
    · have h1 : k ≠ 1 := by rcases hk with rfl | rfl <;> decide
      rw [if_neg h1, if_neg h1]
      have := shl_pl l hq
      simp only; omega
    · have h1 : k ≠ 1 := by rcases hk with rfl | rfl | rfl <;> decide
      rw [if_neg h1, if_neg h1, pll_cons, pll_nil, szl_cons, szl_nil]
      have := sh_pl q hq
      simp only; omega
theorem shl_pl : ∀ l : List Pth, (∀ p ∈ l, p.shP = true) → Pth.pll l = (Pth.szl l).1
  | [], _ => rfl
  | p :: l, h => by
    rw [pll_cons, szl_cons]
    have h1 := sh_pl p (h p (by simp))
    have h2 := shl_pl l fun q hq => h q (by simp [hq])
    simp only; omega
end
theorem maya_loop {c d : Nat} {st0 : St} {r : Rq} (hc : c < st0.n) (oc : st0.ob c = some (.cells (rqC r))) (hd : d < st0.n) (od : st0.ob d = some (.cells (qC r.vars 0 r.atoms 0))) (ho : okR r) (hw : ∀ a ∈ r.atoms, atWok a) :
    ∀ (n i : Nat) (st : St), i ≤ r.atoms.length → r.atoms.length < n + i → Ks st0 st → ∃ st', g35b11111010 n (.ptr c 0) (.ptr d 0) (.int .i64 (i : Nat)) st = some (.ret (.bool ((r.atoms.drop i).all okAt && whyR r == 0)), st') ∧ Ks st0 st' := by
  intro n
  induction n with
  | zero => intro i st hi hn; omega
  | succ n ih =>
    intro i st hi hn hk
    rw [g35b11111010]
    have oc' := (hk.ob c hc).trans oc
    have od' := (hk.ob d hd).trans od
    have w1 : ∀ K : V → St → Res, A.load false 1 (.ptr d 1) st K = K (.lst (r.atoms.map atpV) 0) st := fun K => by rw [load_ob, od']; rfl
    rw [faddr_ptr, Nat.zero_add, w1, lenL_lst, List.length_map, bin_lss]
    by_cases hil : i < r.atoms.length
    · have ld : ∀ (s : St) K, A.load true 7 (.lptr (atpC r.atoms[i])) s K = K (.agg (atpC r.atoms[i])) s := fun s K => by rw [load_lptrA]; rfl
      rw [decide_eq_true (show ((i : Int) < (r.atoms.length : Int)) by omega), cond_true, faddr_ptr, Nat.zero_add, w1, iaddr_atp 0 hil, ld, bx_atp, sv_all 7 _ (new_at _ _) rfl rfl rfl]
      have k2 : Ks st0 ((st.new (.cells [(.bool false), (.str []), (.int .i64 0), (.str []), (.lst [] 1), (.bool false), (.str [])])).put st.n (.cells (atpC r.atoms[i]))) := (hk.new _).put hk.n _
      have o2 := put_at (st.new (.cells [(.bool false), (.str []), (.int .i64 0), (.str []), (.lst [] 1), (.bool false), (.str [])])) st.n (.cells (atpC r.atoms[i]))
      generalize (st.new (.cells [(.bool false), (.str []), (.int .i64 0), (.str []), (.lst [] 1), (.bool false), (.str [])])).put st.n (.cells (atpC r.atoms[i])) = s2 at k2 o2 ⊢
      have v1 : ∀ K : V → St → Res, A.load false 1 (.ptr st.n 1) s2 K = K (.str r.atoms[i].s.n) s2 := fun K => by rw [load_ob, o2]; rfl
      have v6 : ∀ K : V → St → Res, A.load false 1 (.ptr st.n 6) s2 K = K (.str r.atoms[i].o.n) s2 := fun K => by rw [load_ob, o2]; rfl
      have v2 : ∀ K : V → St → Res, A.load true 3 (.ptr st.n 2) s2 K = K (r.atoms[i].p).v s2 := fun K => by rw [load_obA, o2, pth_c]; rfl
      obtain ⟨z1, z2, z3⟩ := hw r.atoms[i] (List.getElem_mem hil)
      have hnd := ho.2.2 r.atoms[i] (List.getElem_mem hil)
      have hat := ho.2.1
      rw [List.drop_eq_getElem_cons hil, List.all_cons]
      have hok : okAt r.atoms[i] = (isWord r.atoms[i].s.n && (isWord r.atoms[i].o.n && (r.atoms[i].p.fitsP 12 24).isSome)) := rfl
      rw [hok]
      unfold g35b1111101001001
      rw [faddr_ptr, Nat.zero_add, faddr_ptr, Nat.add_zero, v1, er1_str, rwordx_s _ z1, ret_ret, un_not]
      unfold g35b11111010010010_6 g35b11111010010010_13
      cases h1 : isWord r.atoms[i].s.n with
      | false => rw [Bool.not_false, guard_tf, guard_tf]; exact ⟨s2, rfl, k2⟩
      | true =>
        rw [Bool.not_true, guard_ff, faddr_ptr, Nat.zero_add, faddr_ptr, show 5 + 1 = 6 from rfl, v6, er1_str, rwordx_s _ z3, ret_ret, un_not]
        cases h2 : isWord r.atoms[i].o.n with
        | false => rw [Bool.not_false, guard_tf]; exact ⟨s2, rfl, k2⟩
        | true =>
          rw [Bool.not_true, guard_ff, faddr_ptr, Nat.zero_add, v2, pth_er, mayPath_s _ z2 hnd, ret_ret, un_not]
          cases h3 : (r.atoms[i].p.fitsP 12 24).isSome with
          | false => rw [Bool.not_false, cond_true]; exact ⟨s2, rfl, k2⟩
          | true =>
            rw [Bool.not_true, cond_false, bin_inc (by omega)]
            simp only [Bool.true_and]
            exact ih (i + 1) s2 (by omega) (by omega) k2
    · have : i = r.atoms.length := by omega
      subst this
      rw [decide_eq_false (show ¬ ((r.atoms.length : Int) < (r.atoms.length : Int)) by omega), cond_false, List.drop_length]
      have ld : ∀ K : V → St → Res, A.load true 4 (.ptr c 0) st K = K (rqV r) st := fun K => by rw [load_obA, oc']; rfl
      rw [ld, er_rq, rwhy_s ho, ret_ret, eql_int, if_neg Bool.false_ne_true]
      exact ⟨st, rfl, hk⟩
theorem mayv_loop {c d : Nat} {st0 : St} {r : Rq} (hc : c < st0.n) (oc : st0.ob c = some (.cells (rqC r))) (hd : d < st0.n) (od : st0.ob d = some (.cells (qC r.vars 0 r.atoms 0))) (ho : okR r) (hw : ∀ a ∈ r.atoms, atWok a) (hv : ∀ v ∈ r.vars, v.length ≤ 9223372036854775807) :
    ∀ (n i : Nat), i ≤ r.vars.length → r.vars.length < n + i → ∃ st', g35b1111010 n (.ptr c 0) (.ptr d 0) (.int .i64 (i : Nat)) st0 = some (.ret (.bool ((r.vars.drop i).all isWord && (r.atoms.all okAt && whyR r == 0))), st') ∧ Ks st0 st' := by
  intro n
  induction n with
  | zero => intro i hi hn; omega
  | succ n ih =>
    intro i hi hn
    rw [g35b1111010]
    have w0 : ∀ K : V → St → Res, A.load false 1 (.ptr d 0) st0 K = K (.lst (strsV r.vars) 0) st0 := fun K => by rw [load_ob, od]; rfl
    rw [faddr_ptr, Nat.zero_add, w0, lenL_lst, strsV_len, bin_lss]
    by_cases hil : i < r.vars.length
    · have hvl := ho.1
      rw [decide_eq_true (show ((i : Int) < (r.vars.length : Int)) by omega), cond_true, faddr_ptr, Nat.zero_add, w0, iaddr_strs 0 hil, load_l1', er1_str, rwordx_s _ (hv _ (List.getElem_mem hil)), ret_ret, un_not, List.drop_eq_getElem_cons hil, List.all_cons]
      cases h1 : isWord r.vars[i] with
      | false => rw [Bool.not_false, cond_true]; exact ⟨st0, rfl, Ks.refl st0⟩
      | true =>
        rw [Bool.not_true, cond_false, bin_inc (by omega), Bool.true_and]
        exact ih (i + 1) (by omega) (by omega)
    · have : i = r.vars.length := by omega
      subst this
      rw [decide_eq_false (show ¬ ((r.vars.length : Int) < (r.vars.length : Int)) by omega), cond_false, List.drop_length]
      unfold g35b11111
      have := ho.2.1
      obtain ⟨st', q1, q2⟩ := maya_loop hc oc hd od ho hw big 0 st0 (by omega) (lt_big (by omega)) (Ks.refl st0)
      rw [List.drop_zero] at q1
      exact ⟨st', q1, q2⟩
/-- What the reference says. -/
theorem may_s {r : Rq} (hP : okP r) (hw : rqWok r) (st : St) : s35 [rqV r] st = some (.ret (.bool (okAll r)), st) := by
  rw [s35_eq]
  obtain ⟨⟨hv1, ha1, hc1, hn1⟩, hn2⟩ := hP
  have ho : okR r := ⟨hv1, ha1, fun a ha => by have := hn2 a ha; omega⟩
  have main : ∃ st', f35 (rqV r) st = some (.ret (.bool (okAll r)), st') ∧ Ks st st' := by
    unfold f35
    rw [box_rq]
    have o1 := new_at st (.cells (rqC r))
    have k1 : Ks st (st.new (.cells (rqC r))) := (Ks.refl st).new _
    have n1 : (st.new (.cells (rqC r))).n = st.n + 1 := rfl
    generalize st.new (.cells (rqC r)) = s1 at o1 k1 n1 ⊢
    have ld2 : ∀ K : V → St → Res, A.load true 2 (.ptr st.n 1) s1 K = K (.agg (qC r.vars 0 r.atoms 0)) s1 := fun K => by rw [load_obA, o1]; rfl
    have bx2 : ∀ K : V → St → Res, A.box (.agg [(.lst [] 1), (.lst [] 1)]) s1 K = K (.ptr s1.n 0) (s1.new (.cells [.lst [] 1, .lst [] 1])) := fun K => rfl
    rw [faddr_ptr, Nat.zero_add, ld2, bx2, sv_all 2 _ (new_at _ _) rfl rfl rfl]
    have k2 : Ks st ((s1.new (.cells [.lst [] 1, .lst [] 1])).put s1.n (.cells (qC r.vars 0 r.atoms 0))) := (k1.new _).put (by omega) _
    have o2 := put_at (s1.new (.cells [.lst [] 1, .lst [] 1])) s1.n (.cells (qC r.vars 0 r.atoms 0))
    have o12 : ((s1.new (.cells [.lst [] 1, .lst [] 1])).put s1.n (.cells (qC r.vars 0 r.atoms 0))).ob st.n = some (.cells (rqC r)) := by rw [put_ne _ _ (by omega), new_ne _ _ (by omega)]; exact o1
    have n2 : ((s1.new (.cells [.lst [] 1, .lst [] 1])).put s1.n (.cells (qC r.vars 0 r.atoms 0))).n = s1.n + 1 := by simp
    generalize (s1.new (.cells [.lst [] 1, .lst [] 1])).put s1.n (.cells (qC r.vars 0 r.atoms 0)) = s2 at k2 o2 o12 n2 ⊢
    obtain ⟨w0, _, _, w3⟩ := rq_load o12
    have y0 : ∀ K : V → St → Res, A.load false 1 (.ptr s1.n 0) s2 K = K (.lst (strsV r.vars) 0) s2 := fun K => by rw [load_ob, o2]; rfl
    have y1 : ∀ K : V → St → Res, A.load false 1 (.ptr s1.n 1) s2 K = K (.lst (r.atoms.map atpV) 0) s2 := fun K => by rw [load_ob, o2]; rfl
    rw [faddr_ptr, Nat.zero_add, w0, eql_int, if_neg Bool.false_ne_true]
    unfold okAll
    by_cases hk2 : r.kind = 2
    · rw [show (r.kind == 2) = true from by rw [hk2]; rfl, cond_true, if_pos hk2]
      obtain ⟨st', q1, q2⟩ := maycx_loop (st0 := s2) (by omega) o12 (by omega) o2 (by omega) (by omega) (by omega) hw.2.2 big 0 s2 (by omega) (lt_big (by omega)) (Ks.refl s2)
      rw [show ((0 : Nat) : Int) = 0 from rfl, List.drop_zero] at q1
      refine ⟨st', ?_, k2.trans q2⟩
      rw [q1]
      unfold okB
      congr 4
      cases r.ch.all okCh <;> cases (r.vars.length + r.atoms.length == 0) <;> cases decide (0 < r.ch.length) <;> cases decide (r.ch.length ≤ 64) <;> rfl
    rw [show (r.kind == 2) = false from beq_eq_false_iff_ne.2 hk2, cond_false, if_neg hk2]
    unfold g35b111
    rw [faddr_ptr, Nat.zero_add, w0, eql_int, if_pos rfl]
    -- it may not be
    have bad10 : ∃ st', g35b11100_10 (.ptr st.n 0) (.ptr s1.n 0) (.bool true) s2 = some (.ret (.bool false), st') ∧ Ks st st' := by
      unfold g35b11100_10 g35b11100_16 g35b11100_22 g35b11100_28
      rw [guard_tf, guard_tf, guard_tf, guard_tf]
      exact ⟨s2, rfl, k2⟩
    have bad16 : ∃ st', g35b11100_16 (.ptr st.n 0) (.ptr s1.n 0) (.bool true) s2 = some (.ret (.bool false), st') ∧ Ks st st' := by
      unfold g35b11100_16 g35b11100_22 g35b11100_28
      rw [guard_tf, guard_tf, guard_tf]
      exact ⟨s2, rfl, k2⟩
    have bad22 : ∃ st', g35b11100_22 (.ptr st.n 0) (.ptr s1.n 0) (.bool true) s2 = some (.ret (.bool false), st') ∧ Ks st st' := by
      unfold g35b11100_22 g35b11100_28
      rw [guard_tf, guard_tf]
      exact ⟨s2, rfl, k2⟩
    have bad28 : ∃ st', g35b11100_28 (.ptr st.n 0) (.ptr s1.n 0) (.bool true) s2 = some (.ret (.bool false), st') ∧ Ks st st' := by
      unfold g35b11100_28
      rw [guard_tf]
      exact ⟨s2, rfl, k2⟩
    by_cases hk1 : r.kind = 1
    case neg =>
      rw [show (r.kind != 1) = true from bne_iff_ne.2 hk1, guard_tf, if_neg hk1]; exact bad10
    rw [show (r.kind != 1) = false from by rw [hk1]; rfl, guard_ff, if_pos hk1, faddr_ptr, Nat.zero_add, w3, lenL_lst, List.length_map, bin_gtr]
    by_cases c1 : r.ch.length = 0
    case neg =>
      rw [decide_eq_true (show ((0 : Int) < (r.ch.length : Int)) by omega), show (r.ch.length == 0) = false from beq_eq_false_iff_ne.2 c1]; exact bad10
    rw [decide_eq_false (show ¬ ((0 : Int) < (r.ch.length : Int)) by omega), show (r.ch.length == 0) = true from by rw [c1]; rfl, Bool.true_and]
    unfold g35b11100_10
    rw [guard_ff, faddr_ptr, Nat.zero_add, y0, lenL_lst, strsV_len, bin_lss]
    by_cases c2 : 0 < r.vars.length
    case neg =>
      rw [decide_eq_true (show ((r.vars.length : Int) < 1) by omega), decide_eq_false c2]; exact bad16
    rw [decide_eq_false (show ¬ ((r.vars.length : Int) < 1) by omega), decide_eq_true c2, Bool.true_and]
    unfold g35b11100_16
    rw [guard_ff, faddr_ptr, Nat.zero_add, y0, lenL_lst, strsV_len, bin_gtr]
    by_cases c3 : r.vars.length ≤ 6
    case neg =>
      rw [decide_eq_true (show ((6 : Int) < (r.vars.length : Int)) by omega), decide_eq_false c3, Bool.false_and, Bool.and_false]; exact bad22
    rw [decide_eq_false (show ¬ ((6 : Int) < (r.vars.length : Int)) by omega), decide_eq_true c3, Bool.true_and]
    unfold g35b11100_22
    rw [guard_ff, faddr_ptr, Nat.zero_add, y1, lenL_lst, List.length_map, bin_lss]
    by_cases c4 : 0 < r.atoms.length
    case neg =>
      rw [decide_eq_true (show ((r.atoms.length : Int) < 1) by omega), decide_eq_false c4]; exact bad28
    rw [decide_eq_false (show ¬ ((r.atoms.length : Int) < 1) by omega), decide_eq_true c4, Bool.true_and]
    unfold g35b11100_28
    rw [guard_ff, faddr_ptr, Nat.zero_add, y1, lenL_lst, List.length_map, bin_gtr]
    by_cases c5 : r.atoms.length ≤ 6
    case neg =>
      rw [decide_eq_true (show ((6 : Int) < (r.atoms.length : Int)) by omega), cond_true, decide_eq_false c5]; exact ⟨s2, rfl, k2⟩
    rw [decide_eq_false (show ¬ ((6 : Int) < (r.atoms.length : Int)) by omega), cond_false, decide_eq_true c5, Bool.true_and]
    unfold g35b1111
    obtain ⟨st', q1, q2⟩ := mayv_loop (st0 := s2) (by omega) o12 (by omega) o2 ho hw.2.1 hw.1 big 0 (by omega) (lt_big (by omega))
    rw [List.drop_zero] at q1
    refine ⟨st', ?_, k2.trans q2⟩
    rw [show (.int .i64 0 : V) = .int .i64 ((0 : Nat) : Int) from rfl, q1]
    have e : (r.atoms.all okAt && whyR r == 0) = (r.atoms.all okAt && whyP r == 0) := by
      cases h : r.atoms.all okAt with
      | false => rfl
      | true =>
        have hpl : ∀ a ∈ r.atoms, a.p.pl = a.p.sz.1 := fun a ha => by
          have := List.all_eq_true.1 h a ha
          unfold okAt at this
          simp only [Bool.and_eq_true] at this
          exact sh_pl a.p ((fits_some a.p).1 this.2.2).1
        rw [whyR_eq hpl]
    rw [e]
  obtain ⟨st', q1, q2⟩ := main
  exact fg_of q1 q2 rfl
end Go.Ab

/- sinewref09: the walk of named, inner, text. -/
namespace Go.Ab
open Go.Proofs Go.RowKit
set_option linter.unusedVariables false
set_option linter.unusedSimpArgs false
set_option maxRecDepth 100000
theorem rnamed_s (t : Tm) (h : t.n.length ≤ 1000) (st : St) : ∃ st', s36 [tmV t] st = some (.ret (.str (nameT t)), st') ∧ Ks st st' := by
  rw [s36_eq]
  unfold f36
  have bx : ∀ K : V → St → Res, A.box (tmV t) st K = K (.ptr st.n 0) (st.new (.cells [.bool t.v, .str t.n])) := fun K => rfl
  rw [bx]
  have o1 := new_at st (.cells [.bool t.v, .str t.n])
  have k1 : Ks st (st.new (.cells [.bool t.v, .str t.n])) := (Ks.refl st).new _
  generalize st.new (.cells [.bool t.v, .str t.n]) = s1 at o1 k1 ⊢
  have w0 : ∀ K : V → St → Res, A.load false 1 (.ptr st.n 0) s1 K = K (.bool t.v) s1 := fun K => by rw [load_ob, o1]; rfl
  have w1 : ∀ K : V → St → Res, A.load false 1 (.ptr st.n 1) s1 K = K (.str t.n) s1 := fun K => by rw [load_ob, o1]; rfl
  unfold nameT
  rw [faddr_ptr, Nat.zero_add, w0]
  cases t.v with
  | true =>
    rw [cond_true, faddr_ptr, Nat.zero_add, w1, addB _ _ (by simp; omega)]
    exact ⟨s1, rfl, k1⟩
  | false =>
    rw [cond_false, faddr_ptr, Nat.zero_add, w1]
    exact ⟨s1, rfl, k1⟩
/-- The reference's text, at a depth. -/
def TxtQ (R : Nat → Fn) (p : Pth) : Prop := ∀ st, ∃ st', R 37 [p.v] st = some (.ret (.str p.text), st') ∧ Ks st st'
theorem inner_s {R : Nat → Fn} {p : Pth} (b : Bool) (h : p.shP = true) (hn : p.nd ≤ 100000) (hR : TxtQ R p) (st : St) : ∃ st', f71 R p.v (.bool b) st = some (.ret (.str (brk RT b p.text)), st') ∧ Ks st st' := by
  unfold f71
  have bx : ∀ K : V → St → Res, A.box p.v st K = K (.ptr st.n 0) (st.new (.cells (pthC p))) := fun K => by rw [pth_c]; rfl
  rw [bx]
  have o1 := new_at st (.cells (pthC p))
  have k1 : Ks st (st.new (.cells (pthC p))) := (Ks.refl st).new _
  generalize st.new (.cells (pthC p)) = s1 at o1 k1 ⊢
  have w3 : ∀ K : V → St → Res, A.load true 3 (.ptr st.n 0) s1 K = K p.v s1 := fun K => by rw [load_obA, o1, pth_c]; rfl
  have ht := text_len p h
  obtain ⟨s2, q2, k2⟩ := hR s1
  unfold brk
  cases b with
  | true =>
    rw [cond_true, w3, pth_er, q2, ret_ret]
    have b1 : ∀ K, A.bin .add (.str [40]) (.str p.text) K = K (.str ([40] ++ p.text)) := addB _ _ (by simp; omega)
    have b2 : ∀ K, A.bin .add (.str ([40] ++ p.text)) (.str [41]) K = K (.str ([40] ++ p.text ++ [41])) := addB _ _ (by simp; omega)
    rw [b1, b2]
    exact ⟨s2, rfl, k1.trans k2⟩
  | false =>
    rw [cond_false, w3, pth_er, q2, ret_ret]
    exact ⟨s2, rfl, k1.trans k2⟩
theorem tlL_snoc {α : Type} (sep t : List α) : ∀ ts : List (List α), tlL sep (ts ++ [t]) = tlL sep ts ++ (sep ++ t)
  | [] => by simp [tlL]
  | u :: ts => by
    show sep ++ (u ++ tlL sep (ts ++ [t])) = sep ++ (u ++ tlL sep ts) ++ (sep ++ t)
    rw [tlL_snoc sep t ts]; simp
theorem joinL_snoc {α : Type} (sep t u : List α) (ts : List (List α)) : joinL sep (u :: ts ++ [t]) = joinL sep (u :: ts) ++ sep ++ t := by
  show u ++ tlL sep (ts ++ [t]) = u ++ tlL sep ts ++ sep ++ t
  rw [tlL_snoc]; simp
theorem sign_len (b : UInt8) (m : Int) (l : List Pth) (h : ∀ p ∈ l, p.shP = true) (i : Nat) : (joinL [b] ((l.take i).map (kidR RT m))).length ≤ 20 * Pth.ndl l := by
  have h1 := joinL_len b m (l.take i) fun p hp => h p (List.mem_of_mem_take hp)
  have h2 : ∀ (l : List Pth) (i : Nat), Pth.ndl (l.take i) ≤ Pth.ndl l := by
    intro l
    induction l with
    | nil => intro i; simp
    | cons p l ih =>
      intro i
      cases i with
      | zero => rw [List.take_zero, ndl_nil]; omega
      | succ i => rw [List.take_succ_cons, ndl_cons, ndl_cons]; have := ih i; omega
  have := h2 l i
  omega
theorem rtext_loop {R : Nat → Fn} {c : Nat} {k : Int} {w : List UInt8} {l : List Pth} {st0 : St} {b : UInt8} (hk : k = 3 ∧ b = 124 ∨ k = 2 ∧ b = 47) (hc : c < st0.n) (oc : st0.ob c = some (.cells (pthC (.mk k w l)))) (hl : Pth.ndl l ≤ 100000) (hs : ∀ p ∈ l, p.shP = true)
    (hR : ∀ p ∈ l, ∀ st f, ∃ st', R 71 [p.v, .bool f] st = some (.ret (.str (brk RT f p.text)), st') ∧ Ks st st') :
    ∀ (n i : Nat) (st : St), i ≤ l.length → l.length < n + i → Ks st0 st →
      ∃ st', g37b101011101010 R n (.ptr c 0) (.str (joinL [b] ((l.take i).map (kidR RT k)))) (.int .i64 (i : Nat)) st = some (.ret (.str (joinL [b] (l.map (kidR RT k)))), st') ∧ Ks st0 st' := by
  intro n
  induction n with
  | zero => intro i st hi hn; omega
  | succ n ih =>
    intro i st hi hn hks
    have hll := ndl_len l
    rw [g37b101011101010]
    have w0 : ∀ {s : St}, Ks st0 s → ∀ K : V → St → Res, A.load false 1 (.ptr c 0) s K = K (.int .i64 k) s := fun {s} h K => by rw [load_ob, (h.ob c hc).trans oc]; rfl
    have w2 : ∀ {s : St}, Ks st0 s → ∀ K : V → St → Res, A.load false 1 (.ptr c 2) s K = K (.lst (l.map Pth.v) 0) s := fun {s} h K => by rw [load_ob, (h.ob c hc).trans oc]; rfl
    rw [faddr_ptr, Nat.zero_add, w2 hks, lenL_lst, List.length_map, bin_lss]
    by_cases hil : i < l.length
    · have e4 : ∀ K, A.bin .add (.int .i64 (i : Nat)) (.int .i64 1) K = K (.int .i64 ((i + 1 : Nat) : Int)) := fun K => bin_inc (by omega) K
      have kd : ∀ (q : Pth) (K : V → St → Res) (s : St), A.load false 1 (.lptr (pthC q)) s K = K (.int .i64 q.kind) s := fun q K s => by obtain ⟨a, b, d⟩ := q; rfl
      have fa : ∀ (q : Pth) (K : V → Res), A.faddr 0 (.lptr (pthC q)) K = K (.lptr (pthC q)) := fun q K => rfl
      have hm := List.getElem_mem hil
      rw [decide_eq_true (show ((i : Int) < (l.length : Int)) by omega), cond_true, faddr_ptr, Nat.zero_add, w2 hks, iaddr_pth 0 hil, fa, kd]
      have hb := sign_len b k l hs i
      have hb2 := sign_len b k l hs (i + 1)
      have hkl := kid_len (m := k) (hs l[i] hm)
      have hndi := ndl_mem hm
      -- what is joined
      have et : (if i = 0 then [] else joinL [b] ((l.take i).map (kidR RT k)) ++ [b]) ++ kidR RT k l[i] = joinL [b] ((l.take (i + 1)).map (kidR RT k)) := by
        rw [List.take_add_one, List.getElem?_eq_getElem hil, List.map_append]
        cases i with
        | zero => rw [if_pos rfl]; simp [joinL, tlL]
        | succ i =>
          rw [if_neg (by omega)]
          cases hq : l.take (i + 1) with
          | nil => have := congrArg List.length hq; simp at this; have h0 : l = [] := this; subst h0; simp at hil
          | cons p ps => exact (joinL_snoc [b] (kidR RT k l[i + 1]) _ _).symm
      have fin : ∃ st', g37b1010111010100100111 R (g37b101011101010 R n) (.ptr c 0) (.str (if i = 0 then [] else joinL [b] ((l.take i).map (kidR RT k)) ++ [b])) (.int .i64 (i : Nat)) (.int .i64 (l[i]).kind) st = some (.ret (.str (joinL [b] (l.map (kidR RT k)))), st') ∧ Ks st0 st' := by
        unfold g37b1010111010100100111
        have hlen : (if i = 0 then [] else joinL [b] ((l.take i).map (kidR RT k)) ++ [b]).length + (kidR RT k l[i]).length ≤ 100000000 := by
          have := congrArg List.length et
          rw [List.length_append] at this
          omega
        obtain ⟨s2, q2, k2⟩ := hR l[i] hm st (wrap k (l[i]).kind)
        have tail : ∀ (s : St), Ks st0 s → ∃ st', (A.bin .add (.str (if i = 0 then [] else joinL [b] ((l.take i).map (kidR RT k)) ++ [b])) (.str (kidR RT k l[i])) fun a6 => A.bin .add (.int .i64 (i : Nat)) (.int .i64 1) fun a9 => g37b101011101010 R n (.ptr c 0) a6 a9 s) = some (.ret (.str (joinL [b] (l.map (kidR RT k)))), st') ∧ Ks st0 st' := fun s hs' => by
          rw [addB _ _ hlen, et, e4]
          exact ih (i + 1) s (by omega) (by omega) hs'
        rw [faddr_ptr, Nat.zero_add, w2 hks, iaddr_pth 0 hil, load_pth, eql_int, if_neg Bool.false_ne_true]
        unfold g37b1010111010100100111_9
        rw [pth_er]
        have hw : wrap k (l[i]).kind = ((l[i]).kind == 3 || (l[i]).kind == 2 && k == 2) := by
          rcases hk with ⟨rfl, _⟩ | ⟨rfl, _⟩
          · unfold wrap; rw [if_pos rfl]; simp
          · unfold wrap; rw [if_neg (by decide), if_pos rfl]; simp
        rw [hw] at q2
        have kr : kidR RT k l[i] = brk RT ((l[i]).kind == 3 || (l[i]).kind == 2 && k == 2) (l[i]).text := by unfold kidR; rw [hw]
        rw [← kr] at q2
        cases h3 : (l[i]).kind == 3 with
        | true =>
          rw [h3] at q2
          rw [guard_tf, er1_bool, show (true : Bool) = (true || (l[i]).kind == 2 && k == 2) from rfl, q2, ret_kid, ret_ret]
          exact tail s2 (hks.trans k2)
        | false =>
          rw [h3, Bool.false_or] at q2
          rw [guard_ff, eql_int, if_neg Bool.false_ne_true, guardT_b]
          cases h2 : (l[i]).kind == 2 with
          | true =>
            rw [h2, Bool.true_and] at q2
            rw [guard_tt, faddr_ptr, Nat.zero_add, w0 hks, eql_int, if_neg Bool.false_ne_true, er1_bool, q2, ret_kid, ret_ret]
            exact tail s2 (hks.trans k2)
          | false =>
            rw [h2, Bool.false_and] at q2
            rw [guard_ft, er1_bool, q2, ret_kid, ret_ret]
            exact tail s2 (hks.trans k2)
      unfold g37b10101110101001001
      rw [bin_gtr]
      cases i with
      | zero =>
        rw [show decide ((0 : Int) < ((0 : Nat) : Int)) = false from rfl, guard_ft]
        unfold g37b101011101010010011
        rw [bin_gtr, show decide ((0 : Int) < ((0 : Nat) : Int)) = false from rfl, guard_ft]
        exact fin
      | succ i =>
        rw [if_neg (by omega)] at fin
        rw [decide_eq_true (show ((0 : Int) < ((i + 1 : Nat) : Int)) by omega), guard_tt, faddr_ptr, Nat.zero_add, w0 hks, eql_int, if_neg Bool.false_ne_true]
        rcases hk with ⟨rfl, rfl⟩ | ⟨rfl, rfl⟩
        · rw [show ((3 : Int) == 3) = true from rfl, cond_true, addB _ _ (by simp only [List.length_cons, List.length_nil]; omega)]
          unfold g37b101011101010010011
          rw [bin_gtr, decide_eq_true (show ((0 : Int) < ((i + 1 : Nat) : Int)) by omega), guard_tt, faddr_ptr, Nat.zero_add, w0 hks, eql_int, if_neg Bool.false_ne_true, show ((3 : Int) == 2) = false from rfl, cond_false]
          exact fin
        · rw [show ((2 : Int) == 3) = false from rfl, cond_false]
          unfold g37b101011101010010011
          rw [bin_gtr, decide_eq_true (show ((0 : Int) < ((i + 1 : Nat) : Int)) by omega), guard_tt, faddr_ptr, Nat.zero_add, w0 hks, eql_int, if_neg Bool.false_ne_true, show ((2 : Int) == 2) = true from rfl, cond_true, addB _ _ (by simp only [List.length_cons, List.length_nil]; omega)]
          exact fin
    · have : i = l.length := by omega
      subst this
      rw [decide_eq_false (show ¬ ((l.length : Int) < (l.length : Int)) by omega), cond_false, List.take_length, er1_str]
      exact ⟨st, rfl, hks⟩
theorem rtext_go (n : Nat) (p : Pth) (hs : p.shP = true) (hnd : p.nd ≤ 100000) (hq : ∀ q ∈ p.kids, ∃ m, n = m + 1 ∧ TxtQ (G71 m) q) : TxtQ (G71 (n + 1)) p := by
  intro st
  obtain ⟨k, w, l⟩ := p
  rw [G71_37_eq]
  rw [nd_eq] at hnd
  have hll := ndl_len l
  have hkid : ∀ q ∈ l, q.shP = true → ∀ st f, ∃ st', G71 n 71 [q.v, .bool f] st = some (.ret (.str (brk RT f q.text)), st') ∧ Ks st st' := fun q hq1 hqs st f => by
    obtain ⟨m', rfl, ht⟩ := hq q hq1
    rw [G71_71_eq]
    exact inner_s f hqs (by have := ndl_mem hq1; omega) ht st
  unfold f37
  have bx : ∀ K : V → St → Res, A.box (Pth.mk k w l).v st K = K (.ptr st.n 0) (st.new (.cells (pthC (.mk k w l)))) := fun K => by rw [pth_c]; rfl
  have o1 := new_at st (.cells (pthC (.mk k w l)))
  have k1 : Ks st (st.new (.cells (pthC (.mk k w l)))) := (Ks.refl st).new _
  have n1 : st.n < (st.new (.cells (pthC (.mk k w l)))).n := by simp
  rw [bx]
  generalize st.new (.cells (pthC (.mk k w l))) = s1 at o1 k1 n1 ⊢
  have w0 : ∀ {s : St}, Ks s1 s → ∀ K : V → St → Res, A.load false 1 (.ptr st.n 0) s K = K (.int .i64 k) s := fun {s} h K => by rw [load_ob, (h.ob st.n n1).trans o1]; rfl
  have w1 : ∀ K : V → St → Res, A.load false 1 (.ptr st.n 1) s1 K = K (.str w) s1 := fun K => by rw [load_ob, o1]; rfl
  have w2 : ∀ K : V → St → Res, A.load false 1 (.ptr st.n 2) s1 K = K (.lst (l.map Pth.v) 0) s1 := fun K => by rw [load_ob, o1]; rfl
  rw [faddr_ptr, Nat.zero_add, w0 (Ks.refl s1), eql_int, if_neg Bool.false_ne_true]
  rw [Pth.text, rend_eq]
  rcases shP_cases hs with ⟨rfl, rfl, hw⟩ | ⟨hk, rfl, hl, hqs⟩ | ⟨hk, rfl, q, rfl, hqs⟩
  · rw [show ((1 : Int) == 1) = true from rfl, cond_true, faddr_ptr, Nat.zero_add, w1, er1_str, if_pos rfl]
    exact ⟨s1, rfl, k1⟩
  · have hk1 : k ≠ 1 := by rcases hk with rfl | rfl <;> decide
    rw [show (k == 1) = false from beq_eq_false_iff_ne.2 hk1, cond_false, if_neg hk1, eql_int, if_neg Bool.false_ne_true]
    by_cases h3 : k = 3
    · subst h3
      rw [show ((3 : Int) == 3) = true from rfl, cond_true, if_pos rfl, rends_map]
      unfold g37b1010111
      rw [cond_true]
      obtain ⟨st', r1, r2⟩ := rtext_loop (R := G71 n) (st0 := s1) (.inl ⟨rfl, rfl⟩) n1 o1 (by omega) hqs (fun q hq1 => hkid q hq1 (hqs q hq1)) big 0 s1 (by omega) (lt_big (by omega)) (Ks.refl s1)
      exact ⟨st', r1, k1.trans r2⟩
    · have h2 : k = 2 := hk.resolve_right h3
      subst h2
      rw [show ((2 : Int) == 3) = false from rfl, cond_false, eql_int, if_neg Bool.false_ne_true, show ((2 : Int) == 2) = true from rfl, if_neg h3, if_pos rfl, rends_map]
      unfold g37b1010111
      rw [cond_true]
      obtain ⟨st', r1, r2⟩ := rtext_loop (R := G71 n) (st0 := s1) (.inr ⟨rfl, rfl⟩) n1 o1 (by omega) hqs (fun q hq1 => hkid q hq1 (hqs q hq1)) big 0 s1 (by omega) (lt_big (by omega)) (Ks.refl s1)
      exact ⟨st', r1, k1.trans r2⟩
  · have hk1 : k ≠ 1 ∧ k ≠ 3 ∧ k ≠ 2 := by rcases hk with rfl | rfl | rfl <;> decide
    rw [show (k == 1) = false from beq_eq_false_iff_ne.2 hk1.1, cond_false, if_neg hk1.1, eql_int, if_neg Bool.false_ne_true, show (k == 3) = false from beq_eq_false_iff_ne.2 hk1.2.1, cond_false, if_neg hk1.2.1, eql_int, if_neg Bool.false_ne_true, show (k == 2) = false from beq_eq_false_iff_ne.2 hk1.2.2, if_neg hk1.2.2]
    unfold g37b1010111 g37b11
    rw [cond_false]
    have i0 : ∀ K, A.iaddr 3 (.lst ([q].map Pth.v) 0) (.int .i64 0) K = K (.lptr (pthC q)) := fun K => iaddr_pth (l := [q]) (i := 0) 0 (by simp) K
    have kd : ∀ (K : V → St → Res) (s : St), A.load false 1 (.lptr (pthC q)) s K = K (.int .i64 q.kind) s := fun K s => by obtain ⟨a, b, d⟩ := q; rfl
    have fa : ∀ (K : V → Res), A.faddr 0 (.lptr (pthC q)) K = K (.lptr (pthC q)) := fun K => rfl
    obtain ⟨s2, q2, k2⟩ := hkid q (by simp) hqs s1 (q.kind != 1)
    have hkl := kid_len (m := 4) hqs
    rw [ndl_cons, ndl_nil] at hnd
    have kr : kidR RT 4 q = brk RT (q.kind != 1) q.text := by unfold kidR wrap; rw [if_neg (by decide), if_neg (by decide)]
    rw [← kr] at q2
    rw [faddr_ptr, Nat.zero_add, w2, i0, load_pth, faddr_ptr, Nat.zero_add, w2, i0, fa, kd, eql_int, if_pos rfl, pth_er, er1_bool, q2, ret_kid, ret_ret]
    unfold g37b111
    rw [faddr_ptr, Nat.zero_add, w0 k2, eql_int, if_neg Bool.false_ne_true, rends_map]
    have add : ∀ (b : UInt8) (K : V → Res), A.bin .add (.str (kidR RT 4 q)) (.str [b]) K = K (.str (kidR RT 4 q ++ [b])) := fun b => addB _ _ (by simp; omega)
    rcases hk with rfl | rfl | rfl
    · rw [show ((4 : Int) == 4) = true from rfl, cond_true, add]
      exact ⟨s2, rfl, k1.trans k2⟩
    · rw [show ((5 : Int) == 4) = false from rfl, cond_false, eql_int, if_neg Bool.false_ne_true, show ((5 : Int) == 5) = true from rfl, cond_true, add]
      exact ⟨s2, rfl, k1.trans k2⟩
    · rw [show ((6 : Int) == 4) = false from rfl, cond_false, eql_int, if_neg Bool.false_ne_true, show ((6 : Int) == 5) = false from rfl, cond_false, add]
      exact ⟨s2, rfl, k1.trans k2⟩
theorem rtext_n : ∀ (d n : Nat) (p : Pth), 2 * d ≤ n → p.sz.2 ≤ d + 1 → p.shP = true → p.nd ≤ 100000 → TxtQ (G71 (n + 1)) p := by
  intro d
  induction d with
  | zero =>
    intro n p hn hd hs hnd
    exact rtext_go n p hs hnd fun q hq => by
      obtain ⟨k, w, l⟩ := p
      rw [sz_eq] at hd
      have := (szl_mem (show q ∈ l from hq)).2
      obtain ⟨k2, w2, l2⟩ := q
      rw [sz_eq] at this
      simp only at hd this
      omega
  | succ d ih =>
    intro n p hn hd hs hnd
    exact rtext_go n p hs hnd fun q hq => by
      obtain ⟨m, rfl⟩ : ∃ m, n = m + 2 := ⟨n - 2, by omega⟩
      refine ⟨m + 1, rfl, ?_⟩
      obtain ⟨k, w, l⟩ := p
      have hq' : q ∈ l := hq
      rw [sz_eq] at hd
      rw [nd_eq] at hnd
      have h1 := (szl_mem hq').2
      have h2 := ndl_mem hq'
      simp only at hd
      have hqs : q.shP = true := by
        rcases shP_cases hs with ⟨_, rfl, _⟩ | ⟨_, _, _, h⟩ | ⟨_, _, q3, rfl, h⟩
        · cases hq'
        · exact h q hq'
        · simp at hq'; rw [hq']; exact h
      exact ih m q (by omega) (by omega) hqs (by omega)
theorem rtext_s (p : Pth) (hs : p.shP = true) (hn : p.nd ≤ 100000) (st : St) : ∃ st', s37 [p.v] st = some (.ret (.str p.text), st') ∧ Ks st st' := by
  rw [s37_n]
  obtain ⟨M, hM, hM2⟩ := big_succ
  rw [hM]
  have := sz2_nd p
  exact rtext_n p.nd M p (by omega) (by omega) hs hn st
end Go.Ab

/- sinewref09: the walk of the reference's Print. -/
namespace Go.Ab
open Go.Proofs Go.RowKit
set_option linter.unusedVariables false
set_option linter.unusedSimpArgs false
set_option maxRecDepth 100000
def accA (r : Rq) (i : Nat) : List UInt8 := if i = 0 then [] else 32 :: joinL dot3 ((r.atoms.take i).map atT)
theorem accA_step {r : Rq} {i : Nat} (h : i < r.atoms.length) : (accA r i ++ (if i = 0 then [] else [32, 46])) ++ [32] ++ nameT r.atoms[i].s ++ [32] ++ r.atoms[i].p.text ++ [32] ++ nameT r.atoms[i].o = accA r (i + 1) := by
  unfold accA
  rw [if_neg (show i + 1 ≠ 0 by omega), List.take_add_one, List.getElem?_eq_getElem h, List.map_append]
  cases i with
  | zero => simp [joinL, tlL, atT]
  | succ i =>
    rw [if_neg (by omega), if_neg (by omega)]
    cases hq : r.atoms.take (i + 1) with
    | nil => have := congrArg List.length hq; simp at this; rw [this] at h; simp at h
    | cons p ps =>
      have := joinL_snoc dot3 (atT r.atoms[i + 1]) (atT p) (ps.map atT)
      simp only [List.map_cons, List.map_nil, Option.toList_some, List.cons_append] at this ⊢
      rw [this]
      simp [atT, dot3]
theorem accA_len {r : Rq} (hat : ∀ a ∈ r.atoms, wellAt a ∧ a.p.nd ≤ 10000) (hal : r.atoms.length ≤ 6) (i : Nat) : (accA r i).length ≤ 2000000 := by
  unfold accA
  split
  · simp
  · have hj := (join_bd dot3 200100 ((r.atoms.take i).map atT) (fun t ht => by
      obtain ⟨a, ha, rfl⟩ := List.mem_map.1 ht
      have ha' := List.mem_of_mem_take ha
      exact atT_len (hat a ha').1 (hat a ha').2)).1
    have h3 : dot3.length = 3 := rfl
    rw [h3] at hj
    have hlen : ((r.atoms.take i).map atT).length ≤ 6 := by simp; omega
    have hmul : ((r.atoms.take i).map atT).length * (200100 + 3) ≤ 6 * (200100 + 3) := Nat.mul_le_mul_right _ hlen
    rw [List.length_cons]; omega
theorem rprint_atoms {c : Nat} {r : Rq} {st0 : St} (hc : c < st0.n) (oc : st0.ob c = some (.cells (rqC r))) (base : List UInt8) (hB : base.length ≤ 1000) (hat : ∀ a ∈ r.atoms, wellAt a ∧ a.p.nd ≤ 10000) (hal : r.atoms.length ≤ 6) :
    ∀ (n i : Nat) (st : St), i ≤ r.atoms.length → r.atoms.length < n + i → Ks st0 st →
      ∃ st', g18b1111111010 n (.ptr c 0) (.str (base ++ accA r i)) (.int .i64 (i : Nat)) st = some (.ret (.tup [.str (base ++ accA r r.atoms.length ++ [32, 125]), .int .i64 0]), st') ∧ Ks st0 st' := by
  intro n
  induction n with
  | zero => intro i st hi hn; omega
  | succ n ih =>
    intro i st hi hn hk
    rw [g18b1111111010]
    have w2 : ∀ {s : St}, Ks st0 s → ∀ K : V → St → Res, A.load false 1 (.ptr c 2) s K = K (.lst (r.atoms.map atpV) 0) s := fun {s} h K => by rw [load_ob, (h.ob c hc).trans oc]; rfl
    rw [faddr_ptr, Nat.zero_add, faddr_ptr, show 1 + 1 = 2 from rfl, w2 hk, lenL_lst, List.length_map, bin_lss]
    by_cases hil : i < r.atoms.length
    · have e4 : ∀ K, A.bin .add (.int .i64 (i : Nat)) (.int .i64 1) K = K (.int .i64 ((i + 1 : Nat) : Int)) := fun K => bin_inc (by omega) K
      have ld : ∀ (s : St) K, A.load true 7 (.lptr (atpC r.atoms[i])) s K = K (.agg (atpC r.atoms[i])) s := fun s K => by rw [load_lptrA]; rfl
      rw [decide_eq_true (show ((i : Int) < (r.atoms.length : Int)) by omega), cond_true, faddr_ptr, Nat.zero_add, faddr_ptr, show 1 + 1 = 2 from rfl, w2 hk, iaddr_atp 0 hil, ld, bx_atp, sv_all 7 _ (new_at _ _) rfl rfl rfl]
      obtain ⟨hw, hnd⟩ := hat r.atoms[i] (List.getElem_mem hil)
      have k2 : Ks st0 ((st.new (.cells [(.bool false), (.str []), (.int .i64 0), (.str []), (.lst [] 1), (.bool false), (.str [])])).put st.n (.cells (atpC r.atoms[i]))) := (hk.new _).put hk.n _
      have o2 := put_at (st.new (.cells [(.bool false), (.str []), (.int .i64 0), (.str []), (.lst [] 1), (.bool false), (.str [])])) st.n (.cells (atpC r.atoms[i]))
      have n2 : ((st.new (.cells [(.bool false), (.str []), (.int .i64 0), (.str []), (.lst [] 1), (.bool false), (.str [])])).put st.n (.cells (atpC r.atoms[i]))).n = st.n + 1 := by simp
      generalize (st.new (.cells [(.bool false), (.str []), (.int .i64 0), (.str []), (.lst [] 1), (.bool false), (.str [])])).put st.n (.cells (atpC r.atoms[i])) = s2 at k2 o2 n2 ⊢
      have L0 : ∀ {s : St}, s.ob st.n = some (.cells (atpC r.atoms[i])) → ∀ K : V → St → Res, A.load true 2 (.ptr st.n 0) s K = K (tmV r.atoms[i].s) s := fun {s} h K => by rw [load_obA, h]; rfl
      have L2 : ∀ {s : St}, s.ob st.n = some (.cells (atpC r.atoms[i])) → ∀ K : V → St → Res, A.load true 3 (.ptr st.n 2) s K = K (r.atoms[i].p).v s := fun {s} h K => by rw [load_obA, h, pth_c]; rfl
      have L5 : ∀ {s : St}, s.ob st.n = some (.cells (atpC r.atoms[i])) → ∀ K : V → St → Res, A.load true 2 (.ptr st.n 5) s K = K (tmV r.atoms[i].o) s := fun {s} h K => by rw [load_obA, h]; rfl
      have V2 : ∀ {s : St}, s.ob st.n = some (.cells (atpC r.atoms[i])) → ldv true 3 (.ptr st.n 2) s = some (r.atoms[i].p).v := fun {s} h => by unfold ldv; rw [L2 h]; rfl
      have V5 : ∀ {s : St}, s.ob st.n = some (.cells (atpC r.atoms[i])) → ldv true 2 (.ptr st.n 5) s = some (tmV r.atoms[i].o) := fun {s} h => by unfold ldv; rw [L5 h]; rfl
      obtain ⟨s3, q3, k3⟩ := rnamed_s r.atoms[i].s (by have := (isWord_some hw.1).2.1; omega) s2
      have n3 := k3.n
      have o3 := (k3.ob st.n (by omega)).trans o2
      obtain ⟨s4, q4, k4⟩ := rtext_s r.atoms[i].p hw.2.1 (by omega) s3
      have n4 := k4.n
      have o4 := (k4.ob st.n (by omega)).trans o3
      obtain ⟨s5, q5, k5⟩ := rnamed_s r.atoms[i].o (by have := (isWord_some hw.2.2).2.1; omega) s4
      have b1 := nameT_len _ hw.1
      have b2 := nameT_len _ hw.2.2
      have b3 := text_len _ hw.2.1
      have b4 := accA_len hat hal i
      have kk := ((k2.trans k3).trans k4).trans k5
      have stp := accA_step hil
      have fin : ∃ st', g18b1111111010010011 (g18b1111111010 n) (.ptr c 0) (.str (base ++ (accA r i ++ (if i = 0 then [] else [32, 46])))) (.int .i64 (i : Nat)) (.ptr st.n 0) s2 = some (.ret (.tup [.str (base ++ accA r r.atoms.length ++ [32, 125]), .int .i64 0]), st') ∧ Ks st0 st' := by
        unfold g18b1111111010010011
        have hX : (accA r i ++ (if i = 0 then [] else [32, 46])).length ≤ 2000010 := by
          rw [List.length_append]; split <;> simp <;> omega
        generalize accA r i ++ (if i = 0 then [] else [32, 46]) = X at stp hX ⊢
        rw [addB _ _ (by simp; omega), faddr_ptr, Nat.zero_add, L0 o2, show (tmV r.atoms[i].s).er1 = tmV r.atoms[i].s from rfl, q3, ret_kid, noP_ret, addB _ _ (by simp; omega), addB _ _ (by simp; omega), faddr_ptr, Nat.zero_add, L2 o3, V2 o2, chk_same, pth_er, q4, ret_kid, noP_ret, addB _ _ (by simp; omega), addB _ _ (by simp; omega), faddr_ptr, Nat.zero_add, L5 o4, V5 o3, chk_same, V5 o2, chk_same, show (tmV r.atoms[i].o).er1 = tmV r.atoms[i].o from rfl, q5, ret_kid, ret_ret, addB _ _ (by simp; omega), e4]
        have e : base ++ X ++ [32] ++ nameT r.atoms[i].s ++ [32] ++ r.atoms[i].p.text ++ [32] ++ nameT r.atoms[i].o = base ++ accA r (i + 1) := by
          rw [← stp]; simp
        rw [e]
        exact ih (i + 1) _ (by omega) (by omega) kk
      unfold g18b111111101001001
      rw [bin_gtr]
      cases i with
      | zero =>
        rw [show decide ((0 : Int) < ((0 : Nat) : Int)) = false from rfl, cond_false]
        rw [if_pos rfl, List.append_nil] at fin
        exact fin
      | succ i =>
        rw [if_neg (by omega)] at fin
        rw [decide_eq_true (show ((0 : Int) < ((i + 1 : Nat) : Int)) by omega), cond_true, addB _ _ (by simp; omega), List.append_assoc]
        exact fin
    · have : i = r.atoms.length := by omega
      subst this
      have b4 := accA_len hat hal r.atoms.length
      rw [decide_eq_false (show ¬ ((r.atoms.length : Int) < (r.atoms.length : Int)) by omega), cond_false, addB _ _ (by simp; omega)]
      exact ⟨st, rfl, hk⟩
theorem rprint_vars {c : Nat} {r : Rq} {st0 : St} (hc : c < st0.n) (oc : st0.ob c = some (.cells (rqC r))) (hv : ∀ v ∈ r.vars, v.length ≤ 16) (hv2 : r.vars.length ≤ 6) {Q : Res → Prop}
    (hQ : ∀ st, Ks st0 st → Q (g18b111111 (.ptr c 0) (.str ([115, 101, 108, 101, 99, 116] ++ tlL [32, 63] r.vars)) st)) :
    ∀ (n i : Nat) (st : St), i ≤ r.vars.length → r.vars.length < n + i → Ks st0 st →
      Q (g18b11111010 n (.ptr c 0) (.str ([115, 101, 108, 101, 99, 116] ++ tlL [32, 63] (r.vars.take i))) (.int .i64 (i : Nat)) st) := by
  intro n
  induction n with
  | zero => intro i st hi hn; omega
  | succ n ih =>
    intro i st hi hn hk
    rw [g18b11111010]
    have w1 : ∀ K : V → St → Res, A.load false 1 (.ptr c 1) st K = K (.lst (strsV r.vars) 0) st := fun K => by rw [load_ob, (hk.ob c hc).trans oc]; rfl
    rw [faddr_ptr, Nat.zero_add, faddr_ptr, Nat.add_zero, w1, lenL_lst, strsV_len, bin_lss]
    by_cases hil : i < r.vars.length
    · have e4 : ∀ K, A.bin .add (.int .i64 (i : Nat)) (.int .i64 1) K = K (.int .i64 ((i + 1 : Nat) : Int)) := fun K => bin_inc (by omega) K
      have ia : ∀ K, A.iaddr 1 (.lst (strsV r.vars) 0) (.int .i64 (i : Nat)) K = K (.lptr [.str r.vars[i]]) := fun K => iaddr_lst (v := .str r.vars[i]) K (by simp [strsV, hil]) rfl
      have hj : (tlL [32, 63] (r.vars.take i)).length ≤ 200 := by
        have h1 := (join_bd [32, 63] 16 (r.vars.take i) fun v hv' => hv v (List.mem_of_mem_take hv')).2
        have h2 : (r.vars.take i).length * (16 + [(32 : UInt8), 63].length) ≤ 6 * (16 + [(32 : UInt8), 63].length) := Nat.mul_le_mul_right _ (by simp; omega)
        have h3 : [(32 : UInt8), 63].length = 2 := rfl
        rw [h3] at h1 h2; omega
      have hvi := hv r.vars[i] (List.getElem_mem hil)
      rw [decide_eq_true (show ((i : Int) < (r.vars.length : Int)) by omega), cond_true, addB _ _ (by simp; omega), faddr_ptr, Nat.zero_add, faddr_ptr, Nat.add_zero, w1, ia, load_l1', addB _ _ (by simp; omega), e4]
      have e : [115, 101, 108, 101, 99, 116] ++ tlL [32, 63] (r.vars.take i) ++ [32, 63] ++ r.vars[i] = [115, 101, 108, 101, 99, 116] ++ tlL [32, 63] (r.vars.take (i + 1)) := by
        rw [List.take_add_one, List.getElem?_eq_getElem hil, Option.toList_some, tlL_snoc]; simp
      rw [e]
      exact ih (i + 1) st (by omega) (by omega) hk
    · have : i = r.vars.length := by omega
      subst this
      rw [decide_eq_false (show ¬ ((r.vars.length : Int) < (r.vars.length : Int)) by omega), cond_false, List.take_length]
      exact hQ st hk
theorem rprint_chs {c : Nat} {r : Rq} {st0 : St} (hc : c < st0.n) (oc : st0.ob c = some (.cells (rqC r))) (hcs : ∀ c ∈ r.ch, okCh c = true) (hcl : r.ch.length ≤ 64) :
    ∀ (n i : Nat) (st : St), i ≤ r.ch.length → r.ch.length < n + i → Ks st0 st →
      ∃ st', g18b111010010 n (.ptr c 0) (.str (joinL dot3 ((r.ch.take i).map chT2))) (.int .i64 (i : Nat)) st = some (.ret (.tup [.str (joinL dot3 (r.ch.map chT2)), .int .i64 0]), st') ∧ Ks st0 st' := by
  intro n
  induction n with
  | zero => intro i st hi hn; omega
  | succ n ih =>
    intro i st hi hn hk
    rw [g18b111010010]
    have w3 : ∀ K : V → St → Res, A.load false 1 (.ptr c 3) st K = K (.lst (r.ch.map chV) 0) st := fun K => by rw [load_ob, (hk.ob c hc).trans oc]; rfl
    rw [faddr_ptr, Nat.zero_add, w3, lenL_lst, List.length_map, bin_lss]
    by_cases hil : i < r.ch.length
    · have e4 : ∀ K, A.bin .add (.int .i64 (i : Nat)) (.int .i64 1) K = K (.int .i64 ((i + 1 : Nat) : Int)) := fun K => bin_inc (by omega) K
      have ld : ∀ (s : St) K, A.load true 4 (.lptr (chC r.ch[i])) s K = K (.agg (chC r.ch[i])) s := fun s K => by rw [load_lptrA]; rfl
      have bx : ∀ K : V → St → Res, A.box (.agg [(.bool false), (.str []), (.str []), (.str [])]) st K = K (.ptr st.n 0) (st.new (.cells [.bool false, .str [], .str [], .str []])) := fun K => rfl
      rw [decide_eq_true (show ((i : Int) < (r.ch.length : Int)) by omega), cond_true, faddr_ptr, Nat.zero_add, w3, iaddr_ch 0 hil, ld, bx, sv_all 4 _ (new_at _ _) rfl rfl rfl]
      have hok := hcs r.ch[i] (List.getElem_mem hil)
      have hcl2 := chT2_len hok
      have k2 : Ks st0 ((st.new (.cells [.bool false, .str [], .str [], .str []])).put st.n (.cells (chC r.ch[i]))) := (hk.new _).put hk.n _
      have o2 := put_at (st.new (.cells [.bool false, .str [], .str [], .str []])) st.n (.cells (chC r.ch[i]))
      generalize (st.new (.cells [.bool false, .str [], .str [], .str []])).put st.n (.cells (chC r.ch[i])) = s2 at k2 o2 ⊢
      have v0 : ∀ K : V → St → Res, A.load false 1 (.ptr st.n 0) s2 K = K (.bool r.ch[i].gone) s2 := fun K => by rw [load_ob, o2]; rfl
      have v1 : ∀ K : V → St → Res, A.load false 1 (.ptr st.n 1) s2 K = K (.str r.ch[i].s) s2 := fun K => by rw [load_ob, o2]; rfl
      have v2 : ∀ K : V → St → Res, A.load false 1 (.ptr st.n 2) s2 K = K (.str r.ch[i].p) s2 := fun K => by rw [load_ob, o2]; rfl
      have v3 : ∀ K : V → St → Res, A.load false 1 (.ptr st.n 3) s2 K = K (.str r.ch[i].o) s2 := fun K => by rw [load_ob, o2]; rfl
      have hj : (joinL dot3 ((r.ch.take i).map chT2)).length ≤ 7000 := by
        have h1 := (join_bd dot3 100 ((r.ch.take i).map chT2) fun t ht => by
          obtain ⟨x, hx, rfl⟩ := List.mem_map.1 ht
          exact chT2_len (hcs x (List.mem_of_mem_take hx))).1
        have h3 : dot3.length = 3 := rfl
        rw [h3] at h1
        have h2 : ((r.ch.take i).map chT2).length * (100 + 3) ≤ 64 * (100 + 3) := Nat.mul_le_mul_right _ (by simp; omega)
        omega
      -- the text of one
      have ec : howW r.ch[i] ++ [32] ++ r.ch[i].s ++ [32] ++ r.ch[i].p ++ [32] ++ r.ch[i].o = chT2 r.ch[i] := by simp [chT2]
      have et : (if i = 0 then [] else joinL dot3 ((r.ch.take i).map chT2) ++ dot3) ++ chT2 r.ch[i] = joinL dot3 ((r.ch.take (i + 1)).map chT2) := by
        rw [List.take_add_one, List.getElem?_eq_getElem hil, List.map_append]
        cases i with
        | zero => rw [if_pos rfl]; simp [joinL, tlL]
        | succ i =>
          rw [if_neg (by omega)]
          cases hq : r.ch.take (i + 1) with
          | nil => have := congrArg List.length hq; simp at this; rw [this] at hil; simp at hil
          | cons p ps => exact (joinL_snoc dot3 (chT2 r.ch[i + 1]) _ _).symm
      have hlen : (howW r.ch[i]).length + r.ch[i].s.length + r.ch[i].p.length + r.ch[i].o.length ≤ 100 := by
        have := congrArg List.length ec; simp only [List.length_append, List.length_cons, List.length_nil] at this; omega
      have fin : ∃ st', g18b111010010010011 (g18b111010010 n) (.ptr c 0) (.str (if i = 0 then [] else joinL dot3 ((r.ch.take i).map chT2) ++ dot3)) (.int .i64 (i : Nat)) (.ptr st.n 0) s2 = some (.ret (.tup [.str (joinL dot3 (r.ch.map chT2)), .int .i64 0]), st') ∧ Ks st0 st' := by
        have hX : (if i = 0 then [] else joinL dot3 ((r.ch.take i).map chT2) ++ dot3).length ≤ 7010 := by
          split
          · simp
          · have h3 : dot3.length = 3 := rfl
            rw [List.length_append, h3]; omega
        generalize (if i = 0 then [] else joinL dot3 ((r.ch.take i).map chT2) ++ dot3) = X at et hX ⊢
        have tail : ∃ st', g18b1110100100100111 (g18b111010010 n) (.ptr c 0) (.str (X ++ (howW r.ch[i] ++ [32]))) (.int .i64 (i : Nat)) (.ptr st.n 0) s2 = some (.ret (.tup [.str (joinL dot3 (r.ch.map chT2)), .int .i64 0]), st') ∧ Ks st0 st' := by
          unfold g18b1110100100100111
          simp only [faddr_ptr, Nat.zero_add, Nat.add_zero, show 1 + 1 = 2 from rfl, show 1 + 2 = 3 from rfl, v1, v2, v3]
          rw [addB _ _ (by simp only [List.length_append, List.length_cons, List.length_nil]; omega), addB _ _ (by simp only [List.length_append, List.length_cons, List.length_nil]; omega), addB _ _ (by simp only [List.length_append, List.length_cons, List.length_nil]; omega), addB _ _ (by simp only [List.length_append, List.length_cons, List.length_nil]; omega), addB _ _ (by simp only [List.length_append, List.length_cons, List.length_nil]; omega), e4]
          have e : X ++ (howW r.ch[i] ++ [32]) ++ r.ch[i].s ++ [32] ++ r.ch[i].p ++ [32] ++ r.ch[i].o = joinL dot3 ((r.ch.take (i + 1)).map chT2) := by
            rw [← et, ← ec]; simp
          rw [e]
          exact ih (i + 1) s2 (by omega) (by omega) k2
        unfold g18b111010010010011
        rw [faddr_ptr, Nat.zero_add, v0]
        unfold howW at tail
        cases hg : r.ch[i].gone with
        | true => rw [hg] at tail; rw [cond_true, addB _ _ (by simp; omega)]; exact tail
        | false => rw [hg] at tail; rw [cond_false, addB _ _ (by simp; omega)]; exact tail
      unfold g18b11101001001001
      rw [bin_gtr]
      cases i with
      | zero =>
        rw [show decide ((0 : Int) < ((0 : Nat) : Int)) = false from rfl, cond_false]
        exact fin
      | succ i =>
        rw [if_neg (by omega)] at fin
        rw [decide_eq_true (show ((0 : Int) < ((i + 1 : Nat) : Int)) by omega), cond_true, addB _ _ (by simp only [List.length_cons, List.length_nil]; omega)]
        exact fin
    · have : i = r.ch.length := by omega
      subst this
      rw [decide_eq_false (show ¬ ((r.ch.length : Int) < (r.ch.length : Int)) by omega), cond_false, List.take_length]
      exact ⟨st, rfl, hk⟩
theorem rprint_s {r : Rq} (h : okP r) (hw0 : rqWok r) (st : St) : s18 [rqV r] st = some (.ret (.tup [.str (if okAll r = true then reqT r else []), .int .i64 (if okAll r = true then 0 else 1)]), st) := by
  rw [s18_eq]
  have main : ∃ st', f18 (rqV r) st = some (.ret (.tup [.str (if okAll r = true then reqT r else []), .int .i64 (if okAll r = true then 0 else 1)]), st') ∧ Ks st st' := by
    unfold f18
    rw [box_rq]
    have o1 := new_at st (.cells (rqC r))
    have k1 : Ks st (st.new (.cells (rqC r))) := (Ks.refl st).new _
    have n1 : st.n < (st.new (.cells (rqC r))).n := by simp
    generalize st.new (.cells (rqC r)) = s1 at o1 k1 n1 ⊢
    have w0 : ∀ K : V → St → Res, A.load false 1 (.ptr st.n 0) s1 K = K (.int .i64 r.kind) s1 := fun K => by rw [load_ob, o1]; rfl
    have ld : ∀ K : V → St → Res, A.load true 4 (.ptr st.n 0) s1 K = K (rqV r) s1 := fun K => by rw [load_obA, o1]; rfl
    rw [ld, er_rq, may_s h hw0, ret_ret, un_not]
    cases hok : okAll r with
    | false =>
      rw [Bool.not_false, cond_true]
      exact ⟨s1, rfl, k1⟩
    | true =>
      simp only [if_true]
      obtain ⟨b1, b2, b3⟩ := okAll_bd hok
      have hw := (ok_well hok).1
      rw [Bool.not_true, cond_false, faddr_ptr, Nat.zero_add, w0, eql_int, if_neg Bool.false_ne_true]
      unfold g18b11101 reqT
      rcases hw with ⟨g1, g2, g3, g4, g5, g6⟩ | ⟨g1, g2, g3, g4, g5⟩
      · rw [show (r.kind == 2) = false from by rw [g1]; rfl, cond_false, if_pos g1]
        unfold g18b1111
        have hv : ∀ v ∈ r.vars, v.length ≤ 16 := fun v hm => (isWord_some (g4 v hm)).2.1
        have hat : ∀ a ∈ r.atoms, wellAt a ∧ a.p.nd ≤ 10000 := fun a hm => ⟨g6 a hm, h.2 a hm⟩
        have q := rprint_vars n1 o1 hv b1 (Q := fun R => ∃ st', R = some (.ret (.tup [.str (selQ ++ (joinL [32, 63] r.vars ++ (whrQ ++ (joinL dot3 (r.atoms.map atT) ++ [32, 125])))), .int .i64 0]), st') ∧ Ks s1 st') (fun s2 k2 => by
          unfold g18b111111
          have hj := (join_bd [32, 63] 16 r.vars hv).2
          have hj3 : r.vars.length * (16 + [(32 : UInt8), 63].length) ≤ 6 * (16 + [(32 : UInt8), 63].length) := Nat.mul_le_mul_right _ b1
          have h3 : [(32 : UInt8), 63].length = 2 := rfl
          rw [h3] at hj hj3
          rw [addB _ _ (by simp only [List.length_append, List.length_cons, List.length_nil]; omega)]
          obtain ⟨st', r1, r2⟩ := rprint_atoms (st0 := s1) n1 o1 ([115, 101, 108, 101, 99, 116] ++ tlL [32, 63] r.vars ++ [32, 119, 104, 101, 114, 101, 32, 123]) (by simp only [List.length_append, List.length_cons, List.length_nil]; omega) hat b2 big 0 s2 (by omega) (lt_big (by omega)) k2
          have e0 : accA r 0 = [] := rfl
          rw [e0, List.append_nil] at r1
          have e : [115, 101, 108, 101, 99, 116] ++ tlL [32, 63] r.vars ++ [32, 119, 104, 101, 114, 101, 32, 123] ++ accA r r.atoms.length ++ [32, 125] = selQ ++ (joinL [32, 63] r.vars ++ (whrQ ++ (joinL dot3 (r.atoms.map atT) ++ [32, 125]))) := by
            unfold accA
            rw [List.take_length]
            cases hvs : r.vars with
            | nil => rw [hvs] at g3; simp at g3
            | cons v vs =>
              cases has : r.atoms with
              | nil => rw [has] at g5; simp at g5
              | cons a az => simp [tlL, joinL, selQ, whrQ]
          rw [e] at r1
          exact ⟨st', r1, r2⟩)
        have q := q big 0 s1 (by omega) (lt_big (by omega)) (Ks.refl s1)
        rw [List.take_zero] at q
        obtain ⟨st', r1, r2⟩ := q
        exact ⟨st', r1, k1.trans r2⟩
      · rw [show (r.kind == 2) = true from by rw [g1]; rfl, cond_true, if_neg (by rw [g1]; decide)]
        obtain ⟨st', r1, r2⟩ := rprint_chs (st0 := s1) n1 o1 g5 b3 big 0 s1 (by omega) (lt_big (by omega)) (Ks.refl s1)
        exact ⟨st', r1, k1.trans r2⟩
  obtain ⟨st', q1, q2⟩ := main
  exact fg_of q1 q2 rfl
end Go.Ab
