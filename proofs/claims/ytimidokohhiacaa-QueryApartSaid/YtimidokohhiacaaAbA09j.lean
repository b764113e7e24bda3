import Derived.Test.YtimidokohhiacaaAbA09f
import Derived.Test.YtimidokohhiacaaAbA09h
import Derived.Test.YtimidokohhiacaaAbA09i
/- sinew/query: the walk of why and Parse. -/
namespace Go.Ab
open Go.Proofs Go.RowKit
set_option linter.unusedVariables false
set_option linter.unusedSimpArgs false
set_option maxRecDepth 100000
theorem max_nat (a b : Nat) (K : V → Res) : A.max (.int .i64 (a : Nat)) (.int .i64 (b : Nat)) K = K (.int .i64 ((max a b : Nat) : Int)) := by
  show K (.int .i64 (if (b : Int) > a then (b : Int) else a)) = _
  congr 2
  split <;> omega
theorem pth_er (p : Pth) : p.v.er1 = p.v := by rw [pth_c]; rfl
theorem iaddr_pth {l : List Pth} {i : Nat} (t : Nat) (h : i < l.length) (K : V → Res) : A.iaddr 3 (.lst (l.map Pth.v) t) (.int .i64 (i : Nat)) K = K (.lptr (pthC l[i])) := by
  have := iaddr_lst (l := l.map Pth.v) (t := t) (sz := 3) (n := i) (v := l[i].v) K (by simp [h]) (by rw [pth_c]; rfl)
  rw [pth_c l[i]] at this
  exact this
theorem load_pth (p : Pth) (st : St) (K : V → St → Res) : A.load true 3 (.lptr (pthC p)) st K = K p.v st := by rw [load_lptrA, pth_c]; rfl
theorem szl_drop {l : List Pth} {i : Nat} (h : i < l.length) : Pth.szl (l.drop i) = (l[i].sz.1 + (Pth.szl (l.drop (i + 1))).1, max l[i].sz.2 (Pth.szl (l.drop (i + 1))).2) := by
  rw [List.drop_eq_getElem_cons h, szl_cons]
theorem szl_mem {l : List Pth} {p : Pth} (h : p ∈ l) : p.sz.1 ≤ (Pth.szl l).1 ∧ p.sz.2 ≤ (Pth.szl l).2 := by
  induction l with
  | nil => cases h
  | cons a l ih =>
    rw [szl_cons]
    rcases List.mem_cons.1 h with rfl | g
    · simp only; omega
    · have := ih g; simp only; omega
theorem size_loop {R : Fn} {st0 : St} {l : List Pth} {t : Nat} (hR : ∀ p ∈ l, ∀ st, R [p.v] st = some (.ret (.tup [.int .i64 (p.sz.1 : Nat), .int .i64 (p.sz.2 : Nat)]), st)) (hlen : l.length ≤ 1000000000) :
    ∀ (n i w d : Nat) (st : St), i ≤ l.length → l.length < n + i → Ks st0 st → w + (Pth.szl (l.drop i)).1 ≤ 1000000000 → d ≤ 1000000000 → (Pth.szl (l.drop i)).2 ≤ 1000000000 →
      ∃ st', g53b11010 R n (.int .i64 (w : Nat)) (.int .i64 (d : Nat)) (.lst (l.map Pth.v) t) (.int .i64 (l.length : Nat)) (.int .i64 (i : Nat)) st = some (.ret (.tup [.int .i64 ((w + (Pth.szl (l.drop i)).1 : Nat) : Int), .int .i64 ((max d (Pth.szl (l.drop i)).2 + 1 : Nat) : Int)]), st') ∧ Ks st0 st' := by
  intro n
  induction n with
  | zero => intro i w d st hi hn; omega
  | succ n ih =>
    intro i w d st hi hn hk hw hd hs
    rw [g53b11010]
    simp only [bin_lss]
    by_cases hil : i < l.length
    · rw [szl_drop hil] at hw hs ⊢
      simp only at hw hs
      have bx : ∀ K : V → St → Res, A.box (.agg [(.int .i64 0), (.str []), (.lst [] 1)]) st K = K (.ptr st.n 0) (st.new (.cells [.int .i64 0, .str [], .lst [] 1])) := fun K => rfl
      simp only [show ((i : Int) < (l.length : Int)) from by omega, decide_true, cond_true, iaddr_pth t hil, load_pth, bx]
      rw [pth_store l[i] (new_at _ _) rfl, pth_load l[i] (put_at _ _ _), pth_er, hR l[i] (List.getElem_mem hil), ret_ret, ext_0, ext_1]
      unfold g53b110100110011
      rw [bin_addN w l[i].sz.1 _ (by omega), max_nat, bin_inc (by omega)]
      obtain ⟨st', q1, q2⟩ := ih (i + 1) (w + l[i].sz.1) (max d l[i].sz.2) _ (by omega) (by omega) ((hk.new _).put hk.n _) (by omega) (by omega) (by omega)
      refine ⟨st', ?_, q2⟩
      show _ = some (Out.ret (.tup [.int .i64 ((w + (l[i].sz.1 + (Pth.szl (l.drop (i + 1))).1) : Nat) : Int), .int .i64 ((max d (max l[i].sz.2 (Pth.szl (l.drop (i + 1))).2) + 1 : Nat) : Int)]), st')
      rw [q1, Nat.add_assoc, Nat.max_assoc]
    · have : i = l.length := by omega
      subst this
      simp only [Int.lt_irrefl, decide_false, cond_false, List.drop_length, szl_nil, er1_int]
      rw [bin_inc (by omega)]
      exact ⟨st, by simp, hk⟩
theorem size_n : ∀ (n : Nat) (p : Pth), p.sz.2 ≤ n → p.sz.1 ≤ 1000000 → p.sz.2 ≤ 1000000 → p.nd ≤ 1000000 → ∀ st : St, s53n n [p.v] st = some (.ret (.tup [.int .i64 (p.sz.1 : Nat), .int .i64 (p.sz.2 : Nat)]), st)
  | 0, p, h, _, _, _, st => by cases p; rw [sz_eq] at h; simp at h
  | n + 1, .mk k w l, h1, h2, h3, h4, st => by
    rw [s53n_eq]
    have hs := sz_eq k w l
    have hn := nd_eq k w l
    rw [hs] at h1 h2 h3
    rw [hn] at h4
    simp only at h1 h2 h3
    have hll := ndl_len l
    have hR : ∀ q ∈ l, ∀ st, s53n n [q.v] st = some (.ret (.tup [.int .i64 (q.sz.1 : Nat), .int .i64 (q.sz.2 : Nat)]), st) := fun q hq st => by
      have a := szl_mem hq
      have b := ndl_mem hq
      exact size_n n q (by omega) (by split at h2 <;> omega) (by omega) (by omega) st
    have main : ∃ st', f53 (s53n n) (Pth.mk k w l).v st = some (.ret (.tup [.int .i64 ((Pth.mk k w l).sz.1 : Nat), .int .i64 ((Pth.mk k w l).sz.2 : Nat)]), st') ∧ Ks st st' := by
      unfold f53
      have bx : ∀ K : V → St → Res, A.box (Pth.mk k w l).v st K = K (.ptr st.n 0) (st.new (.cells (pthC (.mk k w l)))) := fun K => by rw [pth_c]; rfl
      have o1 := new_at st (.cells (pthC (.mk k w l)))
      have k1 : Ks st (st.new (.cells (pthC (.mk k w l)))) := (Ks.refl st).new _
      rw [bx]
      generalize st.new (.cells (pthC (.mk k w l))) = s1 at o1 k1 ⊢
      have w0 : ∀ K : V → St → Res, A.load false 1 (.ptr st.n 0) s1 K = K (.int .i64 k) s1 := fun K => by rw [load_ob, o1]; rfl
      have w2 : ∀ K : V → St → Res, A.load false 1 (.ptr st.n 2) s1 K = K (.lst (l.map Pth.v) 0) s1 := fun K => by rw [load_ob, o1]; rfl
      simp only [faddr_ptr, Nat.zero_add, w0, eql_int, Bool.false_eq_true, if_false]
      by_cases hk : k = 1
      · rw [show (k == 1) = true from by rw [hk]; rfl, cond_true]
        unfold g53b11
        simp only [faddr_ptr, Nat.zero_add, w2, lenL_lst, List.length_map]
        rw [if_pos hk] at h2
        obtain ⟨st', q1, q2⟩ := size_loop (t := 0) hR (by omega) big 0 1 0 s1 (by omega) (lt_big (by omega)) k1 (by rw [List.drop_zero]; omega) (by omega) (by rw [List.drop_zero]; omega)
        refine ⟨st', ?_, q2⟩
        rw [List.drop_zero] at q1
        rw [hs, if_pos hk]
        show g53b11010 (s53n n) big (.int .i64 ((1 : Nat) : Int)) (.int .i64 ((0 : Nat) : Int)) _ _ (.int .i64 ((0 : Nat) : Int)) s1 = _
        rw [q1, Nat.zero_max]
      · rw [show (k == 1) = false from beq_eq_false_iff_ne.2 hk, cond_false]
        unfold g53b11
        simp only [faddr_ptr, Nat.zero_add, w2, lenL_lst, List.length_map]
        rw [if_neg hk] at h2
        obtain ⟨st', q1, q2⟩ := size_loop (t := 0) hR (by omega) big 0 0 0 s1 (by omega) (lt_big (by omega)) k1 (by rw [List.drop_zero]; omega) (by omega) (by rw [List.drop_zero]; omega)
        refine ⟨st', ?_, q2⟩
        rw [List.drop_zero] at q1
        rw [hs, if_neg hk]
        show g53b11010 (s53n n) big (.int .i64 ((0 : Nat) : Int)) (.int .i64 ((0 : Nat) : Int)) _ _ (.int .i64 ((0 : Nat) : Int)) s1 = _
        rw [q1, Nat.zero_max]
    obtain ⟨st', q1, q2⟩ := main
    exact fg_of q1 q2 rfl
theorem size_s (p : Pth) (h1 : p.sz.1 ≤ 1000000) (h2 : p.sz.2 ≤ 1000000) (h3 : p.nd ≤ 1000000) (st : St) : s53 [p.v] st = some (.ret (.tup [.int .i64 (p.sz.1 : Nat), .int .i64 (p.sz.2 : Nat)]), st) := by
  rw [s53_n]; exact size_n big p (Nat.le_of_lt (lt_big (by omega))) h1 h2 h3 st
def toA (a : AtP) : Atm := ⟨a.s.v, a.s.n, a.p.kind, a.p.word, a.p.kids.map Pth.v, 0, a.o.v, a.o.n⟩
theorem atsV_toA (l : List AtP) : atsV (l.map toA) = l.map atpV := by
  unfold atsV; rw [List.map_map]; rfl
theorem names_toA : ∀ (l : List AtP) (out : List (List UInt8)), (l.map toA).foldl addA out = l.foldl addP out
  | [], out => rfl
  | a :: l, out => by rw [List.map_cons, List.foldl_cons, List.foldl_cons]; exact names_toA l _
theorem namesL_toA (l : List AtP) : namesL (l.map toA) = namesP l := names_toA l []
/-- All that why asks for. -/
def okW (r : Rq) : Prop := r.vars.length ≤ 10000 ∧ r.atoms.length ≤ 10000 ∧ r.ch.length ≤ 1000000 ∧ ∀ a ∈ r.atoms, a.p.sz.1 ≤ 1000000 ∧ a.p.sz.2 ≤ 1000000 ∧ a.p.nd ≤ 1000000
theorem iaddr_atp {l : List AtP} {i : Nat} (t : Nat) (h : i < l.length) (K : V → Res) : A.iaddr 7 (.lst (l.map atpV) t) (.int .i64 (i : Nat)) K = K (.lptr (atpC l[i])) :=
  iaddr_lst (v := atpV l[i]) K (by simp [h]) rfl
theorem bound_loop (names : List (List UInt8)) (u : Nat) (vars : List (List UInt8)) (t : Nat) (hn : names.length ≤ 100000) (hv : vars.length ≤ 100000) (st : St) : ∀ (n i : Nat), i ≤ vars.length → vars.length < n + i →
    g26b111111010 n (.lst (strsV names) u) (.lst (strsV vars) t) (.int .i64 (vars.length : Nat)) (.int .i64 (i : Nat)) st = some (.ret (.int .i64 (if ((vars.drop i).any fun v => !names.contains v) = true then 91 else 0)), st) := by
  intro n
  induction n with
  | zero => intro i hi hn; omega
  | succ n ih =>
    intro i hi hn'
    rw [g26b111111010]
    simp only [bin_lss]
    by_cases hil : i < vars.length
    · have e4 : ∀ K, A.bin .add (.int .i64 (i : Nat)) (.int .i64 1) K = K (.int .i64 ((i + 1 : Nat) : Int)) := fun K => bin_inc (by omega) K
      simp only [show ((i : Int) < (vars.length : Int)) from by omega, decide_true, cond_true, iaddr_strs t hil, load_l1', er1_lst, er1_str, contains_s names u vars[i] st hn, ret_ret, un_not]
      rw [List.drop_eq_getElem_cons hil, List.any_cons]
      cases hc : names.contains vars[i] with
      | true =>
        rw [Bool.not_true, cond_false, e4, Bool.false_or]
        exact ih (i + 1) (by omega) (by omega)
      | false => rfl
    · have : i = vars.length := by omega
      subst this
      simp only [Int.lt_irrefl, decide_false, cond_false, List.drop_length, er1_int]
      rfl
theorem dup_loop (names : List (List UInt8)) (u : Nat) (vars : List (List UInt8)) (t : Nat) (hn : names.length ≤ 100000) (hv : vars.length ≤ 100000) (st : St) : ∀ (n i : Nat), i ≤ vars.length → vars.length < n + i →
    g26b11111010 n (.lst (strsV names) u) (.lst (strsV vars) t) (.lst (strsV vars) t) (.int .i64 (vars.length : Nat)) (.int .i64 (i : Nat)) st = some (.ret (.int .i64 (if dupF (vars.take i) (vars.drop i) = true then 1 else if (vars.any fun v => !names.contains v) = true then 91 else 0)), st) := by
  intro n
  induction n with
  | zero => intro i hi hn; omega
  | succ n ih =>
    intro i hi hn'
    rw [g26b11111010]
    simp only [bin_lss]
    by_cases hil : i < vars.length
    · have e4 : ∀ K, A.bin .add (.int .i64 (i : Nat)) (.int .i64 1) K = K (.int .i64 ((i + 1 : Nat) : Int)) := fun K => bin_inc (by omega) K
      simp only [show ((i : Int) < (vars.length : Int)) from by omega, decide_true, cond_true, iaddr_strs t hil, load_l1']
      rw [slice_strs vars t i _ (by omega)]
      simp only [er1_lst, er1_str, contains_s (vars.take i) _ vars[i] st (by simp; omega), ret_ret]
      rw [List.drop_eq_getElem_cons hil, dupF]
      cases hc : (vars.take i).contains vars[i] with
      | true => rfl
      | false =>
        rw [cond_false, e4, Bool.false_or, ih (i + 1) (by omega) (by omega), List.take_add_one, List.getElem?_eq_getElem hil]
        rfl
    · have : i = vars.length := by omega
      subst this
      simp only [Int.lt_irrefl, decide_false, cond_false, List.drop_length, dupF, Bool.false_eq_true, if_false]
      unfold g26b111111
      simp only [lenL_lst, strsV_len]
      have := bound_loop names u vars t hn hv st big 0 (by omega) (lt_big (by omega))
      rw [List.drop_zero] at this
      exact this
theorem why_tail {st : St} {i u : Nat} {r : Rq} (o : st.ob i = some (.cells (rqC r))) (h : okW r) (hnames : (namesP r.atoms).length ≤ 100000) :
    g26b111 (.ptr i 0) (.lst (strsV (namesP r.atoms)) u) st = some (.ret (.int .i64 (if 6 < r.vars.length ∨ 6 < r.atoms.length ∨ 6 < (namesP r.atoms).length ∨ 64 < r.ch.length then 2
  else if dupF [] r.vars = true then 1
  else if (r.vars.any fun v => !(namesP r.atoms).contains v) = true then 91 else 0)), st) := by
  obtain ⟨h1, h2, h3, h4⟩ := h
  unfold g26b111
  have w1 : ∀ K : V → St → Res, A.load false 1 (.ptr i 1) st K = K (.lst (strsV r.vars) 0) st := fun K => by rw [load_ob, o]; rfl
  have w2 : ∀ K : V → St → Res, A.load false 1 (.ptr i 2) st K = K (.lst (r.atoms.map atpV) 0) st := fun K => by rw [load_ob, o]; rfl
  have w3 : ∀ K : V → St → Res, A.load false 1 (.ptr i 3) st K = K (.lst (r.ch.map chV) 0) st := fun K => by rw [load_ob, o]; rfl
  have fin : (6 < r.vars.length ∨ 6 < r.atoms.length ∨ 6 < (namesP r.atoms).length ∨ 64 < r.ch.length) → some (Out.ret ((.int .i64 2 : V).er1), st) = some (.ret (.int .i64 (if 6 < r.vars.length ∨ 6 < r.atoms.length ∨ 6 < (namesP r.atoms).length ∨ 64 < r.ch.length then 2
  else if dupF [] r.vars = true then 1
  else if (r.vars.any fun v => !(namesP r.atoms).contains v) = true then 91 else 0)), st) := fun hc => by rw [if_pos hc]; rfl
  simp only [faddr_ptr, Nat.zero_add, w1, lenL_lst, strsV_len, bin_gtr]
  by_cases c1 : 6 < r.vars.length
  · simp only [show ((6 : Int) < (r.vars.length : Int)) from by omega, decide_true, guard_tf]
    unfold g26b111100_11
    rw [guard_tf]
    exact fin (.inl c1)
  simp only [show ¬ ((6 : Int) < (r.vars.length : Int)) from by omega, decide_false, guard_ff, faddr_ptr, Nat.zero_add, w2, lenL_lst, List.length_map, bin_gtr]
  unfold g26b111100_11
  by_cases c2 : 6 < r.atoms.length
  · simp only [show ((6 : Int) < (r.atoms.length : Int)) from by omega, decide_true, guard_tf]
    exact fin (.inr (.inl c2))
  simp only [show ¬ ((6 : Int) < (r.atoms.length : Int)) from by omega, decide_false, guard_ff, lenL_lst, strsV_len, bin_gtr]
  by_cases c3 : 6 < (namesP r.atoms).length
  · simp only [show ((6 : Int) < ((namesP r.atoms).length : Int)) from by omega, decide_true, guard_tf]
    exact fin (.inr (.inr (.inl c3)))
  simp only [show ¬ ((6 : Int) < ((namesP r.atoms).length : Int)) from by omega, decide_false, guard_ff, faddr_ptr, Nat.zero_add, w3, lenL_lst, List.length_map, bin_gtr]
  by_cases c4 : 64 < r.ch.length
  · simp only [show ((64 : Int) < (r.ch.length : Int)) from by omega, decide_true, cond_true]
    exact fin (.inr (.inr (.inr c4)))
  simp only [show ¬ ((64 : Int) < (r.ch.length : Int)) from by omega, decide_false, cond_false]
  rw [if_neg (by omega)]
  unfold g26b11111
  simp only [lenL_lst, strsV_len]
  have := dup_loop (namesP r.atoms) u r.vars 0 hnames (by omega) st big 0 (by omega) (lt_big (by omega))
  rw [List.drop_zero, List.take_zero] at this
  exact this
theorem bx_atp (st : St) (K : V → St → Res) : A.box (.agg [(.bool false), (.str []), (.int .i64 0), (.str []), (.lst [] 1), (.bool false), (.str [])]) st K = K (.ptr st.n 0) (st.new (.cells [(.bool false), (.str []), (.int .i64 0), (.str []), (.lst [] 1), (.bool false), (.str [])])) := rfl
theorem why_loop {st0 : St} {c u : Nat} {r : Rq} (hc : c < st0.n) (hoc : st0.ob c = some (.cells (rqC r))) (h : okW r) (hnames : (namesP r.atoms).length ≤ 100000) :
    ∀ (n i : Nat) (st : St), i ≤ r.atoms.length → r.atoms.length < n + i → Ks st0 st →
      ∃ st', g26b11010 n (.ptr c 0) (.lst (strsV (namesP r.atoms)) u) (.lst (r.atoms.map atpV) 0) (.int .i64 (r.atoms.length : Nat)) (.int .i64 (i : Nat)) st = some (.ret (.int .i64 (if deepA (r.atoms.drop i) = true then 100
  else if 6 < r.vars.length ∨ 6 < r.atoms.length ∨ 6 < (namesP r.atoms).length ∨ 64 < r.ch.length then 2
  else if dupF [] r.vars = true then 1
  else if (r.vars.any fun v => !(namesP r.atoms).contains v) = true then 91 else 0)), st') ∧ Ks st0 st' := by
  intro n
  induction n with
  | zero => intro i st hi hn; omega
  | succ n ih =>
    intro i st hi hn hk
    rw [g26b11010]
    simp only [bin_lss]
    by_cases hil : i < r.atoms.length
    · have e4 : ∀ K, A.bin .add (.int .i64 (i : Nat)) (.int .i64 1) K = K (.int .i64 ((i + 1 : Nat) : Int)) := fun K => bin_inc (by have := h.2.1; omega) K
      have ld : ∀ (s : St) K, A.load true 7 (.lptr (atpC r.atoms[i])) s K = K (.agg (atpC r.atoms[i])) s := fun s K => by rw [load_lptrA]; rfl
      simp only [show ((i : Int) < (r.atoms.length : Int)) from by omega, decide_true, cond_true, iaddr_atp 0 hil, ld, bx_atp]
      rw [sv_all 7 _ (new_at _ _) rfl rfl rfl]
      have k2 : Ks st0 ((st.new (.cells [(.bool false), (.str []), (.int .i64 0), (.str []), (.lst [] 1), (.bool false), (.str [])])).put st.n (.cells (atpC r.atoms[i]))) := (hk.new _).put hk.n _
      have o2 := put_at (st.new (.cells [(.bool false), (.str []), (.int .i64 0), (.str []), (.lst [] 1), (.bool false), (.str [])])) st.n (.cells (atpC r.atoms[i]))
      generalize (st.new (.cells [(.bool false), (.str []), (.int .i64 0), (.str []), (.lst [] 1), (.bool false), (.str [])])).put st.n (.cells (atpC r.atoms[i])) = s2 at k2 o2 ⊢
      have w1 : ∀ K : V → St → Res, A.load true 3 (.ptr st.n 2) s2 K = K (r.atoms[i].p).v s2 := fun K => by rw [load_obA, o2, pth_c]; rfl
      obtain ⟨b1, b2, b3⟩ := h.2.2.2 r.atoms[i] (List.getElem_mem hil)
      simp only [faddr_ptr, Nat.zero_add, w1, pth_er, size_s r.atoms[i].p b1 b2 b3, ret_ret, ext_0, ext_1]
      unfold g26b110100110011
      have hd : deepA (r.atoms.drop i) = ((decide (24 < r.atoms[i].p.sz.1) || decide (12 < r.atoms[i].p.sz.2)) || deepA (r.atoms.drop (i + 1))) := by
        rw [List.drop_eq_getElem_cons hil]; rfl
      rw [hd]
      simp only [bin_gtr]
      by_cases c1 : 24 < r.atoms[i].p.sz.1
      · simp only [show ((24 : Int) < (r.atoms[i].p.sz.1 : Int)) from by omega, decide_true, guard_tf, c1, Bool.true_or, if_true, er1_int]
        exact ⟨s2, rfl, k2⟩
      by_cases c2 : 12 < r.atoms[i].p.sz.2
      · simp only [show ¬ ((24 : Int) < (r.atoms[i].p.sz.1 : Int)) from by omega, show ((12 : Int) < (r.atoms[i].p.sz.2 : Int)) from by omega, decide_true, decide_false, guard_ff, cond_true, c2, c1, Bool.true_or, Bool.or_true, if_true, er1_int]
        exact ⟨s2, rfl, k2⟩
      simp only [show ¬ ((24 : Int) < (r.atoms[i].p.sz.1 : Int)) from by omega, show ¬ ((12 : Int) < (r.atoms[i].p.sz.2 : Int)) from by omega, decide_false, guard_ff, cond_false, c2, c1, Bool.false_or, e4]
      exact ih (i + 1) s2 (by omega) (by omega) k2
    · have : i = r.atoms.length := by omega
      subst this
      simp only [Int.lt_irrefl, decide_false, cond_false, List.drop_length]
      have o2 := (hk.ob c hc).trans hoc
      rw [why_tail o2 h hnames]
      exact ⟨st, rfl, hk⟩
theorem namesP_len (l : List AtP) : (namesP l).length ≤ 2 * l.length := by
  have := namesL_len (l.map toA) []
  rw [← namesL_toA]
  unfold namesL
  simp at this ⊢; omega
theorem why_s {r : Rq} (h : okW r) (st : St) : s26 [rqV r] st = some (.ret (.int .i64 (whyP r)), st) := by
  have main : ∃ st', f26 (rqV r) st = some (.ret (.int .i64 (whyP r)), st') ∧ Ks st st' := by
    unfold f26
    have bx : ∀ K : V → St → Res, A.box (rqV r) st K = K (.ptr st.n 0) (st.new (.cells (rqC r))) := fun K => rfl
    have o1 := new_at st (.cells (rqC r))
    have k1 : Ks st (st.new (.cells (rqC r))) := (Ks.refl st).new _
    have n1 : st.n < (st.new (.cells (rqC r))).n := by simp
    rw [bx]
    generalize st.new (.cells (rqC r)) = s1 at o1 k1 n1 ⊢
    have w1 : ∀ K : V → St → Res, A.load true 2 (.ptr st.n 1) s1 K = K (.agg (qyC r.vars 0 (r.atoms.map toA) 0)) s1 := fun K => by
      rw [load_obA, o1]
      show K (.agg [.lst (strsV r.vars) 0, .lst (r.atoms.map atpV) 0]) s1 = _
      rw [← atsV_toA]; rfl
    obtain ⟨s2, u, q1, k2⟩ := names_s r.vars (r.atoms.map toA) (by simp; exact h.2.1) s1
    have er : (V.agg (qyC r.vars 0 (r.atoms.map toA) 0)).er1 = .agg (qyC r.vars 0 (r.atoms.map toA) 0) := rfl
    have o2 := (k2.ob st.n n1).trans o1
    have w2 : ∀ K : V → St → Res, A.load false 1 (.ptr st.n 2) s2 K = K (.lst (r.atoms.map atpV) 0) s2 := fun K => by rw [load_ob, o2]; rfl
    simp only [faddr_ptr, Nat.zero_add, w1, er, q1, ret_ret, w2, lenL_lst, List.length_map]
    rw [namesL_toA]
    unfold g26b1101
    have hnl := namesP_len r.atoms
    have h2 := h.2.1
    obtain ⟨st', r1, r2⟩ := why_loop (u := u) (Nat.lt_of_lt_of_le n1 k2.n) o2 h (by omega) big 0 s2 (by omega) (lt_big (by omega)) (Ks.refl s2)
    rw [List.drop_zero] at r1
    exact ⟨st', r1, (k1.trans k2).trans r2⟩
  obtain ⟨st', q1, q2⟩ := main
  rw [s26_eq]
  exact fg_of q1 q2 rfl
end Go.Ab
