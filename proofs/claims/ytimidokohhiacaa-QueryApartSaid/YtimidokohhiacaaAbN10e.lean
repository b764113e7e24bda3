import Derived.Test.YtimidokohhiacaaAbP09u
import Derived.Test.YtimidokohhiacaaAbN10d
/- sinewref09: the walk of Flat; requests that are given. -/
namespace Go.Ab
open Go.Proofs Go.RowKit
set_option linter.unusedVariables false
set_option linter.unusedSimpArgs false
set_option maxRecDepth 100000
def Pth.cnt : Pth → Nat → Nat
  | .mk _ _ l, d => match d with
    | 0 => 1000
    | d + 1 => cntL l d 1
where cntL : List Pth → Nat → Nat → Nat
  | [], _, n => n
  | p :: l, d, n => if n < 1000 then cntL l d (n + p.cnt d) else n
abbrev Pth.cntL := Pth.cnt.cntL
theorem cnt_0 (k : Int) (w : List UInt8) (l : List Pth) : (Pth.mk k w l).cnt 0 = 1000 := rfl
theorem cnt_s (k : Int) (w : List UInt8) (l : List Pth) (d : Nat) : (Pth.mk k w l).cnt (d + 1) = Pth.cntL l d 1 := rfl
theorem cntL_nil (d n : Nat) : Pth.cntL [] d n = n := rfl
theorem cntL_cons (p : Pth) (l : List Pth) (d n : Nat) : Pth.cntL (p :: l) d n = if n < 1000 then Pth.cntL l d (n + p.cnt d) else n := rfl
theorem cntL_ge : ∀ (l : List Pth) (d n : Nat), n ≤ Pth.cntL l d n
  | [], d, n => Nat.le_refl _
  | p :: l, d, n => by
    rw [cntL_cons]
    split
    · have := cntL_ge l d (n + p.cnt d); omega
    · exact Nat.le_refl _
theorem cnt_pos : ∀ (p : Pth) (d : Nat), 1 ≤ p.cnt d
  | .mk k w l, 0 => by rw [cnt_0]; omega
  | .mk k w l, d + 1 => by rw [cnt_s]; exact cntL_ge l d 1
mutual
theorem cnt_le : ∀ (p : Pth) (d : Nat), p.cnt d ≤ 1000 * (d + 1)
  | .mk k w l, 0 => by rw [cnt_0]; omega
  | .mk k w l, d + 1 => by
    rw [cnt_s]
    have := cntL_le l d 1
    omega
theorem cntL_le : ∀ (l : List Pth) (d n : Nat), Pth.cntL l d n ≤ max n (999 + 1000 * (d + 1))
  | [], d, n => Nat.le_max_left _ _
  | p :: l, d, n => by
    rw [cntL_cons]
    split
    · have h1 := cntL_le l d (n + p.cnt d)
      have h2 := cnt_le p d
      omega
    · exact Nat.le_max_left _ _
end
mutual
theorem cnt_nd : ∀ (p : Pth) (d : Nat), p.cnt d ≤ 999 → p.nd ≤ p.cnt d
  | .mk k w l, 0, h => by rw [cnt_0] at h; omega
  | .mk k w l, d + 1, h => by
    rw [cnt_s] at h ⊢
    rw [nd_eq]
    have := cntL_nd l d 1 h
    omega
theorem cntL_nd : ∀ (l : List Pth) (d n : Nat), Pth.cntL l d n ≤ 999 → n + Pth.ndl l ≤ Pth.cntL l d n
  | [], d, n, h => by rw [ndl_nil, cntL_nil]; omega
  | p :: l, d, n, h => by
    rw [cntL_cons] at h ⊢
    rw [ndl_cons]
    split at h
    · rename_i hn
      rw [if_pos hn]
      have h1 := cntL_nd l d (n + p.cnt d) h
      have h2 := cntL_ge l d (n + p.cnt d)
      have h3 := cnt_nd p d (by omega)
      omega
    · omega
end
theorem count_loop {R : Fn} {d : Nat} (hd : d ≤ 1000) {st0 : St} {c : Nat} {k : Int} {w : List UInt8} {l : List Pth} (hc : c < st0.n) (hoc : st0.ob c = some (.cells (pthC (.mk k w l)))) (hR : ∀ p ∈ l, ∀ st, R [p.v, .int .i64 (d : Nat)] st = some (.ret (.int .i64 (p.cnt d : Nat)), st)) :
    ∀ (n i a : Nat) (st : St), i ≤ l.length → 1001 ≤ n + min a 1000 → Ks st0 st → i < a → a ≤ 100000000 →
      ∃ st', g31b111010 R n (.int .i64 ((d + 1 : Nat) : Int)) (.ptr c 0) (.int .i64 (a : Nat)) (.int .i64 (i : Nat)) st = some (.ret (.int .i64 (Pth.cntL (l.drop i) d a : Nat)), st') ∧ Ks st0 st' := by
  intro n
  induction n with
  | zero => intro i a st hi hn; omega
  | succ n ih =>
    intro i a st hi hn hk hia ha
    rw [g31b111010]
    have o := (hk.ob c hc).trans hoc
    have w2 : ∀ K : V → St → Res, A.load false 1 (.ptr c 2) st K = K (.lst (l.map Pth.v) 0) st := fun K => by rw [load_ob, o]; rfl
    rw [faddr_ptr, Nat.zero_add, w2, lenL_lst, List.length_map, bin_lss]
    by_cases hil : i < l.length
    · rw [List.drop_eq_getElem_cons hil, cntL_cons, decide_eq_true (show ((i : Int) < (l.length : Int)) by omega), guard_tt, bin_lss]
      by_cases h1000 : a < 1000
      · rw [decide_eq_true (show ((a : Int) < 1000) by omega), cond_true, if_pos h1000]
        unfold g31b11101001
        have hcl := cnt_le l[i] d
        have hcp := cnt_pos l[i] d
        have hd2 : 1000 * (d + 1) ≤ 1001000 := by omega
        rw [faddr_ptr, Nat.zero_add, w2, iaddr_pth 0 hil, load_pth, bin_dec (d + 1) (by omega), show (((d + 1 : Nat) : Int) - 1) = ((d : Nat) : Int) from by omega, pth_er, er1_int, hR l[i] (List.getElem_mem hil), ret_ret, bin_addN a (l[i].cnt d) _ (by omega), bin_inc (by omega)]
        exact ih (i + 1) (a + l[i].cnt d) st (by omega) (by omega) hk (by omega) (by omega)
      · rw [decide_eq_false (show ¬ ((a : Int) < 1000) by omega), cond_false, if_neg h1000]
        exact ⟨st, rfl, hk⟩
    · have : i = l.length := by omega
      subst this
      rw [decide_eq_false (show ¬ ((l.length : Int) < (l.length : Int)) by omega), guard_ft, List.drop_length, cntL_nil]
      exact ⟨st, rfl, hk⟩
theorem count_n : ∀ (d n : Nat), d ≤ n → d ≤ 1000 → ∀ (p : Pth) (st : St), s31n (n + 1) [p.v, .int .i64 (d : Nat)] st = some (.ret (.int .i64 (p.cnt d : Nat)), st)
  | d, n, hn, hd, .mk k w l, st => by
    rw [s31n_eq]
    have main : ∃ st', f31 (s31n n) (Pth.mk k w l).v (.int .i64 (d : Nat)) st = some (.ret (.int .i64 ((Pth.mk k w l).cnt d : Nat)), st') ∧ Ks st st' := by
      unfold f31
      have bx : ∀ K : V → St → Res, A.box (Pth.mk k w l).v st K = K (.ptr st.n 0) (st.new (.cells (pthC (.mk k w l)))) := fun K => by rw [pth_c]; rfl
      have o1 := new_at st (.cells (pthC (.mk k w l)))
      have k1 : Ks st (st.new (.cells (pthC (.mk k w l)))) := (Ks.refl st).new _
      have n1 : st.n < (st.new (.cells (pthC (.mk k w l)))).n := by simp
      rw [bx]
      generalize st.new (.cells (pthC (.mk k w l))) = s1 at o1 k1 n1 ⊢
      rw [eql_int, if_neg Bool.false_ne_true]
      match d, hn, hd with
      | 0, _, _ => exact ⟨s1, rfl, k1⟩
      | d + 1, hn, hd =>
        obtain ⟨m, rfl⟩ : ∃ m, n = m + 1 := ⟨n - 1, by omega⟩
        rw [show ((((d + 1 : Nat) : Int) == 0)) = false from by rw [beq_eq_false_iff_ne]; omega, cond_false, cnt_s]
        obtain ⟨B, hB, hB2⟩ := big_succ
        obtain ⟨st', q1, q2⟩ := count_loop (d := d) (by omega) n1 o1 (fun q _ st => count_n d m (by omega) (by omega) q st) big 0 1 s1 (by omega) (by omega) (Ks.refl s1) (by omega) (by omega)
        rw [List.drop_zero] at q1
        exact ⟨st', q1, k1.trans q2⟩
    obtain ⟨st', q1, q2⟩ := main
    exact fg_of q1 q2 rfl
theorem count_s (p : Pth) (d : Nat) (hd : d ≤ 1000) (st : St) : s31 [p.v, .int .i64 (d : Nat)] st = some (.ret (.int .i64 (p.cnt d : Nat)), st) := by
  rw [s31_n]
  obtain ⟨M, hM, hM2⟩ := big_succ
  rw [hM]
  exact count_n d M (by omega) hd p st
/-- Are paths not so deep, and not so broad? -/
def flatA (l : List AtP) : Nat → Bool
  | i => match l with
    | [] => true
    | a :: l => if 20 < i then false else if 400 < a.p.cnt 40 then false else flatA l (i + 1)
def flatP (r : Rq) : Bool := flatA r.atoms 0 && (decide (r.vars.length ≤ 40) && decide (r.ch.length ≤ 100))
theorem flat_loop {c : Nat} {r : Rq} {st : St} (oc : st.ob c = some (.cells (rqC r))) : ∀ (n i : Nat), i ≤ r.atoms.length → i ≤ 21 → 23 ≤ n + i → g16b1010 n (.ptr c 0) (.int .i64 (i : Nat)) st = some (.ret (.bool (flatA (r.atoms.drop i) i && (decide (r.vars.length ≤ 40) && decide (r.ch.length ≤ 100)))), st) := by
  have w0 : ∀ K : V → St → Res, A.load false 1 (.ptr c 1) st K = K (.lst (strsV r.vars) 0) st := fun K => by rw [load_ob, oc]; rfl
  have w2 : ∀ K : V → St → Res, A.load false 1 (.ptr c 2) st K = K (.lst (r.atoms.map atpV) 0) st := fun K => by rw [load_ob, oc]; rfl
  have w3 : ∀ K : V → St → Res, A.load false 1 (.ptr c 3) st K = K (.lst (r.ch.map chV) 0) st := fun K => by rw [load_ob, oc]; rfl
  intro n
  induction n with
  | zero => intro i hi h2 hn; omega
  | succ n ih =>
    intro i hi h2 hn
    rw [g16b1010]
    simp only [faddr_ptr, Nat.zero_add, show 1 + 1 = 2 from rfl, w2, lenL_lst, List.length_map, bin_lss]
    by_cases hil : i < r.atoms.length
    · rw [List.drop_eq_getElem_cons hil, flatA, decide_eq_true (show ((i : Int) < (r.atoms.length : Int)) by omega), cond_true, bin_gtr]
      by_cases h20 : 20 < i
      · rw [decide_eq_true (show ((20 : Int) < (i : Int)) by omega), guard_tf, if_pos h20]; rfl
      · rw [decide_eq_false (show ¬ ((20 : Int) < (i : Int)) by omega), guard_ff, if_neg h20]
        have fa : ∀ K, A.faddr 2 (.lptr (atpC r.atoms[i])) K = K (.lptr ((atpC r.atoms[i]).drop 2)) := fun K => rfl
        have ld : ∀ (s : St) K, A.load true 3 (.lptr ((atpC r.atoms[i]).drop 2)) s K = K (r.atoms[i].p).v s := fun s K => by rw [load_lptrA, pth_c]; rfl
        rw [iaddr_atp 0 hil, fa, ld, pth_er, er1_int, show (.int .i64 40 : V) = .int .i64 ((40 : Nat) : Int) from rfl, count_s _ 40 (by omega), ret_ret, bin_gtr]
        by_cases h4 : 400 < r.atoms[i].p.cnt 40
        · rw [decide_eq_true (show ((400 : Int) < (r.atoms[i].p.cnt 40 : Int)) by omega), cond_true, if_pos h4]; rfl
        · rw [decide_eq_false (show ¬ ((400 : Int) < (r.atoms[i].p.cnt 40 : Int)) by omega), cond_false, if_neg h4, bin_inc (by omega)]
          exact ih (i + 1) (by omega) (by omega) (by omega)
    · have : i = r.atoms.length := by omega
      subst this
      have e1 : decide ((r.vars.length : Int) ≤ 40) = decide (r.vars.length ≤ 40) := by
        by_cases h : r.vars.length ≤ 40
        · rw [decide_eq_true h, decide_eq_true (by omega)]
        · rw [decide_eq_false h, decide_eq_false (by omega)]
      have e2 : decide ((r.ch.length : Int) ≤ 100) = decide (r.ch.length ≤ 100) := by
        by_cases h : r.ch.length ≤ 100
        · rw [decide_eq_true h, decide_eq_true (by omega)]
        · rw [decide_eq_false h, decide_eq_false (by omega)]
      rw [decide_eq_false (show ¬ ((r.atoms.length : Int) < (r.atoms.length : Int)) by omega), cond_false, List.drop_length]
      simp only [faddr_ptr, Nat.zero_add, w0, lenL_lst, strsV_len, bin_leq, e1]
      have ef : flatA [] r.atoms.length = true := rfl
      rw [ef, Bool.true_and]
      cases decide (r.vars.length ≤ 40) with
      | false => rfl
      | true =>
        rw [guard_tt, w3, lenL_lst, List.length_map, bin_leq, e2]; rfl
theorem flat_s (r : Rq) (st : St) : s16 [rqV r] st = some (.ret (.bool (flatP r)), st) := by
  rw [s16_eq]
  have bx : ∀ K : V → St → Res, A.box (rqV r) st K = K (.ptr st.n 0) (st.new (.cells (rqC r))) := fun K => rfl
  have o1 := new_at st (.cells (rqC r))
  obtain ⟨B, hB, hB2⟩ := big_succ
  have := flat_loop o1 big 0 (by omega) (by omega) (by omega)
  rw [List.drop_zero] at this
  refine fg_of (v := .bool (flatP r)) (st' := st.new (.cells (rqC r))) ?_ ((Ks.refl st).new _) rfl
  unfold f16
  rw [bx]
  exact this
theorem flatA_some : ∀ (l : List AtP) (i : Nat), flatA l i = true → l.length + i ≤ 21 + i ∧ (l.length ≠ 0 → l.length + i ≤ 21) ∧ ∀ a ∈ l, a.p.nd ≤ 400
  | [], i, h => ⟨by simp, by simp, by simp⟩
  | a :: l, i, h => by
    rw [flatA] at h
    split at h
    · cases h
    split at h
    · cases h
    rename_i h1 h2
    obtain ⟨g1, g2, g3⟩ := flatA_some l (i + 1) h
    have ha : a.p.nd ≤ 400 := by have := cnt_nd a.p 40 (by omega); omega
    have hl : l.length + 1 + i ≤ 21 := by
      by_cases h0 : l.length = 0
      · omega
      · have := g2 h0; omega
    refine ⟨by simp; omega, fun _ => by simp; omega, fun b hb => ?_⟩
    rcases List.mem_cons.1 hb with rfl | g
    · exact ha
    · exact g3 b g
theorem szl1_nd : ∀ l : List Pth, (∀ q ∈ l, q.sz.1 ≤ q.nd) → (Pth.szl l).1 ≤ Pth.ndl l
  | [], _ => Nat.le_refl _
  | q :: l, h => by
    rw [szl_cons, ndl_cons]
    have h1 := h q (by simp)
    have h2 := szl1_nd l fun p hp => h p (by simp [hp])
    simp only; omega
theorem sz1_nd : ∀ p : Pth, p.sz.1 ≤ p.nd
  | .mk k w l => by
    rw [sz_eq, nd_eq]
    have h := szl1_nd l fun q hq => sz1_nd q
    simp only
    split <;> omega
theorem flat_ok {r : Rq} (h : flatP r = true) : okP r ∧ okS r := by
  unfold flatP at h
  simp only [Bool.and_eq_true, decide_eq_true_eq] at h
  obtain ⟨g1, _, g3⟩ := flatA_some r.atoms 0 h.1
  have hsz : ∀ a ∈ r.atoms, a.p.sz.1 ≤ 400 ∧ a.p.sz.2 ≤ 400 := fun a ha => by
    have h1 := sz1_nd a.p
    have h2 := sz2_nd a.p
    have := g3 a ha
    exact ⟨by omega, by omega⟩
  exact ⟨⟨⟨by omega, by omega, by omega, fun a ha => ⟨by have := hsz a ha; omega, by have := hsz a ha; omega, by have := g3 a ha; omega⟩⟩, fun a ha => by have := g3 a ha; omega⟩, by omega, by omega, by omega, fun a ha => ⟨by have := hsz a ha; omega, by have := g3 a ha; omega⟩⟩
/-! a request that is given -/
def Pth.wok : Pth → Prop
  | .mk _ w l => w.length ≤ 9223372036854775807 ∧ wokl l
where wokl : List Pth → Prop
  | [] => True
  | p :: l => p.wok ∧ wokl l
abbrev Pth.wokl := Pth.wok.wokl
theorem wokl_of : ∀ {l : List Pth}, (∀ p ∈ l, p.wok) → Pth.wokl l
  | [], _ => trivial
  | p :: l, h => ⟨h p (by simp), wokl_of fun q hq => h q (by simp [hq])⟩
theorem in_path3 {n : Nat} {cs : List V} (s : Sh Try.prog n 61 cs) : ∃ (k : Int) (w : List UInt8) (l : List V) (m : Nat), cs = [.int .i64 k, .str w, .lst l 0] ∧ w.length ≤ 9223372036854775807 ∧ ∀ v ∈ l, Sh Try.prog m 61 v.cells ∧ fit Try.prog 61 v := by
  obtain ⟨k, h1, h2⟩ := s.struct Try.underlying61
  have c61 : Try.prog.cellsOf 61 = 3 := by kernel_rfl
  have c3 : Try.prog.cellsOf 3 = 1 := by kernel_rfl
  have c9 : Try.prog.cellsOf 9 = 1 := by kernel_rfl
  have c59 : Try.prog.cellsOf 59 = 1 := by kernel_rfl
  rw [c61] at h1
  obtain ⟨a, b, c, rfl⟩ : ∃ a b c, cs = [a, b, c] := by
    match cs, h1 with
    | [a, b, c], _ => exact ⟨a, b, c, rfl⟩
  have q0 := h2 ⟨ "Kind", 3, 0, false, "", "", 0⟩ (by simp)
  have q1 := h2 ⟨ "Word", 9, 1, false, "", "", 8⟩ (by simp)
  have q2 := h2 ⟨ "Kids", 59, 2, false, "", "", 24⟩ (by simp)
  simp only [c3, c9, c59, List.drop_zero, List.drop_succ_cons, List.take_succ_cons, List.take_zero] at q0 q1 q2
  obtain ⟨x, e0, _⟩ := q0.int Try.underlying3
  obtain ⟨t, e1, ht⟩ := q1.str Try.underlying9
  obtain ⟨l, m, e2, _, hl⟩ := q2.slice Try.underlying59
  cases e0; cases e1; cases e2
  exact ⟨x, t, l, m, rfl, by simpa [maxLen] using ht, hl⟩
theorem in_pth_n : ∀ (N : Nat) (x : V) (n : Nat), SizeOf.sizeOf x ≤ N → Sh Try.prog n 61 x.cells → fit Try.prog 61 x → ∃ p : Pth, x = p.v ∧ p.wok := by
  intro N
  induction N with
  | zero =>
    intro x n hN s f
    obtain ⟨cs, rfl⟩ := fit_ag f (isAg_of.2 (.inl ⟨_, Try.underlying61⟩))
    simp at hN
  | succ N ih =>
    intro x n hN s f
    obtain ⟨cs, rfl⟩ := fit_ag f (isAg_of.2 (.inl ⟨_, Try.underlying61⟩))
    rw [cells_agg] at s
    obtain ⟨k, w, l, m, rfl, hw, hl⟩ := in_path3 s
    obtain ⟨ps, hps, hok⟩ := list_pick (g := Pth.v) (Q := Pth.wok) (l := l) (fun v hv => ih v m (by
      have := List.sizeOf_lt_of_mem hv
      simp at hN
      omega) (hl v hv).1 (hl v hv).2)
    subst hps
    exact ⟨.mk k w ps, by rw [pth_v], hw, wokl_of hok⟩
theorem in_pth (x : V) (n : Nat) (s : Sh Try.prog n 61 x.cells) (f : fit Try.prog 61 x) : ∃ p : Pth, x = p.v ∧ p.wok := in_pth_n _ x n (Nat.le_refl _) s f
end Go.Ab
