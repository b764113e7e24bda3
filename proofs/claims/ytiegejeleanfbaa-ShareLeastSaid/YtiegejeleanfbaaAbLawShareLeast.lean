import Derived.Test.YtiegejeleanfbaaAbLawShares
import Derived.Test.YtiegejeleanfbaaAbIn2
/- sinewlaw13.ShareLeast: no other shares have less load. -/
namespace Go.Ab
open Go.Proofs Go.RowKit Sh13
set_option linter.unusedVariables false
set_option linter.unusedSimpArgs false
theorem intsV_set (xs : List Int) (i : Nat) (x : Int) : (intsV xs).set i (.int .i64 x) = intsV (xs.set i x) := by simp [intsV, List.map_set]
section
variable {a b : Int} {atoms : List (List Int)} {sizes : List Int} {t u p v : Nat} {l : List Int}
/-- What is known: the best shares. -/
structure Best (a : Int) (v : Nat) (atoms : List (List Int)) (sizes : List Int) (l : List Int) : Prop where
  ask : askB a v atoms sizes = true
  short : ∀ a ∈ atoms, a.length ≤ 9223372036854775806
  mem : l ∈ allT v a
  le : ∀ x ∈ allT v a, Sh13.load l atoms sizes ≤ Sh13.load x atoms sizes
theorem least_end (B : Best a v atoms sizes l) (L1 : V → V → V → V → V → V → St → Res) (L : V → V → V → V → V → V → V → St → Res) (i k : Nat) (hk : k < l.length) {m : List Int} (hm : m.length = l.length) (hm1 : ∀ x ∈ m, 1 ≤ x) (z : St) (q : Nat) (hp : z.ob p = some (.cells [.int .i64 a, .int .i64 b])) (hq : z.ob q = some (.cells (intsV m))) :
    g4b1111111101001001001001111 L1 L (.lst (intssV atoms) t) (.lst (intsV sizes) u) (.ptr p 0) (.lst (intsV l) 0) (.int .i64 (Sh13.load l atoms sizes)) (.int .i64 (i : Nat)) (.int .i64 (k : Nat)) (.sl q 0 l.length 1) z =
      L (.lst (intssV atoms) t) (.lst (intsV sizes) u) (.ptr p 0) (.lst (intsV l) 0) (.int .i64 (Sh13.load l atoms sizes)) (.int .i64 (i : Nat)) (.int .i64 ((k + 1 : Nat) : Int)) z := by
  have hr := ask_range B.ask
  have hv := ((allT_mem v a l hr.1).1 B.mem).1
  have I := intsAt_sl (xs := m) hq
  rw [hm] at I
  have hc := cells_v I (by omega)
  unfold g4b1111111101001001001001111 g4b111111110100100100100111110_9
  simp only [er1_sl, hc, ret_ret]
  cases hb : mayB m with
  | false => simp [bin_inc (show k < 9223372036854775807 by omega)]
  | true =>
    by_cases hle : pr m ≤ a
    · have hmem : m ∈ allT v a := (allT_mem v a m hr.1).2 ⟨by omega, hm1, hle⟩
      have hl := rload_v (ask_of B.ask B.short hmem) I u t
      have hno : ¬ (Sh13.load m atoms sizes < Sh13.load l atoms sizes) := by have := B.le m hmem; omega
      simp [hp, hle, hl, hno, bin_inc (show k < 9223372036854775807 by omega)]
    · simp [hp, hle, bin_inc (show k < 9223372036854775807 by omega)]
theorem least_in (B : Best a v atoms sizes l) (L1 : V → V → V → V → V → V → St → Res) (i : Nat) (hi : i < l.length) : ∀ (n k : Nat) (st : St), k ≤ l.length → l.length < n + k → st.ob p = some (.cells [.int .i64 a, .int .i64 b]) → p < st.n →
    ∃ st', g4b11111111010010010 L1 n (.lst (intssV atoms) t) (.lst (intsV sizes) u) (.ptr p 0) (.lst (intsV l) 0) (.int .i64 (Sh13.load l atoms sizes)) (.int .i64 (i : Nat)) (.int .i64 (k : Nat)) st =
      L1 (.lst (intssV atoms) t) (.lst (intsV sizes) u) (.ptr p 0) (.lst (intsV l) 0) (.int .i64 (Sh13.load l atoms sizes)) (.int .i64 ((i + 1 : Nat) : Int)) st' ∧ st'.ob p = some (.cells [.int .i64 a, .int .i64 b]) ∧ p < st'.n := by
  have hr := ask_range B.ask
  have hq := (allT_mem v a l hr.1).1 B.mem
  intro n
  induction n with
  | zero => intro k st hk hn; omega
  | succ n ih =>
    intro k st hk hn hp hpn
    unfold g4b11111111010010010
    by_cases h : k < l.length
    · have hub : ∀ x ∈ l, x ≤ 64 := by
        intro x hx
        obtain ⟨c, d, rfl⟩ := List.append_of_mem hx
        have hpr := hq.2.2
        rw [pr_app] at hpr; simp only [pr] at hpr
        have h1 := pr_pos (l := c) fun y hy => hq.2.1 y (by simp [hy])
        have h2 := pr_pos (l := d) fun y hy => hq.2.1 y (by simp [hy])
        have h3 := mul_ge (hq.2.1 x hx) h2
        have h4 := mul_ge h1 (show 1 ≤ x * pr d by omega)
        omega
      have hxi := hub _ (List.getElem_mem hi)
      have hx1 := hq.2.1 _ (List.getElem_mem hi)
      have hne : intsV l ≠ [] := by intro e; have := congrArg List.length e; simp at this; simp [this] at h
      have e1 : ∀ K, A.appM 1 (.lst [] 1) (some (intsV l)) st K = K (.sl st.n 0 l.length 1) (st.new (.cells (intsV l))) := fun K => by
        have hlen : l.length ≤ 1073741824 := by omega
        simp [A.appM, hne, hlen, flat_ints, flat]
        rw [show List.flatMap V.cells (intsV l) = intsV l from flat_ints l]
      have ia : ∀ (j : Nat) (hj : j < l.length) (K : V → Res), A.iaddr 1 (.sl st.n 0 l.length 1) (.int .i64 (j : Nat)) K = K (.ptr st.n j) := fun j hj K => by
        rw [iaddr_sl K hj]; congr 2; omega
      have eput : ∀ (s0 : St) (x y : Ob), (s0.new x).put s0.n y = s0.new y := by
        intro s0 x y; unfold St.put St.new; congr 1; funext j; by_cases h : j = s0.n <;> simp [h]
      have gi : (intsV l)[i]? = some (.int .i64 l[i]) := by rw [List.getElem?_eq_getElem (by simpa using hi)]; simp
      have fin : ∀ (m : List Int), m.length = l.length → (∀ x ∈ m, 1 ≤ x) → ∃ st', g4b1111111101001001001001111 L1 (g4b11111111010010010 L1 n) (.lst (intssV atoms) t) (.lst (intsV sizes) u) (.ptr p 0) (.lst (intsV l) 0) (.int .i64 (Sh13.load l atoms sizes)) (.int .i64 (i : Nat)) (.int .i64 (k : Nat)) (.sl st.n 0 l.length 1) (st.new (.cells (intsV m))) =
          L1 (.lst (intssV atoms) t) (.lst (intsV sizes) u) (.ptr p 0) (.lst (intsV l) 0) (.int .i64 (Sh13.load l atoms sizes)) (.int .i64 ((i + 1 : Nat) : Int)) st' ∧ st'.ob p = some (.cells [.int .i64 a, .int .i64 b]) ∧ p < st'.n := by
        intro m hm hm1
        have hp2 : (st.new (.cells (intsV m))).ob p = some (.cells [.int .i64 a, .int .i64 b]) := by rw [new_ne _ _ (by omega)]; exact hp
        obtain ⟨st', q1, q2, q3⟩ := ih (k + 1) (st.new (.cells (intsV m))) (by omega) (by omega) hp2 (by simp; omega)
        exact ⟨st', (least_end B L1 _ i k h hm hm1 _ st.n hp2 (new_at _ _)).trans q1, q2, q3⟩
      have m1 : ∀ x ∈ l.set i (l[i] + 1), 1 ≤ x := by
        intro x hx
        rcases List.mem_or_eq_of_mem_set hx with g | g
        · exact hq.2.1 x g
        · omega
      simp only [lenL_lst, intsV_len, bin_lss, show ((k : Int) < (l.length : Int)) from by omega, decide_true, cond_true, elemsOf_ints, e1, ia i hi, load_ob, new_at, obo_some, gi, ob_some', bin_add _ (show -9223372036854775808 ≤ l[i] + 1 by omega) (show l[i] + 1 ≤ 9223372036854775807 by omega), store_int, hi, if_true, intsV_set, eput, g4b111111110100100100100111, eql_int, g4b11111111010010010010011101]
      by_cases hki : k = i
      · subst hki
        simp only [bne_self_eq_false, guard_ft, cond_false]
        exact fin _ (by simp) m1
      · have hb : (((k : Nat) : Int) != (i : Nat)) = true := by simp; omega
        have hk2 : k < (l.set i (l[i] + 1)).length := by simpa using h
        have ek : (l.set i (l[i] + 1))[k] = l[k] := by rw [List.getElem_set_ne]; omega
        have gk : (intsV (l.set i (l[i] + 1)))[k]? = some (.int .i64 l[k]) := by rw [List.getElem?_eq_getElem (by simpa using h)]; simp [ek]
        have hxk := hub _ (List.getElem_mem h)
        simp only [hb, guard_tt, ia k h, load_ob, new_at, obo_some, gk, ob_some', bin_gtr]
        by_cases hg : 1 < l[k]
        · simp only [hg, decide_true, cond_true, ia k h, load_ob, new_at, obo_some, gk, ob_some', intsV_len, bin_sub _ (show -9223372036854775808 ≤ l[k] - 1 by omega) (show l[k] - 1 ≤ 9223372036854775807 by omega), store_int, List.length_set, h, if_true, intsV_set, eput]
          refine fin _ (by simp) ?_
          intro x hx
          rcases List.mem_or_eq_of_mem_set hx with g | g
          · exact m1 x g
          · omega
        · simp only [hg, decide_false, cond_false]
          exact fin _ (by simp) m1
    · have : k = l.length := by omega
      subst this
      refine ⟨st, ?_, hp, hpn⟩
      simp only [lenL_lst, intsV_len, bin_lss, Int.lt_irrefl, decide_false, cond_false, bin_inc (show i < 9223372036854775807 by omega)]
theorem least_out (B : Best a v atoms sizes l) : ∀ (n i : Nat) (st : St), i ≤ l.length → l.length < n + i → st.ob p = some (.cells [.int .i64 a, .int .i64 b]) → p < st.n →
    ∃ st', g4b11111111010 n (.lst (intssV atoms) t) (.lst (intsV sizes) u) (.ptr p 0) (.lst (intsV l) 0) (.int .i64 (Sh13.load l atoms sizes)) (.int .i64 (i : Nat)) st = some (.ret (.bool true), st') := by
  have hr := ask_range B.ask
  have hq := (allT_mem v a l hr.1).1 B.mem
  have hb := big_le
  intro n
  induction n with
  | zero => intro i st hi hn; omega
  | succ n ih =>
    intro i st hi hn hp hpn
    unfold g4b11111111010
    by_cases h : i < l.length
    · obtain ⟨st1, q1, q2, q3⟩ := least_in (t := t) (u := u) B (g4b11111111010 n) i h big 0 st (by omega) (by omega) hp hpn
      obtain ⟨st2, p1⟩ := ih (i + 1) st1 (by omega) (by omega) q2 q3
      refine ⟨st2, ?_⟩
      simp only [lenL_lst, intsV_len, bin_lss, show ((i : Int) < (l.length : Int)) from by omega, decide_true, cond_true]
      exact q1.trans p1
    · have : i = l.length := by omega
      subst this
      exact ⟨st, by simp⟩
end
theorem shareLeast_law {st : St} (a b : Int) (atoms : List (List Int)) (sizes : List Int) (t u : Nat) (hl : atoms.length ≤ 9223372036854775807) (hl2 : sizes.length ≤ 9223372036854775807) (hs : ∀ a ∈ atoms, a.length ≤ 9223372036854775807) :
    ∃ st', s4 [.agg [.int .i64 a, .int .i64 b], .lst (intssV atoms) t, .lst (intsV sizes) u] st = some (.ret (.bool true), st') := by
  have hB := big_le
  have hp : (st.new (.cells [.int .i64 a, .int .i64 b])).ob st.n = some (.cells [.int .i64 a, .int .i64 b]) := new_at _ _
  have hpn : st.n < (st.new (.cells [.int .i64 a, .int .i64 b])).n := by simp
  rw [s4_eq]; unfold f4
  rw [box_agg _ _ _ rfl]
  generalize st.new (.cells [.int .i64 a, .int .i64 b]) = z at hp hpn
  generalize st.n = p at hp hpn
  obtain ⟨lb, hlb, hlt⟩ := light_s (st := z) atoms t hl hs
  simp only [er1_lst, hlb, ret_ret, un_not]
  cases lb with
  | false => exact ⟨z, by simp⟩
  | true =>
    obtain ⟨k1, k2⟩ := hlt rfl
    have hs' : ∀ x ∈ atoms, x.length ≤ 9223372036854775806 := fun x hx => by have := k2 x hx; omega
    simp only [Bool.not_true, guard_ff, iaddrA_ptr, Int.le_refl, show (0 : Int) < ((2 : Nat) : Int) from by decide, and_self, if_true, Int.toNat_zero, Nat.zero_mul, Nat.add_zero, load_ob, hp, obo_some, List.getElem?_cons_zero, ob_some', show (0 : Int) ≤ 1 from by decide, show (1 : Int) < ((2 : Nat) : Int) from by decide, Int.toNat_one, Nat.one_mul, Nat.zero_add, List.getElem?_cons_succ, bin_gtr]
    by_cases hb4 : 4 < b
    · exact ⟨z, by simp [hb4]⟩
    · have h1 := shares_s (st := z) a b atoms sizes t u hl hl2 hs'
      simp only [hb4, decide_false, cond_false, g4b11, iaddrA_ptr, Int.le_refl, show (0 : Int) < ((2 : Nat) : Int) from by decide, and_self, if_true, Int.toNat_zero, Nat.zero_mul, Nat.add_zero, load_ob, hp, obo_some, List.getElem?_cons_zero, ob_some', show (0 : Int) ≤ 1 from by decide, show (1 : Int) < ((2 : Nat) : Int) from by decide, Int.toNat_one, Nat.one_mul, Nat.zero_add, List.getElem?_cons_succ, er1_int, er1_lst, h1, ret_ret]
      cases hb : askB a b atoms sizes with
      | false => exact ⟨z, by simp [g4b111]⟩
      | true =>
        have hr := ask_range hb
        obtain ⟨v, rfl⟩ : ∃ v : Nat, b = (v : Nat) := ⟨b.toNat, by omega⟩
        have hmem := bestS_len (w := a) (v := v) hr.1 fun x => Sh13.load x atoms sizes
        have hle := fun x hx => bestS_le (w := a) (v := v) hr.1 (fun x => Sh13.load x atoms sizes) (x := x) hx
        simp only [Int.toNat_natCast]
        generalize (bestS a v fun x => Sh13.load x atoms sizes) = l at hmem hle
        have B : Best a v atoms sizes l := ⟨hb, hs', hmem, hle⟩
        have hq := (allT_mem v a l hr.1).1 hmem
        have hmay : mayB l = true := by
          refine mayB_may.2 ⟨by omega, fun x hx => ⟨hq.2.1 x hx, ?_⟩, by omega⟩
          obtain ⟨c, d, rfl⟩ := List.append_of_mem hx
          have hpr := hq.2.2
          rw [pr_app] at hpr; simp only [pr] at hpr
          have h1 := pr_pos (l := c) fun y hy => hq.2.1 y (by simp [hy])
          have h2 := pr_pos (l := d) fun y hy => hq.2.1 y (by simp [hy])
          have h3 := mul_ge (hq.2.1 x hx) h2
          have h4 := mul_ge h1 (show 1 ≤ x * pr d by omega)
          omega
        have r1 := rmay_s (st := z) l 0 (by omega)
        have r2 := cells_s (st := z) l 0 (by omega)
        have r3 := rload_s (st := z) (ask_of hb hs' hmem) 0 u t
        rw [hmay] at r1 r2
        obtain ⟨st', q⟩ := least_out (t := t) (u := u) B big 0 z (by omega) (by omega) hp hpn
        refine ⟨st', ?_⟩
        have hne : (((l.length : Nat) : Int) != (v : Nat)) = false := by rw [hq.1]; simp
        have hnl : ¬ (a < pr l) := by omega
        simp [g4b111, g4b1111, hp, hne, r1, g4b11111, r2, hnl, g4b1111111, r3]
        exact q
theorem shareLeast_row {W : World} {v0 v1 v2 : Value} {x0 x1 x2 : V} {n0 n1 n2 : Nat}
    (r0 : Rs (E0 W) [x0] [v0]) (s0 : Sh Try.prog n0 22 x0.cells) (f0 : fit Try.prog 22 x0)
    (r1 : Rs (E0 W) [x1] [v1]) (s1 : Sh Try.prog n1 23 x1.cells) (f1 : fit Try.prog 23 x1)
    (r2 : Rs (E0 W) [x2] [v2]) (s2 : Sh Try.prog n2 24 x2.cells) (f2 : fit Try.prog 24 x2) :
    Calls Try.prog 4 #[v0, v1, v2] W fun e w' => e = .returned (.bool true) ∧ Below W.heap.size W w' := by
  obtain ⟨a, b, rfl, _, _⟩ := in_arr2 s0 f0 Try.underlying22 Try.underlying3 (by kernel_rfl)
  obtain ⟨xs, rfl, h1, h2⟩ := in_intss s1 f1 Try.underlying23 Try.underlying24 Try.underlying3
  obtain ⟨ys, rfl, h3, _⟩ := in_ints s2 f2 Try.underlying24 Try.underlying3
  obtain ⟨st', hs⟩ := shareLeast_law (st := St0) a b xs ys 0 0 h1 h3 h2
  exact bool_row sim4 W _ _ _ hs (Rs.cons r0 (Rs.cons r1 r2))
end Go.Ab
