import Derived.Test.YtimicmlpaaohoaaAbL15h
/- sinewlaw15.LinkWindow, the law. -/
namespace Go.Ab
open Go.Proofs Go.RowKit Go.Oct
set_option linter.unusedVariables false
set_option linter.unusedSimpArgs false
set_option maxRecDepth 100000
/-- An end that has put so many, and knows nobody. -/
def uA (n : Nat) : Lk := ⟨1, 0, 1, 1, paysQ 5 n⟩
theorem uA_ok (n : Nat) (hn : n ≤ 1000) : LkOK (uA n) := ⟨by simp [uA], by simp [uA], by simp [uA], by simp [uA], by simp [uA], by simp [uA, paysQ_len]; omega⟩
theorem win_first (n : Nat) (hn : n ≤ 199) (ia ib ta tb : Nat) (st : St) (h : Two st ia ta (uA n) ib tb (newP 1)) :
    ∃ st', g8b1111111 (.ptr ia 0) (.ptr ib 0) (.int .i64 (n : Nat)) (.int .i64 0) st = some (.ret (.bool true), st') := by
  have hl := paysQ_len 5 n
  unfold g8b1111111
  by_cases h0 : n = 0
  · subst h0
    simp only [bin_gtr, Int.natCast_zero, Int.lt_irrefl, decide_false, cond_false]
    unfold g8b11111111
    -- nothing was put: the ends stay as they are
    have key : ∀ (f r : Nat), r ≤ 8 → 8 < f + r → ∃ st', g8b11111111010 f (.ptr ia 0) (.ptr ib 0) (.int .i64 0) (.int .i64 0) (.int .i64 (r : Nat)) st = some (.ret (.bool true), st') := by
      intro f
      induction f with
      | zero => intro r hr hf; omega
      | succ f ih =>
        intro r hr hf
        unfold g8b11111111010
        have e1 := (uA_ok 0 (by omega)).e1
        have hq : (uA 0).q.length = 0 := rfl
        have ht : tickP (uA 0) = [] := rfl
        by_cases hlt : r < 8
        · have e4 : ∀ K, A.bin .add (.int .i64 (r : Nat)) (.int .i64 1) K = K (.int .i64 ((r + 1 : Nat) : Int)) := fun K => bin_inc (by omega) K
          have em : ∀ K, A.min (.int .i64 64) (.int .i64 0) K = K (.int .i64 0) := fun K => rfl
          have es : ∀ K, A.bin .sub (.int .i64 0) (.int .i64 0) K = K (.int .i64 0) := fun K => rfl
          simp only [bin_lss, show ((r : Int) < 8) from by omega, decide_true, cond_true, er1_ptr, ltick_s h.pa h.oa, ht, ret_ret, lenL_lst, strsV_nil, List.length_nil, Int.natCast_zero, lwaits_s h.pa e1, hq, em, eql_int, if_true, bne_self_eq_false, guard_ff, es, cond_false]
          unfold g8b11111111010010011
          obtain ⟨k, hk⟩ : ∃ k, big = k + 1 := ⟨big - 1, by have := big_le; omega⟩
          rw [hk]
          unfold g8b1111111101001001110
          simp only [lenL_lst, List.length_nil, Int.natCast_zero, bin_lss, Int.lt_irrefl, decide_false, cond_false, e4]
          exact ih (r + 1) (by omega) (by omega)
        · simp only [bin_lss, show ¬ ((r : Int) < 8) from by omega, decide_false, cond_false, eql_int, Bool.false_eq_true, if_false, beq_self_eq_true, guard_tt, er1_ptr, lwaits_s h.pa e1, hq, ret_ret, Int.natCast_zero, s11_val, er1_bool]
          exact ⟨_, rfl⟩
    exact key big 0 (by omega) (by have := big_le; omega)
  · have htl : (tickP (uA n)).length = min n 64 := by
      unfold tickP; rw [List.length_map, List.length_range]; simp [uA, hl]
    have hlt : 0 < (tickP (uA n)).length := by omega
    have hget : (tickP (uA n))[0] = pkt (pk1 (uA n) 0) := by simp [tickP]
    obtain ⟨p1, p2, p3, p4⟩ := pay_ok 5 0 (by omega) (by omega) (by omega)
    have ht := take_full (l := newP 1) (uA_ok n (by omega)) (k := 0) (by simp [uA, hl]; omega) (m := payN 5 0) (by have := paysQ_at 5 n 0 0 (by omega); rw [List.drop_zero] at this; exact this) p2 p3 (by omega) (by simp [newP, uA])
    rw [if_pos (by simp [uA, newP])] at ht
    have hf : freshP (newP 1) (uA n).epoch = wB 0 := by unfold freshP; rw [if_pos (by simp [uA, newP]), if_neg (by simp [newP])]; rfl
    rw [hf, show (decide ((newP 1).other < (uA n).epoch) && decide (0 < (newP 1).other)) = false by simp [newP]] at ht
    obtain ⟨st1, tb1, q1, q2, q3, _⟩ := h.swap.take (pkt (pk1 (uA n) 0)) (by have := pkt_len (pk1 (uA n) 0); omega) (by rw [ht]; exact wB_ok 0 (by omega))
    rw [ht] at q1 q2
    have ia0 : ∀ K, A.iaddr 1 (.lst (strsV (tickP (uA n))) 0) (.int .i64 0) K = K (.lptr [.str (pkt (pk1 (uA n) 0))]) := fun K => by
      rw [← hget]; exact iaddr_strs (i := 0) 0 hlt K
    simp only [bin_gtr, show ((0 : Int) < (n : Int)) from by omega, decide_true, cond_true, er1_ptr, ltick_s h.pa h.oa, ret_ret, ia0, load_l1', er1_str, q1, came_box]
    have kk : Two ((st1.new (.cells (cC [] 1 [] 1 false))).put st1.n (.cells (cC [] 0 [pkt (pk2 (wB 0))] 0 false))) ib tb1 (wB 0) ia ta (uA n) :=
      q2.kp (by simp) (fun i hi => by rw [put_ne _ _ (by omega), new_ne _ _ (by omega)]) rfl rfl
    have oc := put_at (st1.new (.cells (cC [] 1 [] 1 false))) st1.n (.cells (cC [] 0 [pkt (pk2 (wB 0))] 0 false))
    generalize (st1.new (.cells (cC [] 1 [] 1 false))).put st1.n (.cells (cC [] 0 [pkt (pk2 (wB 0))] 0 false)) = st2 at kk oc
    generalize st1.n = c at oc
    obtain ⟨c0, c1, c2⟩ := came_ld oc
    have s0 : ∀ K, A.iaddr 1 (.lst (strsV [pkt (pk2 (wB 0))]) 0) (.int .i64 0) K = K (.lptr [.str (pkt (pk2 (wB 0)))]) := fun K => rfl
    have nl0 : (notesV []).length = 0 := rfl
    have sl1 : (strsV [pkt (pk2 (wB 0))]).length = 1 := rfl
    have hb := take_bare (l := uA n) (wB_ok 0 (by omega)) (by simp [uA, wB])
    rw [if_neg (by simp [uA, wB])] at hb
    have hf2 : freshP (uA n) (wB 0).epoch = wA n 0 := by unfold freshP; rw [if_pos (by simp [uA, wB]), if_neg (by simp [uA])]; rfl
    have hg2 : ackP (wA n 0) (wB 0).want = wA n 0 := by
      have e : min ((wB 0).want - (wA n 0).first) (wA n 0).q.length = 0 := by simp [wA, wB]
      unfold ackP
      rw [e]; rfl
    rw [hf2, hg2, show (decide ((uA n).other < (wB 0).epoch) && decide (0 < (uA n).other)) = false by simp [uA]] at hb
    obtain ⟨st3, ta3, r1, r2, r3, _⟩ := kk.swap.take (pkt (pk2 (wB 0))) (by have := pkt_len (pk2 (wB 0)); omega) (by rw [hb]; exact wA_ok _ _ (by omega) (by omega))
    rw [hb] at r1 r2
    simp only [faddr_ptr, Nat.zero_add, c0, lenL_lst, nl0, Int.natCast_zero, eql_int, if_true, bne_self_eq_false, guard_ff, c1, sl1, show (((1 : Nat) : Int) != 1) = false from rfl, cond_false]
    unfold g8b111111101011
    simp only [faddr_ptr, Nat.zero_add, c1, s0, load_l1', er1_ptr, er1_str, r1, ret_ret]
    unfold g8b11111111
    exact win_rounds n hn ia ib big 0 0 ta3 tb1 st3 (by omega) (by have := big_le; omega) (by omega) (.inl (by omega)) r2
theorem win_puts (n : Nat) (hn : n ≤ 199) (ia ib : Nat) : ∀ (f i ta tb : Nat) (st : St), i ≤ n → n < f + i → Two st ia ta (uA i) ib tb (newP 1) →
    ∃ st', g8b111111010 f (.ptr ia 0) (.ptr ib 0) (.int .i64 (n : Nat)) (.int .i64 0) (.int .i64 (i : Nat)) st = some (.ret (.bool true), st') := by
  intro f
  induction f with
  | zero => intro i ta tb st hi hf; omega
  | succ f ih =>
    intro i ta tb st hi hf h
    unfold g8b111111010
    by_cases hlt : i < n
    · have e4 : ∀ K, A.bin .add (.int .i64 (i : Nat)) (.int .i64 1) K = K (.int .i64 ((i + 1 : Nat) : Int)) := fun K => bin_inc (by omega) K
      obtain ⟨p1, p2, p3, p4⟩ := pay_ok 5 i (by omega) (by omega) (by omega)
      have hl := paysQ_len 5 i
      have hq : (uA i).q.length = i := hl
      have hP := put_pay (l := uA i) p2 (by omega) (by rw [hq]; omega)
      have hu : (⟨(uA i).epoch, (uA i).other, (uA i).first, (uA i).want, (uA i).q ++ [packB (payN 5 i)]⟩ : Lk) = uA (i + 1) := by
        show (⟨1, 0, 1, 1, paysQ 5 i ++ [packB (payN 5 i)]⟩ : Lk) = _
        rw [paysQ_snoc]; rfl
      rw [hu, hq] at hP
      obtain ⟨st1, ta1, q1, q2, q3⟩ := h.put (payN 5 i) p1 (by rw [hP]; exact uA_ok _ (by omega))
      rw [hP] at q1 q2
      have bl : ∀ K, (A.bslice 1 (.int .i64 0) 1 [(0, .int .i64 (i : Nat))] fun a2 => A.build [.int .i64 0, .lst [] 1, .lst [] 1, .lst [] 1] [(0, 1, .int .i64 5), (1, 1, a2)] K) = K (.agg (nC 5 [(i : Int)] 2 [] 1 [] 1)) := pay_built i
      simp only [bin_lss, show ((i : Int) < (n : Int)) from by omega, decide_true, cond_true, bl, er1_ptr, pay_er1, q1, ret_ret, ext_0, ext_1]
      unfold g8b11111101001001
      by_cases h64 : 64 < i + 1
      · have el : (if 64 < i + 1 then ([] : List (List UInt8)) else [pkt (pk1 (uA (i + 1)) i)]) = [] := if_pos h64
        rw [el]
        simp only [eql_int, if_true, Int.natCast_zero, bne_self_eq_false, guard_ff, lenL_lst, strsV_nil, List.length_nil, guardT_b, guard_ft]
        unfold g8b111111010010010_12
        simp only [guard_ff, lenL_lst, List.length_nil, Int.natCast_zero, eql_int, if_true, show ((0 : Int) != 1) = true from rfl, guardT_b, guard_tt, bin_lss, show ¬ ((i : Int) < 64) from by omega, decide_false, cond_false, e4]
        exact ih (i + 1) ta1 tb st1 (by omega) (by omega) q2
      · have el : (if 64 < i + 1 then ([] : List (List UInt8)) else [pkt (pk1 (uA (i + 1)) i)]) = [pkt (pk1 (uA (i + 1)) i)] := if_neg h64
        rw [el]
        have sl1 : (strsV [pkt (pk1 (uA (i + 1)) i)]).length = 1 := rfl
        simp only [eql_int, if_true, Int.natCast_zero, bne_self_eq_false, guard_ff, lenL_lst, sl1, show (((1 : Nat) : Int) != 0) = true from rfl, guardT_b, guard_tt, bin_geq, show ¬ ((64 : Int) ≤ (i : Int)) from by omega, decide_false]
        unfold g8b111111010010010_12
        simp only [guard_ff, lenL_lst, sl1, eql_int, if_true, show (((1 : Nat) : Int) != 1) = false from rfl, guardT_b, guard_ft, e4]
        exact ih (i + 1) ta1 tb st1 (by omega) (by omega) q2
    · have : i = n := by omega
      subst this
      simp only [bin_lss, Int.lt_irrefl, decide_false, cond_false]
      exact win_first i hn ia ib ta tb st h
theorem linkWindow_law (many : Int) (st : St) : ∃ st', s8 [.int .i64 many] st = some (.ret (.bool true), st') := by
  rw [s8_eq]
  unfold f8
  rw [show (V.int .i64 1).er1 = .int .i64 ((1 : Nat) : Int) from rfl]
  simp only [lnew_s 1 (by omega) (by omega), ret_ret, ext_0, ext_1, new_n]
  unfold g8b111
  simp only [eql_int, if_true, bne_self_eq_false, guard_ff, eql_ptr, cond_false]
  unfold g8b1111
  have hm := Nat.mod_lt (low 65536 many) (show 0 < 200 by omega)
  have er : ∀ K, A.bin .rem (.int .i64 (low 65536 many : Nat)) (.int .i64 200) K = K (.int .i64 ((low 65536 many % 200 : Nat) : Int)) := fun K => bin_remN _ 200 K (by omega)
  simp only [bin_and65535, er]
  have hT : Two ((st.new (.cells (lkC (newP 1) 1))).new (.cells (lkC (newP 1) 1))) st.n 1 (newP 1) (st.n + 1) 1 (newP 1) := by
    refine ⟨⟨by simp [new_ob], by simp; omega, .inl rfl⟩, ⟨by simp [new_ob], by simp, .inl rfl⟩, newP_ok (by omega) (by omega), newP_ok (by omega) (by omega), by omega, .inl (by omega)⟩
  exact win_puts (low 65536 many % 200) (by omega) st.n (st.n + 1) big 0 1 1 _ (by omega) (lt_big (by omega)) hT
theorem linkWindow_row {W : World} {v0 : Value} {x0 : V} {n0 : Nat}
    (r0 : Rs (E0 W) [x0] [v0]) (s0 : Sh Try.prog n0 3 x0.cells) (f0 : fit Try.prog 3 x0) :
    Calls Try.prog 8 #[v0] W fun e w' => e = .returned (.bool true) ∧ Below W.heap.size W w' := by
  obtain ⟨k, rfl, _⟩ := in_int s0 f0 Try.underlying3
  obtain ⟨st', hs⟩ := linkWindow_law k St0
  exact bool_row sim8 W _ _ _ hs r0
end Go.Ab
