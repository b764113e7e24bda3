import Derived.Test.YtimidokohhiacaaAbP09L
import Derived.Test.YtimidokohhiacaaAbA09k
/- sinewlaw09: QueryPlaces. -/
namespace Go.Ab
open Go.Proofs Go.RowKit
set_option linter.unusedVariables false
set_option linter.unusedSimpArgs false
set_option maxRecDepth 100000
theorem runL_take : ∀ (s : List UInt8) (j : Nat), runL (s.take j) = (runL s).take j := by
  intro s
  unfold runL
  induction s with
  | nil => intro j; simp
  | cons b s ih =>
    intro j
    cases j with
    | zero => rfl
    | succ j =>
      rw [List.take_succ_cons, List.takeWhile_cons, List.takeWhile_cons]
      split
      · rw [List.take_succ_cons, ih]
      · rfl
theorem lex_cut : ∀ (n i : Nat) (s : List UInt8) (pre : List Sg) (x : Sg) (rest : List Sg), lex n i s = .ok (pre ++ x :: rest) → ∃ k : Nat, x.at_ = ((i + k : Nat) : Int) ∧ k < s.length ∧ lex n i (s.take k) = .ok pre := by
  intro n
  induction n with
  | zero => intro i s pre x rest h; cases h
  | succ n ih =>
    intro i s pre x rest h
    have cons : ∀ {y : Sg} {r : LR}, r.cons y = .ok (pre ++ x :: rest) → (pre = [] ∧ y = x) ∨ ∃ pre', pre = y :: pre' ∧ r = .ok (pre' ++ x :: rest) := by
      intro y r hr
      cases r with
      | bad k => cases hr
      | ok l' =>
        have hr' : y :: l' = pre ++ x :: rest := by simpa [LR.cons] using hr
        cases pre with
        | nil => simp at hr'; exact .inl ⟨rfl, hr'.1⟩
        | cons z pre' => simp at hr'; exact .inr ⟨pre', by rw [hr'.1], by rw [hr'.2]⟩
    have zero : lex (n + 1) i (([] : List UInt8)) = .ok [] := rfl
    cases s with
    | nil => simp [lex] at h
    | cons b s =>
      rw [lex] at h
      split at h
      · rename_i hb
        obtain ⟨k, h1, h2, h3⟩ := ih (i + 1) s pre x rest h
        refine ⟨k + 1, by rw [h1]; congr 1; omega, by simp; omega, ?_⟩
        rw [List.take_succ_cons, lex, if_pos hb]; exact h3
      rename_i hb
      split at h
      · rename_i hp
        split at h
        · cases h
        rename_i hl
        rcases cons h with ⟨rfl, rfl⟩ | ⟨pre', rfl, h'⟩
        · exact ⟨0, by simp, by simp, zero⟩
        · obtain ⟨k, h1, h2, h3⟩ := ih _ _ pre' x rest h'
          have hw := runL_le (b :: s)
          simp only [List.length_drop] at h2
          refine ⟨(runL (b :: s)).length + k, by rw [h1]; congr 1; omega, by omega, ?_⟩
          have hr : runL ((b :: s).take ((runL (b :: s)).length + k)) = runL (b :: s) := by rw [runL_take, List.take_of_length_le (by omega)]
          have hd : ((b :: s).take ((runL (b :: s)).length + k)).drop (runL (b :: s)).length = ((b :: s).drop (runL (b :: s)).length).take k := by rw [List.drop_take, Nat.add_sub_cancel_left]
          obtain ⟨j, hj⟩ : ∃ j, (runL (b :: s)).length + k = j + 1 := ⟨(runL (b :: s)).length + k - 1, by rw [runL_cons hp]; simp; omega⟩
          rw [hj] at hr hd ⊢
          rw [List.take_succ_cons] at hr hd ⊢
          rw [lex, if_neg hb, if_pos hp, hr, if_neg hl, hd, h3]; rfl
      rename_i hp
      split at h
      · rename_i hn
        split at h
        · cases h
        rename_i hl
        rcases cons h with ⟨rfl, rfl⟩ | ⟨pre', rfl, h'⟩
        · exact ⟨0, by simp, by simp, zero⟩
        · obtain ⟨k, h1, h2, h3⟩ := ih _ _ pre' x rest h'
          have hw := runL_le s
          simp only [List.length_drop] at h2
          refine ⟨(runL s).length + k + 1, by rw [h1]; congr 1; omega, by simp; omega, ?_⟩
          have hr : runL (s.take ((runL s).length + k)) = runL s := by rw [runL_take, List.take_of_length_le (by omega)]
          have hd : (s.take ((runL s).length + k)).drop (runL s).length = (s.drop (runL s).length).take k := by rw [List.drop_take, Nat.add_sub_cancel_left]
          rw [List.take_succ_cons, lex, if_neg hb, if_neg hp, hr, if_pos hn, if_neg hl, hd, h3]; rfl
      rename_i hn
      split at h
      · rename_i hm
        rcases cons h with ⟨rfl, rfl⟩ | ⟨pre', rfl, h'⟩
        · exact ⟨0, by simp, by simp, zero⟩
        · obtain ⟨k, h1, h2, h3⟩ := ih _ _ pre' x rest h'
          refine ⟨k + 1, by rw [h1]; congr 1; omega, by simp; omega, ?_⟩
          have hn' : ¬ (b = 63 ∧ runL (s.take k) ≠ []) := by
            rintro ⟨g1, g2⟩
            apply hn
            refine ⟨g1, fun g => g2 ?_⟩
            rw [runL_take, g]; simp
          rw [List.take_succ_cons, lex, if_neg hb, if_neg hp, if_neg hn', if_pos hm, h3]; rfl
      · cases h
theorem whyP_ne (r : Rq) : whyP r ≠ 90 := by
  unfold whyP
  repeat' split
  all_goals decide
/-- What the law says, in plain words. -/
theorem places_pure (s : List UInt8) (he : (parseP s).2.2 = 90) : ∃ at' : Nat, (parseP s).2.1 = (at' : Int) ∧ at' ≤ s.length ∧ (((parseP (s.take at')).2.2 = 0 ∧ at' < s.length) ∨ ((parseP (s.take at')).2.2 = 90 ∧ (parseP (s.take at')).2.1 = (at' : Int)) ∨ ((parseP (s.take at')).2.2 ≠ 0 ∧ (parseP (s.take at')).2.2 ≠ 90)) := by
  unfold parseP at he
  by_cases h4 : 4096 < s.length
  · rw [if_pos h4] at he; cases he
  rw [if_neg h4] at he
  cases hl : lexA s with
  | bad k => rw [hl] at he; cases he
  | ok l =>
    rw [hl] at he
    simp only at he
    cases hr : pReq (l.length + 1) l with
    | ok r l' =>
      rw [hr] at he
      simp only at he
      split at he
      · cases he
      · exact absurd he (whyP_ne r)
    | bad l' =>
      have hps : parseP s = (rqZ, (nowS l' (s.length : Nat)).at_, 90) := by
        unfold parseP; rw [if_neg h4, hl]; simp only [hr]
      rw [hps]
      have hsuf := pReq_suf (l.length + 1) l
      rw [hr] at hsuf
      cases l' with
      | nil =>
        refine ⟨s.length, rfl, Nat.le_refl _, .inr (.inl ?_)⟩
        rw [List.take_length, hps]
        exact ⟨rfl, rfl⟩
      | cons x rest =>
        obtain ⟨pre, hpre⟩ := hsuf
        subst hpre
        obtain ⟨k, h1, h2, h3⟩ := lex_cut _ 0 s pre x rest hl
        refine ⟨k, by rw [show (nowS (x :: rest) (s.length : Nat)).at_ = x.at_ from rfl, h1]; simp, by omega, ?_⟩
        have hlex : lexA (s.take k) = .ok pre := by
          unfold lexA
          rw [← lex_mono ((s.take k).length + 1) (s.length + 1) 0 (s.take k) (by omega) (by have := List.length_take_le k s; omega)]
          exact h3
        have hlen : (s.take k).length = k := by simp; omega
        rcases pReq_px x rest _ (pre.length + 1) pre (by simp) (by omega) hr with g | ⟨r, g⟩
        · right; left
          unfold parseP
          rw [if_neg (by omega), hlex]
          simp only [g, ne_eq, true_and]
          show ((s.take k).length : Int) = k
          rw [hlen]
        · by_cases hw : whyP r = 0
          · left
            refine ⟨?_, h2⟩
            unfold parseP
            rw [if_neg (by omega), hlex]
            simp only [g, if_pos hw]
          · right; right
            unfold parseP
            rw [if_neg (by omega), hlex]
            simp only [g, if_neg hw]
            exact ⟨hw, whyP_ne r⟩
theorem places_law (s : List UInt8) (hs : s.length ≤ 9223372036854775807) (st : St) : ∃ st', s7 [.str s] st = some (.ret (.bool true), st') := by
  rw [s7_eq]
  unfold f7
  simp only [er1_str, parse_s, ret_ret, parseV, ext_0, ext_1, ext_2]
  have bx : ∀ (st : St) (K : V → St → Res), A.box (.agg [(.int .i64 0), (.lst [] 1), (.lst [] 1), (.lst [] 1)]) st K = K (.ptr st.n 0) (st.new (.cells (rqCt rq0 1 1 1))) := fun st K => rfl
  rw [bx, show A.store 4 (.ptr st.n 0) (rqV (parseP s).1) (st.new (.cells (rqCt rq0 1 1 1))) = _ from funext fun K => sv_all 4 (rqC _) (new_at _ _) rfl rfl rfl K]
  generalize (st.new (.cells (rqCt rq0 1 1 1))).put st.n (.cells (rqC (parseP s).1)) = s2
  unfold g7b11
  simp only [eql_int, if_true]
  by_cases he : (parseP s).2.2 = 90
  case neg =>
    rw [show ((parseP s).2.2 != 90) = true from bne_iff_ne.2 he, guard_tf, s13_val, ret_ret, er1_bool]
    exact ⟨_, rfl⟩
  rw [show ((parseP s).2.2 != 90) = false from by rw [he]; rfl, guard_ff]
  simp only [lenS_str, bin_gtr]
  by_cases h4 : 4096 < s.length
  · exfalso
    unfold parseP at he
    rw [if_pos h4] at he; cases he
  simp only [show ¬ ((4096 : Int) < (s.length : Int)) from by omega, decide_false, cond_false]
  obtain ⟨k, k1, k2, k3⟩ := places_pure s he
  rw [k1]
  unfold g7b111
  simp only [bin_lss, show ¬ ((k : Int) < 0) from by omega, decide_false, guard_ff, lenS_str, bin_gtr, show ¬ ((s.length : Int) < (k : Int)) from by omega, cond_false]
  unfold g7b1111
  have sl : ∀ K, A.sliceS (.str s) none (some (.int .i64 (k : Nat))) K = K (.str (s.take k)) := fun K => by simp [A.sliceS, bnd, k2]
  rw [sl]
  simp only [er1_str, parse_s, ret_ret, parseV, ext_0, ext_1, ext_2]
  rw [bx, show A.store 4 (.ptr s2.n 0) (rqV (parseP (s.take k)).1) (s2.new (.cells (rqCt rq0 1 1 1))) = _ from funext fun K => sv_all 4 (rqC _) (new_at _ _) rfl rfl rfl K]
  generalize (s2.new (.cells (rqCt rq0 1 1 1))).put s2.n (.cells (rqC (parseP (s.take k)).1)) = s3
  unfold g7b11111 g7b1111101
  rcases k3 with ⟨a1, a2⟩ | ⟨a1, a2⟩ | ⟨a1, a2⟩
  · rw [a1]
    simp only [eql_int, Bool.false_eq_true, if_false, beq_self_eq_true, guard_tf, cond_true, guard_tt, lenS_str, bin_lss, show ((k : Int) < (s.length : Int)) from by omega, decide_true, s13_val, ret_ret, er1_bool]
    exact ⟨_, rfl⟩
  · rw [a1, a2]
    simp only [eql_int, Bool.false_eq_true, if_false, if_true]
    rw [show ((90 : Int) == 0) = false from rfl, guard_ff, show ((90 : Int) == 90) = true from rfl]
    simp only [guardT_b, guard_tt, eql_int, if_true, bne_self_eq_false, cond_false, s13_val, ret_ret, er1_bool]
    exact ⟨_, rfl⟩
  · simp only [eql_int, Bool.false_eq_true, if_false, if_true]
    rw [show ((parseP (s.take k)).2.2 == 0) = false from beq_eq_false_iff_ne.2 a1, guard_ff, show ((parseP (s.take k)).2.2 == 90) = false from beq_eq_false_iff_ne.2 a2]
    simp only [guardT_b, guard_ft, cond_false, s13_val, ret_ret, er1_bool]
    exact ⟨_, rfl⟩
theorem queryPlaces_row {W : World} {v0 : Value} {x0 : V} {n0 : Nat}
    (r0 : Rs (E0 W) [x0] [v0]) (s0 : Sh Try.prog n0 9 x0.cells) (f0 : fit Try.prog 9 x0) :
    Calls Try.prog 7 #[v0] W fun e w' => e = .returned (.bool true) ∧ Below W.heap.size W w' := by
  obtain ⟨a, rfl, ha⟩ := in_str s0 f0 Try.underlying9
  obtain ⟨st', hs⟩ := places_law a (by simpa [maxLen] using ha) St0
  exact bool_row sim7 W _ _ _ hs r0
end Go.Ab
