import Derived.Test.YtimidokohhiacaaAbP09Q
import Derived.Test.YtimidokohhiacaaAbA09o
/- sinewlaw09: QueryParses. -/
namespace Go.Ab
open Go.Proofs Go.RowKit
set_option linter.unusedVariables false
set_option linter.unusedSimpArgs false
set_option maxRecDepth 100000
theorem parseP_ok (s : List UInt8) : okS (parseP s).1 := by
  have hz : okS rqZ := ⟨by decide, by decide, by decide, fun a ha => by cases ha⟩
  unfold parseP
  split
  · exact hz
  rename_i h4
  cases hl : lexA s with
  | bad k => exact hz
  | ok l =>
    have hll := lex_len hl
    simp only
    cases hr : pReq (l.length + 1) l with
    | bad l' => exact hz
    | ok r l' =>
      simp only
      split
      · obtain ⟨z1, z2, z3, z4⟩ := pReq_small (l.length + 1) hr
        exact ⟨by simp only; omega, by simp only; omega, by simp only; omega, fun a ha => by obtain ⟨y1, y2, y3⟩ := z4 a ha; exact ⟨by omega, by omega⟩⟩
      · exact hz
theorem parses_law (s : List UInt8) (hs : s.length ≤ 9223372036854775807) (st : St) : ∃ st', s3 [.str s] st = some (.ret (.bool true), st') := by
  rw [s3_eq]
  unfold f3
  have bx : ∀ (st : St) (K : V → St → Res), A.box (.agg [(.int .i64 0), (.lst [] 1), (.lst [] 1), (.lst [] 1)]) st K = K (.ptr st.n 0) (st.new (.cells (rqCt rq0 1 1 1))) := fun st K => rfl
  simp only [lenS_str, bin_gtr]
  by_cases h4 : 4096 < s.length
  · have hp : parseP s = (rqZ, 0, 1) := by unfold parseP; rw [if_pos h4]
    rw [decide_eq_true (show ((4096 : Int) < (s.length : Int)) by omega), cond_true]
    simp only [er1_str, parse_s, ret_ret, parseV, ext_0, ext_1, ext_2]
    rw [bx, show A.store 4 (.ptr st.n 0) (rqV (parseP s).1) (st.new (.cells (rqCt rq0 1 1 1))) = _ from funext fun K => sv_all 4 (rqC _) (new_at _ _) rfl rfl rfl K]
    dsimp only
    unfold g3b10101
    rw [hp]
    simp only [eql_int, Bool.false_eq_true, if_false, beq_self_eq_true, guard_tt, s13_val, ret_ret, er1_bool]
    exact ⟨_, rfl⟩
  · rw [decide_eq_false (show ¬ ((4096 : Int) < (s.length : Int)) by omega), cond_false]
    unfold g3b11
    simp only [er1_str, parse_s, rparse_s, ret_ret, parseV, ext_0, ext_1, ext_2]
    rw [bx, show A.store 4 (.ptr st.n 0) (rqV (parseP s).1) (st.new (.cells (rqCt rq0 1 1 1))) = _ from funext fun K => sv_all 4 (rqC _) (new_at _ _) rfl rfl rfl K]
    have o1 := put_at (st.new (.cells (rqCt rq0 1 1 1))) st.n (.cells (rqC (parseP s).1))
    have n1 : ((st.new (.cells (rqCt rq0 1 1 1))).put st.n (.cells (rqC (parseP s).1))).n = st.n + 1 := by simp
    dsimp only
    generalize (st.new (.cells (rqCt rq0 1 1 1))).put st.n (.cells (rqC (parseP s).1)) = s1 at o1 n1 ⊢
    rw [bx, show A.store 4 (.ptr s1.n 0) (rqV (parseP s).1) (s1.new (.cells (rqCt rq0 1 1 1))) = _ from funext fun K => sv_all 4 (rqC _) (new_at _ _) rfl rfl rfl K]
    have o2 := put_at (s1.new (.cells (rqCt rq0 1 1 1))) s1.n (.cells (rqC (parseP s).1))
    have o12 : ((s1.new (.cells (rqCt rq0 1 1 1))).put s1.n (.cells (rqC (parseP s).1))).ob st.n = some (.cells (rqC (parseP s).1)) := by rw [put_ne _ _ (by omega), new_ne _ _ (by omega)]; exact o1
    dsimp only
    generalize (s1.new (.cells (rqCt rq0 1 1 1))).put s1.n (.cells (rqC (parseP s).1)) = s2 at o2 o12 ⊢
    unfold g3b1111 g3b11110_9
    have ld : ∀ {x : Nat} (K : V → St → Res), s2.ob x = some (.cells (rqC (parseP s).1)) → A.load true 4 (.ptr x 0) s2 K = K (rqV (parseP s).1) s2 := fun {x} K ho => by rw [load_obA, ho]; rfl
    have hsame : sameR (parseP s).1 (parseP s).1 = true := (sameR_iff _ _).2 rfl
    simp only [ld _ o12, ld _ o2, show (rqV (parseP s).1).er1 = rqV (parseP s).1 from rfl, same_s (parseP_ok s), hsame, ret_ret, eql_int, Bool.false_eq_true, if_false, beq_self_eq_true, guard_tt, s13_val, er1_bool]
    exact ⟨_, rfl⟩
theorem queryParses_row {W : World} {v0 : Value} {x0 : V} {n0 : Nat}
    (r0 : Rs (E0 W) [x0] [v0]) (s0 : Sh Try.prog n0 9 x0.cells) (f0 : fit Try.prog 9 x0) :
    Calls Try.prog 3 #[v0] W fun e w' => e = .returned (.bool true) ∧ Below W.heap.size W w' := by
  obtain ⟨a, rfl, ha⟩ := in_str s0 f0 Try.underlying9
  obtain ⟨st', hs⟩ := parses_law a (by simpa [maxLen] using ha) St0
  exact bool_row sim3 W _ _ _ hs r0
end Go.Ab
