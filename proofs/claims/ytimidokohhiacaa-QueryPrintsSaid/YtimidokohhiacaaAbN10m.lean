import Derived.Test.YtimidokohhiacaaAbP09C
import Derived.Test.YtimidokohhiacaaAbRun3
/- sinewlaw09: QueryPrints. -/
namespace Go.Ab
open Go.Proofs Go.RowKit
set_option linter.unusedVariables false
set_option linter.unusedSimpArgs false
set_option maxRecDepth 100000
theorem prints_law (r : Rq) (hw : rqWok r) (st : St) : ∃ st', s4 [rqV r] st = some (.ret (.bool true), st') := by
  rw [s4_eq]
  unfold f4
  rw [box_rq]
  have o1 := new_at st (.cells (rqC r))
  generalize st.new (.cells (rqC r)) = s1 at o1 ⊢
  have ld : ∀ K : V → St → Res, A.load true 4 (.ptr st.n 0) s1 K = K (rqV r) s1 := fun K => by rw [load_obA, o1]; rfl
  have aw : (A.ret (s13 [] s1) fun a3 z4 => some (.ret a3.er1, z4)) = some (.ret (.bool true), s1) := by rw [s13_val, ret_ret]; rfl
  rw [ld, er_rq, flat_s, ret_ret, un_not]
  cases hf : flatP r with
  | false => rw [Bool.not_false, cond_true, aw]; exact ⟨s1, rfl⟩
  | true =>
    obtain ⟨hP, hS⟩ := flat_ok hf
    rw [Bool.not_true, cond_false, ld, er_rq, print_s hP, ret_ret, ext_0, ext_1]
    unfold g4b111
    rw [ld, er_rq, rprint_s hP hw, ret_ret, ext_0, ext_1, eql_str, if_neg Bool.false_ne_true, beq_self_eq_true, guard_tt, eql_int, if_neg Bool.false_ne_true, beq_self_eq_true]
    unfold g4b11110_9
    rw [guard_tt, ld, er_rq, check_s hP.1, ret_ret, eql_int, if_neg Bool.false_ne_true, beq_self_eq_true]
    unfold g4b11110_15
    rw [guard_tt, aw]
    exact ⟨s1, rfl⟩
theorem queryPrints_row {W : World} {v0 : Value} {x0 : V} {n0 : Nat}
    (r0 : Rs (E0 W) [x0] [v0]) (s0 : Sh Try.prog n0 28 x0.cells) (f0 : fit Try.prog 28 x0) :
    Calls Try.prog 4 #[v0] W fun e w' => e = .returned (.bool true) ∧ Below W.heap.size W w' := by
  obtain ⟨r, rfl, hw⟩ := in_request s0 f0
  obtain ⟨st', hs⟩ := prints_law r hw St0
  exact bool_row sim4 W _ _ _ hs r0
end Go.Ab
