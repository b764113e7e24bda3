import Derived.Test.YtimidokohhiacaaAbP09B
import Derived.Test.YtimidokohhiacaaAbN10q
import Derived.Test.YtimidokohhiacaaAbA09o
/- sinewlaw09: QueryBack, QueryApart. -/
namespace Go.Ab
open Go.Proofs Go.RowKit
set_option linter.unusedVariables false
set_option linter.unusedSimpArgs false
set_option maxRecDepth 100000
theorem ld_rq {st : St} {i : Nat} {r : Rq} (h : st.ob i = some (.cells (rqC r))) (K : V → St → Res) : A.load true 4 (.ptr i 0) st K = K (rqV r) st := by rw [load_obA, h]; rfl
theorem awake_s (st : St) : (A.ret (s13 [] st) fun a3 z4 => some (.ret a3.er1, z4)) = some (.ret (.bool true), st) := by rw [s13_val, ret_ret]; rfl
theorem apart_law (a b : Rq) (st : St) : ∃ st', s11 [rqV a, rqV b] st = some (.ret (.bool true), st') := by
  rw [s11_eq]
  unfold f11
  rw [box_rq, box_rq]
  have o2 := new_at (st.new (.cells (rqC a))) (.cells (rqC b))
  have o1 : ((st.new (.cells (rqC a))).new (.cells (rqC b))).ob st.n = some (.cells (rqC a)) := by rw [new_ne _ _ (by simp)]; exact new_at _ _
  generalize (st.new (.cells (rqC a))).new (.cells (rqC b)) = s1 at o1 o2 ⊢
  rw [ld_rq o1, er_rq, flat_s, ret_ret, un_not]
  cases hf : flatP a with
  | false => rw [Bool.not_false, guard_tf, awake_s]; exact ⟨s1, rfl⟩
  | true =>
    rw [Bool.not_true, guard_ff, ld_rq o2, er_rq, flat_s, ret_ret, un_not]
    cases hg : flatP b with
    | false => rw [Bool.not_false, cond_true, awake_s]; exact ⟨s1, rfl⟩
    | true =>
      obtain ⟨hPa, hSa⟩ := flat_ok hf
      obtain ⟨hPb, hSb⟩ := flat_ok hg
      rw [Bool.not_true, cond_false]
      unfold g11b11
      rw [ld_rq o1, er_rq, print_s hPa, ret_ret, ext_0, ext_1, ld_rq o2, er_rq, print_s hPb, ret_ret, ext_0, ext_1]
      unfold g11b1111
      rw [eql_int, if_pos rfl]
      cases ha : okAll a with
      | false =>
        simp only [Bool.false_eq_true, if_false]
        rw [show ((1 : Int) != 0) = true from rfl, guard_tf, awake_s]; exact ⟨s1, rfl⟩
      | true =>
        simp only [if_true]
        rw [show ((0 : Int) != 0) = false from rfl, guard_ff, eql_int, if_pos rfl]
        cases hb : okAll b with
        | false =>
          simp only [Bool.false_eq_true, if_false]
          rw [show ((1 : Int) != 0) = true from rfl, cond_true, awake_s]; exact ⟨s1, rfl⟩
        | true =>
          simp only [if_true]
          rw [show ((0 : Int) != 0) = false from rfl, cond_false]
          unfold g11b11111
          rw [eql_str, if_neg Bool.false_ne_true, ld_rq o1, ld_rq o2, er_rq, er_rq, same_s hSa, ret_ret, eql_bool, if_neg Bool.false_ne_true]
          have e : (reqT a == reqT b) = sameR a b := by
            cases h : sameR a b with
            | true => rw [(sameR_iff a b).1 h]; simp
            | false =>
              rw [beq_eq_false_iff_ne]
              intro g
              have := (sameR_iff a b).2 (text_inj (ok_well ha).1 (ok_well hb).1 g)
              rw [h] at this; cases this
          rw [e, beq_self_eq_true, guard_tt, awake_s]
          exact ⟨s1, rfl⟩
theorem queryApart_row {W : World} {v0 v1 : Value} {x0 x1 : V} {n0 n1 : Nat}
    (r0 : Rs (E0 W) [x0] [v0]) (s0 : Sh Try.prog n0 28 x0.cells) (f0 : fit Try.prog 28 x0)
    (r1 : Rs (E0 W) [x1] [v1]) (s1 : Sh Try.prog n1 28 x1.cells) (f1 : fit Try.prog 28 x1) :
    Calls Try.prog 11 #[v0, v1] W fun e w' => e = .returned (.bool true) ∧ Below W.heap.size W w' := by
  obtain ⟨a, rfl, _⟩ := in_request s0 f0
  obtain ⟨b, rfl, _⟩ := in_request s1 f1
  obtain ⟨st', hs⟩ := apart_law a b St0
  exact bool_row sim11 W _ _ _ hs (Rs.cons r0 r1)
end Go.Ab
