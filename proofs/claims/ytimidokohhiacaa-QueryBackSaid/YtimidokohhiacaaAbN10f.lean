import Derived.Test.YtimidokohhiacaaAbP09B
import Derived.Test.YtimidokohhiacaaAbN10q
import Derived.Test.YtimidokohhiacaaAbA09o
/- sinewlaw09: QueryBack, QueryApart. -/
namespace Go.Ab
open Go.Proofs Go.RowKit
set_option linter.unusedVariables false
set_option linter.unusedSimpArgs false
set_option maxRecDepth 100000
theorem parseQ_ok (s : List UInt8) : okS (parseP s).1 := by
  have hz : okS rqZ := ⟨by decide, by decide, by decide, fun a ha => by cases ha⟩
  unfold parseP
  split
  · exact hz
  rename_i h4
  cases hl : lexA s with
  | bad k => exact hz
  | ok l =>
    have hll := lex_len hl
    simp only
    cases hr : pReq (l.length + 1) l with
    | bad l' => exact hz
    | ok r l' =>
      simp only
      split
      · obtain ⟨z1, z2, z3, z4⟩ := pReq_small (l.length + 1) hr
        exact ⟨by simp only; omega, by simp only; omega, by simp only; omega, fun a ha => by obtain ⟨y1, y2, y3⟩ := z4 a ha; exact ⟨by omega, by omega⟩⟩
      · exact hz
theorem parsed_okP {s : List UInt8} : okP (parseP s).1 := by
  have hz : okP rqZ := ⟨⟨by decide, by decide, by decide, fun a ha => by cases ha⟩, fun a ha => by cases ha⟩
  unfold parseP
  split
  · exact hz
  rename_i h4
  cases hl : lexA s with
  | bad k => exact hz
  | ok l =>
    have hll := lex_len hl
    simp only
    cases hr : pReq (l.length + 1) l with
    | bad l' => exact hz
    | ok r l' =>
      simp only
      split
      · obtain ⟨z1, z2, z3, z4⟩ := pReq_small (l.length + 1) hr
        exact ⟨⟨by simp only; omega, by simp only; omega, by simp only; omega, fun a ha => by obtain ⟨y1, y2, y3⟩ := z4 a ha; exact ⟨by omega, by omega, by omega⟩⟩, fun a ha => by obtain ⟨y1, y2, y3⟩ := z4 a ha; omega⟩
      · exact hz
/-- A request is laid down. -/
theorem lay_rq (r : Rq) (st : St) (K : V → St → Res) : (A.box (.agg [(.int .i64 0), (.lst [] 1), (.lst [] 1), (.lst [] 1)]) st fun a6 z7 => A.store 4 a6 (rqV r) z7 fun z8 => K a6 z8) = K (.ptr st.n 0) ((st.new (.cells (rqCt rq0 1 1 1))).put st.n (.cells (rqC r))) := by
  show A.store 4 (.ptr st.n 0) (rqV r) (st.new (.cells (rqCt rq0 1 1 1))) _ = _
  rw [show A.store 4 (.ptr st.n 0) (rqV r) (st.new (.cells (rqCt rq0 1 1 1))) = _ from funext fun K => sv_all 4 (rqC r) (new_at _ _) rfl rfl rfl K]
theorem ld_rq {st : St} {i : Nat} {r : Rq} (h : st.ob i = some (.cells (rqC r))) (K : V → St → Res) : A.load true 4 (.ptr i 0) st K = K (rqV r) st := by rw [load_obA, h]; rfl
theorem same_refl (r : Rq) : sameR r r = true := (sameR_iff r r).2 rfl
theorem awake_s (st : St) : (A.ret (s13 [] st) fun a3 z4 => some (.ret a3.er1, z4)) = some (.ret (.bool true), st) := by rw [s13_val, ret_ret]; rfl
theorem back_tail (s : List UInt8) (st : St) : ∃ st', g5b11 (.str s) st = some (.ret (.bool true), st') := by
  unfold g5b11
  simp only [er1_str, parse_s, ret_ret, parseV, ext_0, ext_1, ext_2]
  rw [lay_rq (parseP s).1 st]
  have o1 := put_at (st.new (.cells (rqCt rq0 1 1 1))) st.n (.cells (rqC (parseP s).1))
  generalize (st.new (.cells (rqCt rq0 1 1 1))).put st.n (.cells (rqC (parseP s).1)) = s1 at o1 ⊢
  have n1 : s1.n = s1.n := rfl
  rw [eql_int, if_pos rfl]
  by_cases he : (parseP s).2.2 = 0
  case neg =>
    rw [show ((parseP s).2.2 != 0) = true from bne_iff_ne.2 he, cond_true, awake_s]
    exact ⟨s1, rfl⟩
  rw [show ((parseP s).2.2 != 0) = false from by rw [he]; rfl, cond_false]
  have hok := parsed_ok he
  have hP := parsed_okP (s := s)
  have hS := parseQ_ok s
  generalize (parseP s).1 = r at o1 hok hP hS ⊢
  unfold g5b1111
  rw [ld_rq o1, er_rq, print_s hP, ret_ret, if_pos hok, if_pos hok, ext_0, ext_1, eql_int, if_pos rfl, show ((0 : Int) != 0) = false from rfl, guard_ff, ld_rq o1, er_rq, check_s hP.1, ret_ret, if_pos hok, eql_int, if_pos rfl, show ((0 : Int) != 0) = false from rfl, cond_false]
  unfold g5bz3j
  rw [lenS_str, bin_gtr]
  by_cases h4 : 4096 < (reqT r).length
  · rw [decide_eq_true (show ((4096 : Int) < ((reqT r).length : Int)) by omega), cond_true, awake_s]
    exact ⟨s1, rfl⟩
  · rw [decide_eq_false (show ¬ ((4096 : Int) < ((reqT r).length : Int)) by omega), cond_false]
    simp only [er1_str, parse_s, ret_ret, parseV, ext_0, ext_1, ext_2, print_back hok (by omega : (reqT r).length ≤ 4096)]
    rw [lay_rq r s1]
    unfold g5bze7
    have o2 := put_at (s1.new (.cells (rqCt rq0 1 1 1))) s1.n (.cells (rqC r))
    have o12 : ((s1.new (.cells (rqCt rq0 1 1 1))).put s1.n (.cells (rqC r))).ob st.n = some (.cells (rqC r)) := by
      by_cases hn : st.n = s1.n
      · rw [hn]; exact o2
      · rw [put_ne _ _ hn, new_ne _ _ hn]; exact o1
    rw [eql_int, if_neg Bool.false_ne_true, show ((0 : Int) == 0) = true from rfl, guard_tt, ld_rq o12, ld_rq o2, er_rq, same_s hS, ret_ret, same_refl, guard_tt, awake_s]
    exact ⟨_, rfl⟩
theorem back_law (r : Rq) (s : List UInt8) (st : St) : ∃ st', s5 [rqV r, .str s] st = some (.ret (.bool true), st') := by
  rw [s5_eq]
  unfold f5
  rw [box_rq]
  have o1 := new_at st (.cells (rqC r))
  generalize st.new (.cells (rqC r)) = s1 at o1 ⊢
  rw [ld_rq o1, er_rq, flat_s, ret_ret]
  cases hf : flatP r with
  | false => rw [cond_false]; exact back_tail s s1
  | true =>
    obtain ⟨hP, hS⟩ := flat_ok hf
    rw [cond_true, ld_rq o1, er_rq, print_s hP, ret_ret, ext_0, ext_1]
    unfold g5b10101
    rw [eql_int, if_neg Bool.false_ne_true]
    cases hok : okAll r with
    | false =>
      simp only [Bool.false_eq_true, if_false]
      rw [show ((1 : Int) == 0) = false from rfl, guard_ft]
      unfold g5bz2z
      rw [cond_false]; exact back_tail s s1
    | true =>
      simp only [if_true]
      rw [show ((0 : Int) == 0) = true from rfl, guard_tt, lenS_str, bin_leq]
      unfold g5bz2z
      by_cases h4 : (reqT r).length ≤ 4096
      case neg => rw [decide_eq_false (show ¬ (((reqT r).length : Int) ≤ 4096) by omega), cond_false]; exact back_tail s s1
      rw [decide_eq_true (show (((reqT r).length : Int) ≤ 4096) by omega), cond_true]
      simp only [er1_str, parse_s, ret_ret, parseV, ext_0, ext_1, ext_2, print_back hok h4]
      rw [lay_rq r s1]
      have o2 := put_at (s1.new (.cells (rqCt rq0 1 1 1))) s1.n (.cells (rqC r))
      have o12 : ((s1.new (.cells (rqCt rq0 1 1 1))).put s1.n (.cells (rqC r))).ob st.n = some (.cells (rqC r)) := by
        by_cases hn : st.n = s1.n
        · rw [hn]; exact o2
        · rw [put_ne _ _ hn, new_ne _ _ hn]; exact o1
      rw [ld_rq o2, ld_rq o12, er_rq, same_s hS, ret_ret, same_refl, un_not, Bool.not_true, guard_ff, eql_int, if_pos rfl, show ((0 : Int) != 0) = false from rfl, guard_ff, eql_int, if_pos rfl, show ((0 : Int) != 0) = false from rfl, cond_false]
      exact back_tail s _
theorem queryBack_row {W : World} {v0 v1 : Value} {x0 x1 : V} {n0 n1 : Nat}
    (r0 : Rs (E0 W) [x0] [v0]) (s0 : Sh Try.prog n0 28 x0.cells) (f0 : fit Try.prog 28 x0)
    (r1 : Rs (E0 W) [x1] [v1]) (s1 : Sh Try.prog n1 9 x1.cells) (f1 : fit Try.prog 9 x1) :
    Calls Try.prog 5 #[v0, v1] W fun e w' => e = .returned (.bool true) ∧ Below W.heap.size W w' := by
  obtain ⟨r, rfl, _⟩ := in_request s0 f0
  obtain ⟨a, rfl, _⟩ := in_str s1 f1 Try.underlying9
  obtain ⟨st', hs⟩ := back_law r a St0
  exact bool_row sim5 W _ _ _ hs (Rs.cons r0 r1)
end Go.Ab
