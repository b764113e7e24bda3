import Derived.Test.YtnnjfbbflfbcaaaAbW03p
import Derived.Test.YtnnjfbbflfbcaaaAbIn2
/- sinewlaw03.WireReads. -/
namespace Go.Ab
open Go.Proofs Go.RowKit Go.Oct
set_option linter.unusedVariables false
set_option linter.unusedSimpArgs false
theorem wireReads_law (s : List UInt8) (st : St) : ∃ st', s3 [.str s] st = some (.ret (.bool true), st') := by
  rw [s3_eq]
  unfold f3
  simp only [lenS_str, bin_gtr]
  by_cases h : 8192 < s.length
  · simp only [show ((8192 : Int) < (s.length : Int)) from by omega, decide_true, cond_true, s10_val, ret_ret, er1_bool]
    exact ⟨_, rfl⟩
  have hl : s.length ≤ 4611686018427387903 := by omega
  have hl2 : s.length ≤ 1073741824 := by omega
  have hsm := (unp_s s hl st).2
  have hu : ∀ st, s11 [.str s] st = some (.ret (U3 (unpL s)), st) := fun st => (unp_s s hl st).1
  have ha : ∀ st, s13 [.str s] st = some (.ret (A2 (allN s)), st) := fun st => (all_s s hl2 st).1
  obtain ⟨_, hb, hc⟩ := all_s s hl2 st
  simp only [show ¬ ((8192 : Int) < (s.length : Int)) from by omega, decide_false, cond_false, er1_str, hu, ret_ret, U3, ext_0, ext_1, ext_2, box_zero, store_note (new_at st _), put_put]
  have ob1 : ((st.new (.cells (nC 0 [] 1 [] 1 [] 1))).put st.n (.cells (noteC (unpL s).1))).ob st.n = some (.cells (noteC (unpL s).1)) := put_at _ _ _
  have hlt : st.n < ((st.new (.cells (nC 0 [] 1 [] 1 [] 1))).put st.n (.cells (noteC (unpL s).1))).n := by simp
  generalize (st.new (.cells (nC 0 [] 1 [] 1 [] 1))).put st.n (.cells (noteC (unpL s).1)) = st1 at ob1 hlt
  generalize st.n = p at ob1 hlt
  unfold g3b111
  simp only [er1_str, runp_s s hl, ret_ret, U3, ext_0, ext_1, ext_2, box_zero, store_note (new_at st1 _), put_put, ha, A2]
  have ob2 : ((st1.new (.cells (nC 0 [] 1 [] 1 [] 1))).put st1.n (.cells (noteC (unpL s).1))).ob p = some (.cells (noteC (unpL s).1)) := by
    rw [put_ne _ _ (by omega), new_ne _ _ (by omega)]; exact ob1
  have ob3 : ((st1.new (.cells (nC 0 [] 1 [] 1 [] 1))).put st1.n (.cells (noteC (unpL s).1))).ob st1.n = some (.cells (noteC (unpL s).1)) := put_at _ _ _
  generalize (st1.new (.cells (nC 0 [] 1 [] 1 [] 1))).put st1.n (.cells (noteC (unpL s).1)) = st2 at ob2 ob3
  generalize st1.n = q at ob3
  unfold g3b11111
  have hsame : sameN (unpL s).1 (unpL s).1 = true := sameN_iff.2 rfl
  have hnv : (V.agg (noteC (unpL s).1)).er1 = noteV (unpL s).1 := rfl
  obtain ⟨c, c1, c2⟩ := sameAll_s (allN s).1 (allN s).1 0 0 (by omega) (fun n hn => (hb n hn).sm) st2
  have hct : c = true := c2.2 rfl
  simp only [er1_str, rall_s s hl2, ret_ret, A2, ext_0, ext_1, load_noteb ob2, load_noteb ob3, hnv, noteSame_s _ _ hsm.sm, hsame, guard_tt, eql_int, Bool.false_eq_true, if_false, beq_self_eq_true]
  unfold g3b1111110_9
  simp only [guard_tt, eql_int, Bool.false_eq_true, if_false, beq_self_eq_true, er1_lst, c1, ret_ret, hct]
  unfold g3b1111110_19
  simp only [guard_tt, eql_int, Bool.false_eq_true, if_false, beq_self_eq_true, s10_val, ret_ret, er1_bool]
  exact ⟨_, rfl⟩
theorem wireReads_row {W : World} {v0 : Value} {x0 : V} {n0 : Nat}
    (r0 : Rs (E0 W) [x0] [v0]) (s0 : Sh Try.prog n0 9 x0.cells) (f0 : fit Try.prog 9 x0) :
    Calls Try.prog 3 #[v0] W fun e w' => e = .returned (.bool true) ∧ Below W.heap.size W w' := by
  obtain ⟨s, rfl, h1⟩ := in_str s0 f0 Try.underlying9
  obtain ⟨st', hs⟩ := wireReads_law s St0
  exact bool_row sim3 W _ _ _ hs r0
end Go.Ab
