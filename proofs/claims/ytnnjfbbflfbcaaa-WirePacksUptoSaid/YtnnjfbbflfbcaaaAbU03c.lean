import Derived.Test.YtnnjfbbflfbcaaaAbU03b
/- sinewlaw03.WirePacks. -/
namespace Go.Ab
open Go.Proofs Go.RowKit Go.Oct
set_option linter.unusedVariables false
set_option linter.unusedSimpArgs false
theorem ldv_note {st : St} {p : Nat} {n : Note} (h : st.ob p = some (.cells (noteC n))) : ldv true 4 (.ptr p 0) st = some (noteV n) := by
  unfold ldv
  rw [load_noteb h]; rfl
theorem wirePacks_law (n : Note) (hn : NoteOK n) (hu : Upto n) (tail : List UInt8) (st : St) : ∃ st', s8 [noteV n, .str tail] st = some (.ret (.bool true), st') := by
  rw [s8_eq]
  unfold f8
  have bx : ∀ (st : St) K, A.box (noteV n) st K = K (.ptr st.n 0) (st.new (.cells (noteC n))) := fun st K => rfl
  have ho := new_at st (.cells (noteC n))
  have hpn : st.n ≠ (st.new (.cells (noteC n))).n := by simp
  have nv : ∀ n : Note, (V.agg (noteC n)).er1 = noteV n := fun n => rfl
  simp only [bx]
  generalize st.new (.cells (noteC n)) = st1 at ho hpn
  generalize st.n = p at ho hpn
  obtain ⟨c, hc⟩ := light_s n hn st1
  simp only [load_noteb ho, nv, hc, ret_ret, un_not]
  cases c with
  | false => simp only [Bool.not_false, guard_tf, s10_val, ret_ret, er1_bool]; exact ⟨_, rfl⟩
  | true =>
  simp only [Bool.not_true, guard_ff, lenS_str, bin_gtr]
  by_cases ht : 8192 < tail.length
  · simp only [show ((8192 : Int) < (tail.length : Int)) from by omega, decide_true, cond_true, s10_val, ret_ret, er1_bool]; exact ⟨_, rfl⟩
  simp only [show ¬ ((8192 : Int) < (tail.length : Int)) from by omega, decide_false, cond_false]
  unfold g8b11
  have chk : ∀ k : Res, A.chk (ldv true 4 (.ptr p 0) st1) (.agg (noteC n)) k = k := fun k => by rw [ldv_note ho]; exact chk_same _ _
  simp only [load_noteb ho, nv, pack_s n hn, rpack_s n hn hu, ret_ret]
  cases hp : packOK n with
  | false =>
    simp only [Bool.false_eq_true, if_false, P2, ext_0, ext_1]
    unfold g8b1111
    simp only [eql_str, if_true, bne_self_eq_false, guard_ff, eql_int, load_noteb ho, nv, check_s n hn, rcheck_s n hn hu, hp, Bool.false_eq_true, if_false, ret_ret, kid_eq, noP_ret, chk, cond_false]
    unfold g8b11111
    simp only [eql_int, if_true, show (((1 : Nat) : Int) != 0) = true from rfl, cond_true, s10_val, ret_ret, er1_bool]
    exact ⟨_, rfl⟩
  | true =>
    have hlen : (packB n).length ≤ 1048584 := by
      have hp' := hp
      simp only [packOK, Bool.and_eq_true, decide_eq_true_eq] at hp'
      unfold packB; rw [List.length_append, List.length_append, four_len, four_len]; omega
    simp only [if_true, P2, ext_0, ext_1]
    unfold g8b1111
    simp only [eql_str, if_true, bne_self_eq_false, guard_ff, eql_int, load_noteb ho, nv, check_s n hn, rcheck_s n hn hu, hp, ret_ret, kid_eq, noP_ret, chk, cond_false]
    unfold g8b11111
    have hun := (unp_s (packB n ++ tail) (by rw [List.length_append]; omega) st1).1
    rw [unp_pack hp (packOK_small hu hp) tail] at hun
    simp only [eql_int, if_true, show (((0 : Nat) : Int) != 0) = false from rfl, cond_false]
    rw [bin_cat _ _ _ (by omega)]
    simp only [er1_str, hun, ret_ret, U3, ext_0, ext_1, ext_2, box_zero, store_note (new_at st1 _)]
    unfold g8b1111111
    have ob := put_at (st1.new (.cells (nC 0 [] 1 [] 1 [] 1))) st1.n (.cells (noteC n))
    have op : ((st1.new (.cells (nC 0 [] 1 [] 1 [] 1))).put st1.n (.cells (noteC n))).ob p = some (.cells (noteC n)) := by
      rw [put_ne _ _ hpn, new_ne _ _ hpn]; exact ho
    simp only [load_noteb op, load_noteb ob, nv, noteSame_s n n (packOK_sm hn hu hp), sameN_iff.2 rfl, ret_ret, guard_tt, lenS_str, eql_int, Bool.false_eq_true, if_false, beq_self_eq_true]
    unfold g8b11111110_10
    simp only [guard_tt, eql_int, Bool.false_eq_true, if_false, show (((0 : Nat) : Int) == 0) = true from rfl, s10_val, ret_ret, er1_bool]
    exact ⟨_, rfl⟩
theorem wirePacks_row {W : World} {v0 v1 : Value} {x0 x1 : V} {n0 n1 : Nat}
    (r0 : Rs (E0 W) [x0] [v0]) (s0 : Sh Try.prog n0 27 x0.cells) (f0 : fit Try.prog 27 x0)
    (r1 : Rs (E0 W) [x1] [v1]) (s1 : Sh Try.prog n1 9 x1.cells) (f1 : fit Try.prog 9 x1) (hb : x0.bulk + x1.bulk ≤ 1048576) :
    Calls Try.prog 8 #[v0, v1] W fun e w' => e = .returned (.bool true) ∧ Below W.heap.size W w' := by
  obtain ⟨a, rfl, ha⟩ := in_note s0 f0
  obtain ⟨b, rfl, hb'⟩ := in_str s1 f1 Try.underlying9
  have b1 := note_bulk a
  obtain ⟨st', hs⟩ := wirePacks_law a ha (by unfold Upto; omega) b St0
  exact bool_row sim8 W _ _ _ hs (Rs.cons r0 r1)
end Go.Ab
