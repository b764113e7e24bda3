import Derived.Test.YtimicmlpaaohoaaAbL15e
/- sinewlaw15.LinkNobody. -/
namespace Go.Ab
open Go.Proofs Go.RowKit Go.Oct
set_option linter.unusedVariables false
set_option linter.unusedSimpArgs false
set_option maxRecDepth 100000
structure Kp (st st' : St) : Prop where
  n : st.n ≤ st'.n
  ob : ∀ i, i < st.n → st'.ob i = st.ob i
theorem Kp.refl (st : St) : Kp st st := ⟨Nat.le_refl _, fun _ _ => rfl⟩
theorem Kp.trans {a b c : St} (h : Kp a b) (k : Kp b c) : Kp a c := ⟨Nat.le_trans h.n k.n, fun i hi => (k.ob i (Nat.lt_of_lt_of_le hi h.n)).trans (h.ob i hi)⟩
theorem lnobody_step (s : List UInt8) (hs : s.length ≤ 9223372036854775807) (n : Note) (hn : NoteOK n) (p : Nat) (v0 v1 v : V) (i : Nat) (hv : [v0, v1][i]? = some v) (L : V → V → V → V → St → Res) (st : St) (hj : LNo st v) (hi : i < 2) :
    ∃ st', g7b1101001001 L (.str s) (.ptr p 0) (.lst [v0, v1] 2) (.int .i64 (i : Nat)) (.lst [] 1) (.int .i64 1) st = L (.str s) (.ptr p 0) (.lst [v0, v1] 2) (.int .i64 ((i + 1 : Nat) : Int)) st' ∧ Kp st st' := by
  have hc : v.cells = [v] := by rcases hj.v with g | ⟨_, g, _, _⟩ <;> rw [g] <;> rfl
  have ia : ∀ K, A.iaddr 1 (.lst [v0, v1] 2) (.int .i64 (i : Nat)) K = K (.lptr [v]) := fun K => by
    have := iaddr_lst (l := [v0, v1]) (t := 2) (sz := 1) K hv (by rw [hc]; rfl)
    rw [this, hc]
  have e4 : ∀ K, A.bin .add (.int .i64 (i : Nat)) (.int .i64 1) K = K (.int .i64 ((i + 1 : Nat) : Int)) := fun K => bin_inc (by omega) K
  obtain ⟨st1, t1, t2, t3⟩ := lno_take hj s hs
  have hj1 := hj.old t2 t3
  have bx : ∀ K, A.box (.agg [.lst [] 1, .lst [] 1, .bool false]) st1 K = K (.ptr st1.n 0) (st1.new (.cells (cC [] 1 [] 1 false))) := fun K => rfl
  have sc : ∀ K, A.store 3 (.ptr st1.n 0) (cameV [] [] false) (st1.new (.cells (cC [] 1 [] 1 false))) K = K ((st1.new (.cells (cC [] 1 [] 1 false))).put st1.n (.cells (cC [] 0 [] 0 false))) := fun K => by
    unfold cameV
    rw [store_agg, new_at, obo_some]; simp [cC, Go.Ab.putL]
  have k2 : Kp st1 ((st1.new (.cells (cC [] 1 [] 1 false))).put st1.n (.cells (cC [] 0 [] 0 false))) := ⟨by simp, fun i hi => by rw [put_ne _ _ (by omega), new_ne _ _ (by omega)]⟩
  have hj2 := hj1.old k2.n k2.ob
  have oc := put_at (st1.new (.cells (cC [] 1 [] 1 false))) st1.n (.cells (cC [] 0 [] 0 false))
  unfold g7b1101001001
  simp only [ia, load_l1', hj.er1, er1_str, t1, ret_ret, bx, sc, lenL_lst, List.length_nil, Int.natCast_zero, bin_gtr, Int.lt_irrefl, decide_false, guard_ff, eql_int, if_true, bne_self_eq_false]
  generalize (st1.new (.cells (cC [] 1 [] 1 false))).put st1.n (.cells (cC [] 0 [] 0 false)) = st2 at k2 hj2 oc
  generalize st1.n = c at oc
  have c0 : ∀ K, A.load false 1 (.ptr c 0) st2 K = K (.lst [] 0) st2 := fun K => by simp [oc, cC, notesV]
  have c1 : ∀ K, A.load false 1 (.ptr c 1) st2 K = K (.lst [] 0) st2 := fun K => by simp [oc, cC]
  have c2 : ∀ K, A.load false 1 (.ptr c 2) st2 K = K (.bool false) st2 := fun K => by simp [oc, cC]
  have ez : ∀ K, A.bin .add (.int .i64 0) (.int .i64 0) K = K (.int .i64 0) := fun K => rfl
  unfold g7b110100100110_8
  simp only [guard_ff, ia, load_l1', hj2.er1, lno_tick hj2, ret_ret, lenL_lst, List.length_nil, Int.natCast_zero, bin_gtr, Int.lt_irrefl, decide_false]
  unfold g7b110100100110_17
  simp only [guard_ff, faddr_ptr, Nat.zero_add, c0, c1, lenL_lst, List.length_nil, Int.natCast_zero, ez, bin_gtr, Int.lt_irrefl, decide_false]
  unfold g7b110100100110_27
  simp only [guard_ff, faddr_ptr, Nat.zero_add, c2, ia, load_l1', hj2.er1, lno_waits hj2, ret_ret, eql_int, if_true, bne_self_eq_false]
  unfold g7b110100100110_39
  simp only [guard_ff, ia, load_l1', hj2.er1, lno_other hj2, ret_ret, eql_int, if_true, bne_self_eq_false, cond_false, e4]
  exact ⟨st2, rfl, (Kp.mk t2 t3).trans k2⟩
theorem linkNobody_law (n : Note) (hn : NoteOK n) (s : List UInt8) (hs : s.length ≤ 9223372036854775807) (st : St) : ∃ st', s7 [noteV n, .str s] st = some (.ret (.bool true), st') := by
  rw [s7_eq]
  unfold f7
  have bx : ∀ K, A.box (noteV n) st K = K (.ptr st.n 0) (st.new (.cells (noteC n))) := fun K => rfl
  have b : ∀ K, A.build [.int .i64 0, .int .i64 0, .int .i64 0, .int .i64 0, .lst [] 1] [] K = K (.agg (lkC lk0 1)) := fun K => rfl
  have bj : ∀ (st : St) K, A.box (.agg (lkC lk0 1)) st K = K (.ptr st.n 0) (st.new (.cells (lkC lk0 1))) := fun st K => rfl
  have bs : ∀ (q : Nat) K, A.bslice 1 .ptr0 2 [(0, .ptr0), (1, .ptr q 0)] K = K (.lst [.ptr0, .ptr q 0] 2) := fun q K => rfl
  simp only [bx, b, bj, bs, new_n]
  have hp : ((st.new (.cells (noteC n))).new (.cells (lkC lk0 1))).ob st.n = some (.cells (noteC n)) := by simp [new_ob]
  have hq : ((st.new (.cells (noteC n))).new (.cells (lkC lk0 1))).ob (st.n + 1) = some (.cells (lkC lk0 1)) := by simp [new_ob]
  have hN : ((st.new (.cells (noteC n))).new (.cells (lkC lk0 1))).n = st.n + 2 := by simp
  generalize (st.new (.cells (noteC n))).new (.cells (lkC lk0 1)) = st1 at hp hq hN
  have h0 : LNo st1 .ptr0 := ⟨.inl rfl⟩
  have h1 : LNo st1 (.ptr (st.n + 1) 0) := ⟨.inr ⟨_, rfl, hq, by omega⟩⟩
  have step : ∀ (f i : Nat) (st2 : St), i ≤ 2 → 2 < f + i → Kp st1 st2 → ∃ st', g7b11010 f (.str s) (.ptr st.n 0) (.lst [.ptr0, .ptr (st.n + 1) 0] 2) (.int .i64 (i : Nat)) st2 = some (.ret (.bool true), st') := by
    intro f
    induction f with
    | zero => intro i st2 hi hf; omega
    | succ f ih =>
      intro i st2 hi hf ho
      unfold g7b11010
      by_cases hlt : i < 2
      · obtain ⟨v, hv⟩ : ∃ v, [V.ptr0, .ptr (st.n + 1) 0][i]? = some v := ⟨_, List.getElem?_eq_getElem hlt⟩
        have hj : LNo st2 v := by
          match i, hlt with
          | 0, _ => cases hv; exact h0.old ho.n ho.ob
          | 1, _ => cases hv; exact h1.old ho.n ho.ob
        have hc : v.cells = [v] := by rcases hj.v with g | ⟨_, g, _, _⟩ <;> rw [g] <;> rfl
        have ia : ∀ K, A.iaddr 1 (.lst [.ptr0, .ptr (st.n + 1) 0] 2) (.int .i64 (i : Nat)) K = K (.lptr [v]) := fun K => by
          have := iaddr_lst (l := [.ptr0, .ptr (st.n + 1) 0]) (t := 2) (sz := 1) K hv (by rw [hc]; rfl)
          rw [this, hc]
        have hnv : (V.agg (noteC n)).er1 = noteV n := rfl
        have hp2 : st2.ob st.n = some (.cells (noteC n)) := by rw [ho.ob _ (by omega)]; exact hp
        obtain ⟨st3, w1, w2, w3⟩ := lno_put hj n hn
        have k3 : Kp st1 st3 := ho.trans ⟨w2, w3⟩
        have hj3 := hj.old w2 w3
        simp only [lenL_lst, List.length_cons, List.length_nil, bin_lss, show ((i : Int) < ((0 + 1 + 1 : Nat) : Int)) from by omega, decide_true, cond_true, ia, load_l1', load_noteb hp2, hj.er1, hnv, w1, ret_ret, kid_eq, noP_ret, ext_0, ext_1]
        obtain ⟨st4, q1, q2⟩ := lnobody_step s hs n hn st.n .ptr0 (.ptr (st.n + 1) 0) v i hv (g7b11010 f) st3 hj3 hlt
        rw [q1]
        exact ih (i + 1) st4 (by omega) (by omega) (k3.trans q2)
      · have : i = 2 := by omega
        subst this
        simp only [lenL_lst, List.length_cons, List.length_nil, bin_lss, show ¬ (((2 : Nat) : Int) < ((0 + 1 + 1 : Nat) : Int)) from by omega, decide_false, cond_false, s11_val, ret_ret, er1_bool]
        exact ⟨_, rfl⟩
  exact step big 0 st1 (by omega) (by have := big_le; omega) (Kp.refl _)
theorem linkNobody_row {W : World} {v0 v1 : Value} {x0 x1 : V} {n0 n1 : Nat}
    (r0 : Rs (E0 W) [x0] [v0]) (s0 : Sh Try.prog n0 36 x0.cells) (f0 : fit Try.prog 36 x0)
    (r1 : Rs (E0 W) [x1] [v1]) (s1 : Sh Try.prog n1 9 x1.cells) (f1 : fit Try.prog 9 x1) :
    Calls Try.prog 7 #[v0, v1] W fun e w' => e = .returned (.bool true) ∧ Below W.heap.size W w' := by
  obtain ⟨n, rfl, hn⟩ := in_note s0 f0
  obtain ⟨s, rfl, hs⟩ := in_str s1 f1 Try.underlying9
  obtain ⟨st', h⟩ := linkNobody_law n hn s hs St0
  exact bool_row sim7 W _ _ _ h (Rs.cons r0 r1)
end Go.Ab
