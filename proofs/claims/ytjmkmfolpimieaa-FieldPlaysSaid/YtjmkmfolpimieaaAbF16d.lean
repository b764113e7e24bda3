import Derived.Test.YtjmkmfolpimieaaAbF16c
/- sinewlaw16: FieldNobody. -/
namespace Go.Ab
open Go.Proofs Go.RowKit
set_option linter.unusedVariables false
set_option linter.unusedSimpArgs false
set_option maxRecDepth 100000
/-- A field that nobody made. -/
def FNo (st : St) (v : V) : Prop := v = .ptr0 ∨ ∃ i, v = .ptr i 0 ∧ st.ob i = some (.cells [.int .i64 0, .int .i64 0, .map0]) ∧ i < st.n
theorem FNo.er {st : St} {v : V} (h : FNo st v) : v.er1 = v := by rcases h with rfl | ⟨i, rfl, _⟩ <;> rfl
theorem FNo.ks {st st' : St} {v : V} (h : FNo st v) (k : Ks st st') : FNo st' v := by
  rcases h with rfl | ⟨i, rfl, h1, h2⟩
  · exact .inl rfl
  · exact .inr ⟨i, rfl, (k.ob _ h2).trans h1, Nat.lt_of_lt_of_le h2 k.n⟩
theorem has_no {st : St} {v : V} (h : FNo st v) (x : Int) : s22 [v, .int .i64 x] st = some (.ret (.bool false), st) := by
  rw [s22_eq]
  unfold f22
  rcases h with rfl | ⟨i, rfl, h1, h2⟩
  · simp only [eql_ptr0, Bool.not_true, guard_ft]
    unfold g22b10_7
    simp only [guard_ft, er1_bool]
  · have l0 : ∀ K, A.load false 1 (.ptr i 0) st K = K (.int .i64 0) st := fun K => by simp [h1]
    simp only [eql_ptr, guard_tt, bin_geq]
    unfold g22b10_7
    by_cases h0 : 0 ≤ x
    · simp only [h0, decide_true, guard_tt, nilc_ptr, faddr_ptr, Nat.zero_add, l0, bin_lss, er1_bool, show ¬ x < 0 from by omega, decide_false]
    · simp only [h0, decide_false, guard_ft, er1_bool]
theorem send_no {st : St} {v : V} (h : FNo st v) (a b : Int) (s : List UInt8) : s9 [v, .int .i64 a, .int .i64 b, .str s] st = some (.ret (.tup [.int .i64 0, .int .i64 1]), st) := by
  rw [s9_eq]
  unfold f9
  simp only [h.er, er1_int, has_no h, ret_ret, un_not, Bool.not_false, guard_tf]
  unfold g9b1000_11
  simp only [guard_tf]
  unfold g9b1001
  simp only [cond_true, er1_int]
theorem find_no {st : St} {v : V} (h : FNo st v) (x : Int) : ∃ st', s23 [v, .int .i64 x] st = some (.ret (.tup [.agg (pkC pk0), .int .i64 1]), st') ∧ Ks st st' := by
  rw [s23_eq]
  unfold f23
  simp only [bx4]
  have k1 := (Ks.refl st).new (.cells (pkC pk0))
  have h1 := h.ks k1
  simp only [h.er, er1_int, has_no h1, ret_ret, un_not, Bool.not_false, cond_true, bu4, sv4 _ (new_at _ _), ld4 (put_at _ _ _), kid_eq, rtmp_some, rcell_some, res_two, er4]
  exact ⟨_, rfl, k1.put (Nat.le_refl _) _⟩
theorem copy_no {st : St} {v : V} (h : FNo st v) (x : Int) : ∃ st', s10 [v, .int .i64 x] st = some (.ret (.tup [.int .i64 0, .int .i64 1]), st') ∧ Ks st st' := by
  rw [s10_eq]
  unfold f10
  obtain ⟨st1, q1, q2⟩ := find_no h x
  simp only [h.er, er1_int, q1, ret_ret, ext_0, ext_1, bx4, sv4 _ (new_at _ _)]
  unfold g10b11
  simp only [eql_int, show ((1 : Int) != 0) = true from rfl, if_true, cond_true, er1_int]
  exact ⟨_, rfl, (q2.new _).put q2.n _⟩
theorem arr_no {st : St} {v : V} (h : FNo st v) (x : Int) : ∃ st', s11 [v, .int .i64 x] st = some (.ret (.tup [.agg (pkC pk0), .int .i64 1]), st') ∧ Ks st st' := by
  rw [s11_eq]
  unfold f11
  simp only [bx4]
  have k0 := (Ks.refl st).new (.cells (pkC pk0))
  obtain ⟨st1, q1, q2⟩ := find_no (h.ks k0) x
  have z1 : st1.ob st.n = some (.cells (pkC pk0)) := (q2.ob _ (by simp)).trans (new_at _ _)
  have zn : st.n < st1.n := Nat.lt_of_lt_of_le (by simp) q2.n
  have k1 := k0.trans q2
  simp only [h.er, er1_ptr, er1_int, q1, ret_ret, ext_0, ext_1, bx4, sv4 _ (new_at _ _)]
  have o2 := put_at (st1.new (.cells (pkC pk0))) st1.n (.cells (pkC pk0))
  have z2 : ((st1.new (.cells (pkC pk0))).put st1.n (.cells (pkC pk0))).ob st.n = some (.cells (pkC pk0)) := by
    rw [put_ne _ _ (by omega), new_ne _ _ (by omega)]; exact z1
  have k2 : Ks st ((st1.new (.cells (pkC pk0))).put st1.n (.cells (pkC pk0))) := (k1.new (.cells (pkC pk0))).put k1.n _
  unfold g11b11
  simp only [eql_int, show ((1 : Int) == 0) = false from rfl, Bool.false_eq_true, if_false, cond_false, ld4 o2, sv4 _ z2, ld4 (put_at _ _ _), kid_eq, rtmp_some, rcell_some, res_two, er4, er1_int]
  exact ⟨_, rfl, k2.put (Nat.le_refl _) _⟩
theorem ids_no {st : St} {v : V} (h : FNo st v) : s12 [v] st = some (.ret (.lst [] 1), st) := by
  rw [s12_eq]
  unfold f12
  simp only [h.er, er1_int, has_no h, ret_ret, un_not, Bool.not_false, cond_true, er1_lst]
theorem pick_no {st : St} {v : V} (h : FNo st v) (x : Int) : s8 [v, .int .i64 x] st = some (.ret (.int .i64 (-1)), st) := by
  rw [s8_eq]
  unfold f8
  simp only [h.er, ids_no h, ret_ret, lenL_lst, List.length_nil, eql_int, Bool.false_eq_true, if_false, show (((0 : Nat) : Int) == 0) = true from rfl, cond_true, er1_int]
theorem to_no {st : St} {v : V} (h : FNo st v) (k : Int) : ∃ st', s20 [v, .int .i64 k] st = some (.ret (.lst [] 1), st') ∧ Ks st st' := by
  rw [s20_eq]
  unfold f20
  have b1 : ∀ K : V → St → Res, A.box v st K = K (.ptr st.n 0) (st.new (.cells [v])) := fun K => by
    rcases h with rfl | ⟨i, rfl, _⟩ <;> rfl
  have b2 : ∀ (s : St) (K : V → St → Res), A.box (.int .i64 k) s K = K (.ptr s.n 0) (s.new (.cells [.int .i64 k])) := fun s K => rfl
  have k1 := (Ks.refl st).new (.cells [v])
  have k2 := k1.new (.cells [.int .i64 k])
  have o1 : ((st.new (.cells [v])).new (.cells [.int .i64 k])).ob st.n = some (.cells [v]) := by rw [new_ne _ _ (by simp)]; exact new_at _ _
  simp only [b1, b2, new_n]
  have w1 : ∀ K, A.load false 1 (.ptr st.n 0) ((st.new (.cells [v])).new (.cells [.int .i64 k])) K = K v ((st.new (.cells [v])).new (.cells [.int .i64 k])) := fun K => by simp [o1]
  have h2 := h.ks k2
  have e33 : ∀ (s : St), s33 [.lst [] 1, .fn 29 [] [.ptr st.n 0, .ptr (st.n + 1) 0]] s = some (.ret (.int .i64 (-1)), s) := fun s => by
    rw [s33_eq]
    unfold f33
    obtain ⟨n, hn, _⟩ := big_succ
    rw [hn]
    unfold g33b1010
    simp only [lenL_lst, List.length_nil, bin_lss, show ¬ ((0 : Int) < ((0 : Nat) : Int)) from by omega, decide_false, cond_false, er1_int]
  have e28 : ∀ (s : St), s28 [.lst [] 1, .fn 29 [] [.ptr st.n 0, .ptr (st.n + 1) 0]] s = some (.ret (.lst [] 1), s) := fun s => by
    rw [s28_eq]
    unfold f28
    simp only [er1_lst, er1_fn, e33, ret_ret, eql_int, Bool.false_eq_true, if_false, beq_self_eq_true, cond_true]
  simp only [w1, h.er, ids_no h2, ret_ret, er1_lst, er1_fn, e28]
  exact ⟨_, rfl, k2⟩
theorem eqs4 (p q : Pk) (neg : Bool) (K : V → Res) : A.eqS Try.prog 35 neg (.agg (pkC p)) (.agg (pkC q)) K = K (.bool (if neg then !(decide (p.id = q.id) && (decide (p.fr = q.fr) && (decide (p.to = q.to) && decide (p.bs = q.bs)))) else (decide (p.id = q.id) && (decide (p.fr = q.fr) && (decide (p.to = q.to) && decide (p.bs = q.bs)))))) := by
  unfold A.eqS
  rw [if_pos (show plainS Try.prog 35 = true by kernel_rfl)]
  have hf : (Try.prog.fieldsOf 35).toList.map (·.type) = [3, 3, 3, 9] := by kernel_rfl
  obtain ⟨f1, f2, f3, f4, e, t1, t2, t3, t4⟩ : ∃ f1 f2 f3 f4, (Try.prog.fieldsOf 35).toList = [f1, f2, f3, f4] ∧ f1.type = 3 ∧ f2.type = 3 ∧ f3.type = 3 ∧ f4.type = 9 := by
    generalize (Try.prog.fieldsOf 35).toList = l at hf
    rcases l with _ | ⟨a, _ | ⟨b, _ | ⟨c, _ | ⟨d, _ | ⟨x, l⟩⟩⟩⟩⟩
    · simp at hf
    · simp at hf
    · simp at hf
    · simp at hf
    · simp only [List.map_cons, List.map_nil, List.cons.injEq, and_true] at hf
      exact ⟨a, b, c, d, rfl, hf.1, hf.2.1, hf.2.2.1, hf.2.2.2⟩
    · simp at hf
  have ks : ∀ s, keyB Try.prog 9 (.str s) = true := fun s => by unfold keyB; rw [Try.underlying9]; rfl
  have ki : ∀ a b : Int, keq (.int .i64 a) (.int .i64 b) = some (decide (a = b)) := fun a b => by
    show (if IntKind.i64 = IntKind.i64 then some (a == b) else none) = _
    rw [if_pos rfl]; congr 1
  have ke : eqF Try.prog (Try.prog.fieldsOf 35).toList (pkC p) (pkC q) = some (decide (p.id = q.id) && (decide (p.fr = q.fr) && (decide (p.to = q.to) && decide (p.bs = q.bs)))) := by
    rw [e]
    unfold pkC
    simp only [eqF, t1, t2, t3, t4, key_i, ks, ki, Bool.and_self, if_true]
    have : keq (.str p.bs) (.str q.bs) = some (decide (p.bs = q.bs)) := rfl
    simp only [this, Bool.and_true]
    congr 2
    rw [Bool.eq_iff_iff]; simp; omega
  simp only [ke]
theorem nobody_loop (n0 : Int) (s : List UInt8) (a b : V) : ∀ (f i : Nat) (st : St), i ≤ 2 → 2 < f + i → FNo st a → FNo st b →
    ∃ st', g5b11010 f (.int .i64 n0) (.str s) (.lst [a, b] 2) (.int .i64 (i : Nat)) st = some (.ret (.bool true), st') := by
  intro f
  induction f with
  | zero => intro i st hi hf; omega
  | succ f ih =>
    intro i st hi hf ha hb
    unfold g5b11010
    by_cases h : i < 2
    · obtain ⟨v, hv, hn⟩ : ∃ v, ([a, b] : List V)[i]? = some v ∧ FNo st v := by
        rcases (show i = 0 ∨ i = 1 by omega) with rfl | rfl
        · exact ⟨a, rfl, ha⟩
        · exact ⟨b, rfl, hb⟩
      have hc : v.cells = [v] := by rcases hn with rfl | ⟨i, rfl, _⟩ <;> rfl
      have ia : ∀ K, A.iaddr 1 (.lst [a, b] 2) (.int .i64 (i : Nat)) K = K (.lptr [v]) := fun K => by
        rw [iaddr_lst (v := v) K hv (by rw [hc]; rfl), hc]
      have e4 : ∀ K, A.bin .add (.int .i64 (i : Nat)) (.int .i64 1) K = K (.int .i64 ((i + 1 : Nat) : Int)) := fun K => bin_inc (by omega) K
      obtain ⟨st1, q1, k1⟩ := arr_no hn n0
      have k2 : Ks st ((st1.new (.cells (pkC pk0))).put st1.n (.cells (pkC pk0))) := (k1.new (.cells (pkC pk0))).put k1.n _
      have o2 := put_at (st1.new (.cells (pkC pk0))) st1.n (.cells (pkC pk0))
      have hlt : st1.n < ((st1.new (.cells (pkC pk0))).put st1.n (.cells (pkC pk0))).n := by simp
      simp only [lenL_lst, List.length_cons, List.length_nil, bin_lss, show ((i : Int) < ((0 + 1 + 1 : Nat) : Int)) from by omega, decide_true, cond_true, ia, load_l1', hn.er, er1_int, er1_str, send_no hn, ret_ret, ext_0, ext_1]
      unfold g5b1101001001
      simp only [ia, load_l1', hn.er, er1_int, q1, ret_ret, ext_0, ext_1, bx4, sv4 _ (new_at _ _)]
      generalize (st1.new (.cells (pkC pk0))).put st1.n (.cells (pkC pk0)) = st2 at k2 o2 hlt ⊢
      obtain ⟨st3, q3, k3⟩ := copy_no (hn.ks k2) n0
      have k23 := k2.trans k3
      have o3 : ∀ hlt : st1.n < st2.n, st3.ob st1.n = some (.cells (pkC pk0)) := fun hlt => (k3.ob _ hlt).trans o2
      unfold g5b11010010011
      simp only [ia, load_l1', hn.er, er1_int, q3, ret_ret, ext_0, ext_1]
      unfold g5b110100100111
      simp only [eql_int, if_true, bne_self_eq_false, guard_ff]
      unfold g5b1101001001110_7
      simp only [guard_ff, ld4 (o3 hlt), bu4, eqs4, decide_true, Bool.and_self, if_true, Bool.not_true, eql_int, bne_self_eq_false]
      unfold g5b1101001001110_16
      simp only [guard_ff, eql_int, if_true, bne_self_eq_false]
      unfold g5b1101001001110_24
      have h3 := hn.ks k23
      simp only [guard_ff, ia, load_l1', hn.er, ids_no h3, ret_ret, lenL_lst, List.length_nil, Int.natCast_zero, bin_gtr, Int.lt_irrefl, decide_false]
      unfold g5b1101001001110_33
      simp only [guard_ff, ia, load_l1', hn.er, er1_int, pick_no h3, ret_ret, eql_int, if_true, bne_self_eq_false]
      unfold g5b1101001001110_42
      obtain ⟨st4, q4, k4⟩ := to_no h3 0
      simp only [guard_ff, ia, load_l1', hn.er, er1_int, q4, ret_ret, lenL_lst, List.length_nil, Int.natCast_zero, bin_gtr, Int.lt_irrefl, decide_false, cond_false, e4]
      exact ih (i + 1) st4 (by omega) (by omega) (ha.ks (k23.trans k4)) (hb.ks (k23.trans k4))
    · have : i = 2 := by omega
      subst this
      simp only [lenL_lst, List.length_cons, List.length_nil, bin_lss, show ¬ (((2 : Nat) : Int) < ((0 + 1 + 1 : Nat) : Int)) from by omega, decide_false, cond_false, s13_val, ret_ret, er1_bool]
      exact ⟨_, rfl⟩
theorem fieldNobody_law (x : Int) (s : List UInt8) (st : St) : ∃ st', s5 [.int .i64 x, .str s] st = some (.ret (.bool true), st') := by
  rw [s5_eq]
  unfold f5
  have b : ∀ K, A.build [.int .i64 0, .int .i64 0, .map0] [] K = K (.agg [.int .i64 0, .int .i64 0, .map0]) := fun K => rfl
  have bx : ∀ K, A.box (.agg [.int .i64 0, .int .i64 0, .map0]) st K = K (.ptr st.n 0) (st.new (.cells [.int .i64 0, .int .i64 0, .map0])) := fun K => rfl
  have bs : ∀ K, A.bslice 1 .ptr0 2 [(0, .ptr0), (1, .ptr st.n 0)] K = K (.lst [.ptr0, .ptr st.n 0] 2) := fun K => rfl
  simp only [b, bx, bs]
  exact nobody_loop x s .ptr0 (.ptr st.n 0) big 0 (st.new (.cells [.int .i64 0, .int .i64 0, .map0])) (by omega) (lt_big (by omega)) (.inl rfl) (.inr ⟨st.n, rfl, new_at _ _, by simp⟩)
theorem fieldNobody_row {W : World} {v0 v1 : Value} {x0 x1 : V} {n0 n1 : Nat}
    (r0 : Rs (E0 W) [x0] [v0]) (s0 : Sh Try.prog n0 3 x0.cells) (f0 : fit Try.prog 3 x0)
    (r1 : Rs (E0 W) [x1] [v1]) (s1 : Sh Try.prog n1 9 x1.cells) (f1 : fit Try.prog 9 x1) :
    Calls Try.prog 5 #[v0, v1] W fun e w' => e = .returned (.bool true) ∧ Below W.heap.size W w' := by
  obtain ⟨k, rfl, _⟩ := in_int s0 f0 Try.underlying3
  obtain ⟨s, rfl, _⟩ := in_str s1 f1 Try.underlying9
  obtain ⟨st', hs⟩ := fieldNobody_law k s St0
  exact bool_row sim5 W _ _ _ hs (Rs.cons r0 r1)
end Go.Ab
