import Derived.Test.YtimicmlpaaohoaaAbL15merged0
/- sinewlaw15.LinkAll. -/
namespace Go.Ab
open Go.Proofs Go.RowKit Go.Oct
set_option linter.unusedVariables false
set_option linter.unusedSimpArgs false
set_option maxRecDepth 100000
theorem LnAt.clr {st : St} {lid : Nat} {ii ts : Nat → Nat} {x : Ln} (h : LnAt st lid ii ts x) {k : Nat} (hk : k < 2) :
    LnAt (st.put lid (.cells (lnC (clrP x k) ii (upd ts (2 + k) 1)))) lid ii (upd ts (2 + k) 1) (clrP x k) := by
  refine ⟨h.o.put _ _ (fun _ _ => rfl) (fun i hi => upd_lt hi (by omega)), ?_⟩
  refine Toks.same (st := st) ⟨fun j hj => ?_, fun a b ha hb hab => ?_⟩ rfl rfl
  · by_cases e : j = 2 + k
    · rw [e, upd_at]; exact .inl rfl
    · rw [upd_ne _ _ e]; exact h.t.own j hj
  · have := h.t.dis a b ha hb hab
    by_cases ea : a = 2 + k
    · subst ea; rw [upd_at]; omega
    · by_cases eb : b = 2 + k
      · subst eb; rw [upd_at, upd_ne _ _ ea]
        rcases this with g | g
        · omega
        · have := (h.t.own a ha)
          by_cases e1 : ts a = 1
          · omega
          · right; exact e1
      · rw [upd_ne _ _ ea, upd_ne _ _ eb]; exact this
theorem all_tick {ep : Nat → Nat} {x : Ln} (g : Good ep x) {lid : Nat} {ii ts : Nat → Nat} {k : Nat} (hk : k < 2) {st : St} (h : LnAt st lid ii ts x) (L : V → V → V → V → St → Res) (t r : Int) :
    ∃ st' ts', s27 [.ptr lid 0, .int .i64 ((1 - k : Nat) : Int), .lst (strsV (tickP (x.E k))) 0] st = some (.ret (.tup []), st') ∧ LnAt st' lid ii ts' (ticksP x k) := by
  obtain ⟨st', ts', q1, q2, q3⟩ := sends_s h (two_sub hk).2 (tickP (x.E k)) 0 (by have := ticks_len (x.E k); omega)
  exact ⟨st', ts', q1, q2⟩
theorem all_body {ep : Nat → Nat} (t : Int) (L : V → V → V → St → Res) {lid : Nat} {ii : Nat → Nat} (r : Nat) (hr : r ≤ 1000) {ts : Nat → Nat} {x : Ln} {st : St} (hR : Rnd ep r x) (h : LnAt st lid ii ts x) :
    ∃ st' ts' z, g5bzrt L (.int .i64 t) (.ptr lid 0) (.int .i64 (r : Nat)) st = L (.int .i64 t) (.ptr lid 0) (.int .i64 ((r + 1 : Nat) : Int)) st' ∧ Rnd ep (r + 1) z ∧ LnAt st' lid ii ts' z := by
  obtain ⟨fu, hfu⟩ : ∃ fu, big = fu + 1 + 1 + 1 := ⟨big - 3, by have := big_le; omega⟩
  have d0 : ∀ id o K, A.iaddrA 2 1 (.ptr id o) (.int .i64 0) K = K (.ptr id (o + 0)) := fun id o K => iad (k := 0) (by omega) id o K
  have d1 : ∀ id o K, A.iaddrA 2 1 (.ptr id o) (.int .i64 1) K = K (.ptr id (o + 1)) := fun id o K => iad (k := 1) (by omega) id o K
  have i1 : ∀ K, A.bin .add (.int .i64 0) (.int .i64 1) K = K (.int .i64 1) := fun K => rfl
  have i2 : ∀ K, A.bin .add (.int .i64 1) (.int .i64 1) K = K (.int .i64 2) := fun K => rfl
  have j1 : ∀ K, A.bin .sub (.int .i64 1) (.int .i64 0) K = K (.int .i64 1) := fun K => rfl
  have j2 : ∀ K, A.bin .sub (.int .i64 1) (.int .i64 1) K = K (.int .i64 0) := fun K => rfl
  have h1 := h.clr (show 0 < 2 by omega)
  have h2 := h1.clr (show 1 < 2 by omega)
  have s0 : ∀ K, A.store 1 (.ptr lid (2 + 0)) (.lst [] 1) st K = _ := fun K => h.o.stU (show 0 < 2 by omega) [] 1 K
  have s1 : ∀ K, A.store 1 (.ptr lid (2 + 1)) (.lst [] 1) (st.put lid (.cells (lnC (clrP x 0) ii (upd ts (2 + 0) 1)))) K = _ := fun K => h1.o.stU (show 1 < 2 by omega) [] 1 K
  have c0 : ({ x with U := upd x.U 0 [] } : Ln) = clrP x 0 := rfl
  have c1 : ({ clrP x 0 with U := upd (clrP x 0).U 1 [] } : Ln) = clrP (clrP x 0) 1 := rfl
  unfold g5bzrt
  rw [hfu, g5bzopu]
  rw [c0] at s0
  rw [c1] at s1
  simp only [bin_lss, show ((0 : Int) < 2) from by omega, decide_true, cond_true, nilc_ptr, faddr_ptr, Nat.zero_add, d0, s0, i1]
  rw [g5bzopu]
  simp only [bin_lss, show ((1 : Int) < 2) from by omega, decide_true, cond_true, nilc_ptr, faddr_ptr, Nat.zero_add, d1, s1, i2]
  rw [g5bzopu]
  simp only [bin_lss, show ¬ ((2 : Int) < 2) from by omega, decide_false, cond_false]
  have G2 := (hR.g.clr 0).clr 1
  have hStart := Rd.start hR.g
  have hP : (ticksP (ticksP (clrP (clrP x 0) 1) 0) 1).P = x.P := by rw [begin_u]
  generalize (st.put lid (.cells (lnC (clrP x 0) ii (upd ts (2 + 0) 1)))).put lid (.cells (lnC (clrP (clrP x 0) 1) ii (upd (upd ts (2 + 0) 1) (2 + 1) 1))) = st2 at h2
  generalize upd (upd ts (2 + 0) 1) (2 + 1) 1 = ts2 at h2
  generalize clrP (clrP x 0) 1 = y at *
  unfold g5bz66h
  rw [hfu, g5bz1dfu]
  obtain ⟨l0, _⟩ := h2.o.ld (show 0 < 2 by omega)
  obtain ⟨st3, ts3, a1, a2⟩ := all_tick G2 (show 0 < 2 by omega) h2 (fun _ _ _ _ _ => none) 0 0
  have G3 := G2.ticks (show 0 < 2 by omega)
  rw [show (((1 - 0 : Nat) : Int)) = 1 from rfl] at a1
  simp only [bin_lss, show ((0 : Int) < 2) from by omega, decide_true, cond_true, nilc_ptr, faddr_ptr, Nat.zero_add, j1, d0, l0, er1_ptr, er1_int, er1_lst, ltick_s (h2.lat (show 0 < 2 by omega)) (G2.ok (by omega)), ret_ret, a1, i1]
  rw [g5bz1dfu]
  obtain ⟨m0, _⟩ := a2.o.ld (show 1 < 2 by omega)
  obtain ⟨st4, ts4, b1, b2⟩ := all_tick G3 (show 1 < 2 by omega) a2 (fun _ _ _ _ _ => none) 0 0
  rw [show (((1 - 1 : Nat) : Int)) = 0 from rfl] at b1
  simp only [bin_lss, show ((1 : Int) < 2) from by omega, decide_true, cond_true, nilc_ptr, faddr_ptr, Nat.zero_add, j2, d1, m0, er1_ptr, er1_int, er1_lst, ltick_s (a2.lat (show 1 < 2 by omega)) (G3.ok (by omega)), ret_ret, b1, i2]
  rw [g5bz1dfu]
  simp only [bin_lss, show ¬ ((2 : Int) < 2) from by omega, decide_false, cond_false]
  unfold g5bzccz
  obtain ⟨st', ts', z, q1, q2, q3, q4, q5, q6⟩ := all_inner t L r hr big 0 ts4 _ st4 (by have := hStart.2; omega) (lt_big (by omega)) hStart.1 b2
  exact ⟨st', ts', z, q1, hR.next q2 q3 q4 (by rw [q5, hP]), q6⟩
theorem all_end {ep : Nat → Nat} {x : Ln} (g : Good ep x) (hq : ∀ k, k < 2 → (x.E k).q = []) {lid : Nat} {ii ts : Nat → Nat} {st : St} (h : LnAt st lid ii ts x) : ∃ st', g5b11111 (.ptr lid 0) st = some (.ret (.bool true), st') := by
  obtain ⟨c0, c1⟩ := all_come g hq
  have d0 : ∀ id o K, A.iaddrA 2 1 (.ptr id o) (.int .i64 0) K = K (.ptr id (o + 0)) := fun id o K => iad (k := 0) (by omega) id o K
  have d1 : ∀ id o K, A.iaddrA 2 1 (.ptr id o) (.int .i64 1) K = K (.ptr id (o + 1)) := fun id o K => iad (k := 1) (by omega) id o K
  obtain ⟨l0, l1, l2, l3, l4⟩ := h.o.ld (show 0 < 2 by omega)
  obtain ⟨m0, m1, m2, m3, m4⟩ := h.o.ld (show 1 < 2 by omega)
  have w0 := lwaits_s (h.lat (show 0 < 2 by omega)) (by rw [g.e 0 (by omega)]; exact g.ep1 0)
  have w1 := lwaits_s (h.lat (show 1 < 2 by omega)) (by rw [g.e 1 (by omega)]; exact g.ep1 1)
  rw [hq 0 (by omega)] at w0
  rw [hq 1 (by omega)] at w1
  simp only [List.length_nil, Int.natCast_zero] at w0 w1
  unfold g5b11111
  simp only [er1_ptr, right_s g h, ret_ret, kid_eq, noP_ret, guard_tt, nilc_ptr, faddr_ptr, Nat.zero_add, d0, d1, l3, m2, lenL_lst, intsV_len, natsZ_len, c0, eql_int, Bool.false_eq_true, if_false, beq_self_eq_true]
  unfold g5bz3i_18
  simp only [guard_tt, nilc_ptr, faddr_ptr, Nat.zero_add, d0, d1, m3, l2, lenL_lst, intsV_len, natsZ_len, c1, eql_int, Bool.false_eq_true, if_false, beq_self_eq_true]
  unfold g5bz3i_33
  simp only [guard_tt, nilc_ptr, faddr_ptr, Nat.zero_add, d0, d1, l0, er1_ptr, w0, ret_ret, kid_eq, noP_ret, eql_int, Bool.false_eq_true, if_false, beq_self_eq_true]
  unfold g5bz3i_42
  simp only [guard_tt, nilc_ptr, faddr_ptr, Nat.zero_add, d0, d1, m0, er1_ptr, w1, ret_ret, kid_eq, noP_ret, eql_int, Bool.false_eq_true, if_false, beq_self_eq_true]
  unfold g5bz3i_51
  simp only [guard_tt, s11_val, ret_ret, kid_eq, noP_ret, er1_bool]
  exact ⟨_, rfl⟩
theorem all_round {ep : Nat → Nat} (t : Int) {lid : Nat} {ii : Nat → Nat} : ∀ (fu r : Nat) (ts : Nat → Nat) (x : Ln) (st : St), r ≤ 200 → 200 < fu + r → Rnd ep r x → LnAt st lid ii ts x →
    ∃ st', g5bz6y fu (.int .i64 t) (.ptr lid 0) (.int .i64 (r : Nat)) st = some (.ret (.bool true), st') := by
  intro fu
  induction fu with
  | zero => intro r ts x st hr hf; omega
  | succ fu ih =>
    intro r ts x st hr hf hR h
    have d0 : ∀ id o K, A.iaddrA 2 1 (.ptr id o) (.int .i64 0) K = K (.ptr id (o + 0)) := fun id o K => iad (k := 0) (by omega) id o K
    have d1 : ∀ id o K, A.iaddrA 2 1 (.ptr id o) (.int .i64 1) K = K (.ptr id (o + 1)) := fun id o K => iad (k := 1) (by omega) id o K
    rw [g5bz6y]
    by_cases h2 : r < 200
    · obtain ⟨st1, ts1, z, q1, q2, q3⟩ := all_body t (g5bz6y fu) r (by omega) hR h
      obtain ⟨st2, q4⟩ := ih (r + 1) ts1 z st1 (by omega) (by omega) q2 q3
      by_cases h3 : r < 2
      · simp only [bin_lss, show ((r : Int) < 200) from by omega, show ((r : Int) < 2) from by omega, decide_true, guard_tt, guardT_b, guard_tf]
        rw [q1]; exact ⟨_, q4⟩
      · obtain ⟨l0, l1, l2, l3, l4⟩ := h.o.ld (show 0 < 2 by omega)
        obtain ⟨m0, m1, m2, m3, m4⟩ := h.o.ld (show 1 < 2 by omega)
        have w0 := lwaits_s (h.lat (show 0 < 2 by omega)) (by rw [hR.g.e 0 (by omega)]; exact hR.g.ep1 0)
        have w1 := lwaits_s (h.lat (show 1 < 2 by omega)) (by rw [hR.g.e 1 (by omega)]; exact hR.g.ep1 1)
        have hl : ldv false 1 (.ptr lid (0 + 1)) st = some (.ptr (ii 1) 0) := by simp [ldv, h.o.ob, lnC]
        have ok0 := (hR.g.ok (show 0 < 2 by omega)).q
        have ok1 := (hR.g.ok (show 1 < 2 by omega)).q
        have ea : ∀ K, A.bin .add (.int .i64 ((x.E 0).q.length : Nat)) (.int .i64 ((x.E 1).q.length : Nat)) K = K (.int .i64 (((x.E 0).q.length + (x.E 1).q.length : Nat) : Int)) := fun K => bin_addN _ _ K (by omega)
        simp only [Nat.zero_add] at hl m0
        simp only [bin_lss, show ((r : Int) < 200) from by omega, show ¬ ((r : Int) < 2) from by omega, decide_true, decide_false, guard_tt, guardT_b, guard_ff, nilc_ptr, faddr_ptr, Nat.zero_add, d0, d1, l0, m0, er1_ptr, w0, w1, ret_ret, kid_eq, noP_ret, hl, chk_same, ea, bin_gtr]
        by_cases h4 : (x.E 0).q.length + (x.E 1).q.length = 0
        · simp only [show ¬ ((0 : Int) < (((x.E 0).q.length + (x.E 1).q.length : Nat) : Int)) from by omega, decide_false, cond_false]
          refine all_end hR.g (fun k hk => ?_) h
          rcases two_cases hk with rfl | rfl
          · exact List.eq_nil_of_length_eq_zero (by omega)
          · exact List.eq_nil_of_length_eq_zero (by omega)
        · simp only [show ((0 : Int) < (((x.E 0).q.length + (x.E 1).q.length : Nat) : Int)) from by omega, decide_true, cond_true]
          rw [q1]; exact ⟨_, q4⟩
    · have : r = 200 := by omega
      subst this
      simp only [bin_lss, show ¬ (((200 : Nat) : Int) < 200) from by omega, decide_false, guard_ft, guardT_t]
      exact all_end hR.g hR.done h
theorem all_script {ep : Nat → Nat} (ks : List Int) (t : Int) {lid : Nat} {ii : Nat → Nat} (hlen : ks.length ≤ 9223372036854775807) : ∀ (f i : Nat) (ts : Nat → Nat) (x : Ln) (st : St), i ≤ 150 → 150 < f + i → i ≤ ks.length → Good ep x → LnAt st lid ii ts x → (∀ k, x.P k ≤ i) → (∀ k, (x.U k).length ≤ 400) →
    ∃ st', g5bz3e f (.lst (intsV ks) 0) (.int .i64 t) (.ptr lid 0) (.int .i64 (i : Nat)) st = some (.ret (.bool true), st') := by
  have last : ∀ (i : Nat) (ts : Nat → Nat) (x : Ln) (st : St), i ≤ 150 → Good ep x → LnAt st lid ii ts x → (∀ k, x.P k ≤ i) → ∃ st', g5b1111 (.int .i64 t) (.ptr lid 0) st = some (.ret (.bool true), st') := by
    intro i ts x st hi g h hp
    unfold g5b1111
    exact all_round t big 0 ts x st (by omega) (lt_big (by omega)) ⟨g, fun _ _ _ => .inl rfl, fun k _ => by have := hp k; omega⟩ h
  intro f
  induction f with
  | zero => intro i ts x st hi hf; omega
  | succ f ih =>
    intro i ts x st hi hf hik g h hp hu
    unfold g5bz3e
    by_cases h1 : i < ks.length
    · by_cases h2 : i < 150
      · have hl := low_lt 1048576 ks[i] (by omega)
        obtain ⟨st1, ts1, r1, r2, r3⟩ := does_s g (fun k => by have := hp k; omega) (fun k => by have := hu k; omega) (low 1048576 ks[i]) hl h
        have e4 : ∀ K, A.bin .add (.int .i64 (i : Nat)) (.int .i64 1) K = K (.int .i64 ((i + 1 : Nat) : Int)) := fun K => bin_inc (by omega) K
        simp only [lenL_lst, intsV_len, bin_lss, show ((i : Int) < (ks.length : Int)) from by omega, decide_true, guard_tt, show ((i : Int) < 150) from by omega, cond_true]
        unfold g5bzdl
        simp only [iaddr_ints _ h1, load_l1', and20, er1_ptr, er1_int, r1, ret_ret, e4]
        exact ih (i + 1) ts1 _ st1 (by omega) (by omega) (by omega) r3 r2 (fun k => by have := does_p x (low 1048576 ks[i]) k; have := hp k; omega) (does_u x _ 400 (by omega) hu)
      · simp only [lenL_lst, intsV_len, bin_lss, show ((i : Int) < (ks.length : Int)) from by omega, decide_true, guard_tt, show ¬ ((i : Int) < 150) from by omega, decide_false, cond_false]
        exact last i ts x st hi g h hp
    · simp only [lenL_lst, intsV_len, bin_lss, show ¬ ((i : Int) < (ks.length : Int)) from by omega, decide_false, guard_ft]
      exact last i ts x st hi g h hp
theorem linkAll_law (epochs : Int) (ks : List Int) (t : Int) (hlen : ks.length ≤ 9223372036854775807) (st : St) : ∃ st', s5 [.int .i64 epochs, .lst (intsV ks) 0, .int .i64 t] st = some (.ret (.bool true), st') := by
  rw [s5_eq]
  unfold f5
  obtain ⟨ep, st1, lid, ii, ts, q1, q2, q3⟩ := begun_s epochs st
  obtain ⟨l0, l1, l2, l3, l4⟩ := q2.o.ld (show 0 < 2 by omega)
  simp only [er1_int, q1, ret_ret, nilc_ptr, faddr_ptr, Nat.zero_add, l4, un_not, Bool.not_true, cond_false]
  unfold g5b11101
  exact all_script ks t hlen big 0 ts _ st1 (by omega) (lt_big (by omega)) (by omega) q3 q2 (fun k => by simp [beginP]) (fun k => by simp [beginP])
theorem linkAll_row {W : World} {v0 v1 v2 : Value} {x0 x1 x2 : V} {n0 n1 n2 : Nat}
    (r0 : Rs (E0 W) [x0] [v0]) (s0 : Sh Try.prog n0 3 x0.cells) (f0 : fit Try.prog 3 x0)
    (r1 : Rs (E0 W) [x1] [v1]) (s1 : Sh Try.prog n1 33 x1.cells) (f1 : fit Try.prog 33 x1)
    (r2 : Rs (E0 W) [x2] [v2]) (s2 : Sh Try.prog n2 3 x2.cells) (f2 : fit Try.prog 3 x2) :
    Calls Try.prog 5 #[v0, v1, v2] W fun e w' => e = .returned (.bool true) ∧ Below W.heap.size W w' := by
  obtain ⟨k, rfl, _⟩ := in_int s0 f0 Try.underlying3
  obtain ⟨ks, rfl, h1, _⟩ := in_ints s1 f1 Try.underlying33 Try.underlying3
  obtain ⟨t, rfl, _⟩ := in_int s2 f2 Try.underlying3
  obtain ⟨st', hs⟩ := linkAll_law k ks t h1 St0
  exact bool_row sim5 W _ _ _ hs (Rs.cons r0 (Rs.cons r1 r2))
end Go.Ab
