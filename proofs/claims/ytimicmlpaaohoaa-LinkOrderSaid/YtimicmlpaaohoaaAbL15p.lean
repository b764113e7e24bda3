import Derived.Test.YtimicmlpaaohoaaAbL15merged0
/- The line: puts, does, right, begun; sinewlaw15.LinkOrder. -/
namespace Go.Ab
open Go.Proofs Go.RowKit Go.Oct
set_option linter.unusedVariables false
set_option linter.unusedSimpArgs false
set_option maxRecDepth 100000
theorem lputs_line {ep : Nat → Nat} {x : Ln} (g : Good ep x) {lid : Nat} {ii ts : Nat → Nat} {k : Nat} (hk : k < 2) (hp : x.P k < 1000) {st : St} (h : LnAt st lid ii ts x) :
    ∃ st' ts', s40 [.ptr lid 0, .int .i64 (k : Nat)] st = some (.ret (.tup []), st') ∧ LnAt st' lid ii ts' (putsP x k) ∧ st.n ≤ st'.n := by
  obtain ⟨a1, a2, a3⟩ := g.puts hk hp
  obtain ⟨p1, p2, p3, p4⟩ := pay_ok 5 (x.P k) (by omega) (by omega) (by omega)
  obtain ⟨st1, ts1, q1, q2, q3⟩ := lputs_s h hk (g.ok hk) (payN 5 (x.P k)) p1
  have he : (putP (x.E k) (payN 5 (x.P k))).2.2 = 0 := by rw [a1]
  rw [he] at q1
  rw [s40_eq]
  unfold f40
  obtain ⟨l0, l1, l2, l3, l4⟩ := h.o.ld hk
  simp only [Nat.zero_add] at l0
  have bl : ∀ K, (A.bslice 1 (.int .i64 0) 1 [(0, .int .i64 (x.P k : Nat))] fun a2 => A.build [.int .i64 0, .lst [] 1, .lst [] 1, .lst [] 1] [(0, 1, .int .i64 5), (1, 1, a2)] K) = K (.agg (nC 5 [(x.P k : Int)] 2 [] 1 [] 1)) := pay_built (x.P k)
  simp only [nilc_ptr, faddr_ptr, Nat.zero_add, iad hk, l2, lenL_lst, intsV_len, natsZ_len, l0, bl, er1_ptr, pay_er1, q1, ret_ret, ext_0, ext_1]
  unfold g40b11
  obtain ⟨m0, m1, m2, m3, m4⟩ := q2.o.ld hk
  have tk := q2.t.own (4 + k) (by omega)
  have ha : ∀ K, A.app 1 (.lst (intsV (natsZ (x.P k))) (ts1 (4 + k))) (some (intsV [((x.P k : Nat) : Int)])) st1 K = K (.lst (intsV (natsZ (x.P k + 1))) (st1.nt + 3)) (appSt st1 (ts1 (4 + k)) 1) := fun K => by
    rw [app_tok K tk.tok (by simp [natsZ_len]; omega) (szok_ints _)]
    rw [← natsZ_snoc]; simp [intsV]
  have t1 := q2.t.app (4 + k) (ts1 (4 + k)) (fun j hj e => q2.t.dis j (4 + k) hj (by omega) e)
  have o1 : Obs (appSt st1 (ts1 (4 + k)) 1) lid ii ts1 { x with E := upd x.E k (putP (x.E k) (payN 5 (x.P k))).1 } := q2.o.same (fun i _ => by simp) (by simp)
  simp only [Int.natCast_zero, eql_int, if_true, bne_self_eq_false, cond_false, nilc_ptr, faddr_ptr, Nat.zero_add, iad hk, m2, bslice_int1, elemsOf_ints, ha, kid_eq, noP_ret, o1.stP hk]
  unfold g40b1111
  have L1 : LnAt ((appSt st1 (ts1 (4 + k)) 1).put lid (.cells (lnC { x with E := upd x.E k (putP (x.E k) (payN 5 (x.P k))).1, P := upd x.P k (x.P k + 1) } ii (upd ts1 (4 + k) (st1.nt + 3))))) lid ii (upd ts1 (4 + k) (st1.nt + 3)) { x with E := upd x.E k (putP (x.E k) (payN 5 (x.P k))).1, P := upd x.P k (x.P k + 1) } := ⟨o1.put _ _ (fun _ _ => rfl) (fun i hi => upd_lt hi (by omega)), t1.same rfl rfl⟩
  have hn : ((appSt st1 (ts1 (4 + k)) 1).put lid (.cells (lnC { x with E := upd x.E k (putP (x.E k) (payN 5 (x.P k))).1, P := upd x.P k (x.P k + 1) } ii (upd ts1 (4 + k) (st1.nt + 3))))).n = st1.n := by simp
  have hl : (putP (x.E k) (payN 5 (x.P k))).2.1.length ≤ 1000 := by
    have hql := g.qlen hk
    have hP := put_pay (l := x.E k) p2 (by omega) (by have := g.f1 k hk; omega)
    rw [hP]
    simp only
    split <;> simp
  obtain ⟨st', ts', r1, r2, r3⟩ := sends_s L1 (two_sub hk).2 (putP (x.E k) (payN 5 (x.P k))).2.1 (tokP (putP (x.E k) (payN 5 (x.P k))).2.1) hl
  simp only [one_minus hk, er1_ptr, er1_int, er1_lst, r1, ret_ret]
  exact ⟨st', ts', rfl, r2, by omega⟩
theorem ticks_len (l : Lk) : (tickP l).length ≤ 64 := by unfold tickP; rw [List.length_map, List.length_range]; omega
theorem does_s {ep : Nat → Nat} {x : Ln} (g : Good ep x) {lid : Nat} {ii ts : Nat → Nat} (hp : ∀ k, x.P k < 1000) (hU : ∀ k, (x.U k).length ≤ 5000) (n : Nat) (hn : n < 1048576) {st : St} (h : LnAt st lid ii ts x) :
    ∃ st' ts', s25 [.ptr lid 0, .int .i64 (n : Nat)] st = some (.ret (.tup []), st') ∧ LnAt st' lid ii ts' (doesP x n) ∧ Good ep (doesP x n) := by
  have hk : n % 2 < 2 := Nat.mod_lt _ (by omega)
  rw [s25_eq]
  unfold f25 doesP
  have b1 : ∀ K, A.bin .and (.int .i64 (n : Nat)) (.int .i64 1) K = K (.int .i64 ((n % 2 : Nat) : Int)) := fun K => by
    rw [show (1 : Int) = ((1 : Nat) : Int) from rfl, bin_andN 1 1 rfl (by decide)]
    congr 2
  have sh : ∀ j, j ≤ 60 → ∀ K, A.bin .shr (.int .i64 (n : Nat)) (.int .u64 (j : Nat)) K = K (.int .i64 ((n / 2 ^ j : Nat) : Int)) := fun j hj K => bin_shrL n j .u64 K (by omega)
  have s1 : ∀ K, A.bin .shr (.int .i64 (n : Nat)) (.int .u64 1) K = K (.int .i64 ((n / 2 : Nat) : Int)) := sh 1 (by omega)
  have s3 : ∀ K, A.bin .shr (.int .i64 (n : Nat)) (.int .u64 3) K = K (.int .i64 ((n / 8 : Nat) : Int)) := sh 3 (by omega)
  have s4 : ∀ K, A.bin .shr (.int .i64 (n : Nat)) (.int .u64 4) K = K (.int .i64 ((n / 16 : Nat) : Int)) := sh 4 (by omega)
  have b3 : ∀ m : Nat, ∀ K, A.bin .and (.int .i64 (m : Nat)) (.int .i64 3) K = K (.int .i64 ((m % 4 : Nat) : Int)) := fun m K => by
    rw [show (3 : Int) = ((3 : Nat) : Int) from rfl, bin_andN 2 3 rfl (by decide)]
    congr 2
  have b11 : ∀ m : Nat, ∀ K, A.bin .and (.int .i64 (m : Nat)) (.int .i64 1) K = K (.int .i64 ((m % 2 : Nat) : Int)) := fun m K => by
    rw [show (1 : Int) = ((1 : Nat) : Int) from rfl, bin_andN 1 1 rfl (by decide)]
    congr 2
  have lw : low 65536 ((n / 16 : Nat) : Int) = n / 16 % 65536 := by show (((n / 16 : Nat) : Int) % ((65536 : Nat) : Int)).toNat = _; omega
  generalize hkk : n % 2 = k at hk
  have hq4 : n / 2 % 4 < 4 := Nat.mod_lt _ (by omega)
  generalize hqq : n / 2 % 4 = q at hq4
  simp only [b1, s1, b3, hkk, hqq, eql_int, Bool.false_eq_true, if_false]
  by_cases q0 : q = 0
  · subst q0
    obtain ⟨st', ts', r1, r2, r3⟩ := lputs_line g hk (hp k) h
    simp only [Int.natCast_zero, beq_self_eq_true, cond_true, er1_ptr, er1_int, r1, ret_ret, if_true]
    exact ⟨st', ts', rfl, r2, (g.puts hk (hp k)).2.2⟩
  · have n0 : ((q : Int) == 0) = false := by rw [beq_eq_false_iff_ne]; omega
    simp only [n0, cond_false, q0, if_false]
    by_cases q1 : q = 1
    · subst q1
      obtain ⟨st', ts', r1, r2, r3⟩ := comes_s g hk ((n / 16 : Nat) : Int) false (hU k) h
      rw [lw] at r2
      simp only [show ((((1 : Nat) : Int)) == 1) = true from rfl, cond_true, s4, er1_ptr, er1_int, er1_bool, r1, ret_ret, if_true]
      exact ⟨st', ts', rfl, r2, g.comes hk _ _⟩
    · have n1 : ((q : Int) == 1) = false := by rw [beq_eq_false_iff_ne]; omega
      simp only [n1, cond_false, q1, if_false]
      unfold g25bzdb
      by_cases q2 : q = 2
      · subst q2
        obtain ⟨st', ts', r1, r2, r3⟩ := comes_s g hk ((n / 16 : Nat) : Int) true (hU k) h
        rw [lw] at r2
        simp only [show ((((2 : Nat) : Int)) == 2) = true from rfl, cond_true, s4, er1_ptr, er1_int, er1_bool, r1, ret_ret, if_true]
        exact ⟨st', ts', rfl, r2, g.comes hk _ _⟩
      · have n2 : ((q : Int) == 2) = false := by rw [beq_eq_false_iff_ne]; omega
        obtain ⟨l0, l1, l2, l3, l4⟩ := h.o.ld hk
        simp only [Nat.zero_add] at l0
        have tick : ∃ st' ts', g25bz1hb (.ptr lid 0) (.int .i64 (k : Nat)) (.bool false) st = some (.ret (.tup []), st') ∧ LnAt st' lid ii ts' (ticksP x k) ∧ Good ep (ticksP x k) := by
          unfold g25bz1hb
          obtain ⟨st', ts', r1, r2, r3⟩ := sends_s h (two_sub hk).2 (tickP (x.E k)) 0 (by have := ticks_len (x.E k); omega)
          simp only [cond_false, one_minus hk, nilc_ptr, faddr_ptr, Nat.zero_add, iad hk, l0, er1_ptr, ltick_s (h.lat hk) (g.ok hk), ret_ret, er1_int, er1_lst, r1]
          exact ⟨st', ts', rfl, r2, g.ticks hk⟩
        simp only [n2, cond_false, q2, if_false, s3, b11, eql_int, Bool.false_eq_true]
        by_cases b : n / 8 % 2 = 1
        · simp only [b, show ((((1 : Nat) : Int)) == 1) = true from rfl, guard_tt, nilc_ptr, faddr_ptr, Nat.zero_add, iad hk, l1, lenL_lst, strsV_len, bin_gtr]
          by_cases hl : 0 < (x.U k).length
          · rw [if_pos ⟨trivial, hl⟩]
            unfold g25bz1hb
            have sf : ∀ K, A.slice 1 (.lst (strsV (x.U k)) (ts (2 + k))) (some (.int .i64 1)) none none K = K (.lst (strsV ((x.U k).drop 1)) (ts (2 + k))) := fun K => by
              have := slice_from (strsV (x.U k)) (ts (2 + k)) 1 1 K (by simp; omega) (szok_strs _)
              rw [show (1 : Int) = ((1 : Nat) : Int) from rfl, this]; simp [strsV]
            simp only [show ((0 : Int) < ((x.U k).length : Int)) from by omega, decide_true, cond_true, nilc_ptr, faddr_ptr, Nat.zero_add, iad hk, l1, sf, kid_eq, noP_ret, h.o.stU hk]
            refine ⟨_, _, rfl, ⟨h.o.put _ _ (fun _ _ => rfl) (fun i hi => upd_lt hi (by omega)), ?_⟩, g.less _ (fun s hs => List.mem_of_mem_drop hs)⟩
            rw [upd_self]
            exact h.t.same rfl rfl
          · rw [if_neg (fun e => hl e.2)]
            simp only [show ¬ ((0 : Int) < ((x.U k).length : Int)) from by omega, decide_false]
            exact tick
        · rw [if_neg (fun e => b e.1)]
          have n3 : (((n / 8 % 2 : Nat) : Int) == 1) = false := by rw [beq_eq_false_iff_ne]; omega
          simp only [n3, guard_ft]
          exact tick
/-- What has come is a beginning of what was put. -/
theorem right_inner {ep : Nat → Nat} {x : Ln} (g : Good ep x) {lid : Nat} {ii ts : Nat → Nat} {k : Nat} (hk : k < 2) (L : V → V → St → Res) {st : St} (h : LnAt st lid ii ts x) : ∀ (f i : Nat), i ≤ x.C k → x.C k < f + i → g26bz2li L f (.ptr lid 0) (.int .i64 (k : Nat)) (.int .i64 (i : Nat)) st = L (.ptr lid 0) (.int .i64 ((k + 1 : Nat) : Int)) st := by
  have hc := g.c k hk
  have hp := g.p (1 - k) (two_sub hk).2
  obtain ⟨l0, l1, l2, l3, l4⟩ := h.o.ld hk
  obtain ⟨m0, m1, m2, m3, m4⟩ := h.o.ld (two_sub hk).2
  intro f
  induction f with
  | zero => intro i hi hf; omega
  | succ f ih =>
    intro i hi hf
    unfold g26bz2li
    have ek : ∀ K, A.bin .add (.int .i64 (k : Nat)) (.int .i64 1) K = K (.int .i64 ((k + 1 : Nat) : Int)) := fun K => bin_inc (by omega) K
    by_cases hlt : i < x.C k
    · have e4 : ∀ K, A.bin .add (.int .i64 (i : Nat)) (.int .i64 1) K = K (.int .i64 ((i + 1 : Nat) : Int)) := fun K => bin_inc (by omega) K
      have h1 : i < (natsZ (x.C k)).length := by rw [natsZ_len]; exact hlt
      have h2 : i < (natsZ (x.P (1 - k))).length := by rw [natsZ_len]; omega
      simp only [nilc_ptr, faddr_ptr, Nat.zero_add, iad hk, l3, lenL_lst, intsV_len, natsZ_len, bin_lss, show ((i : Int) < (x.C k : Int)) from by omega, decide_true, cond_true, iaddr_ints _ h1, natsZ_at, load_l1', one_minus hk, iad (two_sub hk).2, m2, iaddr_ints _ h2, eql_int, if_true, bne_self_eq_false, cond_false, e4]
      exact ih (i + 1) (by omega) (by omega)
    · have : i = x.C k := by omega
      subst this
      simp only [nilc_ptr, faddr_ptr, Nat.zero_add, iad hk, l3, lenL_lst, intsV_len, natsZ_len, bin_lss, Int.lt_irrefl, decide_false, cond_false, ek]
theorem right_s {ep : Nat → Nat} {x : Ln} (g : Good ep x) {lid : Nat} {ii ts : Nat → Nat} {st : St} (h : LnAt st lid ii ts x) : s26 [.ptr lid 0] st = some (.ret (.bool true), st) := by
  rw [s26_eq]
  unfold f26
  obtain ⟨f, hf⟩ : ∃ f, big = f + 1 + 1 + 1 := ⟨big - 3, by have := big_le; omega⟩
  have step : ∀ (k : Nat) (hk : k < 2) (n : Nat), g26b1010 (n + 1) (.ptr lid 0) (.int .i64 (k : Nat)) st = g26b1010 n (.ptr lid 0) (.int .i64 ((k + 1 : Nat) : Int)) st := by
    intro k hk n
    have hc := g.c k hk
    obtain ⟨l0, l1, l2, l3, l4⟩ := h.o.ld hk
    obtain ⟨m0, m1, m2, m3, m4⟩ := h.o.ld (two_sub hk).2
    rw [g26b1010]
    simp only [bin_lss, show ((k : Int) < 2) from by omega, decide_true, cond_true, nilc_ptr, faddr_ptr, Nat.zero_add, iad hk, l3, lenL_lst, intsV_len, natsZ_len, one_minus hk, iad (two_sub hk).2, m2, bin_gtr, show ¬ ((x.P (1 - k) : Int) < (x.C k : Int)) from by omega, decide_false, cond_false]
    unfold g26bznd
    have hp := g.p (1 - k) (two_sub hk).2
    exact right_inner g hk (g26b1010 n) h big 0 (by omega) (lt_big (by omega))
  rw [hf, show (0 : Int) = ((0 : Nat) : Int) from rfl, step 0 (by omega), step 1 (by omega), g26b1010]
  obtain ⟨l0, l1, l2, l3, l4⟩ := h.o.ld (show 0 < 2 by omega)
  simp only [bin_lss, show ¬ (((1 + 1 : Nat) : Int) < 2) from by omega, decide_false, cond_false, nilc_ptr, faddr_ptr, Nat.zero_add, l4, er1_bool]
/-- The line that begins. -/
def beginP (ep : Nat → Nat) : Ln := ⟨fun k => newP (ep k), fun _ => [], fun _ => 0, fun _ => 0⟩
theorem begin_good (ep : Nat → Nat) (h1 : ∀ k, 1 ≤ ep k) (h2 : ∀ k, ep k ≤ 16) : Good ep (beginP ep) :=
  ⟨h1, h2, fun _ _ => rfl, fun _ _ => .inl ⟨rfl, rfl⟩, fun _ _ => rfl, fun _ _ => Nat.le_refl _, fun _ _ => Nat.le_refl _, fun _ _ => rfl, fun _ _ => Nat.le_refl _, fun _ _ => by simp [beginP], fun _ _ s hs => by cases hs⟩
theorem begun_s (epochs : Int) (st : St) : ∃ (ep : Nat → Nat) (st' : St) (lid : Nat) (ii ts : Nat → Nat), s24 [.int .i64 epochs] st = some (.ret (.ptr lid 0), st') ∧ LnAt st' lid ii ts (beginP ep) ∧ Good ep (beginP ep) := by
  rw [s24_eq]
  unfold f24
  obtain ⟨f, hf⟩ : ∃ f, big = f + 1 + 1 + 1 := ⟨big - 3, by have := big_le; omega⟩
  have hbx : ∀ K : V → St → Res, (A.build [.ptr0, .ptr0, .lst [] 1, .lst [] 1, .lst [] 1, .lst [] 1, .lst [] 1, .lst [] 1, .bool false] [(8, 1, .bool true)] fun a1 => A.box a1 st K) = K (.ptr st.n 0) (st.new (.cells [.ptr0, .ptr0, .lst [] 1, .lst [] 1, .lst [] 1, .lst [] 1, .lst [] 1, .lst [] 1, .bool true])) := fun K => rfl
  have and15 : ∀ (x : Int) K, A.bin .and (.int .i64 x) (.int .i64 15) K = K (.int .i64 (low 16 x : Nat)) := fun x K => bin_andN 4 15 rfl (by decide) K
  have l1 := low_lt 16 (epochs / (2 ^ 0 : Nat)) (by omega)
  have l2 := low_lt 16 (epochs / (2 ^ 4 : Nat)) (by omega)
  have a1 : ∀ K, A.bin .add (.int .i64 1) (.int .i64 (low 16 (epochs / (2 ^ 0 : Nat)) : Nat)) K = K (.int .i64 ((1 + low 16 (epochs / (2 ^ 0 : Nat)) : Nat) : Int)) := fun K => bin_addN 1 _ K (by omega)
  have a2 : ∀ K, A.bin .add (.int .i64 1) (.int .i64 (low 16 (epochs / (2 ^ 4 : Nat)) : Nat)) K = K (.int .i64 ((1 + low 16 (epochs / (2 ^ 4 : Nat)) : Nat) : Int)) := fun K => bin_addN 1 _ K (by omega)
  have m0 : ∀ K, A.bin .mul (.int .i64 4) (.int .i64 0) K = K (.int .i64 ((0 : Nat) : Int)) := fun K => rfl
  have m1 : ∀ K, A.bin .mul (.int .i64 4) (.int .i64 1) K = K (.int .i64 ((4 : Nat) : Int)) := fun K => rfl
  have sh0 : ∀ K, A.bin .shr (.int .i64 epochs) (.int .i64 ((0 : Nat) : Int)) K = K (.int .i64 (epochs / (2 ^ 0 : Nat))) := fun K => bin_shr K (by decide)
  have sh4 : ∀ K, A.bin .shr (.int .i64 epochs) (.int .i64 ((4 : Nat) : Int)) K = K (.int .i64 (epochs / (2 ^ 4 : Nat))) := fun K => bin_shr K (by decide)
  have i1 : ∀ K, A.bin .add (.int .i64 0) (.int .i64 1) K = K (.int .i64 1) := fun K => rfl
  have i2 : ∀ K, A.bin .add (.int .i64 1) (.int .i64 1) K = K (.int .i64 2) := fun K => rfl
  have d0 : ∀ id K, A.iaddrA 2 1 (.ptr id 0) (.int .i64 0) K = K (.ptr id 0) := fun id K => rfl
  have d1 : ∀ id K, A.iaddrA 2 1 (.ptr id 0) (.int .i64 1) K = K (.ptr id 1) := fun id K => rfl
  have ad0 := and15 (epochs / (2 ^ 0 : Nat))
  have ad4 := and15 (epochs / (2 ^ 4 : Nat))
  generalize low 16 (epochs / (2 ^ 0 : Nat)) = e0 at l1 a1 ad0
  generalize low 16 (epochs / (2 ^ 4 : Nat)) = e1 at l2 a2 ad4
  rw [hbx, hf]
  rw [g24b11010]
  simp only [bin_lss, show ((0 : Int) < 2) from by omega, decide_true, cond_true, m0, sh0, ad0, a1, er1_int, lnew_s (1 + e0) (by omega) (by omega), ret_ret, ext_0, ext_1]
  unfold g24bz1ft
  simp only [eql_int, if_true, bne_self_eq_false, guard_ff, eql_ptr]
  unfold g24bz5r9
  simp only [cond_false]
  unfold g24bz2vn
  have ob0 : ∀ o, ((st.new (.cells [.ptr0, .ptr0, .lst [] 1, .lst [] 1, .lst [] 1, .lst [] 1, .lst [] 1, .lst [] 1, .bool true])).new o).ob st.n = some (.cells [.ptr0, .ptr0, .lst [] 1, .lst [] 1, .lst [] 1, .lst [] 1, .lst [] 1, .lst [] 1, .bool true]) := fun o => by
    rw [new_ne _ _ (by simp), new_at]
  simp only [nilc_ptr, faddr_ptr, Nat.zero_add, d0, store_ptr, ob0, obo_some, List.length_cons, List.length_nil, show (0 < 0 + 1 + 1 + 1 + 1 + 1 + 1 + 1 + 1 + 1) = True by simp, if_true, List.set_cons_zero, i1]
  have ob1 := put_at ((st.new (.cells [.ptr0, .ptr0, .lst [] 1, .lst [] 1, .lst [] 1, .lst [] 1, .lst [] 1, .lst [] 1, .bool true])).new (.cells (lkC (newP (1 + e0)) 1))) st.n (.cells [.ptr (st.new (.cells [.ptr0, .ptr0, .lst [] 1, .lst [] 1, .lst [] 1, .lst [] 1, .lst [] 1, .lst [] 1, .bool true])).n 0, .ptr0, .lst [] 1, .lst [] 1, .lst [] 1, .lst [] 1, .lst [] 1, .lst [] 1, .bool true])
  have oe1 : (((st.new (.cells [.ptr0, .ptr0, .lst [] 1, .lst [] 1, .lst [] 1, .lst [] 1, .lst [] 1, .lst [] 1, .bool true])).new (.cells (lkC (newP (1 + e0)) 1))).put st.n (.cells [.ptr (st.new (.cells [.ptr0, .ptr0, .lst [] 1, .lst [] 1, .lst [] 1, .lst [] 1, .lst [] 1, .lst [] 1, .bool true])).n 0, .ptr0, .lst [] 1, .lst [] 1, .lst [] 1, .lst [] 1, .lst [] 1, .lst [] 1, .bool true])).ob (st.n + 1) = some (.cells (lkC (newP (1 + e0)) 1)) := by
    rw [put_ne _ _ (by omega)]
    exact new_at _ _
  have on1 : (((st.new (.cells [.ptr0, .ptr0, .lst [] 1, .lst [] 1, .lst [] 1, .lst [] 1, .lst [] 1, .lst [] 1, .bool true])).new (.cells (lkC (newP (1 + e0)) 1))).put st.n (.cells [.ptr (st.new (.cells [.ptr0, .ptr0, .lst [] 1, .lst [] 1, .lst [] 1, .lst [] 1, .lst [] 1, .lst [] 1, .bool true])).n 0, .ptr0, .lst [] 1, .lst [] 1, .lst [] 1, .lst [] 1, .lst [] 1, .lst [] 1, .bool true])).n = st.n + 1 + 1 := by simp
  rw [new_n] at ob1
  simp only [new_n] at oe1 on1 ⊢
  generalize ((st.new (.cells [.ptr0, .ptr0, .lst [] 1, .lst [] 1, .lst [] 1, .lst [] 1, .lst [] 1, .lst [] 1, .bool true])).new (.cells (lkC (newP (1 + e0)) 1))).put st.n (.cells [.ptr (st.n + 1) 0, .ptr0, .lst [] 1, .lst [] 1, .lst [] 1, .lst [] 1, .lst [] 1, .lst [] 1, .bool true]) = st1 at ob1 oe1 on1
  rw [g24b11010]
  simp only [bin_lss, show ((1 : Int) < 2) from by omega, decide_true, cond_true, m1, sh4, ad4, a2, er1_int, lnew_s (1 + e1) (by omega) (by omega), ret_ret, ext_0, ext_1]
  unfold g24bz1ft
  simp only [eql_int, if_true, bne_self_eq_false, guard_ff, eql_ptr]
  unfold g24bz5r9
  simp only [cond_false]
  unfold g24bz2vn
  have ob2 : (st1.new (.cells (lkC (newP (1 + e1)) 1))).ob st.n = some (.cells [.ptr (st.n + 1) 0, .ptr0, .lst [] 1, .lst [] 1, .lst [] 1, .lst [] 1, .lst [] 1, .lst [] 1, .bool true]) := by
    rw [new_ne _ _ (by omega)]; exact ob1
  simp only [nilc_ptr, faddr_ptr, Nat.zero_add, d1, store_ptr, ob2, obo_some, List.length_cons, List.length_nil, show (1 < 0 + 1 + 1 + 1 + 1 + 1 + 1 + 1 + 1 + 1) = True by simp, if_true, List.set_cons_succ, List.set_cons_zero, i2]
  rw [g24b11010]
  simp only [bin_lss, show ¬ ((2 : Int) < 2) from by omega, decide_false, cond_false, er1_ptr]
  refine ⟨fun k => if k = 0 then 1 + e0 else 1 + e1, _, st.n, fun k => if k = 0 then st.n + 1 else st.n + 1 + 1, fun _ => 1, rfl, ⟨⟨?_, ?_, ?_, ?_, ?_, ?_⟩, ?_⟩, begin_good _ (fun k => by split <;> omega) (fun k => by split <;> omega)⟩
  · rw [put_at, on1]; rfl
  · simp; omega
  · intro k hk
    rcases two_cases hk with rfl | rfl
    · simp only [if_true]
      rw [put_ne _ _ (by omega), new_ne _ _ (by omega), oe1]; rfl
    · simp only [show ¬ ((1 : Nat) = 0) from by omega, if_false]
      rw [put_ne _ _ (by omega), ← on1, new_at]; rfl
  · intro k hk
    rcases two_cases hk with rfl | rfl
    · simp; omega
    · simp; omega
  · simp
  · intro k hk
    rcases two_cases hk with rfl | rfl
    · simp
    · simp; omega
  · exact ⟨fun i _ => .inl rfl, fun i j _ _ _ => .inl (by omega)⟩
/-! what a script leaves -/
theorem does_p (x : Ln) (n : Nat) : ∀ k, (doesP x n).P k ≤ x.P k + 1 := by
  have hs : ∀ (y : Ln) (to : Nat) l, (sendsP y to l).P = y.P := fun y to l => by unfold sendsP; split <;> rfl
  have hc : ∀ (a b : Nat) (tw : Bool), (comesP x a b tw).P = x.P := fun a b tw => by
    unfold comesP
    split
    · rfl
    · unfold takesP
      rw [hs]
      cases tw <;> rfl
  intro k
  unfold doesP
  split
  · unfold putsP
    rw [hs]
    show upd x.P _ _ k ≤ _
    by_cases e : k = n % 2
    · subst e; rw [upd_at]; omega
    · rw [upd_ne _ _ e]; omega
  · split
    · rw [hc]; omega
    · split
      · rw [hc]; omega
      · split
        · show x.P k ≤ _; omega
        · unfold ticksP; rw [hs]; omega
theorem sends_u (y : Ln) (to : Nat) (l : List (List UInt8)) (hl : l.length ≤ 64) (k m : Nat) (hm : 400 ≤ m) (h : ∀ k, (y.U k).length ≤ m) : ((sendsP y to l).U k).length ≤ m := by
  unfold sendsP
  split
  · show (upd y.U _ _ k).length ≤ _
    by_cases e : k = to
    · subst e; rw [upd_at, List.length_append]; omega
    · rw [upd_ne _ _ e]; exact h k
  · exact h k
theorem put_len1 (l : Lk) (n : Note) : (putP l n).2.1.length ≤ 64 := by
  unfold putP
  split
  · simp
  · split
    · simp
    · split <;> simp
theorem does_u (x : Ln) (n : Nat) (m : Nat) (hm : 400 ≤ m) (h : ∀ k, (x.U k).length ≤ m) : ∀ k, ((doesP x n).U k).length ≤ m := by
  have hless : ∀ a b k, ((lessP x a b).U k).length ≤ m := fun a b k => by
    show (upd x.U _ _ k).length ≤ _
    by_cases e : k = a
    · subst e; rw [upd_at, List.length_append, List.length_take, List.length_drop]
      have := h k; omega
    · rw [upd_ne _ _ e]; exact h k
  have hc : ∀ (a b : Nat) (tw : Bool) k, ((comesP x a b tw).U k).length ≤ m := fun a b tw k => by
    unfold comesP
    split
    · exact h k
    · unfold takesP
      refine sends_u _ _ _ (by have := (take_out ((if tw then x else lessP x a (b % (x.U a).length)).E a) ((x.U a).getD (b % (x.U a).length) [])).2.1; omega) k m hm (fun k => ?_)
      cases tw
      · exact hless _ _ k
      · exact h k
  intro k
  unfold doesP
  split
  · unfold putsP
    exact sends_u _ _ _ (put_len1 _ _) k m hm h
  · split
    · exact hc _ _ _ k
    · split
      · exact hc _ _ _ k
      · split
        · show (upd x.U _ _ k).length ≤ _
          by_cases e : k = n % 2
          · subst e; rw [upd_at, List.length_drop]; have := h (n % 2); omega
          · rw [upd_ne _ _ e]; exact h k
        · unfold ticksP
          exact sends_u _ _ _ (by have := ticks_len (x.E (n % 2)); omega) k m hm h
theorem and20 (x : Int) (K : V → Res) : A.bin .and (.int .i64 x) (.int .i64 1048575) K = K (.int .i64 (low 1048576 x : Nat)) := bin_andN 20 1048575 rfl (by decide) K
theorem order_loop {ep : Nat → Nat} (ks : List Int) {lid : Nat} {ii : Nat → Nat} (hlen : ks.length ≤ 9223372036854775807) : ∀ (f i : Nat) (ts : Nat → Nat) (x : Ln) (st : St), i ≤ 250 → 250 < f + i → i ≤ ks.length → Good ep x → LnAt st lid ii ts x → (∀ k, x.P k ≤ i) → (∀ k, (x.U k).length ≤ 400) →
    ∃ st', g4bz3e f (.lst (intsV ks) 0) (.ptr lid 0) (.int .i64 (i : Nat)) st = some (.ret (.bool true), st') := by
  intro f
  induction f with
  | zero => intro i ts x st hi hf; omega
  | succ f ih =>
    intro i ts x st hi hf hik g h hp hu
    unfold g4bz3e
    by_cases h1 : i < ks.length
    · by_cases h2 : i < 250
      · have hl := low_lt 1048576 ks[i] (by omega)
        obtain ⟨st1, ts1, r1, r2, r3⟩ := does_s g (fun k => by have := hp k; omega) (fun k => by have := hu k; omega) (low 1048576 ks[i]) hl h
        have e4 : ∀ K, A.bin .add (.int .i64 (i : Nat)) (.int .i64 1) K = K (.int .i64 ((i + 1 : Nat) : Int)) := fun K => bin_inc (by omega) K
        simp only [lenL_lst, intsV_len, bin_lss, show ((i : Int) < (ks.length : Int)) from by omega, decide_true, guard_tt, show ((i : Int) < 250) from by omega, cond_true]
        unfold g4bzdl
        simp only [iaddr_ints _ h1, load_l1', and20, er1_ptr, er1_int, r1, ret_ret, right_s r3 r2, un_not, Bool.not_true, cond_false, e4]
        exact ih (i + 1) ts1 _ st1 (by omega) (by omega) (by omega) r3 r2 (fun k => by have := does_p x (low 1048576 ks[i]) k; have := hp k; omega) (does_u x _ 400 (by omega) hu)
      · simp only [lenL_lst, intsV_len, bin_lss, show ((i : Int) < (ks.length : Int)) from by omega, decide_true, guard_tt, show ¬ ((i : Int) < 250) from by omega, decide_false, cond_false, s11_val, ret_ret, er1_bool]
        exact ⟨_, rfl⟩
    · simp only [lenL_lst, intsV_len, bin_lss, show ¬ ((i : Int) < (ks.length : Int)) from by omega, decide_false, guard_ft, s11_val, ret_ret, er1_bool]
      exact ⟨_, rfl⟩
theorem linkOrder_law (epochs : Int) (ks : List Int) (hlen : ks.length ≤ 9223372036854775807) (st : St) : ∃ st', s4 [.int .i64 epochs, .lst (intsV ks) 0] st = some (.ret (.bool true), st') := by
  rw [s4_eq]
  unfold f4
  obtain ⟨ep, st1, lid, ii, ts, q1, q2, q3⟩ := begun_s epochs st
  obtain ⟨l0, l1, l2, l3, l4⟩ := q2.o.ld (show 0 < 2 by omega)
  simp only [er1_int, q1, ret_ret, nilc_ptr, faddr_ptr, Nat.zero_add, l4, un_not, Bool.not_true, cond_false]
  unfold g4b11101
  exact order_loop ks hlen big 0 ts _ st1 (by omega) (lt_big (by omega)) (by omega) q3 q2 (fun k => by simp [beginP]) (fun k => by simp [beginP])
theorem linkOrder_row {W : World} {v0 v1 : Value} {x0 x1 : V} {n0 n1 : Nat}
    (r0 : Rs (E0 W) [x0] [v0]) (s0 : Sh Try.prog n0 3 x0.cells) (f0 : fit Try.prog 3 x0)
    (r1 : Rs (E0 W) [x1] [v1]) (s1 : Sh Try.prog n1 33 x1.cells) (f1 : fit Try.prog 33 x1) :
    Calls Try.prog 4 #[v0, v1] W fun e w' => e = .returned (.bool true) ∧ Below W.heap.size W w' := by
  obtain ⟨k, rfl, _⟩ := in_int s0 f0 Try.underlying3
  obtain ⟨ks, rfl, h1, _⟩ := in_ints s1 f1 Try.underlying33 Try.underlying3
  obtain ⟨st', hs⟩ := linkOrder_law k ks h1 St0
  exact bool_row sim4 W _ _ _ hs (Rs.cons r0 r1)
end Go.Ab
