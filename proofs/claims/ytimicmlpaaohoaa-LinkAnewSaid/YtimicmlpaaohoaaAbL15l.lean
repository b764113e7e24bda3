import Derived.Test.YtimicmlpaaohoaaAbL15merged0
/- sinewlaw15.LinkAnew. -/
namespace Go.Ab
open Go.Proofs Go.RowKit Go.Oct
set_option linter.unusedVariables false
set_option linter.unusedSimpArgs false
set_option maxRecDepth 100000
theorem and15 (x : Int) (K : V → Res) : A.bin .and (.int .i64 x) (.int .i64 15) K = K (.int .i64 (low 16 x : Nat)) := bin_andN 4 15 rfl (by decide) K
/-- What came is looked at. -/
theorem anew_got (L : V → V → V → V → V → V → V → V → St → Res) (x2 x7 x11 x14 x16 x20 x22 : V) (v g0 : Nat) (out : List Note) (hout : ∀ i (h : i < out.length), out[i] = payN 7 (g0 + i)) (hg : g0 + out.length ≤ 1000) (st : St) :
    ∀ (f i : Nat), i ≤ out.length → out.length < f + i → g6bz27wot6 L f x2 x7 x11 x14 x16 x20 (.int .i64 (g0 + i : Nat)) x22 (.lst (notesV out) v) (.int .i64 (i : Nat)) st = g6bzjz67b L x2 x7 x11 x14 x16 x20 (.int .i64 (g0 + out.length : Nat)) x22 st := by
  intro f
  induction f with
  | zero => intro i hi hf; omega
  | succ f ih =>
    intro i hi hf
    unfold g6bz27wot6
    by_cases hlt : i < out.length
    · have ia : ∀ K, A.iaddr 4 (.lst (notesV out) v) (.int .i64 (i : Nat)) K = K (.lptr (noteC (payN 7 (g0 + i)))) := fun K => by rw [iaddr_notes v hlt, hout i hlt]
      have k0 : ∀ K, (A.faddr 0 (.lptr (noteC (payN 7 (g0 + i)))) fun a10 => A.load false 1 a10 st K) = K (.int .i64 7) st := fun K => rfl
      have k1 : ∀ K, (A.faddr 1 (.lptr (noteC (payN 7 (g0 + i)))) fun a10 => A.load false 1 a10 st K) = K (.lst (intsV [((g0 + i : Nat) : Int)]) 0) st := fun K => rfl
      have i0 : ∀ K, A.iaddr 1 (.lst (intsV [((g0 + i : Nat) : Int)]) 0) (.int .i64 0) K = K (.lptr [.int .i64 ((g0 + i : Nat) : Int)]) := fun K => rfl
      have nl : (intsV [((g0 + i : Nat) : Int)]).length = 1 := rfl
      have e4 : ∀ K, A.bin .add (.int .i64 (i : Nat)) (.int .i64 1) K = K (.int .i64 ((i + 1 : Nat) : Int)) := fun K => bin_inc (by omega) K
      have e5 : ∀ K, A.bin .add (.int .i64 (g0 + i : Nat)) (.int .i64 1) K = K (.int .i64 ((g0 + (i + 1) : Nat) : Int)) := fun K => bin_inc (by omega) K
      simp only [lenL_lst, notesV_len, bin_lss, show ((i : Int) < (out.length : Int)) from by omega, decide_true, cond_true, ia, k0, eql_int, if_true, bne_self_eq_false]
      unfold g6bz3y243v4_7
      simp only [guard_ff, ia, k1, lenL_lst, nl, eql_int, if_true, show (((1 : Nat) : Int) != 1) = false from rfl]
      unfold g6bz3y243v4_16
      simp only [guard_ff, ia, k1, i0, load_l1', eql_int, if_true, bne_self_eq_false, cond_false, e4, e5]
      exact ih (i + 1) (by omega) (by omega)
    · have : i = out.length := by omega
      subst this
      simp only [lenL_lst, notesV_len, bin_lss, Int.lt_irrefl, decide_false, cond_false]
theorem anew_round {X Y : Nat} (hX : X ≤ 1000000000000) (h1X : 1 ≤ X) (hy : 1 ≤ Y) (hY : Y + 64 ≤ 1000000000000) {ic tc ia ta r g0 told : Nat} {C A0 C' A' : Lk} {out : List Note} {an : Bool} (hcp : carryP C A0 = (C', A', out, an)) (hNC : LkN C X Y) (hNA : LkN A0 X Y)
    (hout : ∀ i (h : i < out.length), out[i] = payN 7 (g0 + i)) (hg : g0 + out.length ≤ 1000) (late : Int) (old : List (List UInt8)) (hol : 0 < old.length) (hol2 : old.length ≤ 1000) (holl : ∀ s ∈ old, s.length ≤ 1048584) (hold : ∀ s ∈ old, takeP A' s = (A', [], [], false)) (hr : r < 4) (ht : told ≤ 10) (x14 : V) (f : Nat) {st : St} (h : Two st ic tc C ia ta A0) :
    ∃ st' tc' ta', g6bz5m9m (f + 1) (.int .i64 late) (.ptr ia 0) (.ptr ic 0) x14 (.lst (strsV old) 0) (.int .i64 (told : Nat)) (.int .i64 (g0 : Nat)) (.int .i64 (r : Nat)) st = g6bz5m9m f (.int .i64 late) (.ptr ia 0) (.ptr ic 0) x14 (.lst (strsV old) 0) (.int .i64 ((if an then told + 1 else told : Nat) : Int)) (.int .i64 (g0 + out.length : Nat)) (.int .i64 ((r + 1 : Nat) : Int)) st' ∧ Two st' ic tc' C' ia ta' A' := by
  rw [g6bz5m9m]
  obtain ⟨st1, tc1, ta1, v, q1, q2, q3⟩ := carry_s hX h1X hy hY hNC hNA h
  rw [hcp] at q1 q2
  have e4 : ∀ K, A.bin .add (.int .i64 (r : Nat)) (.int .i64 1) K = K (.int .i64 ((r + 1 : Nat) : Int)) := fun K => bin_inc (by omega) K
  have e5 : ∀ K, A.bin .add (.int .i64 (told : Nat)) (.int .i64 1) K = K (.int .i64 ((told + 1 : Nat) : Int)) := fun K => bin_inc (by omega) K
  have hmod := Nat.mod_lt (low 65536 late) hol
  have er : ∀ K, A.bin .rem (.int .i64 (low 65536 late : Nat)) (.int .i64 (old.length : Nat)) K = K (.int .i64 ((low 65536 late % old.length : Nat) : Int)) := fun K => bin_remN _ _ K hol
  have hmem := List.getElem_mem hmod
  have hla := hold _ hmem
  obtain ⟨st2, ta2, r1, r2, r3, r4⟩ := q2.swap.take old[low 65536 late % old.length] (by have := holl _ hmem; omega) (by rw [hla]; exact q2.ob)
  rw [hla] at r1 r2
  have kk : Two ((st2.new (.cells (cC [] 1 [] 1 false))).put st2.n (.cells (cC [] 0 [] 0 false))) ia ta2 A' ic tc1 C' :=
    r2.kp (by simp) (fun j hj => by rw [put_ne _ _ (by omega), new_ne _ _ (by omega)]) rfl rfl
  have oc := put_at (st2.new (.cells (cC [] 1 [] 1 false))) st2.n (.cells (cC [] 0 [] 0 false))
  have tail : ∀ t : Nat, ∃ st' tc' ta', g6bz9zl3n (g6bz5m9m f) (.int .i64 late) (.ptr ia 0) (.ptr ic 0) x14 (.lst (strsV old) 0) (.int .i64 (t : Nat)) (.int .i64 (g0 : Nat)) (.int .i64 (r : Nat)) (.lst (notesV out) v) st1 = g6bz5m9m f (.int .i64 late) (.ptr ia 0) (.ptr ic 0) x14 (.lst (strsV old) 0) (.int .i64 (t : Nat)) (.int .i64 (g0 + out.length : Nat)) (.int .i64 ((r + 1 : Nat) : Int)) st' ∧ Two st' ic tc' C' ia ta' A' := by
    intro t
    unfold g6bz9zl3n
    have hh := anew_got (g6bz5m9m f) (.int .i64 late) (.ptr ia 0) (.ptr ic 0) x14 (.lst (strsV old) 0) (.int .i64 (t : Nat)) (.int .i64 (r : Nat)) v g0 out hout hg st1 big 0 (by omega) (lt_big (by omega))
    rw [Nat.add_zero, Int.natCast_zero] at hh
    rw [hh]
    unfold g6bzjz67b
    simp only [bin_and65535, lenL_lst, strsV_len, er, iaddr_strs 0 hmod, load_l1', er1_ptr, er1_str, r1, ret_ret, came_box]
    generalize (st2.new (.cells (cC [] 1 [] 1 false))).put st2.n (.cells (cC [] 0 [] 0 false)) = st3 at kk oc
    generalize st2.n = c at oc
    obtain ⟨c0, c1, c2⟩ := came_ld oc
    have nl0 : (notesV []).length = 0 := rfl
    have sl0 : (strsV []).length = 0 := rfl
    unfold g6bz13ycen
    have z0 : ∀ K, A.bin .add (.int .i64 ((0 : Nat) : Int)) (.int .i64 ((0 : Nat) : Int)) K = K (.int .i64 0) := fun K => rfl
    simp only [faddr_ptr, Nat.zero_add, c0, c1, c2, lenL_lst, nl0, sl0, z0, bin_gtr, Int.lt_irrefl, decide_false, guard_ff, cond_false, e4]
    exact ⟨st3, tc1, ta2, rfl, kk.swap⟩
  simp only [bin_lss, show ((r : Int) < 4) from by omega, decide_true, cond_true, er1_ptr, q1, ret_ret, ext_0, ext_1]
  cases an with
  | true => simp only [cond_true, e5, if_true]; exact tail (told + 1)
  | false => simp only [cond_false, Bool.false_eq_true, if_false]; exact tail told
/-- The ends in the rounds. -/
def anC (m : Nat) : Lk := ⟨4, 0, 1, 1, paysQ 7 m⟩
theorem anew_late {A' : Lk} {n : Nat} (hn : n ≤ 64) (ho : A'.other = 4) : ∀ s ∈ tickP ⟨3, 1, 1, 1, paysQ 5 n⟩, takeP A' s = (A', [], [], false) := by
  intro s hs
  unfold tickP at hs
  obtain ⟨k, hk, rfl⟩ := List.mem_map.1 hs
  have hk := List.mem_range.1 hk
  have hl := paysQ_len 5 n
  have hk2 : k < n := by simp only [hl] at hk; omega
  obtain ⟨a, b, c, d⟩ := pay_ok 5 k (by omega) (by omega) (by omega)
  have okf : LkOK (⟨3, 1, 1, 1, paysQ 5 n⟩ : Lk) := ⟨by simp, by simp, by simp, by simp, by simp, by show (paysQ 5 n).length ≤ _; omega⟩
  refine take_late ?_
  rw [(rd_pk1 okf (k := k) (by show k < (paysQ 5 n).length; omega) (m := payN 5 k) (by have := paysQ_at 5 n 0 k (by omega); rw [List.drop_zero, Nat.zero_add] at this; exact this) b c (by omega)).2, ho]
  show 3 < max 4 1
  omega
theorem anew_end {m : Nat} {ic tc ia ta : Nat} {st : St} (h : Two st ic tc ⟨4, 1, 1 + m, 1, []⟩ ia ta ⟨1, 4, 1, 1 + m, []⟩) :
    ∃ st', g6bz1ekf (.ptr ia 0) (.ptr ic 0) (.int .i64 (m : Nat)) (.int .i64 1) (.int .i64 (m : Nat)) st = some (.ret (.bool true), st') := by
  have w1 := lwaits_s h.pa h.oa.e1
  have w2 := lwaits_s h.pb h.ob.e1
  have w3 := lother_s h.pb h.ob.e1
  have ql : (([] : List (List UInt8)).length : Nat) = 0 := rfl
  simp only [ql, Int.natCast_zero] at w1 w2
  unfold g6bz1ekf
  simp only [eql_int, Bool.false_eq_true, if_false, beq_self_eq_true, guard_tt]
  unfold g6bz2t4u_8
  simp only [guard_tt, er1_ptr, w2, w3, ret_ret, eql_int, Bool.false_eq_true, if_false, beq_self_eq_true, show ((((4 : Nat) : Int)) == 4) = true from rfl]
  unfold g6bz2t4u_18
  simp only [guard_tt, er1_ptr, w1, ret_ret, eql_int, Bool.false_eq_true, if_false, beq_self_eq_true, s11_val, er1_bool]
  exact ⟨_, rfl⟩
theorem anew_rounds {n m : Nat} (hn1 : 1 ≤ n) (hn : n ≤ 64) (hm1 : 1 ≤ m) (hm : m ≤ 64) (late : Int) {ic tc ia ta : Nat} {st : St} (h : Two st ic tc ⟨4, 0, 1, 1, paysQ 7 m⟩ ia ta ⟨1, 3, 1, 1 + n, paysQ 6 n⟩) :
    ∃ st', g6bz6bj (.int .i64 late) (.ptr ia 0) (.ptr ic 0) (.int .i64 (m : Nat)) (.lst (strsV (tickP ⟨3, 1, 1, 1, paysQ 5 n⟩)) 0) st = some (.ret (.bool true), st') := by
  have l5 := paysQ_len 5 n
  have l6 := paysQ_len 6 n
  have l7 := paysQ_len 7 m
  have tl : (tickP ⟨3, 1, 1, 1, paysQ 5 n⟩).length = n := by unfold tickP; rw [List.length_map, List.length_range]; simp only [l5]; omega
  have holl : ∀ s ∈ tickP ⟨3, 1, 1, 1, paysQ 5 n⟩, s.length ≤ 1048584 := fun x hx => by
    unfold tickP at hx
    obtain ⟨k, _, rfl⟩ := List.mem_map.1 hx
    exact pkt_len _
  unfold g6bz6bj
  obtain ⟨f, hf⟩ : ∃ f, big = f + 1 + 1 + 1 + 1 + 1 := ⟨big - 5, by have := big_le; omega⟩
  rw [hf]
  have c0 : carryP ⟨4, 0, 1, 1, paysQ 7 m⟩ ⟨1, 3, 1, 1 + n, paysQ 6 n⟩ = (⟨4, 1, 1, 1, paysQ 7 m⟩, freshP ⟨1, 3, 1, 1 + n, paysQ 6 n⟩ 4, [], true) := carry_hello (ex := 4) (n := m) (kd := 7) (t0 := ⟨1, 3, 1, 1 + n, paysQ 6 n⟩) (by omega) (by omega) hm1 hm (by show 3 < 4; omega) (by omega) h.ob (by show 1 ≤ 1000; omega)
  have f0 : freshP ⟨1, 3, 1, 1 + n, paysQ 6 n⟩ 4 = ⟨1, 4, 1, 1, []⟩ := by unfold freshP; simp
  rw [f0] at c0
  have c1 : carryP ⟨4, 1, 1, 1, paysQ 7 m⟩ ⟨1, 4, 1, 1, []⟩ = (⟨4, 1, 1 + m, 1, []⟩, ⟨1, 4, 1, 1 + m, []⟩, (List.range m).map (payN 7), false) := carry_flow (ex := 4) (et := 1) (ft := 1) (n := m) (kd := 7) (Qt := []) (by omega) (by omega) hm (by omega) (by omega) (by omega) (by omega) (by omega) (by omega) (by simp)
  have nn : ∀ {l : Lk} {X Y : Nat}, LkOK l → l.first + l.q.length ≤ X → l.want ≤ Y → LkN l X Y := fun a b c => ⟨a, b, c⟩
  obtain ⟨st1, tc1, ta1, p1, h1⟩ := anew_round (X := 1000) (Y := 1000) (by omega) (by omega) (by omega) (by omega) (r := 0) (g0 := 0) (told := 0) c0 (nn h.oa (by show 1 + (paysQ 7 m).length ≤ _; omega) (by show 1 ≤ 1000; omega)) (nn h.ob (by show 1 + (paysQ 6 n).length ≤ _; omega) (by show 1 + n ≤ 1000; omega)) (by simp) (by simp) late _ (by omega) (by omega) holl (anew_late hn rfl) (by omega) (by omega) (.int .i64 (m : Nat)) (f + 1 + 1 + 1 + 1) h
  obtain ⟨st2, tc2, ta2, p2, h2⟩ := anew_round (X := 1000) (Y := 1000) (by omega) (by omega) (by omega) (by omega) (r := 1) (g0 := 0) (told := 1) c1 (nn h1.oa (by show 1 + (paysQ 7 m).length ≤ _; omega) (by show 1 ≤ 1000; omega)) (nn h1.ob (by show 1 + 0 ≤ _; omega) (by show 1 ≤ 1000; omega)) (by intro i hi; simp) (by simp; omega) late _ (by omega) (by omega) holl (anew_late hn rfl) (by omega) (by omega) (.int .i64 (m : Nat)) (f + 1 + 1 + 1) h1
  obtain ⟨st3, tc3, ta3, p3, h3⟩ := anew_round (X := 1000) (Y := 1000) (by omega) (by omega) (by omega) (by omega) (r := 2) (g0 := m) (told := 1) (carry_none (t := ⟨1, 4, 1, 1 + m, []⟩) (f := ⟨4, 1, 1 + m, 1, []⟩) rfl) (nn h2.oa (by show 1 + m + 0 ≤ _; omega) (by show 1 ≤ 1000; omega)) (nn h2.ob (by show 1 + 0 ≤ _; omega) (by show 1 + m ≤ 1000; omega)) (by simp) (by simp; omega) late _ (by omega) (by omega) holl (anew_late hn rfl) (by omega) (by omega) (.int .i64 (m : Nat)) (f + 1 + 1) h2
  obtain ⟨st4, tc4, ta4, p4, h4⟩ := anew_round (X := 1000) (Y := 1000) (by omega) (by omega) (by omega) (by omega) (r := 3) (g0 := m) (told := 1) (carry_none (t := ⟨1, 4, 1, 1 + m, []⟩) (f := ⟨4, 1, 1 + m, 1, []⟩) rfl) (nn h3.oa (by show 1 + m + 0 ≤ _; omega) (by show 1 ≤ 1000; omega)) (nn h3.ob (by show 1 + 0 ≤ _; omega) (by show 1 + m ≤ 1000; omega)) (by simp) (by simp; omega) late _ (by omega) (by omega) holl (anew_late hn rfl) (by omega) (by omega) (.int .i64 (m : Nat)) (f + 1) h3
  simp only [if_true, Int.natCast_zero, Nat.zero_add, List.length_nil] at p1
  simp only [Int.natCast_zero, Nat.zero_add, Bool.false_eq_true, if_false, List.length_map, List.length_range] at p2
  simp only [Bool.false_eq_true, if_false, List.length_nil, Nat.add_zero] at p3 p4
  rw [p1]
  rw [p2, p3, p4, g6bz5m9m]
  simp only [bin_lss, show ¬ (((3 + 1 : Nat) : Int) < 4) from by omega, decide_false, cond_false]
  exact anew_end h4
theorem anew_cputs {n m : Nat} (hn1 : 1 ≤ n) (hn : n ≤ 64) (hm1 : 1 ≤ m) (hm : m ≤ 64) (late : Int) (ic ia : Nat) : ∀ (f i tc ta : Nat) (st : St), i ≤ m → m < f + i → Two st ic tc ⟨4, 0, 1, 1, paysQ 7 i⟩ ia ta ⟨1, 3, 1, 1 + n, paysQ 6 n⟩ →
    ∃ st', g6bzpa2 f (.int .i64 late) (.ptr ia 0) (.ptr ic 0) (.int .i64 (m : Nat)) (.lst (strsV (tickP ⟨3, 1, 1, 1, paysQ 5 n⟩)) 0) (.int .i64 (i : Nat)) st = some (.ret (.bool true), st') := by
  intro f
  induction f with
  | zero => intro i tc ta st hi hf; omega
  | succ f ih =>
    intro i tc ta st hi hf h
    unfold g6bzpa2
    by_cases hlt : i < m
    · have e4 : ∀ K, A.bin .add (.int .i64 (i : Nat)) (.int .i64 1) K = K (.int .i64 ((i + 1 : Nat) : Int)) := fun K => bin_inc (by omega) K
      obtain ⟨p1, p2, p3, p4⟩ := pay_ok 7 i (by omega) (by omega) (by omega)
      have hl := paysQ_len 7 i
      have hP := put_pay (l := ⟨4, 0, 1, 1, paysQ 7 i⟩) p2 (by omega) (by show (paysQ 7 i).length < _; omega)
      have hu : (⟨4, 0, 1, 1, paysQ 7 i ++ [packB (payN 7 i)]⟩ : Lk) = ⟨4, 0, 1, 1, paysQ 7 (i + 1)⟩ := by rw [paysQ_snoc]
      simp only [hu] at hP
      have hl' := paysQ_len 7 (i + 1)
      obtain ⟨st1, tc1, q1, q2, q3⟩ := h.put (payN 7 i) p1 (by rw [hP]; exact ⟨by simp, by simp, by simp, by simp, by simp, by show (paysQ 7 (i + 1)).length ≤ _; omega⟩)
      rw [hP] at q1 q2
      have bl : ∀ K, (A.bslice 1 (.int .i64 0) 1 [(0, .int .i64 (i : Nat))] fun a2 => A.build [.int .i64 0, .lst [] 1, .lst [] 1, .lst [] 1] [(0, 1, .int .i64 7), (1, 1, a2)] K) = K (.agg (nC 7 [(i : Int)] 2 [] 1 [] 1)) := fun K => rfl
      have be : (V.agg (nC 7 [(i : Int)] 2 [] 1 [] 1)).er1 = noteV (payN 7 i) := rfl
      simp only [bin_lss, show ((i : Int) < (m : Int)) from by omega, decide_true, cond_true, bl, er1_ptr, be, q1, ret_ret, ext_0, ext_1, eql_int, if_true, Int.natCast_zero, bne_self_eq_false, cond_false, e4]
      exact ih (i + 1) tc1 ta st1 (by omega) (by omega) q2
    · have : i = m := by omega
      subst this
      simp only [bin_lss, Int.lt_irrefl, decide_false, cond_false]
      exact anew_rounds hn1 hn hm1 hm late h
theorem anew_mid {n m : Nat} (hn1 : 1 ≤ n) (hn : n ≤ 64) (hm1 : 1 ≤ m) (hm : m ≤ 64) (late : Int) (ia ib ic ta tb : Nat) (st : St) (h : Two st ib tb ⟨3, 0, 1, 1, paysQ 5 n⟩ ia ta ⟨1, 0, 1, 1, paysQ 6 n⟩) (hc : st.ob ic = some (.cells (lkC (newP 4) 1))) (hcl : ic < st.n) (ha : ic ≠ ia) (hb : ic ≠ ib) :
    ∃ st', g6bz73 (.int .i64 late) (.ptr ia 0) (.ptr ib 0) (.ptr ic 0) (.int .i64 (m : Nat)) st = some (.ret (.bool true), st') := by
  have l5 := paysQ_len 5 n
  have l6 := paysQ_len 6 n
  have c0 : carryP ⟨3, 0, 1, 1, paysQ 5 n⟩ ⟨1, 0, 1, 1, paysQ 6 n⟩ = (⟨3, 1, 1, 1, paysQ 5 n⟩, freshP ⟨1, 0, 1, 1, paysQ 6 n⟩ 3, [], false) := carry_hello (ex := 3) (n := n) (kd := 5) (t0 := ⟨1, 0, 1, 1, paysQ 6 n⟩) (by omega) (by omega) hn1 hn (by show 0 < 3; omega) (by omega) h.ob (by show 1 ≤ 1000; omega)
  have f0 : freshP ⟨1, 0, 1, 1, paysQ 6 n⟩ 3 = ⟨1, 3, 1, 1, paysQ 6 n⟩ := by unfold freshP; simp
  rw [f0] at c0
  have c1 : carryP ⟨3, 1, 1, 1, paysQ 5 n⟩ ⟨1, 3, 1, 1, paysQ 6 n⟩ = (⟨3, 1, 1 + n, 1, []⟩, ⟨1, 3, 1, 1 + n, paysQ 6 n⟩, (List.range n).map (payN 5), false) := carry_flow (ex := 3) (et := 1) (ft := 1) (n := n) (kd := 5) (Qt := paysQ 6 n) (by omega) (by omega) hn (by omega) (by omega) (by omega) (by omega) (by omega) (by omega) (by omega)
  obtain ⟨st1, tb1, ta1, v1, q1, q2, q3⟩ := carry_s (X := 1000) (Y := 1000) (by omega) (by omega) (by omega) (by omega) ⟨h.oa, by show 1 + (paysQ 5 n).length ≤ _; omega, by show 1 ≤ 1000; omega⟩ ⟨h.ob, by show 1 + (paysQ 6 n).length ≤ _; omega, by show 1 ≤ 1000; omega⟩ h
  rw [c0] at q1 q2
  obtain ⟨st2, tb2, ta2, v2, r1, r2, r3⟩ := carry_s (X := 1000) (Y := 1000) (by omega) (by omega) (by omega) (by omega) ⟨q2.oa, by show 1 + (paysQ 5 n).length ≤ _; omega, by show 1 ≤ 1000; omega⟩ ⟨q2.ob, by show 1 + (paysQ 6 n).length ≤ _; omega, by show 1 ≤ 1000; omega⟩ q2
  rw [c1] at r1 r2
  have tl : (tickP ⟨3, 1, 1, 1, paysQ 5 n⟩).length = n := by unfold tickP; rw [List.length_map, List.length_range]; simp only [l5]; omega
  have n0 : ¬ ((n : Int) = 0) := by omega
  unfold g6bz73
  simp only [er1_ptr, q1, ret_ret, ltick_s q2.pa q2.oa, lenL_lst, strsV_len, tl, eql_int, Bool.false_eq_true, if_false, beq_eq_false_iff_ne.2 n0, cond_false, r1]
  unfold g6bz35r
  have hob : st2.ob ic = some (.cells (lkC (newP 4) 1)) := by
    rw [r3.ob ic (by have := q3.n; omega) hb ha, q3.ob ic hcl hb ha]; exact hc
  exact anew_cputs hn1 hn hm1 hm late ic ia big 0 1 ta2 st2 (by omega) (lt_big (by omega)) ⟨⟨hob, by have := q3.n; have := r3.n; omega, .inl rfl⟩, r2.pb, newP_ok (by omega) (by omega), r2.ob, ha, .inl (by omega)⟩
theorem anew_puts {n m : Nat} (hn1 : 1 ≤ n) (hn : n ≤ 64) (hm1 : 1 ≤ m) (hm : m ≤ 64) (late : Int) (ia ib ic : Nat) (ha : ic ≠ ia) (hb : ic ≠ ib) : ∀ (f i ta tb : Nat) (st : St), i ≤ n → n < f + i → Two st ib tb ⟨3, 0, 1, 1, paysQ 5 i⟩ ia ta ⟨1, 0, 1, 1, paysQ 6 i⟩ → st.ob ic = some (.cells (lkC (newP 4) 1)) → ic < st.n →
    ∃ st', g6bzsa f (.int .i64 late) (.ptr ia 0) (.ptr ib 0) (.ptr ic 0) (.int .i64 (n : Nat)) (.int .i64 (m : Nat)) (.int .i64 (i : Nat)) st = some (.ret (.bool true), st') := by
  intro f
  induction f with
  | zero => intro i ta tb st hi hf; omega
  | succ f ih =>
    intro i ta tb st hi hf h hc hcl
    unfold g6bzsa
    by_cases hlt : i < n
    · have e4 : ∀ K, A.bin .add (.int .i64 (i : Nat)) (.int .i64 1) K = K (.int .i64 ((i + 1 : Nat) : Int)) := fun K => bin_inc (by omega) K
      obtain ⟨p1, p2, p3, p4⟩ := pay_ok 5 i (by omega) (by omega) (by omega)
      have hl := paysQ_len 5 i
      have hP := put_pay (l := ⟨3, 0, 1, 1, paysQ 5 i⟩) p2 (by omega) (by show (paysQ 5 i).length < _; omega)
      have hu : (⟨3, 0, 1, 1, paysQ 5 i ++ [packB (payN 5 i)]⟩ : Lk) = ⟨3, 0, 1, 1, paysQ 5 (i + 1)⟩ := by rw [paysQ_snoc]
      simp only [hu] at hP
      have hl' := paysQ_len 5 (i + 1)
      obtain ⟨st1, tb1, q1, q2, q3⟩ := h.put (payN 5 i) p1 (by rw [hP]; exact ⟨by simp, by simp, by simp, by simp, by simp, by show (paysQ 5 (i + 1)).length ≤ _; omega⟩)
      rw [hP] at q1 q2
      obtain ⟨p1', p2', p3', p4'⟩ := pay_ok 6 i (by omega) (by omega) (by omega)
      have hl2 := paysQ_len 6 i
      have hP2 := put_pay (l := ⟨1, 0, 1, 1, paysQ 6 i⟩) p2' (by omega) (by show (paysQ 6 i).length < _; omega)
      have hu2 : (⟨1, 0, 1, 1, paysQ 6 i ++ [packB (payN 6 i)]⟩ : Lk) = ⟨1, 0, 1, 1, paysQ 6 (i + 1)⟩ := by rw [paysQ_snoc]
      simp only [hu2] at hP2
      have hl2' := paysQ_len 6 (i + 1)
      obtain ⟨st2, ta2, r1, r2, r3⟩ := q2.swap.put (payN 6 i) p1' (by rw [hP2]; exact ⟨by simp, by simp, by simp, by simp, by simp, by show (paysQ 6 (i + 1)).length ≤ _; omega⟩)
      rw [hP2] at r1 r2
      have bl : ∀ K, (A.bslice 1 (.int .i64 0) 1 [(0, .int .i64 (i : Nat))] fun a2 => A.build [.int .i64 0, .lst [] 1, .lst [] 1, .lst [] 1] [(0, 1, .int .i64 5), (1, 1, a2)] K) = K (.agg (nC 5 [(i : Int)] 2 [] 1 [] 1)) := fun K => rfl
      have bl6 : ∀ K, (A.bslice 1 (.int .i64 0) 1 [(0, .int .i64 (i : Nat))] fun a2 => A.build [.int .i64 0, .lst [] 1, .lst [] 1, .lst [] 1] [(0, 1, .int .i64 6), (1, 1, a2)] K) = K (.agg (nC 6 [(i : Int)] 2 [] 1 [] 1)) := fun K => rfl
      have be : (V.agg (nC 5 [(i : Int)] 2 [] 1 [] 1)).er1 = noteV (payN 5 i) := rfl
      have be6 : (V.agg (nC 6 [(i : Int)] 2 [] 1 [] 1)).er1 = noteV (payN 6 i) := rfl
      simp only [bin_lss, show ((i : Int) < (n : Int)) from by omega, decide_true, cond_true, bl, bl6, er1_ptr, be, be6, q1, r1, ret_ret, e4]
      exact ih (i + 1) ta2 tb1 st2 (by omega) (by omega) r2.swap (by rw [r3.ob ic (by have := q3.n; omega) ha, q3.ob ic hcl hb]; exact hc) (by have := q3.n; have := r3.n; omega)
    · have : i = n := by omega
      subst this
      simp only [bin_lss, Int.lt_irrefl, decide_false, cond_false]
      exact anew_mid hn1 hn hm1 hm late ia ib ic ta tb st h hc hcl ha hb
theorem linkAnew_law (ahead behind late : Int) (st : St) : ∃ st', s6 [.int .i64 ahead, .int .i64 behind, .int .i64 late] st = some (.ret (.bool true), st') := by
  rw [s6_eq]
  unfold f6
  rw [show (V.int .i64 1).er1 = .int .i64 ((1 : Nat) : Int) from rfl, show (V.int .i64 3).er1 = .int .i64 ((3 : Nat) : Int) from rfl]
  simp only [lnew_s 1 (by omega) (by omega), lnew_s 3 (by omega) (by omega), ret_ret, ext_0, ext_1, new_n]
  unfold g6b111
  rw [show (V.int .i64 4).er1 = .int .i64 ((4 : Nat) : Int) from rfl]
  simp only [lnew_s 4 (by omega) (by omega), ret_ret, ext_0, ext_1, new_n, eql_int, if_true, bne_self_eq_false, guard_ff]
  unfold g6bz3g_7
  simp only [eql_int, if_true, bne_self_eq_false, guard_ff, eql_ptr]
  unfold g6bz3g_15
  simp only [guard_ff, eql_ptr, cond_false]
  unfold g6b11111
  have a1 : ∀ K, A.bin .add (.int .i64 1) (.int .i64 (low 16 ahead : Nat)) K = K (.int .i64 ((1 + low 16 ahead : Nat) : Int)) := fun K => bin_addN 1 (low 16 ahead) K (by have := low_lt 16 ahead (by omega); omega)
  have a2 : ∀ K, A.bin .add (.int .i64 1) (.int .i64 (low 16 behind : Nat)) K = K (.int .i64 ((1 + low 16 behind : Nat) : Int)) := fun K => bin_addN 1 (low 16 behind) K (by have := low_lt 16 behind (by omega); omega)
  have l1 := low_lt 16 ahead (by omega)
  have l2 := low_lt 16 behind (by omega)
  simp only [and15, a1, a2]
  unfold g6bz3j
  refine anew_puts (n := 1 + low 16 ahead) (m := 1 + low 16 behind) (by omega) (by omega) (by omega) (by omega) late st.n (st.n + 1) (st.n + 1 + 1) (by omega) (by omega) big 0 1 1 _ (by omega) (lt_big (by omega)) ?_ ?_ ?_
  · refine ⟨⟨by simp [new_ob]; rfl, by simp, .inl rfl⟩, ⟨by simp [new_ob]; rw [if_neg (by omega)]; rfl, by simp; omega, .inl rfl⟩, newP_ok (e := 3) (by omega) (by omega), newP_ok (e := 1) (by omega) (by omega), by omega, .inl (by omega)⟩
  · simp [new_ob]
  · simp
theorem linkAnew_row {W : World} {v0 v1 v2 : Value} {x0 x1 x2 : V} {n0 n1 n2 : Nat}
    (r0 : Rs (E0 W) [x0] [v0]) (s0 : Sh Try.prog n0 3 x0.cells) (f0 : fit Try.prog 3 x0)
    (r1 : Rs (E0 W) [x1] [v1]) (s1 : Sh Try.prog n1 3 x1.cells) (f1 : fit Try.prog 3 x1)
    (r2 : Rs (E0 W) [x2] [v2]) (s2 : Sh Try.prog n2 3 x2.cells) (f2 : fit Try.prog 3 x2) :
    Calls Try.prog 6 #[v0, v1, v2] W fun e w' => e = .returned (.bool true) ∧ Below W.heap.size W w' := by
  obtain ⟨k0, rfl, _⟩ := in_int s0 f0 Try.underlying3
  obtain ⟨k1, rfl, _⟩ := in_int s1 f1 Try.underlying3
  obtain ⟨k2, rfl, _⟩ := in_int s2 f2 Try.underlying3
  obtain ⟨st', hs⟩ := linkAnew_law k0 k1 k2 St0
  exact bool_row sim6 W _ _ _ hs (Rs.cons r0 (Rs.cons r1 r2))
end Go.Ab
