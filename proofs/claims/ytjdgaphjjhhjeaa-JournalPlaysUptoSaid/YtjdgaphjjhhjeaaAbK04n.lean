import Derived.Test.YtjdgaphjjhhjeaaAbK04m
/- sinewlaw04: JournalPlays. -/
namespace Go.Ab
open Go.Proofs Go.RowKit Go.Oct
set_option linter.unusedVariables false
set_option linter.unusedSimpArgs false
set_option maxRecDepth 100000
def jopsV (l : List JOp) : List V := l.map jopV
theorem iaddr_jop {l : List JOp} {i : Nat} (t : Nat) (h : i < l.length) (K : V → Res) : A.iaddr 7 (.lst (jopsV l) t) (.int .i64 (i : Nat)) K = K (.lptr (opC l[i])) := iaddr_lst (v := jopV l[i]) K (by simp [jopsV, h]) rfl
theorem load_jop (o : JOp) (st : St) (K : V → St → Res) : A.load true 7 (.lptr (opC o)) st K = K (jopV o) st := by rw [load_lptrA]; rfl
def op0 : List V := [.int .i64 0, .int .i64 0, .int .i64 0, .lst [] 1, .lst [] 1, .lst [] 1, .lst [] 1]
theorem box_op (st : St) (K : V → St → Res) : A.box (.agg [.int .i64 0, .int .i64 0, .int .i64 0, .lst [] 1, .lst [] 1, .lst [] 1, .lst [] 1]) st K = K (.ptr st.n 0) (st.new (.cells op0)) := rfl
theorem store_op {st : St} {i : Nat} (h : st.ob i = some (.cells op0)) (o : JOp) (K : St → Res) : A.store 7 (.ptr i 0) (jopV o) st K = K (st.put i (.cells (opC o))) := by
  unfold jopV
  rw [store_agg, h, obo_some, if_pos ⟨rfl, by simp [op0], rfl⟩]; rfl
theorem newbad_s (r : Int) (h : r < 1 ∨ 67108864 < r) (st : St) : s9 [.int .i64 r] st = some (.ret (.tup [.ptr0, .int .i64 1]), st) := by
  rw [s9_eq]
  unfold f9
  rw [bin_lss]
  by_cases h1 : r < 1
  · rw [decide_eq_true h1, guard_tf]; rfl
  · rw [decide_eq_false h1, guard_ff, bin_gtr, decide_eq_true (show 67108864 < r by omega), cond_true]; rfl
def okRoom (r : Int) : Bool := decide (1 ≤ r) && decide (r ≤ 67108864)
theorem rnew_s (r : Int) (st : St) : s18 [.int .i64 r] st = some (.ret (.tup [if okRoom r = true then rjV r.toNat 0 [] else rjV 0 0 [], .int .i64 (if okRoom r = true then 0 else 1)]), st) := by
  rw [s18_eq]
  have key : ∃ (v : V) (st' : St), f18 (.int .i64 r) st = some (.ret v, st') ∧ Ks st st' ∧ v.era = .tup [if okRoom r = true then rjV r.toNat 0 [] else rjV 0 0 [], .int .i64 (if okRoom r = true then 0 else 1)] := by
    unfold f18
    rw [rj_zero]
    have k1 : Ks st (st.new (.cells (rjC 0 0 [] 1 1))) := (Ks.refl st).new _
    have o1 := new_at st (.cells (rjC 0 0 [] 1 1))
    generalize st.new (.cells (rjC 0 0 [] 1 1)) = s1 at k1 o1 ⊢
    have b0 : ∀ K, A.build [.int .i64 0, .int .i64 0, .lst [] 1, .lst [] 1] [] K = K (.agg (rjC 0 0 [] 1 1)) := fun K => rfl
    have bad : ∃ (v : V) (st' : St), (A.build [.int .i64 0, .int .i64 0, .lst [] 1, .lst [] 1] [] fun a5 => A.store 4 (.ptr st.n 0) a5 s1 fun z6 => A.res (rcell (A.load true 4 (.ptr st.n 0) z6 kid) (rtmp (.int .i64 1) (some []))) z6) = some (.ret v, st') ∧ Ks st st' ∧ v.era = .tup [rjV 0 0 [], .int .i64 1] := by
      rw [b0]; exact rj_res (r' := 0) (s' := 0) (G' := []) (t' := 1) (u' := 1) k1 (Nat.le_refl _) o1 1
    rw [bin_lss]
    by_cases h1 : r < 1
    · rw [decide_eq_true h1, guard_tf, show okRoom r = false from by unfold okRoom; rw [decide_eq_false (show ¬ 1 ≤ r by omega)]; rfl]
      exact bad
    · rw [decide_eq_false h1, guard_ff, bin_gtr]
      by_cases h2 : 67108864 < r
      · rw [decide_eq_true h2, cond_true, show okRoom r = false from by unfold okRoom; rw [decide_eq_false (show ¬ r ≤ 67108864 by omega), Bool.and_false]]
        exact bad
      · rw [decide_eq_false h2, cond_false, show okRoom r = true from by unfold okRoom; rw [decide_eq_true (show 1 ≤ r by omega), decide_eq_true (show r ≤ 67108864 by omega)]; rfl]
        have b1 : ∀ K, A.build [.int .i64 0, .int .i64 0, .lst [] 1, .lst [] 1] [(0, 1, .int .i64 r)] K = K (.agg (rjC r.toNat 0 [] 1 1)) := fun K => by
          show K (.agg [.int .i64 r, .int .i64 0, .lst [] 1, .lst [] 1]) = _
          unfold rjC
          rw [show ((r.toNat : Nat) : Int) = r by omega]; rfl
        rw [b1]
        exact rj_res (r' := r.toNat) (s' := 0) (G' := []) (t' := 1) (u' := 1) k1 (Nat.le_refl _) o1 0
  obtain ⟨v, st', q1, q2, q3⟩ := key
  have hp : (V.tup [if okRoom r = true then rjV r.toNat 0 [] else rjV 0 0 [], .int .i64 (if okRoom r = true then 0 else 1)]).pu = true := by
    have a1 := rj_pu r.toNat 0 []
    have a2 := rj_pu 0 0 []
    split <;> simp [a1, a2]
  rw [fg_of q1 q2 (by rw [q3]; exact hp), q3]
theorem plays_k {L : V → V → V → V → St → Res} {o : JOp} (ho : JOpOK o) {x1 x5 x7 x9 : V} {c : Nat} {st : St} (oc : st.ob c = some (.cells (opC o))) {Q : Res → Prop} (h1 : Q (some (.ret (.bool true), st))) (h2 : Q (g6b11111010010011 L x1 x5 x7 x9 (.ptr c 0) st)) :
    ∀ (f k : Nat), k ≤ o.all.length → o.all.length < f + k → Q (g6b1111101001001010 L f x1 x5 x7 x9 (.ptr c 0) (.int .i64 (k : Nat)) st) := by
  have aw : (A.ret (s11 [] st) fun a16 z17 => some (.ret a16.er1, z17)) = some (.ret (.bool true), st) := by rw [s11_val, ret_ret]; rfl
  obtain ⟨p0, p1, p2, p6⟩ := op_load oc
  have hlen := ho.len
  intro f
  induction f with
  | zero => intro k hk hf; omega
  | succ f ih =>
    intro k hk hf
    rw [g6b1111101001001010]
    rw [faddr_ptr, Nat.zero_add, p6, lenL_lst, notesV_len, bin_lss]
    by_cases hkl : k < o.all.length
    · have e4 : ∀ K, A.bin .add (.int .i64 (k : Nat)) (.int .i64 1) K = K (.int .i64 ((k + 1 : Nat) : Int)) := fun K => bin_inc (by omega) K
      obtain ⟨b, hb⟩ := light_s o.all[k] (ho.all _ (List.getElem_mem hkl)).1 st
      rw [decide_eq_true (show ((k : Int) < (o.all.length : Int)) by omega), cond_true, faddr_ptr, Nat.zero_add, p6, iaddr_notes 0 hkl, load_note, er1_note, hb, ret_ret, un_not]
      cases b with
      | false => rw [Bool.not_false, guard_tf, aw]; exact h1
      | true =>
        rw [Bool.not_true, guard_ff, bin_gtr]
        by_cases h10 : (10 : Int) < (k : Int)
        · rw [decide_eq_true h10, cond_true, aw]; exact h1
        · rw [decide_eq_false h10, cond_false, e4]
          exact ih (k + 1) (by omega) (by omega)
    · rw [decide_eq_false (show ¬ ((k : Int) < (o.all.length : Int)) by omega), cond_false]
      exact h2
theorem plays_loop (l : List JOp) (hl : ∀ o ∈ l, JOpOK o) (id room q : Nat) :
    ∀ (f i : Nat) (G : List Note) (sure : Nat) (bv : V) (st : St), i ≤ l.length → i ≤ 100 → 100 < f + i → JAt st id room bv (packsB G) sure → GoodL G → st.ob q = some (.cells (rjC room sure G 0 0)) → q < st.n → q ≠ id → ¬ owns bv q →
      ∃ st', g6b11111010 f (.lst (jopsV l) 0) (.ptr id 0) (.ptr q 0) (.int .i64 (i : Nat)) st = some (.ret (.bool true), st') := by
  intro f
  induction f with
  | zero => intro i G sure bv st hi h1 hf; omega
  | succ f ih =>
    intro i G sure bv st hi h1 hf h hG oq hq hqi hqo
    have hfull := allN_full hG
    obtain ⟨l0, l1, l2, l3, l4⟩ := rj_load oq
    have hstr := h.str
    have hlen : G.length ≤ (packsB G).length := by
      have := pl_ge G G.length (Nat.le_refl _)
      rwa [pl_all] at this
    -- the end
    have tail : (A.ret (s17 [(V.ptr id 0).er1] st) fun a4 z5 => A.ext a4 0 fun a6 => A.ext a4 1 fun a7 => A.noP (A.ret (s15 [(V.ptr id 0).er1] z5) kid) fun a8 z9 => A.faddr 2 (.ptr q 0) fun a10 => A.load false 1 a10 z9 fun a11 _ => A.chk (ldv false 1 a10 z5) a11 (A.ret (A.ret (s16 [a8.er1, a11.er1] z9) kid) fun a12 z13 => A.guard a12 true (A.load true 4 (.ptr q 0) z13 fun a14 _ => A.ret (A.ret (s20 [a14.er1] z13) kid) fun a15 z16 => A.eql 2 false a6 a15 fun a17 => A.guard a17 true (A.faddr 1 (.ptr q 0) fun a18 => A.load false 1 a18 z16 fun a19 _ => A.eql 2 false a7 a19 fun a20 => A.guard a20 true (A.ret (A.ret (s11 [] z16) kid) fun a21 z22 => some (.ret a21.er1, z22)) (some (.ret ((.bool false) : V).er1, z16))) (some (.ret ((.bool false) : V).er1, z16))) (some (.ret ((.bool false) : V).er1, z13)))) = some (.ret (.bool true), st) := by
      have hsm : ∀ n ∈ G, NoteSM n := fun n hm => by
        have := (all_s (packsB G) (by omega) st).2.1 n (by rw [hfull]; exact hm)
        exact this.sm
      obtain ⟨c, h3, h4⟩ := sameAll_s G G 0 0 (by omega) hsm st
      have hct : c = true := h4.2 rfl
      rw [hct] at h3
      have ld2 : ldv false 1 (.ptr q 2) st = some (.lst (notesV G) 0) := by unfold ldv; rw [l2]; rfl
      rw [er1_ptr, jsize_s h, ret_ret, ext_0, ext_1, jnotes_s h, hfull, ret_kid', noP_ret, faddr_ptr, Nat.zero_add, l2, ld2, chk_same, er1_lst]
      dsimp only
      rw [h3, ret_kid', ret_ret, guard_tt, l4, rj_er, rbytes_s _ _ _ (by omega), ret_kid', ret_ret, eql_int, if_neg Bool.false_ne_true, beq_self_eq_true, guard_tt, faddr_ptr, Nat.zero_add, l1, eql_int, if_neg Bool.false_ne_true, beq_self_eq_true, guard_tt, s11_val, ret_kid', ret_ret]
      rfl
    rw [g6b11111010]
    have hlv : (jopsV l).length = l.length := by simp [jopsV]
    rw [lenL_lst, hlv, bin_lss]
    by_cases hil : i < l.length
    · rw [decide_eq_true (show ((i : Int) < (l.length : Int)) by omega), guard_tt, bin_lss]
      by_cases h100 : i < 100
      · rw [decide_eq_true (show ((i : Int) < 100) by omega), cond_true]
        have ho := hl l[i] (List.getElem_mem hil)
        have e4 : ∀ K, A.bin .add (.int .i64 (i : Nat)) (.int .i64 1) K = K (.int .i64 ((i + 1 : Nat) : Int)) := fun K => bin_inc (by omega) K
        unfold g6b1111101001
        rw [iaddr_jop 0 hil, load_jop, box_op, store_op (new_at st _)]
        have hlt := h.lt
        have hown : ∀ j, st.n ≤ j → ¬ owns bv j := fun j hj g => by have := (h.b.own_lt g).1; omega
        obtain ⟨h2, fr2⟩ := h.new (.cells op0)
        have h3 := h2.putO (i := st.n) (by omega) (hown _ (Nat.le_refl _)) (.cells (opC l[i]))
        have o3 := put_at (st.new (.cells op0)) st.n (.cells (opC l[i]))
        have q3 : ((st.new (.cells op0)).put st.n (.cells (opC l[i]))).ob q = some (.cells (rjC room sure G 0 0)) := by rw [put_ne _ _ (by omega), new_ne _ _ (by omega)]; exact oq
        have n3 : ((st.new (.cells op0)).put st.n (.cells (opC l[i]))).n = st.n + 1 := by simp
        generalize (st.new (.cells op0)).put st.n (.cells (opC l[i])) = s3 at h3 o3 q3 n3 ⊢
        refine plays_k (L := g6b11111010 f) ho o3 (Q := fun R => ∃ st', R = some (.ret (.bool true), st')) ⟨_, rfl⟩ ?_ big 0 (by omega) (lt_big (by have := ho.len; omega))
        have aw : (A.ret (s11 [] s3) fun a16 z17 => some (.ret a16.er1, z17)) = some (.ret (.bool true), s3) := by rw [s11_val, ret_ret]; rfl
        obtain ⟨p0, p1, p2, p6⟩ := op_load o3
        unfold g6b11111010010011
        obtain ⟨b, hb⟩ := light_s l[i].n ho.n.1 s3
        rw [faddr_ptr, Nat.zero_add, p2, show (V.agg (noteC l[i].n)).er1 = noteV l[i].n from rfl, hb, ret_ret, un_not]
        cases b with
        | false => rw [Bool.not_false, cond_true, aw]; exact ⟨_, rfl⟩
        | true =>
          obtain ⟨_, _, _, _, m4⟩ := rj_load q3
          have ldop : ∀ K : V → St → Res, A.load true 7 (.ptr st.n 0) s3 K = K (jopV l[i]) s3 := fun K => by rw [load_obA, o3]; rfl
          obtain ⟨s4, bv4, G4, u4, w1, w2, w3, w4⟩ := does_s h3 hG l[i] ho
          have q4 : s4.ob q = some (.cells (rjC room sure G 0 0)) := by rw [w4.ob q (by omega) hqi hqo]; exact q3
          have hq4 : ¬ owns bv4 q := fun g => by
            rcases w4.own q g with g2 | g2
            · exact hqo g2
            · omega
          have hn4 := w4.n
          have hlt4 := w2.lt
          rw [Bool.not_true, cond_false, m4, ldop, er1_ptr, rj_er, show (jopV l[i]).er1 = jopV l[i] from rfl, w1, ret_ret, ext_0, ext_1, rj_zero]
          have hown4 : ¬ owns bv4 s4.n := fun g => by have := (w2.b.own_lt g).1; omega
          unfold rjV
          rw [rj_store (new_at s4 _)]
          obtain ⟨h5, fr5⟩ := w2.new (.cells (rjC 0 0 [] 1 1))
          have h6 := h5.putO (i := s4.n) (by omega) hown4 (.cells (rjC room u4 G4 0 0))
          have o6 := put_at (s4.new (.cells (rjC 0 0 [] 1 1))) s4.n (.cells (rjC room u4 G4 0 0))
          have q6 : ((s4.new (.cells (rjC 0 0 [] 1 1))).put s4.n (.cells (rjC room u4 G4 0 0))).ob q = some (.cells (rjC room sure G 0 0)) := by rw [put_ne _ _ (by omega), new_ne _ _ (by omega)]; exact q4
          have n6 : ((s4.new (.cells (rjC 0 0 [] 1 1))).put s4.n (.cells (rjC room u4 G4 0 0))).n = s4.n + 1 := by simp
          generalize (s4.new (.cells (rjC 0 0 [] 1 1))).put s4.n (.cells (rjC room u4 G4 0 0)) = s6 at h6 o6 q6 n6 ⊢
          unfold g6b1111101001001111
          obtain ⟨_, _, _, _, y4⟩ := rj_load o6
          rw [un_not, Bool.not_true, cond_false, y4, rj_store q6, e4]
          exact ih (i + 1) G4 u4 bv4 _ (by omega) (by omega) (by omega) (h6.putO hqi hq4 _) w3 (put_at _ _ _) (by rw [put_n]; omega) hqi hq4
      · rw [decide_eq_false (show ¬ ((i : Int) < 100) by omega), cond_false]
        exact ⟨st, tail⟩
    · rw [decide_eq_false (show ¬ ((i : Int) < (l.length : Int)) by omega), guard_ft]
      exact ⟨st, tail⟩
theorem plays_law (r : Int) (l : List JOp) (hl : ∀ o ∈ l, JOpOK o) (st : St) : ∃ st', s6 [.int .i64 r, .lst (jopsV l) 0] st = some (.ret (.bool true), st') := by
  rw [s6_eq]
  unfold f6
  rw [er1_int]
  by_cases hr : okRoom r = true
  · have h1 : 1 ≤ r ∧ r ≤ 67108864 := by
      unfold okRoom at hr
      simpa using hr
    have hn := new_s r.toNat (by omega) (by omega) st
    have hj := new_at_j r.toNat (by omega) (by omega) st
    rw [show ((r.toNat : Nat) : Int) = r by omega] at hn
    have hnn : (st.new (.cells (jC r.toNat (.lst [] 1) 0))).n = st.n + 1 := by simp
    generalize st.new (.cells (jC r.toNat (.lst [] 1) 0)) = s1 at hn hj hnn
    have hnew := rnew_s r s1
    rw [if_pos hr, if_pos hr] at hnew
    rw [hn, ret_ret, ext_0, ext_1, hnew, ret_ret, ext_0, ext_1, rj_zero]
    unfold rjV
    rw [rj_store (new_at s1 _)]
    obtain ⟨h2, fr2⟩ := hj.new (.cells (rjC 0 0 [] 1 1))
    have h3 := h2.putO (i := s1.n) (by omega) (fun g => by cases g) (.cells (rjC r.toNat 0 [] 0 0))
    have o3 := put_at (s1.new (.cells (rjC 0 0 [] 1 1))) s1.n (.cells (rjC r.toNat 0 [] 0 0))
    have n3 : ((s1.new (.cells (rjC 0 0 [] 1 1))).put s1.n (.cells (rjC r.toNat 0 [] 0 0))).n = s1.n + 1 := by simp
    generalize (s1.new (.cells (rjC 0 0 [] 1 1))).put s1.n (.cells (rjC r.toNat 0 [] 0 0)) = s4 at h3 o3 n3 ⊢
    unfold g6b111
    rw [eql_int, if_pos rfl, show ((0 : Int) != 0) = false from rfl, guard_ff, eql_ptr, eql_int, if_neg Bool.false_ne_true, show ((0 : Int) == 0) = true from rfl, eql_bool]
    simp only [if_true, show (true != true) = false from rfl, cond_false]
    unfold g6b1111
    rw [eql_ptr, cond_false]
    exact plays_loop l hl st.n r.toNat s1.n big 0 [] 0 (.lst [] 1) s4 (by omega) (by omega) (lt_big (by omega)) h3 (fun n hn => by cases hn) o3 (by omega) (by omega) (fun g => by cases g)
  · have h1 : r < 1 ∨ 67108864 < r := by
      unfold okRoom at hr
      simp only [Bool.and_eq_true, decide_eq_true_eq] at hr
      omega
    have hnew := rnew_s r st
    rw [if_neg hr, if_neg hr] at hnew
    rw [newbad_s r h1, ret_ret, ext_0, ext_1, hnew, ret_ret, ext_0, ext_1, rj_zero]
    unfold rjV
    rw [rj_store (new_at st _)]
    generalize (st.new (.cells (rjC 0 0 [] 1 1))).put st.n (.cells (rjC 0 0 [] 0 0)) = s4
    unfold g6b111
    rw [eql_int, if_pos rfl, show ((1 : Int) != 1) = false from rfl, guard_ff]
    have e1 : ∀ K, A.eql 4 true .ptr0 .ptr0 K = K (.bool false) := fun K => rfl
    have e2 : ∀ K, A.eql 4 false .ptr0 .ptr0 K = K (.bool true) := fun K => rfl
    rw [e1, eql_int, if_neg Bool.false_ne_true, show ((1 : Int) == 0) = false from rfl, eql_bool, if_pos rfl, show (false != false) = false from rfl, cond_false]
    unfold g6b1111
    rw [e2, cond_true, s11_val, ret_ret]
    exact ⟨_, rfl⟩
theorem in_jop {n : Nat} {x : V} (s : Sh Try.prog n 50 x.cells) (f : fit Try.prog 50 x) : ∃ o : JOp, x = jopV o ∧ o.keep ≤ 9223372036854775807 ∧ NoteOK o.n ∧ o.all.length ≤ 9223372036854775807 ∧ ∀ n ∈ o.all, NoteOK n := by
  obtain ⟨cs, rfl⟩ := fit_ag f (isAg_of.2 (.inl ⟨_, Try.underlying50⟩))
  obtain ⟨k, h1, h2⟩ := s.struct Try.underlying50
  rw [cells_agg] at h1 h2
  have c50 : Try.prog.cellsOf 50 = 7 := by kernel_rfl
  have c3 : Try.prog.cellsOf 3 = 1 := by kernel_rfl
  have c32 : Try.prog.cellsOf 32 = 4 := by kernel_rfl
  have c22 : Try.prog.cellsOf 22 = 1 := by kernel_rfl
  rw [c50] at h1
  obtain ⟨a, b, c1, c2, c3', c4, d, rfl⟩ : ∃ a b c1 c2 c3' c4 d, cs = [a, b, c1, c2, c3', c4, d] := by
    match cs, h1 with
    | [a, b, c1, c2, c3', c4, d], _ => exact ⟨a, b, c1, c2, c3', c4, d, rfl⟩
  have q0 := h2 ⟨ "Kind", 3, 0, false, "", "", 0⟩ (by simp)
  have q1 := h2 ⟨ "Keep", 3, 1, false, "", "", 8⟩ (by simp)
  have q2 := h2 ⟨ "N", 32, 2, false, "", "", 16⟩ (by simp)
  have q3 := h2 ⟨ "All", 22, 6, false, "", "", 96⟩ (by simp)
  simp only [c3, c32, c22, List.drop_zero, List.drop_succ_cons, List.take_succ_cons, List.take_zero] at q0 q1 q2 q3
  obtain ⟨kind, e0, _⟩ := q0.int Try.underlying3
  obtain ⟨keep, e1, w1⟩ := q1.int Try.underlying3
  obtain ⟨m, e2, w2⟩ := in_note (x := .agg [c1, c2, c3', c4]) (by rw [cells_agg]; exact q2) (by unfold fit; rw [if_pos (isAg_of.2 (.inl ⟨_, Try.underlying32⟩))]; exact ⟨_, rfl⟩)
  obtain ⟨l3, m3, e3, g3, w3⟩ := q3.slice Try.underlying22
  obtain ⟨all, rfl, hall⟩ := list_pick (g := noteV) (Q := NoteOK) (l := l3) (fun v hv => in_note (w3 v hv).1 (w3 v hv).2)
  cases e0; cases e1; cases e2; cases e3
  exact ⟨⟨kind, keep, m, all⟩, rfl, (wf_i64 w1).2, w2, by simpa [maxLen] using g3, hall⟩
theorem journalPlays_row {W : World} {v0 v1 : Value} {x0 x1 : V} {n0 n1 : Nat}
    (r0 : Rs (E0 W) [x0] [v0]) (s0 : Sh Try.prog n0 3 x0.cells) (f0 : fit Try.prog 3 x0)
    (r1 : Rs (E0 W) [x1] [v1]) (s1 : Sh Try.prog n1 44 x1.cells) (f1 : fit Try.prog 44 x1) (hb : x0.bulk + x1.bulk ≤ 1048576) :
    Calls Try.prog 6 #[v0, v1] W fun e w' => e = .returned (.bool true) ∧ Below W.heap.size W w' := by
  obtain ⟨r, rfl, hr⟩ := in_int s0 f0 Try.underlying3
  obtain ⟨l, m, rfl, h1, h2⟩ := in_slice s1 f1 Try.underlying44
  obtain ⟨ops, rfl, h3⟩ := list_pick (g := jopV) (Q := fun o => o.keep ≤ 9223372036854775807 ∧ NoteOK o.n ∧ o.all.length ≤ 9223372036854775807 ∧ ∀ n ∈ o.all, NoteOK n) (l := l) (fun v hv => in_jop (h2 v hv).1 (h2 v hv).2)
  obtain ⟨st', hs⟩ := plays_law r ops (fun o ho => by
    obtain ⟨a1, a2, a3, a4⟩ := h3 o ho
    have hm := bulkL_mem (l := ops.map jopV) (v := jopV o) (List.mem_map.2 ⟨o, ho, rfl⟩)
    simp only [V.bulk] at hb
    have e : (jopV o).bulk = 1 + (1 + (bulkL (noteC o.n ++ [.lst (notesV o.all) 0]))) := rfl
    rw [bulkL_app] at e
    have e2 : bulkL [V.lst (notesV o.all) 0] = (V.lst (notesV o.all) 0).bulk + 0 := rfl
    rw [e2] at e
    have e3 : bulkL (noteC o.n) = (noteV o.n).bulk := rfl
    rw [e3] at e
    have hn := note_bulk o.n
    exact ⟨a1, ⟨a2, by unfold Upto; omega⟩, a3, fun n hn => ⟨a4 n hn, notes_upto (l := o.all) (t := 0) (by omega) n hn⟩⟩) St0
  exact bool_row sim6 W _ _ _ hs (Rs.cons r0 r1)
end Go.Ab
