import Derived.Test.YtjdgaphjjhhjeaaAbK04k
/- sinewlaw04.does: both sides of one call. -/
namespace Go.Ab
open Go.Proofs Go.RowKit Go.Oct
set_option linter.unusedVariables false
set_option linter.unusedSimpArgs false
set_option maxRecDepth 100000
theorem BytesAt.own_lt {st : St} {id i : Nat} {bv : V} {s : List UInt8} (h : BytesAt st id bv s) (ho : owns bv i) : i < st.n ∧ i ≠ id := by
  rcases h with ⟨_, rfl⟩ | ⟨b, rest, rfl, _, h2, h3⟩
  · cases ho
  · cases ho; exact ⟨h3, h2⟩
theorem JAt.putO {st : St} {id room sure i : Nat} {bv : V} {s : List UInt8} (h : JAt st id room bv s sure) (hi : i ≠ id) (ho : ¬ owns bv i) (o : Ob) : JAt (st.put i o) id room bv s sure := by
  refine ⟨by rw [put_ne _ _ (Ne.symm hi)]; exact h.ob, by rw [put_n]; exact h.lt, ?_, h.le, h.r1, h.r2, h.full⟩
  rcases h.b with g | ⟨b, rest, rfl, h1, h2, h3⟩
  · exact .inl g
  · exact .inr ⟨b, rest, rfl, by rw [put_ne _ _ (fun g => ho g.symm)]; exact h1, h2, by rw [put_n]; exact h3⟩
theorem JFr.putO {st0 st : St} {id i : Nat} {bv bv' : V} (h : JFr st0 st id bv bv') (hi : st0.n ≤ i) (o : Ob) : JFr st0 (st.put i o) id bv bv' :=
  ⟨h.tk, h.nt, by rw [put_n]; exact h.n, fun j hj hd ho => by rw [put_ne _ _ (by omega)]; exact h.ob j hj hd ho, h.own⟩
structure JOp where
  kind : Int
  keep : Int
  n : Note
  all : List Note
def opC (o : JOp) : List V := [.int .i64 o.kind, .int .i64 o.keep] ++ noteC o.n ++ [.lst (notesV o.all) 0]
def jopV (o : JOp) : V := .agg (opC o)
structure JOpOK (o : JOp) : Prop where
  keep : o.keep ≤ 9223372036854775807
  n : NoteOK o.n ∧ Upto o.n
  len : o.all.length ≤ 9223372036854775807
  all : ∀ n ∈ o.all, NoteOK n ∧ Upto n
theorem op_load {st : St} {c : Nat} {o : JOp} (h : st.ob c = some (.cells (opC o))) :
    (∀ K, A.load false 1 (.ptr c 0) st K = K (.int .i64 o.kind) st) ∧ (∀ K, A.load false 1 (.ptr c 1) st K = K (.int .i64 o.keep) st) ∧ (∀ K, A.load true 4 (.ptr c 2) st K = K (.agg (noteC o.n)) st) ∧ ∀ K, A.load false 1 (.ptr c 6) st K = K (.lst (notesV o.all) 0) st := by
  refine ⟨fun K => by rw [load_ob, h]; rfl, fun K => by rw [load_ob, h]; rfl, fun K => by rw [load_obA, h]; rfl, fun K => by rw [load_ob, h]; rfl⟩
theorem rw_jw (room : Nat) (G : List Note) (n : Note) : jwrite room (packsB G) n = ((rwrite room G n).1, packsB (rwrite room G n).2) := by
  unfold jwrite rwrite
  split
  · split
    · rfl
    · rw [packsB_snoc]
  · rfl
theorem rw_good {room : Nat} {G : List Note} {n : Note} (h : GoodL G) (hu : Upto n) : GoodL (rwrite room G n).2 := by
  unfold rwrite
  split
  · rename_i hp
    split
    · exact h
    · exact h.snoc hp (packOK_small hu hp)
  · exact h
theorem dres {z : St} {r : Nat} (h : z.ob r = some (.cells (rjC 0 0 [] 1 1))) (r' s' : Nat) (G' : List Note) (b : Bool) :
    (A.store 4 (.ptr r 0) (.agg (rjC r' s' G' 0 0)) z fun z => A.res (rcell (A.load true 4 (.ptr r 0) z kid) (rtmp (.bool b) (some []))) z) = some (.ret (.tup [rjV r' s' G', .bool b]), z.put r (.cells (rjC r' s' G' 0 0))) := by
  rw [rj_store h]
  obtain ⟨_, _, _, _, m5⟩ := rj_load (put_at z r (.cells (rjC r' s' G' 0 0)))
  rw [m5, kid_eq, rtmp_some, rcell_some, res_two]
  rfl
theorem does_s {st : St} {id room sure : Nat} {bv : V} {G : List Note} (h : JAt st id room bv (packsB G) sure) (hG : GoodL G) (o : JOp) (ho : JOpOK o) :
    ∃ (st' : St) (bv' : V) (G' : List Note) (sure' : Nat), s19 [.ptr id 0, rjV room sure G, jopV o] st = some (.ret (.tup [rjV room sure' G', .bool true]), st') ∧ JAt st' id room bv' (packsB G') sure' ∧ GoodL G' ∧ JFr st st' id bv bv' := by
  have hGl : G.length ≤ 67108864 := by have := pl_ge G G.length (Nat.le_refl _); rw [pl_all] at this; have := h.full; have := h.r2; omega
  have hb := h.full
  have hr := h.r2
  have hlt := h.lt
  rw [s19_eq]
  unfold f19
  have bx : ∀ (s : St) K, A.box (jopV o) s K = K (.ptr s.n 0) (s.new (.cells (opC o))) := fun s K => rfl
  rw [rj_box, bx, rj_zero]
  obtain ⟨h1, fr1⟩ := h.new (.cells (rjC room sure G 0 0))
  obtain ⟨h2, fr2⟩ := h1.new (.cells (opC o))
  obtain ⟨h3, fr3⟩ := h2.new (.cells (rjC 0 0 [] 1 1))
  have fr := (fr1.trans fr2).trans fr3
  have o1 : (((st.new (.cells (rjC room sure G 0 0))).new (.cells (opC o))).new (.cells (rjC 0 0 [] 1 1))).ob st.n = some (.cells (rjC room sure G 0 0)) := by
    rw [new_ne _ _ (by simp; omega), new_ne _ _ (by simp)]; exact new_at _ _
  have o2 : (((st.new (.cells (rjC room sure G 0 0))).new (.cells (opC o))).new (.cells (rjC 0 0 [] 1 1))).ob (st.n + 1) = some (.cells (opC o)) := by
    rw [new_ne _ _ (by simp)]; exact new_at (st.new (.cells (rjC room sure G 0 0))) _
  have o3 := new_at ((st.new (.cells (rjC room sure G 0 0))).new (.cells (opC o))) (.cells (rjC 0 0 [] 1 1))
  have n3 : (((st.new (.cells (rjC room sure G 0 0))).new (.cells (opC o))).new (.cells (rjC 0 0 [] 1 1))).n = st.n + 3 := by simp
  simp only [new_n] at o3 ⊢
  generalize (((st.new (.cells (rjC room sure G 0 0))).new (.cells (opC o))).new (.cells (rjC 0 0 [] 1 1))) = s3 at h3 fr o1 o2 o3 n3 ⊢
  clear fr1 fr2 fr3 h1 h2
  have hown : ∀ i, st.n ≤ i → ¬ owns bv i := fun i hi g => by have := (h.b.own_lt g).1; omega
  obtain ⟨l0, l1, l2, l3, l4⟩ := rj_load o1
  obtain ⟨p0, p1, p2, p6⟩ := op_load o2
  have e6 : ∀ K, A.eql 2 false (.int .i64 o.kind) (.int .i64 1) K = K (.bool (o.kind == 1)) := fun K => by rw [eql_int, if_neg Bool.false_ne_true]
  rw [faddr_ptr, Nat.zero_add, p0, e6]
  by_cases c1 : o.kind = 1
  · -- Write
    rw [show (o.kind == 1) = true from by rw [c1]; rfl, cond_true, l4, faddr_ptr, Nat.zero_add, p2, rj_er, show (V.agg (noteC o.n)).er1 = noteV o.n from rfl, rwrite_s room sure G hGl hb hr _ ho.n.1 ho.n.2, ret_ret, ext_0, ext_1, rj_zero]
    unfold rjV
    rw [rj_store (new_at s3 _)]
    obtain ⟨h4, fr4⟩ := h3.new (.cells (rjC 0 0 [] 1 1))
    have h5 := h4.putO (i := s3.n) (by omega) (hown _ (by omega)) (.cells (rjC room sure (rwrite room G o.n).2 0 0))
    have fr5 := (fr.trans fr4).putO (i := s3.n) (by omega) (.cells (rjC room sure (rwrite room G o.n).2 0 0))
    have q0 := put_at (s3.new (.cells (rjC 0 0 [] 1 1))) s3.n (.cells (rjC room sure (rwrite room G o.n).2 0 0))
    have old : ∀ j, j < s3.n → ((s3.new (.cells (rjC 0 0 [] 1 1))).put s3.n (.cells (rjC room sure (rwrite room G o.n).2 0 0))).ob j = s3.ob j := fun j hj => by rw [put_ne _ _ (by omega), new_ne _ _ (by omega)]
    have n5 : ((s3.new (.cells (rjC 0 0 [] 1 1))).put s3.n (.cells (rjC room sure (rwrite room G o.n).2 0 0))).n = st.n + 4 := by simp [n3]
    generalize (s3.new (.cells (rjC 0 0 [] 1 1))).put s3.n (.cells (rjC room sure (rwrite room G o.n).2 0 0)) = s5 at h5 fr5 q0 old n5 ⊢
    rw [n3] at q0 old ⊢
    unfold g19b1010101
    obtain ⟨_, _, z2, _⟩ := op_load ((old (st.n + 1) (by omega)).trans o2)
    obtain ⟨_, _, _, _, y4⟩ := rj_load q0
    obtain ⟨s6, bv6, w1, w2, w3⟩ := jwrite_s h5 o.n ho.n.1
    rw [rw_jw] at w1 w2
    have q6 : s6.ob (st.n + 3) = some (.cells (rjC room sure (rwrite room G o.n).2 0 0)) := by rw [w3.ob _ (by omega) (by omega) (hown _ (by omega))]; exact q0
    have q7 : s6.ob (st.n + 2) = some (.cells (rjC 0 0 [] 1 1)) := by rw [w3.ob _ (by omega) (by omega) (hown _ (by omega)), old _ (by omega)]; exact o3
    have ld : ldv true 4 (.ptr (st.n + 3) 0) s6 = some (.agg (rjC room sure (rwrite room G o.n).2 0 0)) := by
      obtain ⟨_, _, _, _, m4⟩ := rj_load q6
      unfold ldv; rw [m4]; rfl
    rw [y4, faddr_ptr, Nat.zero_add, z2, er1_ptr, show (V.agg (noteC o.n)).er1 = noteV o.n from rfl, w1, ret_kid', noP_ret, ld, chk_same, eql_int, if_neg Bool.false_ne_true, beq_self_eq_true]
    have sr : ∀ (K : V → St → Res), A.ret (A.store 4 (.ptr (st.n + 2) 0) (.agg (rjC room sure (rwrite room G o.n).2 0 0)) s6 fun s => kid (.tup []) s) K = A.store 4 (.ptr (st.n + 2) 0) (.agg (rjC room sure (rwrite room G o.n).2 0 0)) s6 fun s => K (.tup []) s := fun K => by rw [rj_store q7, rj_store q7]; rfl
    rw [sr, dres q7]
    have hno : ¬ owns bv6 (st.n + 2) := fun g => by
      rcases w3.own _ g with g2 | g2
      · exact hown _ (by omega) g2
      · omega
    exact ⟨_, bv6, _, _, rfl, w2.putO (by omega) hno _, rw_good hG ho.n.2, (fr5.trans w3).putO (by omega) _⟩
  rw [show (o.kind == 1) = false from beq_eq_false_iff_ne.2 c1, cond_false, eql_int, if_neg Bool.false_ne_true]
  by_cases c2 : o.kind = 2
  · -- Sure
    rw [show (o.kind == 2) = true from by rw [c2]; rfl, cond_true, l4, rj_er, rsure_s _ _ _ hGl, ret_ret, er1_ptr, jsure_s h3, ret_ret, eql_int, if_neg Bool.false_ne_true, beq_self_eq_true]
    obtain ⟨h4, fr4⟩ := h3.sure
    have q7 : (s3.put id (.cells (jC room bv (packsB G).length))).ob (st.n + 2) = some (.cells (rjC 0 0 [] 1 1)) := by rw [put_ne _ _ (by omega)]; exact o3
    unfold rjV
    rw [dres q7]
    exact ⟨_, bv, _, _, rfl, h4.putO (by omega) (hown _ (by omega)) _, hG, (fr.trans fr4).putO (by omega) _⟩
  rw [show (o.kind == 2) = false from beq_eq_false_iff_ne.2 c2, cond_false, eql_int, if_neg Bool.false_ne_true]
  unfold g19b101011111
  by_cases c3 : o.kind = 3
  · -- Fail
    obtain ⟨j, j1, j2, j3⟩ := pl_cut G (jkeep (packsB G) sure o.keep)
    have ld1 : ldv false 1 (.ptr (st.n + 1) 1) s3 = some (.int .i64 o.keep) := by unfold ldv; rw [p1]; rfl
    obtain ⟨s6, bv6, w1, w2, w3⟩ := jfail_s h3 o.keep ho.keep
    have ej : jfail (packsB G) sure o.keep = packsB (G.take j) := by
      unfold jfail
      rw [allN_cut hG (jkeep_le h.le o.keep) j1 j2 j3]
      exact packsB_take G j
    rw [ej] at w2
    have q7 : s6.ob (st.n + 2) = some (.cells (rjC 0 0 [] 1 1)) := by rw [w3.ob _ (by omega) (by omega) (hown _ (by omega))]; exact o3
    rw [show (o.kind == 3) = true from by rw [c3]; rfl, cond_true, l4, faddr_ptr, Nat.zero_add, p1, rj_er, er1_int, rfail_s room sure G hGl (by omega) h.le o.keep ho.keep j1 j2 j3, ret_kid', noP_ret, faddr_ptr, Nat.zero_add, p1, ld1, chk_same, er1_ptr, er1_int, w1, ret_kid', ret_ret, eql_int, if_neg Bool.false_ne_true, beq_self_eq_true]
    unfold rjV
    have sr : ∀ (K : V → St → Res), A.ret (A.store 4 (.ptr (st.n + 2) 0) (.agg (rjC room (pl G j) (G.take j) 0 0)) s6 fun s => kid (.tup []) s) K = A.store 4 (.ptr (st.n + 2) 0) (.agg (rjC room (pl G j) (G.take j) 0 0)) s6 fun s => K (.tup []) s := fun K => by rw [rj_store q7, rj_store q7]; rfl
    rw [sr, dres q7]
    have hno : ¬ owns bv6 (st.n + 2) := fun g => by
      rcases w3.own _ g with g2 | g2
      · exact hown _ (by omega) g2
      · omega
    exact ⟨_, bv6, _, _, rfl, w2.putO (by omega) hno _, hG.take j, (fr.trans w3).putO (by omega) _⟩
  rw [show (o.kind == 3) = false from beq_eq_false_iff_ne.2 c3, cond_false, eql_int, if_neg Bool.false_ne_true]
  by_cases c4 : o.kind = 4
  · -- Begin
    rw [show (o.kind == 4) = true from by rw [c4]; rfl, cond_true, l4, faddr_ptr, Nat.zero_add, p6, rj_er, er1_lst, rbegin_s room sure G o.all h.r1 hr ho.len ho.all, ret_ret, ext_0, ext_1, rj_zero]
    obtain ⟨G', sure', eG⟩ : ∃ G' sure', rbegin room sure G o.all = rjV room sure' G' ∧ (((jbegin room o.all).1 = 0 ∧ G' = o.all ∧ sure' = (packsB o.all).length) ∨ ((jbegin room o.all).1 ≠ 0 ∧ G' = G ∧ sure' = sure)) := by
      unfold rbegin
      by_cases h0 : (jbegin room o.all).1 = 0
      · rw [if_pos h0]; exact ⟨_, _, rfl, .inl ⟨h0, rfl, rfl⟩⟩
      · rw [if_neg h0]; exact ⟨_, _, rfl, .inr ⟨h0, rfl, rfl⟩⟩
    obtain ⟨eG, eC⟩ := eG
    rw [eG]
    unfold rjV
    rw [rj_store (new_at s3 _)]
    obtain ⟨h4, fr4⟩ := h3.new (.cells (rjC 0 0 [] 1 1))
    have h5 := h4.putO (i := s3.n) (by omega) (hown _ (by omega)) (.cells (rjC room sure' G' 0 0))
    have fr5 := (fr.trans fr4).putO (i := s3.n) (by omega) (.cells (rjC room sure' G' 0 0))
    have q0 := put_at (s3.new (.cells (rjC 0 0 [] 1 1))) s3.n (.cells (rjC room sure' G' 0 0))
    have old : ∀ j, j < s3.n → ((s3.new (.cells (rjC 0 0 [] 1 1))).put s3.n (.cells (rjC room sure' G' 0 0))).ob j = s3.ob j := fun j hj => by rw [put_ne _ _ (by omega), new_ne _ _ (by omega)]
    have n5 : ((s3.new (.cells (rjC 0 0 [] 1 1))).put s3.n (.cells (rjC room sure' G' 0 0))).n = st.n + 4 := by simp [n3]
    generalize (s3.new (.cells (rjC 0 0 [] 1 1))).put s3.n (.cells (rjC room sure' G' 0 0)) = s5 at h5 fr5 q0 old n5 ⊢
    rw [n3] at q0 old ⊢
    unfold g19b1010111111101
    obtain ⟨_, _, _, z6⟩ := op_load ((old (st.n + 1) (by omega)).trans o2)
    obtain ⟨_, _, _, _, y4⟩ := rj_load q0
    obtain ⟨s6, bv6, s', u', w1, w2, w3, w4, w5⟩ := jbegin_s h5 o.all 0 ho.len (fun n hn => (ho.all n hn).1)
    have q6 : s6.ob (st.n + 3) = some (.cells (rjC room sure' G' 0 0)) := by rw [w3.ob _ (by omega) (by omega) (hown _ (by omega))]; exact q0
    have q7 : s6.ob (st.n + 2) = some (.cells (rjC 0 0 [] 1 1)) := by rw [w3.ob _ (by omega) (by omega) (hown _ (by omega)), old _ (by omega)]; exact o3
    have ld : ldv true 4 (.ptr (st.n + 3) 0) s6 = some (.agg (rjC room sure' G' 0 0)) := by
      obtain ⟨_, _, _, _, m4⟩ := rj_load q6
      unfold ldv; rw [m4]; rfl
    rw [y4, faddr_ptr, Nat.zero_add, z6, er1_ptr, er1_lst, w1, ret_kid', noP_ret, ld, chk_same, eql_int, if_neg Bool.false_ne_true, beq_self_eq_true]
    have sr : ∀ (K : V → St → Res), A.ret (A.store 4 (.ptr (st.n + 2) 0) (.agg (rjC room sure' G' 0 0)) s6 fun s => kid (.tup []) s) K = A.store 4 (.ptr (st.n + 2) 0) (.agg (rjC room sure' G' 0 0)) s6 fun s => K (.tup []) s := fun K => by rw [rj_store q7, rj_store q7]; rfl
    rw [sr, dres q7]
    have hno : ¬ owns bv6 (st.n + 2) := fun g => by
      rcases w3.own _ g with g2 | g2
      · exact hown _ (by omega) g2
      · omega
    have hJ : JAt s6 id room bv6 (packsB G') sure' ∧ GoodL G' := by
      rcases eC with ⟨g0, rfl, rfl⟩ | ⟨g0, rfl, rfl⟩
      · obtain ⟨v1, v2⟩ := w4 g0
        rcases jbegin_ok room o.all with ⟨_, v3, v4⟩ | v3
        · rw [v3] at v1
          subst v1
          subst v2
          exact ⟨w2, fun n hn => ⟨v4 n hn, packOK_small (ho.all n hn).2 (v4 n hn)⟩⟩
        · omega
      · obtain ⟨v1, v2⟩ := w5 g0
        subst v1
        subst v2
        exact ⟨w2, hG⟩
    exact ⟨_, bv6, _, _, rfl, hJ.1.putO (by omega) hno _, hJ.2, (fr5.trans w3).putO (by omega) _⟩
  -- Size
  rw [show (o.kind == 4) = false from beq_eq_false_iff_ne.2 c4, cond_false]
  unfold g19b11
  have ld : ldv true 4 (.ptr st.n 0) s3 = some (.agg (rjC room sure G 0 0)) := by unfold ldv; rw [l4]; rfl
  have o4 : (s3.put (st.n + 2) (.cells (rjC room sure G 0 0))).ob st.n = some (.cells (rjC room sure G 0 0)) := by rw [put_ne _ _ (by omega)]; exact o1
  have ld2 : ldv false 1 (.ptr st.n 1) (s3.put (st.n + 2) (.cells (rjC room sure G 0 0))) = some (.int .i64 (sure : Nat)) := by
    obtain ⟨_, m1, _⟩ := rj_load o4
    unfold ldv; rw [m1]; rfl
  rw [er1_ptr, jsize_s h3, ret_ret, ext_0, ext_1, l4, l4, rj_er, rbytes_s _ _ _ hGl, ret_kid', ret_ret, ld, chk_same, eql_int, if_neg Bool.false_ne_true, beq_self_eq_true, guard_tt, faddr_ptr, Nat.zero_add, l1, eql_int, if_neg Bool.false_ne_true, beq_self_eq_true]
  have sr : ∀ (K : V → St → Res), A.ret (A.store 4 (.ptr (st.n + 2) 0) (.agg (rjC room sure G 0 0)) s3 fun s => kid (.tup []) s) K = K (.tup []) (s3.put (st.n + 2) (.cells (rjC room sure G 0 0))) := fun K => by rw [rj_store o3]; rfl
  rw [sr, ld2, chk_same]
  obtain ⟨_, _, _, _, m5⟩ := rj_load (put_at s3 (st.n + 2) (.cells (rjC room sure G 0 0)))
  rw [m5, kid_eq, rtmp_some, rcell_some, res_two]
  exact ⟨_, bv, G, sure, rfl, h3.putO (by omega) (hown _ (by omega)) _, hG, fr.putO (by omega) _⟩
end Go.Ab
