import Derived.Test.YtimidokohhiacaaAbA09x
import Derived.Test.YtimidokohhiacaaAbA09n
import Derived.Test.YtimidokohhiacaaAbA10a
/- sinewref09: the walk of Parse. -/
namespace Go.Ab
open Go.Proofs Go.RowKit
set_option linter.unusedVariables false
set_option linter.unusedSimpArgs false
set_option maxRecDepth 100000
theorem pll_szl : ∀ ps : List Pth, (∀ p ∈ ps, p.pl = p.sz.1) → Pth.pll ps = (Pth.szl ps).1
  | [], _ => rfl
  | p :: ps, h => by rw [pll_cons, szl_cons, h p (by simp), pll_szl ps fun q hq => h q (by simp [hq])]
theorem pl_sz : QC (fun _ => True) fun p => p.pl = p.sz.1 where
  word := fun w _ => rfl
  post := fun k p hk hp => by
    have : k ≠ 1 := by rcases hk with rfl | rfl | rfl <;> decide
    rw [pl_eq, sz_eq, if_neg this, if_neg this, pll_cons, szl_cons, pll_nil, szl_nil, hp]; simp
  more := fun k ps hk _ hp => by
    have : k ≠ 1 := by rcases hk with rfl | rfl <;> decide
    rw [pl_eq, sz_eq, if_neg this, if_neg this]
    simp only [Nat.zero_add]
    exact pll_szl ps hp
theorem whyR_eq {r : Rq} (h : ∀ a ∈ r.atoms, a.p.pl = a.p.sz.1) : whyR r = whyP r := by
  have e : deepR r.atoms = deepA r.atoms := by
    unfold deepR deepA
    generalize r.atoms = l at h
    induction l with
    | nil => rfl
    | cons a l ih => rw [List.any_cons, List.any_cons, h a (by simp), ih fun b hb => h b (by simp [hb])]
  unfold whyR whyP
  rw [e]
theorem rparse_s (s : List UInt8) (st : St) : s14 [.str s] st = some (.ret (parseV (parseP s)), st) := by
  have main : ∃ st', f14 (.str s) st = some (.ret (parseV (parseP s)), st') ∧ Ks st st' := by
    unfold f14
    have b1 : ∀ K : V → St → Res, A.box (.agg [(.int .i64 0), (.lst [] 1), (.lst [] 1), (.lst [] 1)]) st K = K (.ptr st.n 0) (st.new (.cells (rqCt rq0 1 1 1))) := fun K => rfl
    rw [b1]
    have o1 := new_at st (.cells (rqCt rq0 1 1 1))
    have k1 : Ks st (st.new (.cells (rqCt rq0 1 1 1))) := (Ks.refl st).new _
    have n1 : (st.new (.cells (rqCt rq0 1 1 1))).n = st.n + 1 := rfl
    generalize st.new (.cells (rqCt rq0 1 1 1)) = s1 at o1 k1 n1 ⊢
    rw [er1_str, rsigns_s, ret_ret]
    have ld4 : ∀ {x : St} {cs : List V}, x.ob st.n = some (.cells cs) → ones cs = true → cs.length = 4 → A.load true 4 (.ptr st.n 0) x kid = some (.ret (.agg cs), x) := fun {x cs} ho h1 hl => by
      rw [load_obA, ho, obo_some, h1]
      show (if 0 + 4 ≤ cs.length then kid (.agg ((cs.drop 0).take 4)) x else none) = _
      rw [if_pos (by omega), List.drop_zero, ← hl, List.take_length]; rfl
    have bu0 : ∀ K, A.build [(.int .i64 0), (.lst [] 1), (.lst [] 1), (.lst [] 1)] [] K = K (.agg (rqCt rq0 1 1 1)) := fun K => rfl
    -- nothing is told
    have zero : ∀ {x : St} {cs : List V} (a e : Int), Ks st x → x.ob st.n = some (.cells cs) → cs.length = 4 → ∃ st', (A.build [(.int .i64 0), (.lst [] 1), (.lst [] 1), (.lst [] 1)] [] fun a2 => A.store 4 (.ptr st.n 0) a2 x fun z3 => A.res (rcell (A.load true 4 (.ptr st.n 0) z3 kid) (rtmp (.int .i64 a) (rtmp (.int .i64 e) (some [])))) z3) = some (.ret (parseV (rqZ, a, e)), st') ∧ Ks st st' := fun {x cs} a e k ho hl => by
      rw [bu0, sv_all 4 _ ho rfl hl rfl, ld4 (put_at _ _ _) rfl rfl]
      exact ⟨_, rfl, k.put (Nat.le_refl _) _⟩
    unfold parseP signsV
    by_cases h : 4096 < s.length
    · rw [if_pos h, if_pos h]
      simp only [ext_0, ext_1, ext_2]
      unfold g14b11
      simp only [eql_int, if_true]
      rw [show ((1 : Int) != 0) = true from rfl, cond_true]
      exact zero 0 1 k1 o1 rfl
    rw [if_neg h, if_neg h]
    cases hlex : lexA s with
    | bad k =>
      simp only [sgF, ext_0, ext_1, ext_2]
      unfold g14b11
      simp only [eql_int, if_true]
      rw [show ((80 : Int) != 0) = true from rfl, cond_true]
      exact zero k 80 k1 o1 rfl
    | ok l =>
      have hl := lex_len hlex
      simp only [sgF, ext_0, ext_1, ext_2]
      unfold g14b11
      simp only [eql_int, if_true]
      rw [show ((0 : Int) != 0) = false from rfl, cond_false]
      have bp : ∀ K, A.build [(.lst [] 1), (.int .i64 0), (.int .i64 0), (.bool false), (.int .i64 0)] [(0, 1, .lst (l.map sgV) 0), (2, 1, .int .i64 (s.length : Nat))] K = K (.agg (rdC l 0 (s.length : Nat) false 0)) := fun K => rfl
      have bx : ∀ K : V → St → Res, A.box (.agg (rdC l 0 (s.length : Nat) false 0)) s1 K = K (.ptr s1.n 0) (s1.new (.cells (rdC l 0 (s.length : Nat) false 0))) := fun K => rfl
      simp only [lenS_str, bp, bx]
      unfold g14b1111
      rw [er1_ptr]
      have o2 : RAt s1.n l (s.length : Nat) (s1.new (.cells (rdC l 0 (s.length : Nat) false 0))) (.ok () l) := ⟨0, Nat.zero_le _, rfl, new_at s1 _⟩
      have k2 : Ks st (s1.new (.cells (rdC l 0 (s.length : Nat) false 0))) := k1.new _
      have o12 : (s1.new (.cells (rdC l 0 (s.length : Nat) false 0))).ob st.n = some (.cells (rqCt rq0 1 1 1)) := by rw [new_ne _ _ (by omega)]; exact o1
      have n2 : (s1.new (.cells (rdC l 0 (s.length : Nat) false 0))).n = s1.n + 1 := by simp
      obtain ⟨s3, q, q3, k3, h3, hv⟩ := rreq_s (N := l.length + 1) (by omega) (by omega) (by omega) o2 (by omega)
      have n3 := k3.n
      have k23 : Ks st s3 := ⟨fun i hi => (k3.ob i (by omega) (by omega)).trans (k2.ob i hi), Nat.le_trans k2.n k3.n, Nat.le_trans k2.nt k3.nt, fun t ht => (k3.tk t (Nat.lt_of_lt_of_le ht k2.nt)).trans (k2.tk t ht)⟩
      have o3 := (k3.ob st.n (by omega) (by omega)).trans o12
      rw [q3, ret_ret]
      have bx4 : ∀ K : V → St → Res, A.box (.agg [(.int .i64 0), (.lst [] 1), (.lst [] 1), (.lst [] 1)]) s3 K = K (.ptr s3.n 0) (s3.new (.cells (rqCt rq0 1 1 1))) := fun K => rfl
      rw [bx4, show A.store 4 (.ptr s3.n 0) (rqV q) (s3.new (.cells (rqCt rq0 1 1 1))) = _ from funext fun K => sv_all 4 (rqC q) (new_at _ _) rfl rfl rfl K]
      dsimp only
      have k4 : Ks st ((s3.new (.cells (rqCt rq0 1 1 1))).put s3.n (.cells (rqC q))) := (k23.new _).put (by omega) _
      have o4 : ((s3.new (.cells (rqCt rq0 1 1 1))).put s3.n (.cells (rqC q))).ob st.n = some (.cells (rqCt rq0 1 1 1)) := by rw [put_ne _ _ (by omega), new_ne _ _ (by omega)]; exact o3
      have oq4 := put_at (s3.new (.cells (rqCt rq0 1 1 1))) s3.n (.cells (rqC q))
      have h4 := (h3.new (by omega) (.cells (rqCt rq0 1 1 1))).put (i := s3.n) (by omega) (.cells (rqC q))
      generalize (s3.new (.cells (rqCt rq0 1 1 1))).put s3.n (.cells (rqC q)) = s4 at k4 o4 oq4 h4 ⊢
      cases hr : pReq (l.length + 1) l with
      | bad l' =>
        rw [hr] at h4
        obtain ⟨kk, hk, ho⟩ := h4
        obtain ⟨_, _, _, w3, w4⟩ := rd_load ho
        simp only [nilc_ptr, faddr_ptr, Nat.zero_add, w3]
        rw [cond_true, bu0]
        simp only [nilc_ptr, faddr_ptr, Nat.zero_add, w4]
        have so : A.store 4 (.ptr st.n 0) (.agg (rqCt rq0 1 1 1)) s4 (fun s => kid (.tup []) s) = some (.ret (.tup []), s4.put st.n (.cells (rqCt rq0 1 1 1))) := by rw [sv_all 4 _ o4 rfl rfl rfl]; rfl
        rw [so, ret_ret]
        have w5 : ldv false 1 (.ptr s1.n 4) (s4.put st.n (.cells (rqCt rq0 1 1 1))) = some (.int .i64 (nowS l' (s.length : Nat)).at_) := by unfold ldv; rw [load_ob, put_ne _ _ (by omega), ho]; rfl
        rw [w5, chk_same, ld4 (put_at _ _ _) rfl rfl]
        exact ⟨_, rfl, k4.put (Nat.le_refl _) _⟩
      | ok r l' =>
        rw [hr] at h4
        obtain ⟨kk, hk, _, ho⟩ := h4
        obtain ⟨_, _, _, w3, w4⟩ := rd_load ho
        simp only [nilc_ptr, faddr_ptr, Nat.zero_add, w3]
        have hqr := hv r l' hr
        subst hqr
        rw [cond_false]
        unfold g14bz3j
        have ld : ∀ K : V → St → Res, A.load true 4 (.ptr s3.n 0) s4 K = K (rqV q) s4 := fun K => by rw [load_obA, oq4]; rfl
        obtain ⟨z1, z2, z3, z4⟩ := pReq_small (l.length + 1) hr
        have hall := pReq_all pl_sz (l.length + 1) (l := l) (fun _ _ _ => trivial)
        rw [hr] at hall
        have hpl : ∀ a ∈ q.atoms, a.p.pl = a.p.sz.1 := by
          rcases hall with ⟨_, _, _, _, _, h⟩ | ⟨_, _, h, _⟩
          · exact fun a ha => (h a ha).2.1
          · intro a ha; rw [h] at ha; cases ha
        have hw := rwhy_s (r := q) ⟨by omega, by omega, fun a ha => by obtain ⟨y1, y2, y3⟩ := z4 a ha; omega⟩ s4
        rw [whyR_eq hpl] at hw
        rw [ld, show (rqV q).er1 = rqV q from rfl, hw, ret_ret]
        simp only [eql_int, if_true]
        by_cases hz : whyP q = 0
        · rw [show (whyP q != 0) = false from by rw [hz]; rfl, cond_false, ld, show A.store 4 (.ptr st.n 0) (rqV q) s4 = _ from funext fun K => sv_all 4 (rqC q) o4 rfl rfl rfl K]
          show ∃ st', A.res (rcell (A.load true 4 (.ptr st.n 0) (s4.put st.n (.cells (rqC q))) kid) _) _ = _ ∧ _
          rw [ld4 (put_at _ _ _) rfl rfl, if_pos hz]
          exact ⟨_, rfl, k4.put (Nat.le_refl _) _⟩
        · rw [show (whyP q != 0) = true from bne_iff_ne.2 hz, cond_true, if_neg hz]
          exact zero 0 (whyP q) k4 o4 rfl
  obtain ⟨st', q1, q2⟩ := main
  rw [s14_eq]
  have hera : (parseV (parseP s)).era = parseV (parseP s) := rfl
  have := fg_of q1 q2 (by rw [hera]; show V.puL [rqV _, .int .i64 _, .int .i64 _] = true; simp [rqV_pu])
  exact this
end Go.Ab
