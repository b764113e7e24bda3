import Derived.Test.YtimidokohhiacaaAbA09e
/- sinew/query: read. -/
namespace Go.Ab
open Go.Proofs Go.RowKit
set_option linter.unusedVariables false
set_option linter.unusedSimpArgs false
set_option maxRecDepth 100000
def rq0 : Rq := ⟨0, [], [], []⟩
def readR (r : PR Rq) (e : Int) : List V := match r with | .ok r _ => [rqV r, .int .i64 0, .int .i64 0] | .bad l => [rqV rq0, .int .i64 (nowS l e).at_, .int .i64 90]
/-- A request's cells, with some rights. -/
def rqCt (r : Rq) (u1 u2 u3 : Nat) : List V := [.int .i64 r.kind, .lst (strsV r.vars) u1, .lst (r.atoms.map atpV) u2, .lst (r.ch.map chV) u3]
structure RdAt (st : St) (i j k : Nat) (cs : List V) : Prop where
  oi : st.ob i = some (.cells cs)
  oj : st.ob j = some (.cells [.int .i64 0])
  ok : st.ob k = some (.cells [.int .i64 0])
  len : cs.length = 4
/-- What a body answers. -/
def Body (p : Nat) (st0 : St) (e : Int) (i j k : Nat) (r : PR Rq) (x : Res) : Prop := match r with
  | .ok r _ => ∃ st' u1 u2 u3, x = some (.ret (.tup []), st') ∧ KsP p st0 st' ∧ RdAt st' i j k (rqCt r u1 u2 u3)
  | .bad l => ∃ st' cs, x = some (.panic (.iface 88 (.agg [.int .i64 (nowS l e).at_])), st') ∧ KsP p st0 st' ∧ RdAt st' i j k cs ∧ k < st'.n
theorem r25d_s {p i j k : Nat} {e : Int} {st0 s : St} {l : List Sg} {t u1 u2 u3 : Nat} (r : Rq) (kp : KsP p st0 s) (h : s.ob p = some (pc l t e)) (a : RdAt s i j k (rqCt r u1 u2 u3)) (hi : st0.n ≤ i) (hj : st0.n ≤ j) (hk : st0.n ≤ k) (hij : i ≠ j) (hik : i ≠ k) (hjk : j ≠ k) (hkn : k < s.n) :
    Body p st0 e i j k (if l = [] then .ok r [] else .bad l) (r25d (.ptr p 0) (.ptr i 0) (.ptr j 0) (.ptr k 0) s) := by
  unfold r25d
  have w0 : ∀ K : V → St → Res, A.load false 1 (.ptr p 0) s K = K (.lst (l.map sgV) t) s := fun K => by simp [h, pc]
  simp only [nilc_ptr, faddr_ptr, Nat.zero_add, w0, lenL_lst, List.length_map, bin_gtr]
  cases l with
  | nil =>
    simp only [List.length_nil, show ¬ ((0 : Int) < ((0 : Nat) : Int)) from by omega, decide_false, cond_false, if_true]
    have ld : ∀ K : V → St → Res, A.load true 4 (.ptr i 0) s K = K (.agg (rqCt r u1 u2 u3)) s := fun K => by rw [load_obA, a.oi]; rfl
    rw [ld, sv_all 4 _ a.oi rfl rfl rfl]
    have oj : (s.put i (.cells (rqCt r u1 u2 u3))).ob j = some (.cells [.int .i64 0]) := by rw [put_ne _ _ (fun g => hij g.symm)]; exact a.oj
    have s1 : ∀ K : St → Res, A.store 1 (.ptr j 0) (.int .i64 0) (s.put i (.cells (rqCt r u1 u2 u3))) K = K ((s.put i (.cells (rqCt r u1 u2 u3))).put j (.cells [.int .i64 0])) := fun K => by rw [store_ob _ _ _ _ _ rfl, oj]; rfl
    rw [s1]
    have ok : ((s.put i (.cells (rqCt r u1 u2 u3))).put j (.cells [.int .i64 0])).ob k = some (.cells [.int .i64 0]) := by rw [put_ne _ _ (fun g => hjk g.symm), put_ne _ _ (fun g => hik g.symm)]; exact a.ok
    have s2 : ∀ K : St → Res, A.store 1 (.ptr k 0) (.int .i64 0) ((s.put i (.cells (rqCt r u1 u2 u3))).put j (.cells [.int .i64 0])) K = K (((s.put i (.cells (rqCt r u1 u2 u3))).put j (.cells [.int .i64 0])).put k (.cells [.int .i64 0])) := fun K => by rw [store_ob _ _ _ _ _ rfl, ok]; rfl
    rw [s2]
    refine ⟨_, u1, u2, u3, rfl, ((kp.put hi _).put hj _).put hk _, ?_, ?_, put_at _ _ _, rfl⟩
    · rw [put_ne _ _ hik, put_ne _ _ hij, put_at]
    · rw [put_ne _ _ hjk, put_at]
  | cons x l =>
    have i1 : ∀ K, A.iaddr 3 (.lst ((x :: l).map sgV) t) (.int .i64 0) K = K (.lptr [.int .i64 x.k, .str x.tx, .int .i64 x.at_]) := fun K => rfl
    have b : ∀ K, A.build [(.int .i64 0)] [(0, 1, .int .i64 x.at_)] K = K (.agg [.int .i64 x.at_]) := fun K => rfl
    simp only [List.length_cons, show ((0 : Int) < ((l.length + 1 : Nat) : Int)) from by omega, decide_true, cond_true, i1, faddr_lptr, List.length_nil]
    exact ⟨s, _, rfl, kp, a, hkn⟩
theorem r25c_s {p i j k : Nat} {e : Int} (N : Nat) (hN : N ≤ 90000) {st0 s : St} {l : List Sg} {t : Nat} (hl : l.length < N) (hmk : MkOK l) (kp : KsP p st0 s) (h : s.ob p = some (pc l t e)) (a : RdAt s i j k (rqCt rq0 1 1 1)) (hp : p < st0.n) (hi : st0.n ≤ i) (hj : st0.n ≤ j) (hk : st0.n ≤ k) (hij : i ≠ j) (hik : i ≠ k) (hjk : j ≠ k) (hin : i < s.n) (hjn : j < s.n) (hkn : k < s.n) :
    Body p st0 e i j k (pReq N l) (r25c (.ptr p 0) (.ptr i 0) (.ptr j 0) (.ptr k 0) (.bool (isSel l)) s) := by
  have hps : p < s.n := by have := kp.n; omega
  have lift : ∀ {s1 : St}, KsP p s s1 → RdAt s1 i j k (rqCt rq0 1 1 1) := fun {s1} k1 => ⟨(k1.ob i hin (by omega)).trans a.oi, (k1.ob j hjn (by omega)).trans a.oj, (k1.ob k hkn (by omega)).trans a.ok, rfl⟩
  unfold r25c pReq
  cases hs : isSel l with
  | true =>
    rw [cond_true, if_pos rfl]
    simp only [er1_ptr]
    have hq := query_s (e := e) N hN hl hmk h hps
    cases hr : pQuery N l with
    | ok q l1 =>
      rw [hr] at hq
      obtain ⟨s1, t1, q1, k1, h1⟩ := hq
      have n1 := k1.n
      rw [q1, ret_ret, PR.bind_ok]
      have b : ∀ K, A.build [(.int .i64 0), (.lst [] 1), (.lst [] 1), (.lst [] 1)] [(0, 1, .int .i64 1), (1, 2, qV q)] K = K (.agg (rqCt ⟨1, q.1, q.2, []⟩ 0 0 1)) := fun K => rfl
      have a1 := lift k1
      rw [b, sv_all 4 _ a1.oi rfl rfl rfl]
      exact r25d_s ⟨1, q.1, q.2, []⟩ ((kp.trans k1).put hi _) (by rw [put_ne _ _ (by omega)]; exact h1) ⟨put_at _ _ _, by rw [put_ne _ _ (fun g => hij g.symm)]; exact a1.oj, by rw [put_ne _ _ (fun g => hik g.symm)]; exact a1.ok, rfl⟩ hi hj hk hij hik hjk (by rw [put_n]; omega)
    | bad l1 =>
      rw [hr] at hq
      obtain ⟨s1, t1, q1, k1, h1⟩ := hq
      rw [q1, ret_panic, PR.bind_bad]
      exact ⟨s1, _, rfl, kp.trans k1, lift k1, by have := k1.n; omega⟩
  | false =>
    rw [cond_false, if_neg (by simp)]
    simp only [er1_ptr]
    have hq := batch_s (e := e) N hN hl h hps
    cases hr : pChs N [] l with
    | ok cs l1 =>
      rw [hr] at hq
      obtain ⟨s1, t1, v, q1, ⟨u, rfl⟩, k1, h1⟩ := hq
      have n1 := k1.n
      rw [q1, ret_ret, PR.bind_ok]
      have b : ∀ K, A.build [(.int .i64 0), (.lst [] 1), (.lst [] 1), (.lst [] 1)] [(0, 1, .int .i64 2), (3, 1, .lst (cs.map chV) u)] K = K (.agg (rqCt ⟨2, [], [], cs⟩ 1 1 u)) := fun K => rfl
      have a1 := lift k1
      rw [b, sv_all 4 _ a1.oi rfl rfl rfl]
      exact r25d_s ⟨2, [], [], cs⟩ ((kp.trans k1).put hi _) (by rw [put_ne _ _ (by omega)]; exact h1) ⟨put_at _ _ _, by rw [put_ne _ _ (fun g => hij g.symm)]; exact a1.oj, by rw [put_ne _ _ (fun g => hik g.symm)]; exact a1.ok, rfl⟩ hi hj hk hij hik hjk (by rw [put_n]; omega)
    | bad l1 =>
      rw [hr] at hq
      obtain ⟨s1, t1, q1, k1, h1⟩ := hq
      rw [q1, ret_panic, PR.bind_bad]
      exact ⟨s1, _, rfl, kp.trans k1, lift k1, by have := k1.n; omega⟩
theorem r25b_s {p i j k : Nat} {e : Int} (N : Nat) (hN : N ≤ 90000) {st0 s : St} {l : List Sg} {t : Nat} (hl : l.length < N) (hmk : MkOK l) (kp : KsP p st0 s) (h : s.ob p = some (pc l t e)) (a : RdAt s i j k (rqCt rq0 1 1 1)) (hp : p < st0.n) (hi : st0.n ≤ i) (hj : st0.n ≤ j) (hk : st0.n ≤ k) (hij : i ≠ j) (hik : i ≠ k) (hjk : j ≠ k) (hin : i < s.n) (hjn : j < s.n) (hkn : k < s.n) :
    Body p st0 e i j k (pReq N l) (r25b (.ptr p 0) (.ptr i 0) (.ptr j 0) (.ptr k 0) s) := by
  have hps : p < s.n := by have := kp.n; omega
  unfold r25b
  obtain ⟨s1, q1, k1⟩ := now_s h hps
  simp only [er1_ptr, q1, ret_ret, lay_sg, faddr_ptr, Nat.zero_add]
  have n1 := k1.n
  have k2 : Ks s ((s1.new (.cells [.int .i64 0, .str [], .int .i64 0])).put s1.n (.cells [.int .i64 (nowS l e).k, .str (nowS l e).tx, .int .i64 (nowS l e).at_])) := (k1.new _).put n1 _
  have o2 := put_at (s1.new (.cells [.int .i64 0, .str [], .int .i64 0])) s1.n (.cells [.int .i64 (nowS l e).k, .str (nowS l e).tx, .int .i64 (nowS l e).at_])
  have n2 : s1.n < ((s1.new (.cells [.int .i64 0, .str [], .int .i64 0])).put s1.n (.cells [.int .i64 (nowS l e).k, .str (nowS l e).tx, .int .i64 (nowS l e).at_])).n := by simp
  generalize (s1.new (.cells [.int .i64 0, .str [], .int .i64 0])).put s1.n (.cells [.int .i64 (nowS l e).k, .str (nowS l e).tx, .int .i64 (nowS l e).at_]) = s2 at k2 o2 n2 ⊢
  have w0 : ∀ K : V → St → Res, A.load false 1 (.ptr s1.n 0) s2 K = K (.int .i64 (nowS l e).k) s2 := fun K => by simp [o2]
  have w1 : ∀ K : V → St → Res, A.load false 1 (.ptr s1.n 1) s2 K = K (.str (nowS l e).tx) s2 := fun K => by simp [o2]
  have a2 : RdAt s2 i j k (rqCt rq0 1 1 1) := ⟨(k2.ob i hin).trans a.oi, (k2.ob j hjn).trans a.oj, (k2.ob k hkn).trans a.ok, rfl⟩
  have main := r25c_s N hN hl hmk (kp.trans (k2.toP p)) ((k2.ob p hps).trans h) a2 hp hi hj hk hij hik hjk (by omega) (by omega) (by omega)
  simp only [w0, w1, eql_int, eql_str, Bool.false_eq_true, if_false]
  cases l with
  | nil => exact main
  | cons x l =>
    show Body p st0 e i j k _ (A.guard (.bool (x.k == 1)) true (r25c (.ptr p 0) (.ptr i 0) (.ptr j 0) (.ptr k 0) (.bool (x.tx == selW)) s2) (r25c (.ptr p 0) (.ptr i 0) (.ptr j 0) (.ptr k 0) (.bool false) s2))
    have hs : isSel (x :: l) = (x.k == 1 && x.tx == selW) := rfl
    rw [hs] at main
    cases hk1 : (x.k == 1) with
    | true => rw [hk1, Bool.true_and] at main; rw [guard_tt]; exact main
    | false => rw [hk1, Bool.false_and] at main; rw [guard_ft]; exact main
theorem rAll_s {st : St} {i j k : Nat} {cs : List V} {a b : Int} (oi : st.ob i = some (.cells cs)) (hl : cs.length = 4) (h1 : ones cs = true) (oj : st.ob j = some (.cells [.int .i64 a])) (ok : st.ob k = some (.cells [.int .i64 b])) : rAll (.ptr i 0) (.ptr j 0) (.ptr k 0) st = some (.ret (.tup [.agg (cs.map V.er0), .int .i64 a, .int .i64 b]), st) := by
  unfold rAll
  have l1 : A.load true 4 (.ptr i 0) st kid = some (.ret (.agg cs), st) := by
    rw [load_obA, oi, obo_some, h1]
    show (if 0 + 4 ≤ cs.length then kid (.agg ((cs.drop 0).take 4)) st else none) = _
    rw [if_pos (by omega), List.drop_zero, ← hl, List.take_length]; rfl
  have l2 : A.load false 1 (.ptr j 0) st kid = some (.ret (.int .i64 a), st) := by rw [load_ob, oj]; rfl
  have l3 : A.load false 1 (.ptr k 0) st kid = some (.ret (.int .i64 b), st) := by rw [load_ob, ok]; rfl
  rw [l1, l2, l3]; rfl
theorem r49_s {st : St} {i j k : Nat} {cs : List V} (a : Int) (h : RdAt st i j k cs) (hij : i ≠ j) (hik : i ≠ k) (hjk : j ≠ k) (hi : i < st.n) (hj : j < st.n) (hk : k < st.n) : ∃ st', r49 (.ptr i 0) (.ptr j 0) (.ptr k 0) a st = some (.ret (.tup []), st') ∧ st'.ob i = some (.cells (rqCt rq0 1 1 1)) ∧ st'.ob j = some (.cells [.int .i64 a]) ∧ st'.ob k = some (.cells [.int .i64 90]) ∧ (∀ x, x < st.n → x ≠ i → x ≠ j → x ≠ k → st'.ob x = st.ob x) ∧ st.n ≤ st'.n ∧ st'.nt = st.nt ∧ st'.tk = st.tk := by
  unfold r49
  have bx : ∀ K : V → St → Res, A.box (.agg [.int .i64 0]) st K = K (.ptr st.n 0) (st.new (.cells [.int .i64 0])) := fun K => rfl
  rw [bx, sv_all 1 _ (new_at _ _) rfl rfl rfl, faddr_ptr, Nat.zero_add]
  have o1 := put_at (st.new (.cells [.int .i64 0])) st.n (.cells [.int .i64 a])
  have k1 : ∀ x, x < st.n → ((st.new (.cells [.int .i64 0])).put st.n (.cells [.int .i64 a])).ob x = st.ob x := fun x hx => by rw [put_ne _ _ (by omega), new_ne _ _ (by omega)]
  have n1 : ((st.new (.cells [.int .i64 0])).put st.n (.cells [.int .i64 a])).n = st.n + 1 := by simp
  have t1 : ((st.new (.cells [.int .i64 0])).put st.n (.cells [.int .i64 a])).nt = st.nt := rfl
  have t2 : ((st.new (.cells [.int .i64 0])).put st.n (.cells [.int .i64 a])).tk = st.tk := rfl
  generalize (st.new (.cells [.int .i64 0])).put st.n (.cells [.int .i64 a]) = s1 at o1 k1 n1 t1 t2 ⊢
  have w : ∀ K : V → St → Res, A.load false 1 (.ptr st.n 0) s1 K = K (.int .i64 a) s1 := fun K => by simp [o1]
  have hs1 : A.store 4 (.ptr i 0) (.agg [(.int .i64 0), (.lst [] 1), (.lst [] 1), (.lst [] 1)]) s1 (fun s => kid (.tup []) s) = some (.ret (.tup []), s1.put i (.cells (rqCt rq0 1 1 1))) := by
    rw [sv_all 4 _ ((k1 i hi).trans h.oi) rfl h.len rfl]; rfl
  have w2 : ldv false 1 (.ptr st.n 0) (s1.put i (.cells (rqCt rq0 1 1 1))) = some (.int .i64 a) := by unfold ldv; rw [load_ob, put_ne _ _ (by omega), o1]; rfl
  have oj : (s1.put i (.cells (rqCt rq0 1 1 1))).ob j = some (.cells [.int .i64 0]) := by rw [put_ne _ _ (fun g => hij g.symm), k1 j hj]; exact h.oj
  have hs2 : A.store 1 (.ptr j 0) (.int .i64 a) (s1.put i (.cells (rqCt rq0 1 1 1))) (fun s => kid (.tup []) s) = some (.ret (.tup []), (s1.put i (.cells (rqCt rq0 1 1 1))).put j (.cells [.int .i64 a])) := by
    rw [store_ob _ _ _ _ _ rfl, oj]; rfl
  have ok : ((s1.put i (.cells (rqCt rq0 1 1 1))).put j (.cells [.int .i64 a])).ob k = some (.cells [.int .i64 0]) := by rw [put_ne _ _ (fun g => hjk g.symm), put_ne _ _ (fun g => hik g.symm), k1 k hk]; exact h.ok
  have hs3 : A.store 1 (.ptr k 0) (.int .i64 90) ((s1.put i (.cells (rqCt rq0 1 1 1))).put j (.cells [.int .i64 a])) (fun s => kid (.tup []) s) = some (.ret (.tup []), ((s1.put i (.cells (rqCt rq0 1 1 1))).put j (.cells [.int .i64 a])).put k (.cells [.int .i64 90])) := by
    rw [store_ob _ _ _ _ _ rfl, ok]; rfl
  rw [w, hs1, ret_ret, w2, chk_same, hs2, ret_ret, hs3, ret_ret]
  refine ⟨_, rfl, ?_, ?_, put_at _ _ _, fun x hx h1 h2 h3 => ?_, by simp; omega, t1, t2⟩
  · rw [put_ne _ _ hik, put_ne _ _ hij, put_at]
  · rw [put_ne _ _ hjk, put_at]
  · rw [put_ne _ _ h3, put_ne _ _ h2, put_ne _ _ h1]; exact k1 x hx
theorem read_s {p : Nat} {e : Int} (N : Nat) (hN : N ≤ 90000) {st : St} {l : List Sg} {t : Nat} (hl : l.length < N) (hmk : MkOK l) (h : st.ob p = some (pc l t e)) (hp : p < st.n) :
    ∃ st', s25 [.ptr p 0] st = some (.ret (.tup (readR (pReq N l) e)), st') ∧ KsP p st st' := by
  rw [s25_eq]
  unfold f25
  have b1 : ∀ K : V → St → Res, A.box (.agg [(.int .i64 0), (.lst [] 1), (.lst [] 1), (.lst [] 1)]) st K = K (.ptr st.n 0) (st.new (.cells (rqCt rq0 1 1 1))) := fun K => rfl
  have b2 : ∀ (s : St) (K : V → St → Res), A.box (.int .i64 0) s K = K (.ptr s.n 0) (s.new (.cells [.int .i64 0])) := fun s K => rfl
  rw [b1, b2, b2]
  have k1 : KsP p st (((st.new (.cells (rqCt rq0 1 1 1))).new (.cells [.int .i64 0])).new (.cells [.int .i64 0])) := (((KsP.refl p st).new _).new _).new _
  have n1 : (((st.new (.cells (rqCt rq0 1 1 1))).new (.cells [.int .i64 0])).new (.cells [.int .i64 0])).n = st.n + 3 := by simp
  have h1 : (((st.new (.cells (rqCt rq0 1 1 1))).new (.cells [.int .i64 0])).new (.cells [.int .i64 0])).ob p = some (pc l t e) := by
    rw [new_ne _ _ (by simp; omega), new_ne _ _ (by simp; omega), new_ne _ _ (by omega)]; exact h
  have a1 : RdAt (((st.new (.cells (rqCt rq0 1 1 1))).new (.cells [.int .i64 0])).new (.cells [.int .i64 0])) st.n (st.n + 1) (st.n + 2) (rqCt rq0 1 1 1) := by
    refine ⟨?_, ?_, ?_, rfl⟩
    · rw [new_ne _ _ (by simp only [new_n]; omega), new_ne _ _ (by simp only [new_n]; omega), new_at]
    · rw [new_ne _ _ (by simp only [new_n]; omega)]; exact new_at (st.new (.cells (rqCt rq0 1 1 1))) _
    · exact new_at ((st.new (.cells (rqCt rq0 1 1 1))).new (.cells [.int .i64 0])) _
  simp only [new_n]
  generalize ((st.new (.cells (rqCt rq0 1 1 1))).new (.cells [.int .i64 0])).new (.cells [.int .i64 0]) = s1 at k1 n1 h1 a1 ⊢
  have hb := r25b_s (e := e) N hN hl hmk k1 h1 a1 hp (Nat.le_refl _) (by omega) (by omega) (by omega) (by omega) (by omega) (by omega) (by omega) (by omega)
  cases hr : pReq N l with
  | ok r l' =>
    rw [hr] at hb
    obtain ⟨s2, u1, u2, u3, q2, k2, a2⟩ := hb
    rw [show st.n + 1 + 1 = st.n + 2 from rfl, q2]
    show ∃ st', aresK Try.prog Try.f25.results.toList .ret (fun t => bif Nat.beq t 0 then V.ptr p 0 else bif Nat.beq t 2 then .ptr st.n 0 else bif Nat.beq t 3 then .ptr (st.n + 1) 0 else bif Nat.beq t 4 then .ptr (st.n + 2) 0 else .tup []) s2 = _ ∧ _
    rw [rAll_eq, rAll_s a2.oi rfl rfl a2.oj a2.ok]
    exact ⟨s2, rfl, k2⟩
  | bad l' =>
    rw [hr] at hb
    obtain ⟨s2, cs, q2, k2, a2, n2⟩ := hb
    rw [show st.n + 1 + 1 = st.n + 2 from rfl, q2]
    obtain ⟨s3, q3, oi, oj, ok, kk, n3, t3, t4⟩ := r49_s (nowS l' e).at_ a2 (by omega) (by omega) (by omega) (by omega) (by omega) n2
    have e1 := (c49_eq st.n (st.n + 1) (st.n + 2) (nowS l' e).at_ s2).trans q3
    have e2 := (rAll_eq (V.ptr p 0) st.n (st.n + 1) (st.n + 2) s3).trans (rAll_s oi rfl rfl oj ok)
    refine ⟨s3, ?_, ⟨fun x hx hxp => (kk x (by have := k2.n; omega) (by omega) (by omega) (by omega)).trans (k2.ob x hx hxp), Nat.le_trans k2.n n3, by rw [t3]; exact k2.nt, fun x hx => by rw [t4]; exact k2.tk x hx⟩⟩
    show (match aexec Try.prog (fun _ => false) (tget []) big 15 ((fun m => areg Try.prog (fun _ => false) g25T m) 15) C49r kMark (env49 (.ptr st.n 0) (.ptr (st.n + 1) 0) (.ptr (st.n + 2) 0) (.iface 88 (.agg [.int .i64 (nowS l' e).at_]))) s2 with
      | some (.ret _, st'') => aresK Try.prog Try.f25.results.toList .ret (fun t => bif Nat.beq t 0 then V.ptr p 0 else bif Nat.beq t 2 then .ptr st.n 0 else bif Nat.beq t 3 then .ptr (st.n + 1) 0 else bif Nat.beq t 4 then .ptr (st.n + 2) 0 else .tup []) st''
      | _ => none) = _
    rw [e1]
    exact e2
end Go.Ab
