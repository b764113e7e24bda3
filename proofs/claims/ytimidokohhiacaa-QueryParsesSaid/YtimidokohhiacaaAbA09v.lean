import Derived.Test.YtimidokohhiacaaAbA09u
/- sinewref09: the reader: requests. -/
namespace Go.Ab
open Go.Proofs Go.RowKit
set_option linter.unusedVariables false
set_option linter.unusedSimpArgs false
set_option maxRecDepth 100000
def rqX (q : Rq) (u u2 u3 : Nat) : List V := [.int .i64 q.kind, .lst (strsV q.vars) u, .lst (q.atoms.map atpV) u2, .lst (q.ch.map chV) u3]
def qFin (q : Rq) (l : List Sg) : PR Rq := if l = [] then .ok q [] else .bad l
theorem rreq_out {p i j : Nat} {L : List Sg} {e : Int} {st0 s1 : St} {r : PR Rq} {cs : List V} {u u2 u3 : Nat} (q : Rq) (k : KsP p st0 s1) (h : RAt p L e s1 r.unit) (hq : ∀ b l, r = .ok b l → q = b) (o : s1.ob i = some (.cells (rqX q u u2 u3))) (oj : s1.ob j = some (.cells cs)) (hc : cs.length = 4) (hj : st0.n ≤ j) (hjp : p ≠ j) :
    RRes p L e rqV st0 r (A.load true 4 (.ptr i 0) s1 fun a6 z7 => A.store 4 (.ptr j 0) a6 z7 fun z8 => A.res (rcell (A.load true 4 (.ptr j 0) z8 kid) (some [])) z8) := by
  have ld : ∀ K : V → St → Res, A.load true 4 (.ptr i 0) s1 K = K (.agg (rqX q u u2 u3)) s1 := fun K => by rw [load_obA, o]; rfl
  rw [ld, sv_all 4 _ oj rfl hc rfl, res_cells 4 (put_at _ _ _) rfl rfl]
  exact ⟨_, q, rfl, k.put hj _, h.put hjp _, hq⟩
theorem rreq_end {p i j : Nat} {L : List Sg} {e : Int} (hL : L.length ≤ 1000000) {st0 s1 : St} {s : PR Unit} {cs : List V} {u u2 u3 : Nat} (q : Rq) (k : KsP p st0 s1) (h : RAt p L e s1 s) (o : s1.ob i = some (.cells (rqX q u u2 u3))) (oj : s1.ob j = some (.cells cs)) (hc : cs.length = 4) (hi : st0.n ≤ i) (hin : i < s1.n) (hj : st0.n ≤ j) (hjn : j < s1.n) (hp : p < st0.n) :
    RRes p L e rqV st0 (s.bind fun _ l => qFin q l) (g28b111 (.ptr p 0) (.ptr j 0) (.ptr i 0) s1) := by
  unfold g28b111 g28b11100_6
  obtain ⟨kk, b, a, hk, ho, hs⟩ := h.any
  obtain ⟨w0, w1, _, w3, _⟩ := rd_load ho
  cases s with
  | bad l =>
    obtain ⟨rfl, rfl⟩ := hs
    simp only [nilc_ptr, faddr_ptr, Nat.zero_add, w3, un_not, Bool.not_true, guard_ft]
    exact rreq_out q k h (fun b l h => by cases h) o oj hc hj (by omega)
  | ok _ l =>
    obtain ⟨hl, rfl, rfl⟩ := hs
    simp only [nilc_ptr, faddr_ptr, Nat.zero_add, w3, un_not, Bool.not_false, guard_tt, w0, w1, lenL_lst, List.length_map, bin_lss]
    show RRes p L e rqV st0 (qFin q l) _
    by_cases hlt : kk < L.length
    · rw [decide_eq_true (show ((kk : Int) < (L.length : Int)) by omega), cond_true]
      have hne : l ≠ [] := by
        intro g
        rw [g] at hl
        have := congrArg List.length hl
        simp at this; omega
      unfold qFin
      rw [if_neg hne]
      obtain ⟨s4, q4, k4, h4⟩ := rfails_s h (by have := k.n; omega)
      simp only [er1_ptr]
      rw [q4, ret_ret]
      exact rreq_out q (k.trans k4) h4 (fun b l h => by cases h) ((k4.ob _ (by omega) (by omega)).trans o) ((k4.ob _ (by omega) (by omega)).trans oj) hc hj (by omega)
    · rw [decide_eq_false (show ¬ ((kk : Int) < (L.length : Int)) by omega), cond_false]
      have hnil : l = [] := by rw [← hl, List.drop_of_length_le (by omega)]
      subst hnil
      exact rreq_out q k h (fun b l h => by cases h; rfl) o oj hc hj (by omega)
def pCh2 (n : Nat) (cs : List Chg) (l : List Sg) : PR (List Chg) := match pIs [46] l with | none => .ok cs l | some l' => pChs n cs l'
theorem pCh2_end {n : Nat} {cs : List Chg} {l : List Sg} (h : pIs [46] l = none) : pCh2 n cs l = .ok cs l := by unfold pCh2; rw [h]
theorem pCh2_more {n : Nat} {cs : List Chg} {l l' : List Sg} (h : pIs [46] l = some l') : pCh2 n cs l = pChs n cs l' := by unfold pCh2; rw [h]
theorem pChs_ch2 (n : Nat) (cs : List Chg) (l : List Sg) : pChs (n + 1) cs l = (pChg l).bind fun c l => pCh2 n (cs ++ [c]) l := rfl
/-- A change more. -/
theorem rch_app {p i : Nat} {L : List Sg} {e : Int} (hL : L.length ≤ 1000000) {st0 s1 : St} {s : PR Unit} {u3 : Nat} {cs : List Chg} {r : PR Rq} {K : V → St → Res} (k : KsP p st0 s1) (h : RAt p L e s1 s) (o : s1.ob i = some (.cells (rqX ⟨2, [], [], cs⟩ 1 1 u3))) (hu : Own st0 s1 4 u3) (hi : st0.n ≤ i) (hin : i < s1.n) (hip : p ≠ i) (hp : p < s1.n) (hcs : cs.length ≤ 100000000)
    (next : ∀ a s' u', (∀ b l, (s.bind fun _ l => pChg l) = .ok b l → a = b) → KsP p st0 s' → RAt p L e s' (s.bind fun _ l => pChg l).unit → s'.ob i = some (.cells (rqX ⟨2, [], [], cs ++ [a]⟩ 1 1 u')) → Own st0 s' 4 u' → s1.n ≤ s'.n → (∀ m, m < s1.n → m ≠ p → m ≠ i → s'.ob m = s1.ob m) → RRes p L e rqV st0 r (K (.tup []) s')) :
    RRes p L e rqV st0 r (A.faddr 3 (.ptr i 0) fun a9 => A.load false 1 a9 s1 fun a10 _ => A.ret (A.ret (s58 [.ptr p 0] s1) kid) fun a11 z12 => A.chk (ldv false 1 a9 z12) a10 (A.bslice 4 (.agg [(.bool false), (.str []), (.str []), (.str [])]) 1 [(0, a11)] fun a13 => A.ret (A.app 4 a10 (elemsOf 5 4 a13 z12) z12 kid) fun a14 z15 => A.faddr 3 (.ptr i 0) fun a16 => A.ret (A.store 1 a16 a14 z15 fun s => kid (.tup []) s) K)) := by
  have w0 : ∀ K : V → St → Res, A.load false 1 (.ptr i 3) s1 K = K (.lst (cs.map chV) u3) s1 := fun K => by simp [o, rqX]
  rw [faddr_ptr, Nat.zero_add, w0, ret_kid]
  refine RRes.bind (rchange_s hL h hp) fun a s2 hv k2 h2 => ?_
  have n2 := k2.n
  have o2 := (k2.ob i hin (fun g => hip g.symm)).trans o
  have w1 : ldv false 1 (.ptr i 3) s2 = some (.lst (cs.map chV) u3) := by unfold ldv; rw [load_ob, o2]; rfl
  have bs : ∀ K, A.bslice 4 (.agg [(.bool false), (.str []), (.str []), (.str [])]) 1 [(0, chV a)] K = K (.lst [chV a] 2) := fun K => rfl
  have hu2 := hu.monoP k2
  obtain ⟨k3, hu3⟩ := (k.trans k2).app hu2
  rw [w1, chk_same, bs, show elemsOf 5 4 (.lst [chV a] 2) s2 = some [chV a] from elemsOf_lst 4 _ 2 s2 (chs_ok [_]), app_own _ hu2 (by simp; omega) (chs_ok cs), kid_eq, ret_ret, faddr_ptr, Nat.zero_add]
  have o3 : (appSt s2 u3 4).ob i = some (.cells (rqX ⟨2, [], [], cs⟩ 1 1 u3)) := by rw [appSt_ob]; exact o2
  have so : A.store 1 (.ptr i 3) (.lst (cs.map chV ++ [chV a]) (s2.nt + 3)) (appSt s2 u3 4) (fun s => kid (.tup []) s) = some (.ret (.tup []), (appSt s2 u3 4).put i (.cells (rqX ⟨2, [], [], cs ++ [a]⟩ 1 1 (s2.nt + 3)))) := by
    rw [store_ob _ _ _ _ _ rfl, o3]
    simp [rqX]
  rw [so, ret_ret]
  exact next a _ (s2.nt + 3) hv (k3.put hi _) ((RAt.app h2).put hip _) (put_at _ _ _) (own_put hu3) (by rw [put_n, appSt_n]; omega) (fun m hm hmp hmi => by rw [put_ne _ _ hmi, appSt_ob]; exact k2.ob m hm hmp)
theorem rchs_loop {p i j : Nat} {L : List Sg} {e : Int} (hL : L.length ≤ 1000000) {st0 : St} (hi : st0.n ≤ i) (hj : st0.n ≤ j) (hij : i ≠ j) (hp : p < st0.n) :
    ∀ (n f : Nat) (s : PR Unit) (cs : List Chg) (s1 : St) (u3 : Nat) (vs : List V), (∀ l, s = .ok () l → l.length ≤ n) → n + 1 < f → cs.length + n ≤ 3000000 → KsP p st0 s1 → Own st0 s1 4 u3 → RAt p L e s1 s → s1.ob i = some (.cells (rqX ⟨2, [], [], cs⟩ 1 1 u3)) → s1.ob j = some (.cells vs) → vs.length = 4 → i < s1.n → j < s1.n →
      RRes p L e rqV st0 (s.bind fun _ l => (pCh2 n cs l).bind fun b l => qFin ⟨2, [], [], b⟩ l) (g28bzqm f (.ptr p 0) (.ptr j 0) (.ptr i 0) s1) := by
  intro n
  induction n with
  | zero =>
    intro f s cs s1 u3 vs hl hf hlen k hu h o oj hc hin hjn
    obtain ⟨f, rfl⟩ : ∃ f', f = f' + 1 := ⟨f - 1, by omega⟩
    have hps : p < s1.n := by have := k.n; omega
    rw [g28bzqm]
    obtain ⟨s2, q2, k2⟩ := rmark_s h hps [46]
    have hm : mk? [46] s = false := by
      cases s with
      | bad l => rfl
      | ok _ l =>
        have := hl l rfl
        cases l with
        | nil => rfl
        | cons x l => simp at this
    simp only [er1_ptr, er1_str, er1_int, q2, ret_ret]
    rw [hm, cond_false]
    have n2 := k2.n
    have e0 : (s.bind fun _ l => (pCh2 0 cs l).bind fun b l => qFin ⟨2, [], [], b⟩ l) = s.bind fun _ l => qFin ⟨2, [], [], cs⟩ l := by
      cases s with
      | bad l => rfl
      | ok _ l => show (pCh2 0 cs l).bind _ = _; rw [pCh2_end (mk?_none hm l rfl)]; rfl
    rw [e0]
    exact rreq_end hL _ (k.trans (k2.toP p)) (h.ks k2 hps) ((k2.ob i hin).trans o) ((k2.ob j hjn).trans oj) hc hi (by omega) hj (by omega) hp
  | succ n ih =>
    intro f s cs s1 u3 vs hl hf hlen k hu h o oj hc hin hjn
    obtain ⟨f, rfl⟩ : ∃ f', f = f' + 1 := ⟨f - 1, by omega⟩
    have hps : p < s1.n := by have := k.n; omega
    rw [g28bzqm]
    obtain ⟨s2, q2, k2⟩ := rmark_s h hps [46]
    have n2 := k2.n
    have h2 := h.ks k2 hps
    have o2 := (k2.ob i hin).trans o
    have oj2 := (k2.ob j hjn).trans oj
    have k02 := k.trans (k2.toP p)
    simp only [er1_ptr, er1_str, er1_int, q2, ret_ret]
    cases hm : mk? [46] s with
    | false =>
      rw [cond_false]
      have e0 : (s.bind fun _ l => (pCh2 (n + 1) cs l).bind fun b l => qFin ⟨2, [], [], b⟩ l) = s.bind fun _ l => qFin ⟨2, [], [], cs⟩ l := by
        cases s with
        | bad l => rfl
        | ok _ l => show (pCh2 (n + 1) cs l).bind _ = _; rw [pCh2_end (mk?_none hm l rfl)]; rfl
      rw [e0]
      exact rreq_end hL _ k02 h2 o2 oj2 hc hi (by omega) hj (by omega) hp
    | true =>
      rw [cond_true]
      obtain ⟨l, l', rfl, hl'⟩ := mk?_some hm
      have hlt := pIs_lt hl'
      have hl1 := hl l rfl
      obtain ⟨s3, q3, k3, h3, n3⟩ := rskip h2 hL hl' (fun z10 => A.faddr 3 (.ptr i 0) fun a11 =>
 A.load false 1 a11 z10 fun a12 _ =>
 A.ret (A.ret (s58 [.ptr p 0] z10) kid) fun a13 z14 =>
 A.chk (ldv false 1 a11 z14) a12
 (A.bslice 4 (.agg [(.bool false), (.str []), (.str []), (.str [])]) 1 [(0, a13)] fun a15 =>
 A.ret (A.app 4 a12 (elemsOf 5 4 a15 z14) z14 kid) fun a16 z17 =>
 A.faddr 3 (.ptr i 0) fun a18 =>
 A.ret (A.store 1 a18 a16 z17 fun s => kid (.tup []) s) fun a19 z20 =>
 (g28bzqm f) (.ptr p 0) (.ptr j 0) (.ptr i 0) z20))
      rw [q3]
      have o3 := (k3.ob i (by omega) (by omega)).trans o2
      have oj3 := (k3.ob j (by omega) (by omega)).trans oj2
      have e1 : ((PR.ok () l : PR Unit).bind fun _ l => (pCh2 (n + 1) cs l).bind fun b l => qFin ⟨2, [], [], b⟩ l) = (pChg l').bind fun c l => (pCh2 n (cs ++ [c]) l).bind fun b l => qFin ⟨2, [], [], b⟩ l := by
        show (pCh2 (n + 1) cs l).bind _ = _
        rw [pCh2_more hl', pChs_ch2, bind_assoc]
      rw [e1]
      refine rch_app hL (s := .ok () l') (k02.trans k3) h3 o3 (hu.mono k2 |>.monoP k3) hi (by omega) (by omega) (by omega) (by omega) fun a s5 u5 hv k5 h5 o5 hu5 n5 m5 => ?_
      have oj5 := (m5 j (by omega) (by omega) (fun h => hij h.symm)).trans oj3
      have e2 : ((pChg l').bind fun c l => (pCh2 n (cs ++ [c]) l).bind fun b l => qFin ⟨2, [], [], b⟩ l) = ((pChg l').unit.bind fun _ l => (pCh2 n (cs ++ [a]) l).bind fun b l => qFin ⟨2, [], [], b⟩ l) := (unit_bind (pChg l') a hv fun a l => (pCh2 n (cs ++ [a]) l).bind fun b l => qFin ⟨2, [], [], b⟩ l).symm
      rw [e2]
      refine ih f (pChg l').unit (cs ++ [a]) s5 u5 vs (fun l2 hl2 => ?_) (by omega) (by simp; omega) k5 hu5 h5 o5 oj5 hc (by omega) (by omega)
      cases hr : pChg l' with
      | bad l3 => rw [hr] at hl2; cases hl2
      | ok a3 l3 => rw [hr] at hl2; cases hl2; have := pChg_lt hr; omega
theorem rreq_s {p : Nat} {L : List Sg} {e : Int} {N : Nat} (hN1 : 1 ≤ N) (hN : N ≤ 100000) (hLN : L.length < N) {st : St} (h : RAt p L e st (.ok () L)) (hp : p < st.n) : RRes p L e rqV st (pReq N L) (s28 [.ptr p 0] st) := by
  have hL : L.length ≤ 1000000 := by omega
  rw [s28_eq]
  unfold f28
  have bx : ∀ (s : St) (K : V → St → Res), A.box (.agg [(.int .i64 0), (.lst [] 1), (.lst [] 1), (.lst [] 1)]) s K = K (.ptr s.n 0) (s.new (.cells [.int .i64 0, .lst [] 1, .lst [] 1, .lst [] 1])) := fun s K => rfl
  have bu : ∀ K, A.build [(.int .i64 0), (.lst [] 1), (.lst [] 1), (.lst [] 1)] [] K = K (.agg [.int .i64 0, .lst [] 1, .lst [] 1, .lst [] 1]) := fun K => rfl
  rw [bx, bu, bx, sv_all 4 _ (new_at _ _) rfl rfl rfl, new_n]
  have n1 : (((st.new (.cells [.int .i64 0, .lst [] 1, .lst [] 1, .lst [] 1])).new (.cells [.int .i64 0, .lst [] 1, .lst [] 1, .lst [] 1])).put (st.n + 1) (.cells [.int .i64 0, .lst [] 1, .lst [] 1, .lst [] 1])).n = st.n + 2 := by simp
  have k1 : KsP p st (((st.new (.cells [.int .i64 0, .lst [] 1, .lst [] 1, .lst [] 1])).new (.cells [.int .i64 0, .lst [] 1, .lst [] 1, .lst [] 1])).put (st.n + 1) (.cells [.int .i64 0, .lst [] 1, .lst [] 1, .lst [] 1])) := (((KsP.refl p st).new _).new _).put (by omega) _
  have h1 : RAt p L e (((st.new (.cells [.int .i64 0, .lst [] 1, .lst [] 1, .lst [] 1])).new (.cells [.int .i64 0, .lst [] 1, .lst [] 1, .lst [] 1])).put (st.n + 1) (.cells [.int .i64 0, .lst [] 1, .lst [] 1, .lst [] 1])) (.ok () L) := ((h.new hp _).new (by simp; omega) _).put (by omega) _
  have o1 : (((st.new (.cells [.int .i64 0, .lst [] 1, .lst [] 1, .lst [] 1])).new (.cells [.int .i64 0, .lst [] 1, .lst [] 1, .lst [] 1])).put (st.n + 1) (.cells [.int .i64 0, .lst [] 1, .lst [] 1, .lst [] 1])).ob (st.n + 1) = some (.cells [.int .i64 0, .lst [] 1, .lst [] 1, .lst [] 1]) := put_at _ _ _
  have oj1 : (((st.new (.cells [.int .i64 0, .lst [] 1, .lst [] 1, .lst [] 1])).new (.cells [.int .i64 0, .lst [] 1, .lst [] 1, .lst [] 1])).put (st.n + 1) (.cells [.int .i64 0, .lst [] 1, .lst [] 1, .lst [] 1])).ob st.n = some (.cells [.int .i64 0, .lst [] 1, .lst [] 1, .lst [] 1]) := by
    rw [put_ne _ _ (by omega), new_ne _ _ (by simp), new_at]
  generalize ((st.new (.cells [.int .i64 0, .lst [] 1, .lst [] 1, .lst [] 1])).new (.cells [.int .i64 0, .lst [] 1, .lst [] 1, .lst [] 1])).put (st.n + 1) (.cells [.int .i64 0, .lst [] 1, .lst [] 1, .lst [] 1]) = s1 at n1 k1 h1 o1 oj1 ⊢
  obtain ⟨kk, b, a, hk, ho, hd, rfl, rfl⟩ := h1.any
  obtain ⟨s2, q2, k2⟩ := rnow_s ho (by omega)
  rw [hd] at q2
  have n2 := k2.n
  have h2 := h1.ks k2 (by omega)
  have o2 := (k2.ob (st.n + 1) (by omega)).trans o1
  have oj2 := (k2.ob st.n (by omega)).trans oj1
  have k02 := k1.trans (k2.toP p)
  simp only [er1_ptr, q2, ret_ret]
  obtain ⟨y, hy⟩ : ∃ y, y = nowS L e := ⟨_, rfl⟩
  rw [← hy, lay_sg]
  have n3 : ((s2.new (.cells [.int .i64 0, .str [], .int .i64 0])).put s2.n (.cells [.int .i64 y.k, .str y.tx, .int .i64 y.at_])).n = s2.n + 1 := by simp
  have k3 : KsP p st ((s2.new (.cells [.int .i64 0, .str [], .int .i64 0])).put s2.n (.cells [.int .i64 y.k, .str y.tx, .int .i64 y.at_])) := (k02.new _).put (by omega) _
  have h3 : RAt p L e ((s2.new (.cells [.int .i64 0, .str [], .int .i64 0])).put s2.n (.cells [.int .i64 y.k, .str y.tx, .int .i64 y.at_])) (.ok () L) := (h2.new (by omega) _).put (by omega) _
  have o3 : ((s2.new (.cells [.int .i64 0, .str [], .int .i64 0])).put s2.n (.cells [.int .i64 y.k, .str y.tx, .int .i64 y.at_])).ob (st.n + 1) = some (.cells [.int .i64 0, .lst [] 1, .lst [] 1, .lst [] 1]) := by rw [put_ne _ _ (by omega), new_ne _ _ (by omega)]; exact o2
  have oj3 : ((s2.new (.cells [.int .i64 0, .str [], .int .i64 0])).put s2.n (.cells [.int .i64 y.k, .str y.tx, .int .i64 y.at_])).ob st.n = some (.cells [.int .i64 0, .lst [] 1, .lst [] 1, .lst [] 1]) := by rw [put_ne _ _ (by omega), new_ne _ _ (by omega)]; exact oj2
  have ox3 := put_at (s2.new (.cells [.int .i64 0, .str [], .int .i64 0])) s2.n (.cells [.int .i64 y.k, .str y.tx, .int .i64 y.at_])
  generalize (s2.new (.cells [.int .i64 0, .str [], .int .i64 0])).put s2.n (.cells [.int .i64 y.k, .str y.tx, .int .i64 y.at_]) = s3 at n3 k3 h3 o3 oj3 ox3 ⊢
  have lx0 : ∀ K : V → St → Res, A.load false 1 (.ptr s2.n 0) s3 K = K (.int .i64 y.k) s3 := fun K => by rw [load_ob, ox3]; rfl
  have lx1 : ∀ K : V → St → Res, A.load false 1 (.ptr s2.n 1) s3 K = K (.str y.tx) s3 := fun K => by rw [load_ob, ox3]; rfl
  have hsel : isSel L = (y.k == 1 && y.tx == selW) := by
    rw [hy]
    cases L with
    | nil => rfl
    | cons x l => rfl
  have main : ∀ c, isSel L = c → RRes p L e rqV st (pReq N L) (g28b11011 (.ptr p 0) (.ptr st.n 0) (.ptr (st.n + 1) 0) (.bool c) s3) := by
    intro c hc
    unfold g28b11011
    cases c with
    | true =>
      rw [cond_true]
      have so : ∀ K : St → Res, A.store 1 (.ptr (st.n + 1) 0) (.int .i64 1) s3 K = K (s3.put (st.n + 1) (.cells [.int .i64 1, .lst [] 1, .lst [] 1, .lst [] 1])) := fun K => by rw [store_ob _ _ _ _ _ rfl, o3]; rfl
      rw [faddr_ptr, Nat.zero_add, so]
      have n4 : (s3.put (st.n + 1) (.cells [.int .i64 1, .lst [] 1, .lst [] 1, .lst [] 1])).n = s3.n := put_n _ _ _
      have k4 := k3.put (i := st.n + 1) (by omega) (.cells [.int .i64 1, .lst [] 1, .lst [] 1, .lst [] 1])
      have h4 := h3.put (i := st.n + 1) (by omega) (.cells [.int .i64 1, .lst [] 1, .lst [] 1, .lst [] 1])
      have o4 := put_at s3 (st.n + 1) (.cells [.int .i64 1, .lst [] 1, .lst [] 1, .lst [] 1])
      have oj4 : (s3.put (st.n + 1) (.cells [.int .i64 1, .lst [] 1, .lst [] 1, .lst [] 1])).ob st.n = _ := (put_ne _ _ (by omega)).trans oj3
      generalize s3.put (st.n + 1) (.cells [.int .i64 1, .lst [] 1, .lst [] 1, .lst [] 1]) = s4 at n4 k4 h4 o4 oj4 ⊢
      have e0 : pReq N L = (pQuery N L).bind fun q l => qFin ⟨1, q.1, q.2, []⟩ l := by unfold pReq; rw [if_pos hc]; rfl
      rw [e0]
      cases L with
      | nil => cases hc
      | cons x l =>
        have hx : x.k = 1 ∧ x.tx = selW := by simpa [isSel] using hc
        rw [er1_ptr]
        refine RRes.bind (rquery_s hL hN1 hN h4 hx.1 hx.2 (by simp at hLN; omega) (by omega)) fun q s5 hv k5 h5 => ?_
        have n5 := k5.n
        have o5 := (k5.ob (st.n + 1) (by omega) (by omega)).trans o4
        have oj5 := (k5.ob st.n (by omega) (by omega)).trans oj4
        have so5 : ∀ K : St → Res, A.store 2 (.ptr (st.n + 1) 1) (qV q) s5 K = K (s5.put (st.n + 1) (.cells (rqX ⟨1, q.1, q.2, []⟩ 0 0 1))) := fun K => by
          unfold qV; rw [store_agg, o5, obo_some, if_pos ⟨rfl, by simp, rfl⟩]; rfl
        rw [faddr_ptr, Nat.zero_add, so5]
        have e1 : ((pQuery N (x :: l)).bind fun q l => qFin ⟨1, q.1, q.2, []⟩ l) = (pQuery N (x :: l)).unit.bind fun _ l => qFin ⟨1, q.1, q.2, []⟩ l := (unit_bind (pQuery N (x :: l)) q hv fun q l => qFin ⟨1, q.1, q.2, []⟩ l).symm
        rw [e1]
        exact rreq_end hL ⟨1, q.1, q.2, []⟩ ((k4.trans k5).put (by omega) _) (h5.put (by omega) _) (put_at _ _ _) ((put_ne _ _ (by omega)).trans oj5) rfl (by omega) (by rw [put_n]; omega) (Nat.le_refl _) (by rw [put_n]; omega) hp
    | false =>
      rw [cond_false]
      have so : ∀ K : St → Res, A.store 1 (.ptr (st.n + 1) 0) (.int .i64 2) s3 K = K (s3.put (st.n + 1) (.cells (rqX ⟨2, [], [], []⟩ 1 1 1))) := fun K => by rw [store_ob _ _ _ _ _ rfl, o3]; rfl
      rw [faddr_ptr, Nat.zero_add, so]
      have n4 : (s3.put (st.n + 1) (.cells (rqX ⟨2, [], [], []⟩ 1 1 1))).n = s3.n := put_n _ _ _
      have k4 := k3.put (i := st.n + 1) (by omega) (.cells (rqX ⟨2, [], [], []⟩ 1 1 1))
      have h4 := h3.put (i := st.n + 1) (by omega) (.cells (rqX ⟨2, [], [], []⟩ 1 1 1))
      have o4 := put_at s3 (st.n + 1) (.cells (rqX ⟨2, [], [], []⟩ 1 1 1))
      have oj4 : (s3.put (st.n + 1) (.cells (rqX ⟨2, [], [], []⟩ 1 1 1))).ob st.n = _ := (put_ne _ _ (by omega)).trans oj3
      generalize s3.put (st.n + 1) (.cells (rqX ⟨2, [], [], []⟩ 1 1 1)) = s4 at n4 k4 h4 o4 oj4 ⊢
      obtain ⟨n, rfl⟩ : ∃ n, N = n + 1 := ⟨N - 1, by omega⟩
      have e0 : pReq (n + 1) L = (pChg L).bind fun c l => (pCh2 n ([] ++ [c]) l).bind fun b l => qFin ⟨2, [], [], b⟩ l := by
        unfold pReq; rw [if_neg (by rw [hc]; simp), pChs_ch2, bind_assoc]; rfl
      rw [e0]
      simp only [er1_ptr]
      refine rch_app hL (s := .ok () L) k4 h4 o4 (.inl rfl) (by omega) (by omega) (by omega) (by omega) (by simp) fun a s5 u5 hv k5 h5 o5 hu5 n5 m5 => ?_
      have oj5 := (m5 st.n (by omega) (by omega) (by omega)).trans oj4
      have e2 : ((pChg L).bind fun c l => (pCh2 n ([] ++ [c]) l).bind fun b l => qFin ⟨2, [], [], b⟩ l) = ((pChg L).unit.bind fun _ l => (pCh2 n ([] ++ [a]) l).bind fun b l => qFin ⟨2, [], [], b⟩ l) := (unit_bind (pChg L) a hv fun a l => (pCh2 n ([] ++ [a]) l).bind fun b l => qFin ⟨2, [], [], b⟩ l).symm
      rw [e2]
      refine rchs_loop hL (by omega) (Nat.le_refl _) (by omega) hp n big (pChg L).unit ([] ++ [a]) s5 u5 _ (fun l2 hl2 => ?_) (lt_big (by omega)) (by simp; omega) k5 hu5 h5 o5 oj5 rfl (by omega) (by omega)
      cases hr : pChg L with
      | bad l3 => rw [hr] at hl2; cases hl2
      | ok a3 l3 => rw [hr] at hl2; cases hl2; have := pChg_lt hr; omega
  simp only [faddr_ptr, Nat.zero_add, lx0, eql_int, Bool.false_eq_true, if_false]
  cases hk1 : (y.k == 1) with
  | false =>
    rw [guard_ft]
    exact main false (by rw [hsel, hk1]; rfl)
  | true =>
    rw [guard_tt]
    simp only [faddr_ptr, Nat.zero_add, lx1, eql_str, Bool.false_eq_true, if_false]
    exact main _ (by rw [hsel, hk1]; rfl)
end Go.Ab
