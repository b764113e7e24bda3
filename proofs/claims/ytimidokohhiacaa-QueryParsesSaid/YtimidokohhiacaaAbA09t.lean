import Derived.Test.YtimidokohhiacaaAbA09s
/- sinewref09: the reader: queries. -/
namespace Go.Ab
open Go.Proofs Go.RowKit
set_option linter.unusedVariables false
set_option linter.unusedSimpArgs false
set_option maxRecDepth 100000
theorem pAt2_end {N n : Nat} {ats : List AtP} {l l' l2 : List Sg} (h : pIs [46] l = some l') (h2 : pIs [125] l' = some l2) : pAt2 N n ats l = .ok ats l' := by
  unfold pAt2; rw [h]; dsimp only; rw [h2]
theorem pAt2_more {N n : Nat} {ats : List AtP} {l l' : List Sg} (h : pIs [46] l = some l') (h2 : pIs [125] l' = none) : pAt2 N n ats l = pAtoms N n ats l' := by
  unfold pAt2; rw [h]; dsimp only; rw [h2]
theorem rq_loop {p i j : Nat} {L : List Sg} {e : Int} (hL : L.length ≤ 1000000) {N : Nat} (hA : RFa p L e N) {st0 : St} (hi : st0.n ≤ i) (hj : st0.n ≤ j) (hij : i ≠ j) (hp : p < st0.n) :
    ∀ (n f : Nat) (s : PR Unit) (vs : List (List UInt8)) (ats : List AtP) (s1 : St) (u u2 : Nat) (cs : List V), (∀ l, s = .ok () l → l.length ≤ n ∧ l.length < N) → n + 1 < f → ats.length + n ≤ 3000000 → KsP p st0 s1 → Own st0 s1 7 u2 → RAt p L e s1 s → s1.ob i = some (.cells (qC vs u ats u2)) → s1.ob j = some (.cells cs) → cs.length = 2 → i < s1.n → j < s1.n →
      RRes p L e qV st0 (s.bind fun _ l => (pAt2 N n ats l).bind fun b l => qEnd vs b l) (g57bz1ks f (.ptr p 0) (.ptr j 0) (.ptr i 0) s1) := by
  intro n
  induction n with
  | zero =>
    intro f s vs ats s1 u u2 cs hl hf hlen k hu h o oj hc hin hjn
    obtain ⟨f, rfl⟩ : ∃ f', f = f' + 1 := ⟨f - 1, by omega⟩
    have hps : p < s1.n := by have := k.n; omega
    rw [g57bz1ks]
    obtain ⟨s2, q2, k2⟩ := rmark_s h hps [46]
    have hm : mk? [46] s = false := by
      cases s with
      | bad l => rfl
      | ok _ l =>
        have := (hl l rfl).1
        cases l with
        | nil => rfl
        | cons x l => simp at this
    simp only [er1_ptr, er1_str, er1_int, q2, ret_ret]
    rw [hm, cond_false]
    have n2 := k2.n
    have e0 : (s.bind fun _ l => (pAt2 N 0 ats l).bind fun b l => qEnd vs b l) = s.bind fun _ l => qEnd vs ats l := by
      cases s with
      | bad l => rfl
      | ok _ l => show (pAt2 N 0 ats l).bind _ = _; rw [pAt2, mk?_none hm l rfl]; rfl
    rw [e0]
    exact rq_end hL (k.trans (k2.toP p)) (h.ks k2 hps) ((k2.ob i hin).trans o) ((k2.ob j hjn).trans oj) hc (by omega) (by omega) hj (by omega) (by omega) hij (by omega)
  | succ n ih =>
    intro f s vs ats s1 u u2 cs hl hf hlen k hu h o oj hc hin hjn
    obtain ⟨f, rfl⟩ : ∃ f', f = f' + 1 := ⟨f - 1, by omega⟩
    have hps : p < s1.n := by have := k.n; omega
    rw [g57bz1ks]
    obtain ⟨s2, q2, k2⟩ := rmark_s h hps [46]
    have n2 := k2.n
    have h2 := h.ks k2 hps
    have o2 := (k2.ob i hin).trans o
    have oj2 := (k2.ob j hjn).trans oj
    have k02 := k.trans (k2.toP p)
    simp only [er1_ptr, er1_str, er1_int, q2, ret_ret]
    cases hm : mk? [46] s with
    | false =>
      rw [cond_false]
      have e0 : (s.bind fun _ l => (pAt2 N (n + 1) ats l).bind fun b l => qEnd vs b l) = s.bind fun _ l => qEnd vs ats l := by
        cases s with
        | bad l => rfl
        | ok _ l => show (pAt2 N (n + 1) ats l).bind _ = _; rw [pAt2, mk?_none hm l rfl]; rfl
      rw [e0]
      exact rq_end hL k02 h2 o2 oj2 hc (by omega) (by omega) hj (by omega) (by omega) hij (by omega)
    | true =>
      rw [cond_true]
      obtain ⟨l, l', rfl, hl'⟩ := mk?_some hm
      have hlt := pIs_lt hl'
      obtain ⟨hl1, hl2⟩ := hl l rfl
      obtain ⟨s3, q3, k3, h3, n3⟩ := rskip h2 hL hl' (fun z10 => A.ret (s59 [.ptr p 0, .str [125]] z10) fun a11 z12 =>
 A.cond a11
 (A.ret (s86 [.ptr p 0, .int .i64 3, .str [125]] z12) fun a13 z14 =>
 A.load true 2 (.ptr i 0) z14 fun a15 z16 =>
 A.store 2 (.ptr j 0) a15 z16 fun z17 =>
 A.res (rcell (A.load true 2 (.ptr j 0) z17 kid) (some [])) z17)
 (g57bz1eh7 (g57bz1ks f) (.ptr p 0) (.ptr j 0) (.ptr i 0) z12))
      rw [q3]
      obtain ⟨s4, q4, k4⟩ := rmark_s h3 (by omega) [125]
      have n4 := k4.n
      have k34 := k3.trans (k4.toP p)
      have h4 := h3.ks k4 (by omega)
      have o4 := (k34.ob i (by omega) (by omega)).trans o2
      have oj4 := (k34.ob j (by omega) (by omega)).trans oj2
      have k04 := k02.trans k34
      rw [q4, ret_ret]
      show RRes p L e qV st0 ((pAt2 N (n + 1) ats l).bind fun b l => qEnd vs b l) _
      cases hm2 : mk? [125] (.ok () l') with
      | true =>
        obtain ⟨_, l2, hh, hl3⟩ := mk?_some hm2
        cases hh
        rw [cond_true, pAt2_end hl' hl3]
        exact rq_end hL (s := .ok () l') k04 h4 o4 oj4 hc (by omega) (by omega) hj (by omega) (by omega) hij (by omega)
      | false =>
        rw [cond_false, pAt2_more hl' (mk?_none hm2 l' rfl)]
        unfold g57bz1eh7
        simp only [er1_ptr]
        rw [pAtoms_at2, bind_assoc]
        refine at_app hL hA (s := .ok () l') (fun l h => by cases h; omega) k04 h4 o4 (hu.mono k2 |>.monoP k34) hi (by omega) (by omega) (by omega) (by omega) fun a s5 u5 hv k5 h5 o5 hu5 n5 m5 => ?_
        have e2 : ((pAtom N l').bind fun a l => (pAt2 N n (ats ++ [a]) l).bind fun b l => qEnd vs b l) = ((pAtom N l').unit.bind fun _ l => (pAt2 N n (ats ++ [a]) l).bind fun b l => qEnd vs b l) := (unit_bind (pAtom N l') a hv fun a l => (pAt2 N n (ats ++ [a]) l).bind fun b l => qEnd vs b l).symm
        rw [e2]
        have oj5 := (m5 j (by omega) (by omega) (fun h => hij h.symm)).trans oj4
        refine ih f (pAtom N l').unit vs (ats ++ [a]) s5 u u5 cs (fun l2 hl2 => ?_) (by omega) (by simp; omega) k5 hu5 h5 o5 oj5 hc (by omega) (by omega)
        · cases hr : pAtom N l' with
          | bad l3 => rw [hr] at hl2; cases hl2
          | ok a3 l3 => rw [hr] at hl2; cases hl2; have := pAtom_lt hr; omega

/-- Behind the variables. -/
def qW (N : Nat) (vs : List (List UInt8)) (l : List Sg) : PR (List (List UInt8) × List AtP) := (pTake 1 [[119, 104, 101, 114, 101]] l).bind fun _ l2 => (pTake 3 [[123]] l2).bind fun _ l2 => (pAtoms N N [] l2).bind fun b l => qEnd vs b l
theorem unit_len {α : Type} {s : PR Unit} {P : List Sg → PR α} (hP : ∀ l, (P l).le l.length) {N : Nat} (hl : ∀ l, s = .ok () l → l.length < N) : ∀ l, (s.bind fun _ l => P l).unit = .ok () l → l.length < N := by
  intro l h
  cases s with
  | bad l' => cases h
  | ok _ l' =>
    have h5 := hl l' rfl
    have h6 := hP l'
    have h' : (P l').unit = .ok () l := h
    cases hr : P l' with
    | bad l2 => rw [hr] at h'; cases h'
    | ok q l2 => rw [hr] at h' h6; cases h'; have h6' : l.length ≤ l'.length := h6; omega
theorem rwhere_s {p i j : Nat} {L : List Sg} {e : Int} (hL : L.length ≤ 1000000) {N : Nat} (hA : RFa p L e N) (hN1 : 1 ≤ N) (hN : N ≤ 100000) {st0 : St} (hi : st0.n ≤ i) (hj : st0.n ≤ j) (hij : i ≠ j) (hp : p < st0.n)
    {s : PR Unit} {vs : List (List UInt8)} {s1 : St} {u : Nat} {cs : List V} (hl : ∀ l, s = .ok () l → l.length < N) (k : KsP p st0 s1) (h : RAt p L e s1 s) (o : s1.ob i = some (.cells (qC vs u [] 1))) (oj : s1.ob j = some (.cells cs)) (hc : cs.length = 2) (hin : i < s1.n) (hjn : j < s1.n) :
      RRes p L e qV st0 (s.bind fun _ l => qW N vs l) (g57b11111 (.ptr p 0) (.ptr j 0) (.ptr i 0) s1) := by
  have hps : p < s1.n := by have := k.n; omega
  unfold g57b11111
  simp only [er1_ptr, er1_str, er1_int]
  refine RRes.bind (rmust_s h hps hL 1 (by decide) [119, 104, 101, 114, 101]) fun w s2 hv2 k2 h2 => ?_
  have n2 := k2.n
  have l2 := unit_len (fun l => pTake_le 1 [[119, 104, 101, 114, 101]] l) hl
  refine RRes.bind (rmust_s h2 (by omega) hL 3 (by decide) [123]) fun w3 s3 hv3 k3 h3 => ?_
  have n3 := k3.n
  have l3 := unit_len (fun l => pTake_le 3 [[123]] l) l2
  have o3 := (k3.ob i (by omega) (by omega)).trans ((k2.ob i (by omega) (by omega)).trans o)
  have oj3 := (k3.ob j (by omega) (by omega)).trans ((k2.ob j (by omega) (by omega)).trans oj)
  have k03 := (k.trans k2).trans k3
  have e0 : (s.bind fun _ l => qW N vs l) = (((s.bind fun _ l => pTake 1 [[119, 104, 101, 114, 101]] l).unit.bind fun _ l => pTake 3 [[123]] l).unit.bind fun _ l => (pAtoms N N [] l).bind fun b l => qEnd vs b l) := by
    rw [unit_bind _ w3 hv3 fun _ l => (pAtoms N N [] l).bind fun b l => qEnd vs b l, bind_assoc, unit_bind _ w hv2 fun _ l => (pTake 3 [[123]] l).bind fun _ l => (pAtoms N N [] l).bind fun b l => qEnd vs b l, bind_assoc]
    rfl
  rw [e0]
  obtain ⟨n, rfl⟩ : ∃ n, N = n + 1 := ⟨N - 1, by omega⟩
  generalize ((s.bind fun _ l => pTake 1 [[119, 104, 101, 114, 101]] l).unit.bind fun _ l => pTake 3 [[123]] l).unit = s' at h3 l3 ⊢
  refine at_app hL hA l3 k03 h3 o3 (.inl rfl) hi (by omega) (by omega) (by omega) (by simp) fun a s5 u5 hv k5 h5 o5 hu5 n5 m5 => ?_
  have oj5 := (m5 j (by omega) (by omega) (fun h => hij h.symm)).trans oj3
  have e2 : (s'.bind fun _ l => (pAtoms (n + 1) (n + 1) [] l).bind fun b l => qEnd vs b l) = ((s'.bind fun _ l => pAtom (n + 1) l).unit.bind fun _ l => (pAt2 (n + 1) n ([] ++ [a]) l).bind fun b l => qEnd vs b l) := by
    rw [unit_bind _ a hv fun a l => (pAt2 (n + 1) n ([] ++ [a]) l).bind fun b l => qEnd vs b l, bind_assoc]
    cases s' with
    | bad l => rfl
    | ok _ l => show (pAtoms (n + 1) (n + 1) [] l).bind _ = (pAtom (n + 1) l).bind _; rw [pAtoms_at2, bind_assoc]
  rw [e2]
  unfold g57bze7
  refine rq_loop hL hA hi hj hij hp n big (s'.bind fun _ l => pAtom (n + 1) l).unit vs ([] ++ [a]) s5 u u5 cs (fun l2 hl2 => ?_) (lt_big (by omega)) (by simp; omega) k5 hu5 h5 o5 oj5 hc (by omega) (by omega)
  cases s' with
  | bad l' => cases hl2
  | ok _ l' =>
    have := l3 l' rfl
    have hl2' : (pAtom (n + 1) l').unit = .ok () l2 := hl2
    cases hr : pAtom (n + 1) l' with
    | bad l3 => rw [hr] at hl2'; cases hl2'
    | ok a3 l3 => rw [hr] at hl2'; cases hl2'; have := pAtom_lt hr; omega
/-- One more variable. -/
theorem rvar_step {p i : Nat} {L : List Sg} {e : Int} (hL : L.length ≤ 1000000) {st0 s1 : St} {s : PR Unit} {u u2 : Nat} {vs : List (List UInt8)} {ats : List AtP} {r : PR (List (List UInt8) × List AtP)} {K : V → St → Res} (k : KsP p st0 s1) (h : RAt p L e s1 s) (o : s1.ob i = some (.cells (qC vs u ats u2))) (hu : Own st0 s1 1 u) (hi : st0.n ≤ i) (hin : i < s1.n) (hip : p ≠ i) (hp : p < s1.n) (hvs : vs.length ≤ 100000000)
    (next : ∀ a s' u', (∀ b l, (s.bind fun _ l => pTake 2 [] l) = .ok b l → a = b) → KsP p st0 s' → RAt p L e s' (s.bind fun _ l => pTake 2 [] l).unit → s'.ob i = some (.cells (qC (vs ++ [a]) u' ats u2)) → Own st0 s' 1 u' → s1.n ≤ s'.n → (∀ m, m < s1.n → m ≠ p → m ≠ i → s'.ob m = s1.ob m) → RRes p L e qV st0 r (K (.tup []) s')) :
    RRes p L e qV st0 r (A.faddr 0 (.ptr i 0) fun a1 => A.load false 1 a1 s1 fun a2 _ => A.ret (A.ret (s85 [.ptr p 0, .int .i64 2] s1) kid) fun a3 z4 => A.chk (ldv false 1 a1 z4) a2 (A.bslice 1 (.str []) 1 [(0, a3)] fun a5 => A.ret (A.app 1 a2 (elemsOf 5 1 a5 z4) z4 kid) fun a6 z7 => A.faddr 0 (.ptr i 0) fun a8 => A.ret (A.store 1 a8 a6 z7 fun s => kid (.tup []) s) K)) := by
  have w0 : ∀ K : V → St → Res, A.load false 1 (.ptr i 0) s1 K = K (.lst (strsV vs) u) s1 := fun K => by simp [o, qC]
  rw [faddr_ptr, Nat.zero_add, w0, ret_kid]
  refine RRes.bind (rtakes_s h hp hL 2 (by decide)) fun w s2 hv k2 h2 => ?_
  have n2 := k2.n
  have o2 := (k2.ob i hin (fun g => hip g.symm)).trans o
  have w1 : ldv false 1 (.ptr i 0) s2 = some (.lst (strsV vs) u) := by unfold ldv; rw [load_ob, o2]; rfl
  have bs : ∀ K, A.bslice 1 (.str []) 1 [(0, .str w)] K = K (.lst (strsV [w]) 2) := fun K => rfl
  rw [w1, chk_same, bs, elemsOf_strs]
  have hu2 := hu.monoP k2
  obtain ⟨k3, hu3⟩ := (k.trans k2).app hu2
  rw [app_own _ hu2 (by simp; omega) (szok_strs _), kid_eq, ret_ret, faddr_ptr, Nat.zero_add, ← strsV_app]
  have o3 : (appSt s2 u 1).ob i = some (.cells (qC vs u ats u2)) := by rw [appSt_ob]; exact o2
  have so : A.store 1 (.ptr i 0) (.lst (strsV (vs ++ [w])) (s2.nt + 3)) (appSt s2 u 1) (fun s => kid (.tup []) s) = some (.ret (.tup []), (appSt s2 u 1).put i (.cells (qC (vs ++ [w]) (s2.nt + 3) ats u2))) := by
    rw [store_ob _ _ _ _ _ rfl, o3]; rfl
  rw [so, ret_ret]
  exact next w _ (s2.nt + 3) hv (k3.put hi _) ((RAt.app h2).put hip _) (put_at _ _ _) (own_put hu3) (by rw [put_n, appSt_n]; omega) (fun m hm hmp hmi => by rw [put_ne _ _ hmi, appSt_ob]; exact k2.ob m hm hmp)
theorem rvars_loop {p i j : Nat} {L : List Sg} {e : Int} (hL : L.length ≤ 1000000) {N : Nat} (hA : RFa p L e N) (hN1 : 1 ≤ N) (hN : N ≤ 100000) {st0 : St} (hi : st0.n ≤ i) (hj : st0.n ≤ j) (hij : i ≠ j) (hp : p < st0.n) :
    ∀ (n f : Nat) (s : PR Unit) (vs : List (List UInt8)) (s1 : St) (u : Nat) (cs : List V), (∀ l, s = .ok () l → l.length < n ∧ l.length < N) → n < f → vs.length + n ≤ 3000000 → KsP p st0 s1 → Own st0 s1 1 u → RAt p L e s1 s → s1.ob i = some (.cells (qC vs u [] 1)) → s1.ob j = some (.cells cs) → cs.length = 2 → i < s1.n → j < s1.n →
      RRes p L e qV st0 (s.bind fun _ l => qW N (pVars vs l).1 (pVars vs l).2) (g57bz3g f (.ptr p 0) (.ptr j 0) (.ptr i 0) s1) := by
  intro n
  induction n with
  | zero =>
    intro f s vs s1 u cs hl hf hlen k hu h o oj hc hin hjn
    obtain ⟨f, rfl⟩ : ∃ f', f = f' + 1 := ⟨f - 1, by omega⟩
    have hps : p < s1.n := by have := k.n; omega
    cases s with
    | ok _ l => have := (hl l rfl).1; omega
    | bad l =>
      rw [g57bz3g]
      obtain ⟨kk, hk, ho⟩ := h
      obtain ⟨_, _, _, w3, _⟩ := rd_load ho
      simp only [nilc_ptr, faddr_ptr, Nat.zero_add, w3, un_not, Bool.not_true, guard_ft]
      exact rwhere_s hL hA hN1 hN hi hj hij hp (s := .bad l) (vs := vs) (fun l h => by cases h) k ⟨kk, hk, ho⟩ o oj hc hin hjn
  | succ n ih =>
    intro f s vs s1 u cs hl hf hlen k hu h o oj hc hin hjn
    obtain ⟨f, rfl⟩ : ∃ f', f = f' + 1 := ⟨f - 1, by omega⟩
    have hps : p < s1.n := by have := k.n; omega
    rw [g57bz3g]
    cases s with
    | bad l =>
      obtain ⟨kk, hk, ho⟩ := h
      obtain ⟨_, _, _, w3, _⟩ := rd_load ho
      simp only [nilc_ptr, faddr_ptr, Nat.zero_add, w3, un_not, Bool.not_true, guard_ft]
      exact rwhere_s hL hA hN1 hN hi hj hij hp (s := .bad l) (vs := vs) (fun l h => by cases h) k ⟨kk, hk, ho⟩ o oj hc hin hjn
    | ok _ l =>
      obtain ⟨hl1, hl2⟩ := hl l rfl
      obtain ⟨kk, hk, hd, ho⟩ := h
      obtain ⟨_, _, _, w3, _⟩ := rd_load ho
      obtain ⟨s2, q2, k2⟩ := rnow_s ho hps
      have n2 := k2.n
      have h2 : RAt p L e s2 (.ok () l) := ⟨kk, hk, hd, (k2.ob p hps).trans ho⟩
      have o2 := (k2.ob i hin).trans o
      have oj2 := (k2.ob j hjn).trans oj
      simp only [nilc_ptr, faddr_ptr, Nat.zero_add, w3, un_not, Bool.not_false, guard_tt, er1_ptr, q2, ret_ret, sgV_k, eql_int, Bool.false_eq_true, if_false]
      rw [hd]
      show RRes p L e qV st0 (qW N (pVars vs l).1 (pVars vs l).2) _
      cases hk2 : ((nowS l e).k == 2) with
      | false =>
        rw [cond_false]
        have e0 : pVars vs l = (vs, l) := by
          cases l with
          | nil => rfl
          | cons x l => rw [pVars, if_neg (by simpa [nowS] using hk2)]
        rw [e0]
        exact rwhere_s hL hA hN1 hN hi hj hij hp (s := .ok () l) (vs := vs) (fun l' h => by cases h; exact hl2) (k.trans (k2.toP p)) h2 o2 oj2 hc (by omega) (by omega)
      | true =>
        rw [cond_true]
        cases l with
        | nil => cases hk2
        | cons x l =>
          have hx : x.k = 2 := by simpa [nowS] using hk2
          rw [pVars, if_pos hx]
          unfold g57bzdt
          simp only [er1_ptr, er1_int]
          have et : pTake 2 [] (x :: l) = .ok x.tx l := by rw [pTake, if_pos ⟨hx, .inl rfl⟩]
          refine rvar_step hL (s := .ok () (x :: l)) (k.trans (k2.toP p)) h2 o2 (hu.mono k2) hi (by omega) (by omega) (by omega) (by omega) fun a s5 u5 hv k5 h5 o5 hu5 n5 m5 => ?_
          have oj5 := (m5 j (by omega) (by omega) (fun h => hij h.symm)).trans oj2
          have hv' := hv x.tx l et
          subst hv'
          have h5' : RAt p L e s5 (.ok () l) := by
            have : ((PR.ok () (x :: l) : PR Unit).bind fun _ l => pTake 2 [] l).unit = .ok () l := by show (pTake 2 [] (x :: l)).unit = _; rw [et]; rfl
            rw [this] at h5; exact h5
          simp only [List.length_cons] at hl1 hl2
          exact ih f (.ok () l) (vs ++ [x.tx]) s5 u5 cs (fun l' h => by cases h; omega) (by omega) (by simp; omega) k5 hu5 h5' o5 oj5 hc (by omega) (by omega)
theorem rquery_s {p : Nat} {L : List Sg} {e : Int} (hL : L.length ≤ 1000000) {N : Nat} (hN1 : 1 ≤ N) (hN : N ≤ 100000) {st : St} {x : Sg} {l : List Sg} (h : RAt p L e st (.ok () (x :: l))) (hx : x.k = 1) (hx2 : x.tx = selW) (hl : l.length < N) (hp : p < st.n) : RRes p L e qV st (pQuery N (x :: l)) (s57 [.ptr p 0] st) := by
  rw [s57_eq]
  unfold f57
  have hA := ratom_s (p := p) (e := e) hL N hN1 hN
  have bx : ∀ (s : St) (K : V → St → Res), A.box (.agg [(.lst [] 1), (.lst [] 1)]) s K = K (.ptr s.n 0) (s.new (.cells [.lst [] 1, .lst [] 1])) := fun s K => rfl
  have bu : ∀ K, A.build [(.lst [] 1), (.lst [] 1)] [] K = K (.agg [.lst [] 1, .lst [] 1]) := fun K => rfl
  rw [bx, bu, bx, sv_all 2 _ (new_at _ _) rfl rfl rfl]
  have k1 : KsP p st (((st.new (.cells [.lst [] 1, .lst [] 1])).new (.cells [.lst [] 1, .lst [] 1])).put (st.new (.cells [.lst [] 1, .lst [] 1])).n (.cells [.lst [] 1, .lst [] 1])) := (((KsP.refl p st).new _).new _).put (by simp) _
  have h1 : RAt p L e (((st.new (.cells [.lst [] 1, .lst [] 1])).new (.cells [.lst [] 1, .lst [] 1])).put (st.new (.cells [.lst [] 1, .lst [] 1])).n (.cells [.lst [] 1, .lst [] 1])) (.ok () (x :: l)) := ((h.new hp _).new (by simp; omega) _).put (by simp; omega) _
  have o1 : (((st.new (.cells [.lst [] 1, .lst [] 1])).new (.cells [.lst [] 1, .lst [] 1])).put (st.new (.cells [.lst [] 1, .lst [] 1])).n (.cells [.lst [] 1, .lst [] 1])).ob (st.n + 1) = some (.cells [.lst [] 1, .lst [] 1]) := put_at _ _ _
  have oj1 : (((st.new (.cells [.lst [] 1, .lst [] 1])).new (.cells [.lst [] 1, .lst [] 1])).put (st.new (.cells [.lst [] 1, .lst [] 1])).n (.cells [.lst [] 1, .lst [] 1])).ob st.n = some (.cells [.lst [] 1, .lst [] 1]) := by
    rw [put_ne _ _ (by simp), new_ne _ _ (by simp), new_at]
  have n1 : (((st.new (.cells [.lst [] 1, .lst [] 1])).new (.cells [.lst [] 1, .lst [] 1])).put (st.new (.cells [.lst [] 1, .lst [] 1])).n (.cells [.lst [] 1, .lst [] 1])).n = st.n + 2 := by simp
  rw [new_n]
  rw [new_n] at k1 h1 o1 oj1 n1
  generalize ((st.new (.cells [.lst [] 1, .lst [] 1])).new (.cells [.lst [] 1, .lst [] 1])).put (st.n + 1) (.cells [.lst [] 1, .lst [] 1]) = s1 at k1 h1 o1 oj1 n1 ⊢
  obtain ⟨kk, hk, hd, ho⟩ := h1
  obtain ⟨hlt, hd2⟩ := drop_next hd
  rw [rinc ho hlt hL]
  have h3 : RAt p L e (s1.put p (.cells (rdC L (kk + 1) e false 0))) (.ok () l) := ⟨kk + 1, hlt, hd2, put_at _ _ _⟩
  have k3 := k1.putP (.cells (rdC L (kk + 1) e false 0))
  have o3 : (s1.put p (.cells (rdC L (kk + 1) e false 0))).ob (st.n + 1) = some (.cells (qC [] 1 [] 1)) := by rw [put_ne _ _ (by omega)]; exact o1
  have oj3 : (s1.put p (.cells (rdC L (kk + 1) e false 0))).ob st.n = some (.cells (qC [] 1 [] 1)) := by rw [put_ne _ _ (by omega)]; exact oj1
  have n3 : (s1.put p (.cells (rdC L (kk + 1) e false 0))).n = st.n + 2 := by rw [put_n]; exact n1
  generalize s1.put p (.cells (rdC L (kk + 1) e false 0)) = s3 at k3 h3 o3 oj3 n3 ⊢
  have e0 : pQuery N (x :: l) = (pTake 2 [] l).bind fun v l => qW N (pVars [v] l).1 (pVars [v] l).2 := by
    unfold pQuery
    rw [show pTake 1 [selW] (x :: l) = .ok x.tx l from by rw [pTake, if_pos ⟨hx, .inr (by rw [hx2]; decide)⟩]]
    rfl
  rw [e0]
  unfold g57b111
  simp only [er1_ptr, er1_int]
  refine rvar_step hL (s := .ok () l) k3 h3 o3 (.inl rfl) (by omega) (by omega) (by omega) (by omega) (by simp) fun a s5 u5 hv k5 h5 o5 hu5 n5 m5 => ?_
  have oj5 := (m5 st.n (by omega) (by omega) (by omega)).trans oj3
  have e1 : ((pTake 2 [] l).bind fun v l => qW N (pVars [v] l).1 (pVars [v] l).2) = ((pTake 2 [] l).unit.bind fun _ l => qW N (pVars ([] ++ [a]) l).1 (pVars ([] ++ [a]) l).2) := (unit_bind (pTake 2 [] l) a hv fun v l => qW N (pVars [v] l).1 (pVars [v] l).2).symm
  rw [e1]
  have l5 := unit_len (s := .ok () l) (fun l => pTake_le 2 [] l) (N := N) (fun l' h => by cases h; exact hl)
  exact rvars_loop hL hA hN1 hN (by omega) (Nat.le_refl _) (by omega) hp N big (pTake 2 [] l).unit ([] ++ [a]) s5 u5 _ (fun l' h => ⟨l5 l' h, l5 l' h⟩) (lt_big (by omega)) (by simp; omega) k5 hu5 h5 o5 oj5 rfl (by omega) (by omega)
end Go.Ab
