import Derived.Test.YtimidokohhiacaaAbA09b
/- sinew/query: the parser's functions: terms, paths. -/
namespace Go.Ab
open Go.Proofs Go.RowKit
set_option linter.unusedVariables false
set_option linter.unusedSimpArgs false
set_option maxRecDepth 100000
theorem KsP.app {p : Nat} {st0 st : St} {sz u : Nat} (hk : KsP p st0 st) (h : Own st0 st sz u) : KsP p st0 (appSt st u sz) ∧ Own st0 (appSt st u sz) sz (st.nt + 3) := by
  have := hk.nt
  refine ⟨⟨fun i hi hp => by rw [appSt_ob]; exact hk.ob i hi hp, by rw [appSt_n]; exact hk.n, by rw [appSt_nt]; omega, fun j hj => ?_⟩, .inr (.inr ⟨st.nt, rfl, this, by rw [appSt_nt]; omega, appSt_new _ _ _⟩)⟩
  rw [appSt_tk _ _ _ _ (by omega) (by rcases h with h | h | ⟨k, h1, h2, _, _⟩ <;> omega)]
  exact hk.tk j hj
theorem Own.monoP {p : Nat} {st0 st st' : St} {sz t : Nat} (h : Own st0 st sz t) (k : KsP p st st') : Own st0 st' sz t := by
  rcases h with h | h | ⟨j, h1, h2, h3, h4⟩
  · exact .inl h
  · exact .inr (.inl h)
  · exact .inr (.inr ⟨j, h1, h2, by have := k.nt; omega, by rw [k.tk j h3]; exact h4⟩)
theorem sgV_k (x : Sg) (K : V → Res) : A.field false 1 0 (sgV x) K = K (.int .i64 x.k) := rfl
theorem sgV_t (x : Sg) (K : V → Res) : A.field false 1 1 (sgV x) K = K (.str x.tx) := rfl
theorem nowS_k (l : List Sg) (e : Int) : (nowS l e).k = nowK l := by cases l <;> rfl
theorem term_s {p : Nat} {e : Int} {l : List Sg} {t : Nat} {st : St} (h : st.ob p = some (pc l t e)) (hp : p < st.n) : Par p e tmV st (pTerm l) (s81 [.ptr p 0] st) := by
  rw [s81_eq]
  unfold f81
  rw [bx_tm]
  have k1 : KsP p st (st.new (.cells [.bool false, .str []])) := (KsP.refl p st).new _
  have h1 : (st.new (.cells [.bool false, .str []])).ob p = some (pc l t e) := by rw [new_ne _ _ (by omega)]; exact h
  have o1 := new_at st (.cells [.bool false, .str []])
  have n1 : st.n < (st.new (.cells [.bool false, .str []])).n := by simp
  generalize st.new (.cells [.bool false, .str []]) = s1 at k1 h1 o1 n1 ⊢
  have hp1 : p < s1.n := by omega
  obtain ⟨s2, q2, k2⟩ := now_s h1 hp1
  have h2 := (k2.ob p hp1).trans h1
  have o2 := (k2.ob st.n n1).trans o1
  have n2 := k2.n
  simp only [er1_ptr, q2, ret_ret, sgV_k, eql_int, Bool.false_eq_true, if_false, nowS_k]
  have k02 := k1.trans (k2.toP p)
  have fin : ∀ (v : Bool) (w : List UInt8) (l' : List Sg) (t' : Nat) (s3 : St), KsP p s2 s3 → s3.ob p = some (pc l' t' e) →
      Par p e tmV st (.ok ⟨v, w⟩ l') (A.store 2 (.ptr st.n 0) (.agg [.bool v, .str w]) s3 fun z10 => A.res (rcell (A.load true 2 (.ptr st.n 0) z10 kid) (some [])) z10) := fun v w l' t' s3 k3 h3 => by
    have o3 := (k3.ob st.n (by omega) (by omega)).trans o2
    rw [sv_all 2 _ o3 rfl rfl rfl, res_cells 2 (put_at _ _ _) rfl rfl]
    exact Par.ret rfl ((k02.trans k3).put (Nat.le_refl _) _) (by rw [put_ne _ _ (by omega)]; exact h3)
  unfold pTerm
  by_cases hk : nowK l = 2
  · rw [if_pos hk, show (nowK l == 2) = true from by rw [hk]; rfl, cond_true]
    refine Par.bind' (take_s h2 (by omega) 2 (by decide) [] 1 (by simp)) k02 fun w l' s3 t' _ k3 h3 => ?_
    have b : ∀ K, A.build [(.bool false), (.str [])] [(0, 1, (.bool true)), (1, 1, .str w)] K = K (.agg [.bool true, .str w]) := fun K => rfl
    rw [b]
    exact fin true w l' t' s3 k3 h3
  · rw [if_neg hk, show (nowK l == 2) = false from beq_eq_false_iff_ne.2 hk, cond_false]
    refine Par.bind' (take_s h2 (by omega) 1 (by decide) [] 1 (by simp)) k02 fun w l' s3 t' _ k3 h3 => ?_
    have b : ∀ K, A.build [(.bool false), (.str [])] [(1, 1, .str w)] K = K (.agg [.bool false, .str w]) := fun K => rfl
    rw [b]
    exact fin false w l' t' s3 k3 h3
/-- A path's place for its result. -/
theorem box_pth {p t : Nat} {e : Int} {l : List Sg} {st : St} (h : st.ob p = some (pc l t e)) (hp : p < st.n) : KsP p st (st.new (.cells [.int .i64 0, .str [], .lst [] 1])) ∧ (st.new (.cells [.int .i64 0, .str [], .lst [] 1])).ob p = some (pc l t e) ∧ (st.new (.cells [.int .i64 0, .str [], .lst [] 1])).ob st.n = some (.cells [.int .i64 0, .str [], .lst [] 1]) ∧ st.n < (st.new (.cells [.int .i64 0, .str [], .lst [] 1])).n :=
  ⟨(KsP.refl p st).new _, by rw [new_ne _ _ (by omega)]; exact h, new_at _ _, by simp⟩
theorem pth_store {st : St} {i : Nat} {cs : List V} (p : Pth) (h : st.ob i = some (.cells cs)) (hc : cs.length = 3) (K : St → Res) : A.store 3 (.ptr i 0) p.v st K = K (st.put i (.cells (pthC p))) := by
  rw [pth_c]; exact sv_all 3 _ h rfl hc rfl K
theorem pth_load {st : St} {i : Nat} (p : Pth) (h : st.ob i = some (.cells (pthC p))) (K : V → St → Res) : A.load true 3 (.ptr i 0) st K = K p.v st := by
  rw [load_obA, h, obo_some, pth_c]; rfl
theorem pth_res {st : St} {i : Nat} (p : Pth) (h : st.ob i = some (.cells (pthC p))) : A.res (rcell (A.load true 3 (.ptr i 0) st kid) (some [])) st = some (.ret p.v, st) := by
  rw [res_cells 3 h rfl rfl, pth_c]; rfl
/-- What comes last in these functions: the result is laid down and read. -/
theorem pth_end {p : Nat} {e : Int} {st0 s : St} {l : List Sg} {t i : Nat} {cs : List V} (q : Pth) (k : KsP p st0 s) (h : s.ob p = some (pc l t e)) (o : s.ob i = some (.cells cs)) (hc : cs.length = 3) (hi : st0.n ≤ i) (hip : p ≠ i) :
    Par p e Pth.v st0 (.ok q l) (A.store 3 (.ptr i 0) q.v s fun z => A.res (rcell (A.load true 3 (.ptr i 0) z kid) (some [])) z) := by
  rw [pth_store q o hc, pth_res q (put_at _ _ _)]
  exact Par.ret rfl (k.put hi _) (by rw [put_ne _ _ hip]; exact h)
def PF (p : Nat) (e : Int) (n : Nat) (part : List Sg → PR Pth) (run : St → Res) : Prop := ∀ l st t, l.length ≤ n → st.ob p = some (pc l t e) → p < st.n → Par p e Pth.v st (part l) (run st)
theorem seq_s {p : Nat} {e : Int} {n : Nat} {R : Nat → Fn} {part : List Sg → PR Pth} (h : PF p e n part fun st => R 95 [.ptr p 0, .int .i64 2, .str [47], .fn 102 [.ptr p 0] []] st) : PF p e n part fun st => f96 R (.ptr p 0) st := by
  intro l st t hl hs hp
  show Par p e Pth.v st (part l) (f96 R (.ptr p 0) st)
  unfold f96
  rw [bx_pth]
  obtain ⟨k1, h1, o1, n1⟩ := box_pth hs hp
  generalize st.new (.cells [.int .i64 0, .str [], .lst [] 1]) = s1 at k1 h1 o1 n1 ⊢
  have := Par.bind' (emb2 := Pth.v) (f := fun a l => .ok a l) (K := fun a3 z4 => A.store 3 (.ptr st.n 0) a3 z4 fun z5 => A.res (rcell (A.load true 3 (.ptr st.n 0) z5 kid) (some [])) z5) (h l s1 t hl h1 (by omega)) k1 fun q l' s2 t' _ k2 h2 => pth_end q (k1.trans k2) h2 ((k2.ob _ n1 (by omega)).trans o1) rfl (Nat.le_refl _) (by omega)
  have e0 : (part l).bind (fun a l => .ok a l) = part l := by cases part l <;> rfl
  rw [e0] at this
  exact this
theorem path_s0 {p : Nat} {e : Int} {n : Nat} {R : Nat → Fn} {part : List Sg → PR Pth} (h : PF p e n part fun st => R 95 [.ptr p 0, .int .i64 3, .str [124], .fn 96 [.ptr p 0] []] st) : PF p e n part fun st => f82 R (.ptr p 0) st := by
  intro l st t hl hs hp
  show Par p e Pth.v st (part l) (f82 R (.ptr p 0) st)
  unfold f82
  rw [bx_pth]
  obtain ⟨k1, h1, o1, n1⟩ := box_pth hs hp
  generalize st.new (.cells [.int .i64 0, .str [], .lst [] 1]) = s1 at k1 h1 o1 n1 ⊢
  have := Par.bind' (emb2 := Pth.v) (f := fun a l => .ok a l) (K := fun a3 z4 => A.store 3 (.ptr st.n 0) a3 z4 fun z5 => A.res (rcell (A.load true 3 (.ptr st.n 0) z5 kid) (some [])) z5) (h l s1 t hl h1 (by omega)) k1 fun q l' s2 t' _ k2 h2 => pth_end q (k1.trans k2) h2 ((k2.ob _ n1 (by omega)).trans o1) rfl (Nat.le_refl _) (by omega)
  have e0 : (part l).bind (fun a l => .ok a l) = part l := by cases part l <;> rfl
  rw [e0] at this
  exact this
theorem pths_ok (ps : List Pth) : szok 3 (ps.map Pth.v) = true := szok_of (by intro v hv; obtain ⟨x, _, rfl⟩ := List.mem_map.1 hv; rw [pth_c]; rfl)
theorem bs_pth (q : Pth) (K : V → Res) : A.bslice 3 (.agg [(.int .i64 0), (.str []), (.lst [] 1)]) 1 [(0, q.v)] K = K (.lst [q.v] 2) := by
  rw [pth_c]; rfl
theorem mkN_end {p : Nat} {e : Int} {st0 s : St} {l : List Sg} {t i u : Nat} {cs : List V} (ki : Int) (ps : List Pth) (hne : ps ≠ []) (hlen : ps.length ≤ 1000000) (k : KsP p st0 s) (h : s.ob p = some (pc l t e)) (o : s.ob i = some (.cells cs)) (hc : cs.length = 3) (hi : st0.n ≤ i) (hip : p ≠ i) :
    Par p e Pth.v st0 (.ok (mkN ki ps) l) (A.lenL (.lst (ps.map Pth.v) u) fun a8 => A.eql 2 false a8 (.int .i64 1) fun a9 => A.cond a9
 (A.iaddr 3 (.lst (ps.map Pth.v) u) (.int .i64 0) fun a10 => A.load true 3 a10 s fun a11 z12 => A.store 3 (.ptr i 0) a11 z12 fun z13 => A.res (rcell (A.load true 3 (.ptr i 0) z13 kid) (some [])) z13)
 (A.build [(.int .i64 0), (.str []), (.lst [] 1)] [(0, 1, .int .i64 ki), (2, 1, .lst (ps.map Pth.v) u)] fun a14 => A.store 3 (.ptr i 0) a14 s fun z15 => A.res (rcell (A.load true 3 (.ptr i 0) z15 kid) (some [])) z15)) := by
  simp only [lenL_lst, List.length_map, eql_int, Bool.false_eq_true, if_false]
  match ps, hne with
  | [q], _ =>
    simp only [List.length_cons, List.length_nil, show (((0 + 1 : Nat) : Int) == 1) = true from rfl, cond_true]
    have i1 : ∀ K, A.iaddr 3 (.lst ([q].map Pth.v) u) (.int .i64 0) K = K (.lptr (pthC q)) := fun K => by
      have := iaddr_lst (l := [q].map Pth.v) (t := u) (sz := 3) (n := 0) (v := q.v) K rfl (by rw [pth_c]; rfl)
      rw [pth_c q] at this
      exact this
    have i2 : ∀ (s : St) K, A.load true 3 (.lptr (pthC q)) s K = K q.v s := fun s K => by rw [load_lptrA, pth_c]; rfl
    rw [i1, i2]
    exact pth_end q k h o hc hi hip
  | q :: q2 :: ps, _ =>
    rw [show ((((q :: q2 :: ps).length : Nat) : Int) == 1) = false from by rw [beq_eq_false_iff_ne]; simp only [List.length_cons]; omega, cond_false]
    have b : ∀ K, A.build [(.int .i64 0), (.str []), (.lst [] 1)] [(0, 1, .int .i64 ki), (2, 1, .lst ((q :: q2 :: ps).map Pth.v) u)] K = K (.agg [.int .i64 ki, .str [], .lst ((q :: q2 :: ps).map Pth.v) u]) := fun K => rfl
    rw [b, sv_all 3 _ o rfl hc rfl, res_cells 3 (put_at _ _ _) rfl rfl]
    refine Par.ret ?_ (k.put hi _) (by rw [put_ne _ _ hip]; exact h)
    show _ = (Pth.mk ki [] (q :: q2 :: ps)).v
    rw [pth_v]; rfl
theorem some_loop {p : Nat} {e : Int} {N : Nat} {R : Nat → Fn} {part : List Sg → PR Pth} {g : Nat} (hg : g = 96 ∨ g = 102) (hpart : PF p e N part fun st => R g [.ptr p 0] st) (hle : ∀ l, (part l).le l.length) (ki : Int) (m : List UInt8) {st0 : St} {i : Nat} (hi : st0.n ≤ i) (hip : p ≠ i) (hp : p < st0.n) :
    ∀ (n f : Nat) (ps : List Pth) (l : List Sg) (s : St) (t u : Nat) (cs : List V), l.length < n → n ≤ f → l.length ≤ N → ps ≠ [] → ps.length + l.length ≤ 1000000 → KsP p st0 s → Own st0 s 3 u → s.ob p = some (pc l t e) → s.ob i = some (.cells cs) → cs.length = 3 → i < s.n →
      Par p e Pth.v st0 ((pMore m part n ps l).bind fun ps l => .ok (mkN ki ps) l) (g95b1100 R f (.ptr p 0) (.int .i64 ki) (.str m) (.fn g [.ptr p 0] []) (.ptr i 0) (.lst (ps.map Pth.v) u) s) := by
  intro n
  induction n with
  | zero => intro f ps l s t u cs hl; omega
  | succ n ih =>
    intro f ps l s t u cs hl hf hlN hne hlen k hu h o hc hin
    obtain ⟨f, rfl⟩ : ∃ f', f = f' + 1 := ⟨f - 1, by omega⟩
    have hps : p < s.n := by have := k.n; omega
    rw [g95b1100, pMore]
    simp only [er1_ptr, er1_str]
    have hq := is_s h hps m
    cases hm : pIs m l with
    | none =>
      rw [hm] at hq
      obtain ⟨s1, q1, k1⟩ := hq
      rw [q1, ret_ret, cond_false, PR.bind_ok]
      have kk := k.trans (k1.toP p)
      exact mkN_end ki ps hne (by omega) kk ((k1.ob p hps).trans h) ((k1.ob i hin).trans o) hc hi hip
    | some l' =>
      rw [hm] at hq
      obtain ⟨s1, t1, q1, k1, h1⟩ := hq
      have hlt := pIs_lt hm
      have kk := k.trans k1
      have n1 := k1.n
      rw [q1, ret_ret, cond_true]
      have call : ∀ K, A.call (g95T R) (.fn g [.ptr p 0] []) [] s1 K = A.ret (R g [.ptr p 0] s1) K := fun K => by rcases hg with rfl | rfl <;> rfl
      rw [call]
      show Par p e Pth.v st0 (((part l').bind fun q l => pMore m part n (ps ++ [q]) l).bind _) _
      have assoc : ((part l').bind fun q l => pMore m part n (ps ++ [q]) l).bind (fun ps l => .ok (mkN ki ps) l) = (part l').bind fun q l => (pMore m part n (ps ++ [q]) l).bind fun ps l => .ok (mkN ki ps) l := by cases part l' <;> rfl
      rw [assoc]
      refine Par.bind' (hpart l' s1 t1 (by omega) h1 (by omega)) kk fun q l2 s2 t2 hr2 k2 h2 => ?_
      have hl2 : l2.length ≤ l'.length := by have := hle l'; rw [hr2] at this; exact this
      have k02 := kk.trans k2
      have hu2 : Own st0 s2 3 u := (hu.monoP k1).monoP k2
      have o2 := (k2.ob i (by omega) (fun g => hip g.symm)).trans ((k1.ob i hin (fun g => hip g.symm)).trans o)
      rw [bs_pth, show elemsOf 5 3 (.lst [q.v] 2) s2 = some [q.v] from elemsOf_lst 3 _ 2 s2 (pths_ok [q])]
      rw [app_own _ hu2 (by simp; omega) (pths_ok ps)]
      obtain ⟨k3, hu3⟩ := k02.app hu2
      have := ih f (ps ++ [q]) l2 (appSt s2 u 3) t2 (s2.nt + 3) cs (by omega) (by omega) (by omega) (by simp) (by simp; omega) k3 hu3 (by rw [appSt_ob]; exact h2) (by rw [appSt_ob]; exact o2) hc (by rw [appSt_n]; have := k2.n; omega)
      rw [List.map_append] at this
      exact this
theorem some_s {p : Nat} {e : Int} {N : Nat} {R : Nat → Fn} {part : List Sg → PR Pth} {g : Nat} (hg : g = 96 ∨ g = 102) (hpart : PF p e N part fun st => R g [.ptr p 0] st) (hle : ∀ l, (part l).le l.length) (hlt : ∀ {l l' q}, part l = .ok q l' → l'.length < l.length) (ki : Int) (m : List UInt8) (hN : N ≤ 100000) :
    PF p e N (pSome ki m part N) fun st => f95 R (.ptr p 0) (.int .i64 ki) (.str m) (.fn g [.ptr p 0] []) st := by
  intro l st t hl hs hp
  show Par p e Pth.v st (pSome ki m part N l) (f95 R (.ptr p 0) (.int .i64 ki) (.str m) (.fn g [.ptr p 0] []) st)
  unfold f95
  rw [bx_pth]
  obtain ⟨k1, h1, o1, n1⟩ := box_pth hs hp
  generalize st.new (.cells [.int .i64 0, .str [], .lst [] 1]) = s1 at k1 h1 o1 n1 ⊢
  have call : ∀ K, A.call (g95T R) (.fn g [.ptr p 0] []) [] s1 K = A.ret (R g [.ptr p 0] s1) K := fun K => by rcases hg with rfl | rfl <;> rfl
  rw [call]
  unfold pSome
  refine Par.bind' (hpart l s1 t hl h1 (by omega)) k1 fun q l2 s2 t2 hr2 k2 h2 => ?_
  have hl2 := hlt hr2
  rw [bs_pth]
  exact some_loop hg hpart hle ki m (Nat.le_refl _) (by omega) hp N big [q] l2 s2 t2 2 _ (by omega) (Nat.le_of_lt (lt_big (by omega))) (by omega) (by simp) (by simp; omega) (k1.trans k2) (.inr (.inl rfl)) h2 ((k2.ob _ n1 (by omega)).trans o1) rfl (by have := k2.n; omega)
/-! .. and what is read with marks behind -/
/-- A path's cells, with some right to append. -/
def pthCt (q : Pth) (t : Nat) : List V := [.int .i64 q.kind, .str q.word, .lst (q.kids.map Pth.v) t]
theorem bs_pthT (q : Pth) (t : Nat) (K : V → Res) : A.bslice 3 (.agg [(.int .i64 0), (.str []), (.lst [] 1)]) 1 [(0, .agg (pthCt q t))] K = K (.lst [q.v] 2) := by
  rw [pth_c]; rfl
theorem pth_loadT {st : St} {i t : Nat} (p : Pth) (h : st.ob i = some (.cells (pthCt p t))) (K : V → St → Res) : A.load true 3 (.ptr i 0) st K = K (.agg (pthCt p t)) st := by
  rw [load_obA, h, obo_some]; rfl
theorem pth_endT {p : Nat} {e : Int} {st0 s : St} {l : List Sg} {t i tk : Nat} {cs : List V} (q : Pth) (k : KsP p st0 s) (h : s.ob p = some (pc l t e)) (o : s.ob i = some (.cells cs)) (hc : cs.length = 3) (hi : st0.n ≤ i) (hip : p ≠ i) :
    Par p e Pth.v st0 (.ok q l) (A.store 3 (.ptr i 0) (.agg (pthCt q tk)) s fun z => A.res (rcell (A.load true 3 (.ptr i 0) z kid) (some [])) z) := by
  rw [sv_all 3 _ o rfl hc rfl, res_cells 3 (put_at _ _ _) rfl rfl]
  exact Par.ret (by rw [pth_c]; rfl) (k.put hi _) (by rw [put_ne _ _ hip]; exact h)
theorem stars_loop {p : Nat} {e : Int} {R : Nat → Fn} {st0 : St} {i j : Nat} (hi : st0.n ≤ i) (hj : st0.n ≤ j) (hij : i ≠ j) (hip : p < st0.n) :
    ∀ (l : List Sg) (f : Nat) (q : Pth) (tk : Nat) (s : St) (t : Nat) (cs : List V), l.length < f → KsP p st0 s → s.ob p = some (pc l t e) → s.ob i = some (.cells cs) → cs.length = 3 → i < s.n → s.ob j = some (.cells (pthCt q tk)) → j < s.n →
      Par p e Pth.v st0 (.ok (pStars q l).1 (pStars q l).2) (g102b110 R f (.ptr p 0) (.ptr i 0) (.ptr j 0) s) := by
  intro l
  induction l with
  | nil =>
    intro f q tk s t cs hf k h o hc hin oj hjn
    obtain ⟨f, rfl⟩ : ∃ f', f = f' + 1 := ⟨f - 1, by omega⟩
    have hps : p < s.n := by have := k.n; omega
    obtain ⟨s1, q1, k1⟩ := is_s h hps [42]
    have h1 := (k1.ob p hps).trans h
    have n1 := k1.n
    obtain ⟨s2, q2, k2⟩ := is_s h1 (by omega) [43]
    have h2 := (k2.ob p (by omega)).trans h1
    have n2 := k2.n
    obtain ⟨s3, q3, k3⟩ := is_s h2 (by omega) [63]
    have h3 := (k3.ob p (by omega)).trans h2
    have kk := ((k1.trans k2).trans k3)
    rw [g102b110]
    simp only [er1_ptr, er1_str, q1, q2, q3, ret_ret, cond_false]
    rw [pth_loadT q ((kk.ob j hjn).trans oj)]
    exact pth_endT q (k.trans (kk.toP p)) h3 ((kk.ob i hin).trans o) hc hi (by omega)
  | cons x l ih =>
    intro f q tk s t cs hf k h o hc hin oj hjn
    obtain ⟨f, rfl⟩ : ∃ f', f = f' + 1 := ⟨f - 1, by omega⟩
    have hps : p < s.n := by have := k.n; omega
    simp only [List.length_cons] at hf
    rw [g102b110, pStars]
    simp only [er1_ptr, er1_str]
    -- one more mark
    have more : ∀ (ki : Int) (s1 : St) (t1 : Nat), KsP p s s1 → s1.ob p = some (pc l t1 e) → Par p e Pth.v st0 (.ok (pStars (.mk ki [] [q]) l).1 (pStars (.mk ki [] [q]) l).2) (g102bz6b R (g102b110 R f) (.ptr p 0) (.ptr i 0) (.ptr j 0) (.int .i64 ki) s1) := by
      intro ki s1 t1 k1 h1
      have n1 := k1.n
      have oj1 := (k1.ob j hjn (by omega)).trans oj
      have oi1 := (k1.ob i hin (by omega)).trans o
      unfold g102bz6b
      have b : ∀ K, A.build [(.int .i64 0), (.str []), (.lst [] 1)] [(0, 1, .int .i64 ki), (2, 1, .lst [q.v] 2)] K = K (.agg [.int .i64 ki, .str [], .lst [q.v] 2]) := fun K => rfl
      rw [pth_loadT q oj1, bs_pthT, b, sv_all 3 _ oj1 rfl rfl rfl]
      exact ih f (.mk ki [] [q]) 2 _ t1 cs (by omega) ((k.trans k1).put hj _) (by rw [put_ne _ _ (by omega)]; exact h1) (by rw [put_ne _ _ hij]; exact oi1) hc (by rw [put_n]; omega) (put_at _ _ _) (by rw [put_n]; omega)
    have hq1 := is_s h hps [42]
    by_cases c1 : x.k = 3 ∧ x.tx = [42]
    · rw [pIs, if_pos c1] at hq1
      obtain ⟨s1, t1, q1, k1, h1⟩ := hq1
      rw [q1, ret_ret, cond_true, if_pos c1]
      exact more 4 s1 t1 k1 h1
    rw [pIs, if_neg c1] at hq1
    obtain ⟨s1, q1, k1⟩ := hq1
    rw [q1, ret_ret, cond_false, if_neg c1]
    have h1 := (k1.ob p hps).trans h
    have n1 := k1.n
    have hq2 := is_s h1 (by omega) [43]
    by_cases c2 : x.k = 3 ∧ x.tx = [43]
    · rw [pIs, if_pos c2] at hq2
      obtain ⟨s2, t2, q2, k2, h2⟩ := hq2
      rw [q2, ret_ret, cond_true, if_pos c2]
      exact more 5 s2 t2 ((k1.toP p).trans k2) h2
    rw [pIs, if_neg c2] at hq2
    obtain ⟨s2, q2, k2⟩ := hq2
    rw [q2, ret_ret, cond_false, if_neg c2]
    have h2 := (k2.ob p (by omega)).trans h1
    have n2 := k2.n
    have hq3 := is_s h2 (by omega) [63]
    by_cases c3 : x.k = 3 ∧ x.tx = [63]
    · rw [pIs, if_pos c3] at hq3
      obtain ⟨s3, t3, q3, k3, h3⟩ := hq3
      rw [q3, ret_ret, cond_true, if_pos c3]
      exact more 6 s3 t3 (((k1.trans k2).toP p).trans k3) h3
    rw [pIs, if_neg c3] at hq3
    obtain ⟨s3, q3, k3⟩ := hq3
    rw [q3, ret_ret, cond_false, if_neg c3]
    have h3 := (k3.ob p (by omega)).trans h2
    have kk := ((k1.trans k2).trans k3)
    rw [pth_loadT q ((kk.ob j hjn).trans oj)]
    exact pth_endT q (k.trans (kk.toP p)) h3 ((kk.ob i hin).trans o) hc hi (by omega)
theorem post_s {p : Nat} {e : Int} {n : Nat} {R : Nat → Fn} {part : List Sg → PR Pth} (hle : ∀ l, (part l).le l.length) (hn : n ≤ 100000) (h : PF p e n (pPrim part) fun st => R 104 [.ptr p 0] st) : PF p e n (pPost part) fun st => f102 R (.ptr p 0) st := by
  intro l st t hl hs hp
  show Par p e Pth.v st (pPost part l) (f102 R (.ptr p 0) st)
  unfold f102
  rw [bx_pth]
  obtain ⟨k1, h1, o1, n1⟩ := box_pth hs hp
  generalize st.new (.cells [.int .i64 0, .str [], .lst [] 1]) = s1 at k1 h1 o1 n1 ⊢
  unfold pPost
  refine Par.bind' (h l s1 t hl h1 (by omega)) k1 fun q l2 s2 t2 hr2 k2 h2 => ?_
  have hl2 : l2.length ≤ l.length := by have := pPrim_le hle l; rw [hr2] at this; exact this
  have n2 := k2.n
  have o2 := (k2.ob _ n1 (by omega)).trans o1
  rw [bx_pth]
  obtain ⟨k3, h3, o3, n3⟩ := box_pth h2 (by omega)
  have o23 : (s2.new (.cells [.int .i64 0, .str [], .lst [] 1])).ob st.n = _ := (k3.ob _ (by omega) (by omega)).trans o2
  rw [pth_store q o3 rfl]
  have k13 := (k1.trans k2).trans k3
  exact stars_loop (Nat.le_refl _) (by have := k1.n; omega) (by omega) hp l2 big q 0 _ t2 _ (lt_big (by omega)) (k13.put (by have := k1.n; omega) _) (by rw [put_ne _ _ (by omega)]; exact h3) (by rw [put_ne _ _ (by omega)]; exact o23) rfl (by rw [put_n]; omega) (put_at _ _ _) (by rw [put_n]; omega)
theorem prim_s {p : Nat} {e : Int} {n : Nat} {R : Nat → Fn} {P : List Sg → PR Pth} (h : ∀ l st t, l.length < n → st.ob p = some (pc l t e) → p < st.n → Par p e Pth.v st (P l) (R 82 [.ptr p 0] st)) : PF p e n (pPrim P) fun st => f104 R (.ptr p 0) st := by
  intro l st t hl hs hp
  show Par p e Pth.v st (pPrim P l) (f104 R (.ptr p 0) st)
  unfold f104
  rw [bx_pth]
  obtain ⟨k1, h1, o1, n1⟩ := box_pth hs hp
  generalize st.new (.cells [.int .i64 0, .str [], .lst [] 1]) = s1 at k1 h1 o1 n1 ⊢
  simp only [er1_ptr, er1_str]
  have hq := is_s h1 (by omega) [40]
  unfold pPrim
  cases hm : pIs [40] l with
  | none =>
    rw [hm] at hq
    obtain ⟨s2, q2, k2⟩ := hq
    have h2 := (k2.ob p (by omega)).trans h1
    have n2 := k2.n
    rw [q2, ret_ret, un_not, Bool.not_false, cond_true]
    refine Par.bind' (take_s h2 (by omega) 1 (by decide) [] 1 (by simp)) (k1.trans (k2.toP p)) fun w l' s3 t' _ k3 h3 => ?_
    have b : ∀ K, A.build [(.int .i64 0), (.str []), (.lst [] 1)] [(0, 1, (.int .i64 1)), (1, 1, .str w)] K = K (.agg (pthCt (.mk 1 w []) 1)) := fun K => rfl
    rw [b]
    exact pth_endT (.mk 1 w []) ((k1.trans (k2.toP p)).trans k3) h3 ((k3.ob _ (by omega) (by omega)).trans ((k2.ob _ n1).trans o1)) rfl (Nat.le_refl _) (by omega)
  | some l1 =>
    rw [hm] at hq
    obtain ⟨s2, t2, q2, k2, h2⟩ := hq
    have hlt := pIs_lt hm
    have n2 := k2.n
    rw [q2, ret_ret, un_not, Bool.not_true, cond_false]
    have o2 := (k2.ob _ n1 (by omega)).trans o1
    refine Par.bind' (h l1 s2 t2 (by omega) h2 (by omega)) (k1.trans k2) fun q l3 s3 t3 _ k3 h3 => ?_
    have n3 := k3.n
    have o3 := (k3.ob st.n (by omega) (by omega)).trans o2
    rw [bx_pth]
    obtain ⟨k4, h4, o4, n4⟩ := box_pth h3 (by omega)
    have o34 : (s3.new (.cells [.int .i64 0, .str [], .lst [] 1])).ob st.n = _ := (k4.ob _ (by omega) (by omega)).trans o3
    rw [pth_store q o4 rfl]
    have k5 : KsP p st ((s3.new (.cells [.int .i64 0, .str [], .lst [] 1])).put s3.n (.cells (pthC q))) := (((k1.trans k2).trans k3).trans k4).put (by have := k1.n; omega) _
    have h5 : ((s3.new (.cells [.int .i64 0, .str [], .lst [] 1])).put s3.n (.cells (pthC q))).ob p = some (pc l3 t3 e) := by rw [put_ne _ _ (by omega)]; exact h4
    have o5 : ((s3.new (.cells [.int .i64 0, .str [], .lst [] 1])).put s3.n (.cells (pthC q))).ob st.n = some (.cells [.int .i64 0, .str [], .lst [] 1]) := by rw [put_ne _ _ (by omega)]; exact o34
    have o6 := put_at (s3.new (.cells [.int .i64 0, .str [], .lst [] 1])) s3.n (.cells (pthC q))
    have n6 : s3.n < ((s3.new (.cells [.int .i64 0, .str [], .lst [] 1])).put s3.n (.cells (pthC q))).n := by rw [put_n]; exact n4
    generalize (s3.new (.cells [.int .i64 0, .str [], .lst [] 1])).put s3.n (.cells (pthC q)) = s5 at k5 h5 o5 o6 n6 ⊢
    unfold g104b111
    have bs : ∀ K, A.bslice 1 (.str []) 1 [(0, (.str [41]))] K = K (.lst (strsV [[41]]) 2) := fun K => rfl
    rw [bs]
    simp only [er1_ptr, er1_int, er1_lst]
    refine Par.bind' (take_s h5 (by omega) 3 (by decide) [[41]] 2 (by simp)) k5 fun w l6 s7 t7 _ k7 h7 => ?_
    rw [pth_load q ((k7.ob _ n6 (by omega)).trans o6)]
    exact pth_end q (k5.trans k7) h7 ((k7.ob _ (by omega) (by omega)).trans o5) rfl (Nat.le_refl _) (by omega)
/-- Paths. -/
theorem path_s {p : Nat} {e : Int} : ∀ (n M : Nat), n ≤ 100000 → 6 * n ≤ M → ∀ l st t, l.length < n → st.ob p = some (pc l t e) → p < st.n → Par p e Pth.v st (pPath n l) (G82 (M + 1) 82 [.ptr p 0] st)
  | 0, M, _, _, l, st, t, hl, _, _ => by omega
  | n + 1, M, hn, hM, l, st, t, hl, h, hp => by
    obtain ⟨M, rfl⟩ : ∃ M', M = M' + 6 := ⟨M - 6, by omega⟩
    rw [G82_82_eq]
    have ih := path_s (p := p) (e := e) n M (by omega) (by omega)
    have h1 : PF p e n (pPrim (pPath n)) fun st => G82 (M + 2) 104 [.ptr p 0] st := by
      intro l st t hl hs hp
      show Par p e Pth.v st _ (G82 (M + 1 + 1) 104 [.ptr p 0] st)
      rw [G82_104_eq]
      exact prim_s ih l st t hl hs hp
    have h2 : PF p e n (pPost (pPath n)) fun st => G82 (M + 3) 102 [.ptr p 0] st := by
      intro l st t hl hs hp
      show Par p e Pth.v st _ (G82 (M + 2 + 1) 102 [.ptr p 0] st)
      rw [G82_102_eq]
      exact post_s (pPath_le n) (by omega) h1 l st t hl hs hp
    have h3 : PF p e n (pSome 2 [47] (pPost (pPath n)) n) fun st => G82 (M + 4) 95 [.ptr p 0, .int .i64 2, .str [47], .fn 102 [.ptr p 0] []] st := by
      intro l st t hl hs hp
      show Par p e Pth.v st _ (G82 (M + 3 + 1) 95 [.ptr p 0, .int .i64 2, .str [47], .fn 102 [.ptr p 0] []] st)
      rw [G82_95_eq]
      exact some_s (.inr rfl) h2 (fun l => pPost_le (pPath_le n) l) (fun h => pPost_lt (pPath_le n) h) 2 [47] (by omega) l st t hl hs hp
    have h4 : PF p e n (pSome 2 [47] (pPost (pPath n)) n) fun st => G82 (M + 5) 96 [.ptr p 0] st := by
      intro l st t hl hs hp
      show Par p e Pth.v st _ (G82 (M + 4 + 1) 96 [.ptr p 0] st)
      rw [G82_96_eq]
      exact seq_s h3 l st t hl hs hp
    have h5 : PF p e n (pPath (n + 1)) fun st => G82 (M + 6) 95 [.ptr p 0, .int .i64 3, .str [124], .fn 96 [.ptr p 0] []] st := by
      intro l st t hl hs hp
      show Par p e Pth.v st _ (G82 (M + 5 + 1) 95 [.ptr p 0, .int .i64 3, .str [124], .fn 96 [.ptr p 0] []] st)
      rw [G82_95_eq]
      exact some_s (.inl rfl) h4 (fun l => pSome_le (fun l => pPost_le (pPath_le n) l) n l) (fun h => pSome_lt (fun l => pPost_le (pPath_le n) l) (fun h => pPost_lt (pPath_le n) h) h) 3 [124] (by omega) l st t hl hs hp
    exact path_s0 h5 l st t (by omega) h hp
end Go.Ab
