import Derived.Test.YtimidokohhiacaaAbA09d
/- sinew/query: the parser's functions: changes, requests. -/
namespace Go.Ab
open Go.Proofs Go.RowKit
set_option linter.unusedVariables false
set_option linter.unusedSimpArgs false
set_option maxRecDepth 100000
def ParR {α : Type} (p : Nat) (e : Int) (rel : α → V → Prop) (st : St) (r : PR α) (x : Res) : Prop := match r with
  | .ok a l => ∃ st' t v, x = some (.ret v, st') ∧ rel a v ∧ KsP p st st' ∧ st'.ob p = some (pc l t e)
  | .bad l => ∃ st' t, x = some (.panic (.iface 88 (.agg [.int .i64 (nowS l e).at_])), st') ∧ KsP p st st' ∧ st'.ob p = some (pc l t e)
theorem Par.bindR {α β : Type} {p : Nat} {e : Int} {emb : α → V} {rel : β → V → Prop} {st0 st : St} {r : PR α} {x : Res} {f : α → List Sg → PR β} {K : V → St → Res} (h : Par p e emb st r x) (k0 : KsP p st0 st)
    (k : ∀ a l st1 t, r = .ok a l → KsP p st st1 → st1.ob p = some (pc l t e) → ParR p e rel st0 (f a l) (K (emb a) st1)) : ParR p e rel st0 (r.bind f) (A.ret x K) := by
  cases r with
  | ok a l => obtain ⟨st', t, rfl, h2, h3⟩ := h; rw [ret_ret]; exact k a l st' t rfl h2 h3
  | bad l => obtain ⟨st', t, rfl, h2, h3⟩ := h; rw [ret_panic]; exact ⟨st', t, rfl, k0.trans h2, h3⟩
def relC (cs : List Chg) (v : V) : Prop := ∃ u, v = .lst (cs.map chV) u
theorem chs_ok (cs : List Chg) : szok 4 (cs.map chV) = true := szok_of (by intro v hv; obtain ⟨x, _, rfl⟩ := List.mem_map.1 hv; rfl)
theorem own_put {st0 st : St} {sz u i : Nat} {o : Ob} (h : Own st0 st sz u) : Own st0 (st.put i o) sz u := by
  rcases h with g | g | ⟨j, g1, g2, g3, g4⟩
  · exact .inl g
  · exact .inr (.inl g)
  · exact .inr (.inr ⟨j, g1, g2, by simpa using g3, by simpa using g4⟩)
theorem own_new {st0 st : St} {sz u : Nat} {o : Ob} (h : Own st0 st sz u) : Own st0 (st.new o) sz u := by
  rcases h with g | g | ⟨j, g1, g2, g3, g4⟩
  · exact .inl g
  · exact .inr (.inl g)
  · exact .inr (.inr ⟨j, g1, g2, by simpa using g3, by simpa using g4⟩)
theorem pChg_suf (l : List Sg) : (pChg l).suf l := by
  unfold pChg
  exact (pTake_suf 1 _ l).bind fun h l => (pTake_suf 1 [] l).bind fun s l => (pTake_suf 1 [] l).bind fun p l => (pTake_suf 1 [] l).bind fun o l => List.suffix_refl _
theorem batch_loop {p : Nat} {e : Int} {st0 : St} (hp0 : p < st0.n) :
    ∀ (n f : Nat) (cs : List Chg) (l : List Sg) (s : St) (t u : Nat), l.length < n → n < f → cs.length + l.length ≤ 1000000 → KsP p st0 s → Own st0 s 4 u → s.ob p = some (pc l t e) →
      ParR p e relC st0 (pChs n cs l) (g52b1010 f (.ptr p 0) (.lst (cs.map chV) u) (.bool true) s) := by
  intro n
  induction n with
  | zero => intro f cs l s t u hl; omega
  | succ n ih =>
    intro f cs l s t u hl hf hlen k hu h
    obtain ⟨f, rfl⟩ : ∃ f', f = f' + 1 := ⟨f - 1, by omega⟩
    have hps : p < s.n := by have := k.n; omega
    rw [g52b1010, pChs, cond_true]
    have b1 : ∀ K, A.bslice 1 (.str []) 2 [(0, (.str [105, 110, 115, 101, 114, 116])), (1, (.str [100, 101, 108, 101, 116, 101]))] K = K (.lst (strsV [insW, delW]) 2) := fun K => rfl
    rw [b1]
    simp only [er1_ptr, er1_int, er1_lst, er1_str]
    unfold pChg
    rw [bind_assoc]
    refine Par.bindR (take_s h hps 1 (by decide) [insW, delW] 2 (by simp)) k fun w l1 s1 t1 hr1 k1 h1 => ?_
    have n1 := k1.n
    have hl1 := pTake_lt hr1
    rw [eql_str, if_neg Bool.false_ne_true]
    rw [bind_assoc]
    refine Par.bindR (take_s h1 (by omega) 1 (by decide) [] 1 (by simp)) (k.trans k1) fun w2 l2 s2 t2 hr2 k2 h2 => ?_
    have n2 := k2.n
    have hl2 := pTake_lt hr2
    have b2 : ∀ K, A.build [(.str []), (.str []), (.str [])] [(0, 1, .str w2)] K = K (.agg [.str w2, .str [], .str []]) := fun K => rfl
    have bx : ∀ K : V → St → Res, A.box (.agg [(.str []), (.str []), (.str [])]) s2 K = K (.ptr s2.n 0) (s2.new (.cells [.str [], .str [], .str []])) := fun K => rfl
    rw [b2, bx, sv_all 3 _ (new_at _ _) rfl rfl rfl]
    have k3 : KsP p st0 ((s2.new (.cells [.str [], .str [], .str []])).put s2.n (.cells [.str w2, .str [], .str []])) := (((k.trans k1).trans k2).new _).put (by have := k.n; omega) _
    have h3 : ((s2.new (.cells [.str [], .str [], .str []])).put s2.n (.cells [.str w2, .str [], .str []])).ob p = some (pc l2 t2 e) := by rw [put_ne _ _ (by omega), new_ne _ _ (by omega)]; exact h2
    have o3 := put_at (s2.new (.cells [.str [], .str [], .str []])) s2.n (.cells [.str w2, .str [], .str []])
    have hu3 : Own st0 ((s2.new (.cells [.str [], .str [], .str []])).put s2.n (.cells [.str w2, .str [], .str []])) 4 u := own_put (own_new ((hu.monoP k1).monoP k2))
    have n3 : ((s2.new (.cells [.str [], .str [], .str []])).put s2.n (.cells [.str w2, .str [], .str []])).n = s2.n + 1 := by simp
    generalize (s2.new (.cells [.str [], .str [], .str []])).put s2.n (.cells [.str w2, .str [], .str []]) = s3 at k3 h3 o3 hu3 n3 ⊢
    unfold g52bz1ar
    simp only [er1_ptr, er1_int, er1_lst, er1_str]
    rw [bind_assoc]
    refine Par.bindR (take_s h3 (by omega) 1 (by decide) [] 1 (by simp)) k3 fun w4 l4 s4 t4 hr4 k4 h4 => ?_
    have n4 := k4.n
    have hl4 := pTake_lt hr4
    have o4 := (k4.ob s2.n (by omega) (by omega)).trans o3
    have so4 : ∀ K : St → Res, A.store 1 (.ptr s2.n 1) (.str w4) s4 K = K (s4.put s2.n (.cells [.str w2, .str w4, .str []])) := fun K => by rw [store_ob _ _ _ _ _ rfl, o4]; rfl
    rw [faddr_ptr, Nat.zero_add, so4]
    have k5 : KsP p st0 (s4.put s2.n (.cells [.str w2, .str w4, .str []])) := (k3.trans k4).put (by have := k.n; omega) _
    have h5 : (s4.put s2.n (.cells [.str w2, .str w4, .str []])).ob p = some (pc l4 t4 e) := by rw [put_ne _ _ (by omega)]; exact h4
    have o5 := put_at s4 s2.n (.cells [.str w2, .str w4, .str []])
    have hu5 : Own st0 (s4.put s2.n (.cells [.str w2, .str w4, .str []])) 4 u := own_put (hu3.monoP k4)
    have n5 : (s4.put s2.n (.cells [.str w2, .str w4, .str []])).n = s4.n := put_n _ _ _
    generalize s4.put s2.n (.cells [.str w2, .str w4, .str []]) = s5 at k5 h5 o5 hu5 n5 ⊢
    rw [bind_assoc]
    refine Par.bindR (take_s h5 (by omega) 1 (by decide) [] 1 (by simp)) k5 fun w6 l6 s6 t6 hr6 k6 h6 => ?_
    have n6 := k6.n
    have hl6 := pTake_lt hr6
    have o6 := (k6.ob s2.n (by omega) (by omega)).trans o5
    have so6 : ∀ K : St → Res, A.store 1 (.ptr s2.n 2) (.str w6) s6 K = K (s6.put s2.n (.cells [.str w2, .str w4, .str w6])) := fun K => by rw [store_ob _ _ _ _ _ rfl, o6]; rfl
    rw [faddr_ptr, Nat.zero_add, so6]
    have k7 : KsP p st0 (s6.put s2.n (.cells [.str w2, .str w4, .str w6])) := (k5.trans k6).put (by have := k.n; omega) _
    have h7 : (s6.put s2.n (.cells [.str w2, .str w4, .str w6])).ob p = some (pc l6 t6 e) := by rw [put_ne _ _ (by omega)]; exact h6
    have o7 := put_at s6 s2.n (.cells [.str w2, .str w4, .str w6])
    have hu7 : Own st0 (s6.put s2.n (.cells [.str w2, .str w4, .str w6])) 4 u := own_put (hu5.monoP k6)
    have n7 : (s6.put s2.n (.cells [.str w2, .str w4, .str w6])).n = s6.n := put_n _ _ _
    generalize s6.put s2.n (.cells [.str w2, .str w4, .str w6]) = s7 at k7 h7 o7 hu7 n7 ⊢
    have ld : ∀ K : V → St → Res, A.load true 3 (.ptr s2.n 0) s7 K = K (.agg [.str w2, .str w4, .str w6]) s7 := fun K => by rw [load_obA, o7]; rfl
    obtain ⟨c, hc⟩ : ∃ c : Chg, c = ⟨w == delW, w2, w4, w6⟩ := ⟨_, rfl⟩
    have b3 : ∀ K, A.build [(.bool false), (.str []), (.str []), (.str [])] [(0, 1, .bool (w == delW)), (1, 3, .agg [.str w2, .str w4, .str w6])] K = K (chV c) := fun K => by rw [hc]; rfl
    have b4 : ∀ K, A.bslice 4 (.agg [(.bool false), (.str []), (.str []), (.str [])]) 1 [(0, chV c)] K = K (.lst [chV c] 2) := fun K => rfl
    have eo : elemsOf 5 4 (.lst [chV c] 2) s7 = some [chV c] := elemsOf_lst 4 _ 2 s7 (chs_ok [c])
    rw [ld]
    show ParR p e relC st0 _ (A.build [(.bool false), (.str []), (.str []), (.str [])] [(0, 1, .bool (w == delW)), (1, 3, .agg [.str w2, .str w4, .str w6])] _)
    rw [b3, b4, eo]
    rw [app_own _ hu7 (by simp; omega) (chs_ok cs)]
    obtain ⟨k8, hu8⟩ := k7.app hu7
    have h8 : (appSt s7 u 4).ob p = some (pc l6 t6 e) := by rw [appSt_ob]; exact h7
    have n8 : (appSt s7 u 4).n = s7.n := appSt_n _ _ _
    have hml : cs.map chV ++ [chV c] = (cs ++ [c]).map chV := by simp
    rw [hml]
    generalize appSt s7 u 4 = s8 at k8 hu8 h8 n8 ⊢
    obtain ⟨f, rfl⟩ : ∃ f', f = f' + 1 := ⟨f - 1, by omega⟩
    have hq := is_s h8 (by omega) [46]
    rw [← hc]
    show ParR p e relC st0 (match pIs [46] l6 with | none => .ok (cs ++ [c]) l6 | some l' => pChs n (cs ++ [c]) l') _
    cases hm : pIs [46] l6 with
    | none =>
      rw [hm] at hq
      obtain ⟨s9, q9, k9⟩ := hq
      rw [q9, ret_ret, g52b1010, cond_false, er1_lst]
      exact ⟨s9, t6, _, rfl, ⟨_, rfl⟩, k8.trans (k9.toP p), (k9.ob p (by omega)).trans h8⟩
    | some l9 =>
      rw [hm] at hq
      obtain ⟨s9, t9, q9, k9, h9⟩ := hq
      have hl9 := pIs_lt hm
      rw [q9, ret_ret]
      exact ih (f + 1) (cs ++ [c]) l9 s9 t9 _ (by omega) (by omega) (by simp; omega) (k8.trans k9) (hu8.monoP k9) h9
theorem batch_s {p : Nat} {e : Int} (N : Nat) (hN : N ≤ 90000) {l : List Sg} {s : St} {t : Nat} (hl : l.length < N) (h : s.ob p = some (pc l t e)) (hp : p < s.n) : ParR p e relC s (pChs N [] l) (s52 [.ptr p 0] s) := by
  rw [s52_eq]
  unfold f52
  exact batch_loop hp N big [] l s t 1 hl (lt_big (by omega)) (by simp; omega) (KsP.refl p s) (.inl rfl) h
/-! read -/
noncomputable def r25d (x0 a2 a3 a4 : V) (st : St) : Res :=
 A.nilc x0 fun b1 => A.faddr 0 b1 fun b2 => A.load false 1 b2 st fun b3 z3 => A.lenL b3 fun b4 => A.bin .gtr b4 (.int .i64 0) fun b5 =>
 A.cond b5
 (A.nilc x0 fun c1 => A.faddr 0 c1 fun c2 => A.load false 1 c2 z3 fun c3 z4 => A.iaddr 3 c3 (.int .i64 0) fun c4 => A.faddr 2 c4 fun c5 => A.load false 1 c5 z4 fun c6 z6 => A.build [(.int .i64 0)] [(0, 1, c6)] fun c7 => some (.panic (.iface 88 c7), z6))
 (A.load true 4 a2 z3 fun d1 z4 => A.store 4 a2 d1 z4 fun z5 => A.store 1 a3 (.int .i64 0) z5 fun z6 => A.store 1 a4 (.int .i64 0) z6 fun z7 => some (.ret (.tup []), z7))
noncomputable def r25c (x0 a2 a3 a4 c : V) (st : St) : Res :=
 A.cond c
 (A.ret (s51 [x0.er1] st) fun b1 z1 => A.build [(.int .i64 0), (.lst [] 1), (.lst [] 1), (.lst [] 1)] [(0, 1, .int .i64 1), (1, 2, b1)] fun b2 => A.store 4 a2 b2 z1 fun z2 => r25d x0 a2 a3 a4 z2)
 (A.ret (s52 [x0.er1] st) fun b1 z1 => A.build [(.int .i64 0), (.lst [] 1), (.lst [] 1), (.lst [] 1)] [(0, 1, .int .i64 2), (3, 1, b1)] fun b2 => A.store 4 a2 b2 z1 fun z2 => r25d x0 a2 a3 a4 z2)
noncomputable def r25b (x0 a2 a3 a4 : V) (st : St) : Res :=
 A.ret (s50 [x0.er1] st) fun b1 z1 =>
 A.box (.agg [(.int .i64 0), (.str []), (.int .i64 0)]) z1 fun b2 z2 =>
 A.store 3 b2 b1 z2 fun z3 =>
 A.faddr 0 b2 fun b3 =>
 A.load false 1 b3 z3 fun b4 z4 =>
 A.eql 2 false b4 (.int .i64 1) fun b5 =>
 A.guard b5 true
 (A.faddr 1 b2 fun b6 =>
 A.load false 1 b6 z4 fun b7 z7 =>
 A.eql 3 false b7 (.str [115, 101, 108, 101, 99, 116]) fun b8 =>
 r25c x0 a2 a3 a4 b8 z7)
 (r25c x0 a2 a3 a4 (.bool false) z4)
noncomputable def r49 (v0 v1 v2 : V) (a : Int) (st : St) : Res :=
 A.box (.agg [.int .i64 0]) st fun b1 z1 => A.store 1 b1 (.agg [.int .i64 a]) z1 fun z2 =>
 A.faddr 0 b1 fun b3 => A.load false 1 b3 z2 fun b4 _ =>
 A.ret (A.store 4 v0 (.agg [(.int .i64 0), (.lst [] 1), (.lst [] 1), (.lst [] 1)]) z2 fun s => kid (.tup []) s) fun b5 z5 =>
 A.chk (ldv false 1 b3 z5) b4
 (A.ret (A.store 1 v1 b4 z5 fun s => kid (.tup []) s) fun b6 z6 =>
 A.ret (A.store 1 v2 (.int .i64 90) z6 fun s => kid (.tup []) s) fun b7 z7 =>
 some (.ret (.tup []), z7))
noncomputable def rAll (a2 a3 a4 : V) (st : St) : Res := A.res (rcell (A.load true 4 a2 st kid) (rcell (A.load false 1 a3 st kid) (rcell (A.load false 1 a4 st kid) (some [])))) st
noncomputable def f25 (x0 : V) (st : St) : Res :=
 A.box (.agg [(.int .i64 0), (.lst [] 1), (.lst [] 1), (.lst [] 1)]) st fun a2 z2 =>
 A.box (.int .i64 0) z2 fun a3 z3 =>
 A.box (.int .i64 0) z3 fun a4 z4 =>
 rd3 big (fun m => areg Try.prog (fun _ => false) g25T m) (fun t => bif Nat.beq t 0 then x0 else bif Nat.beq t 2 then a2 else bif Nat.beq t 3 then a3 else bif Nat.beq t 4 then a4 else .tup []) (r25b x0 a2 a3 a4 z4)
theorem s25_eq (x0 : V) (st : St) : s25 [x0] st = f25 x0 st := by
  rw [s25, sealF_eq]
  kernel_rfl
theorem c49_eq (i j k : Nat) (a : Int) (st : St) : aexec Try.prog (fun _ => false) (tget []) big 15 ((fun m => areg Try.prog (fun _ => false) g25T m) 15) C49r kMark (env49 (.ptr i 0) (.ptr j 0) (.ptr k 0) (.iface 88 (.agg [.int .i64 a]))) st = r49 (.ptr i 0) (.ptr j 0) (.ptr k 0) a st := by
  kernel_rfl
theorem rAll_eq (x0 : V) (i j k : Nat) (st : St) : aresK Try.prog Try.f25.results.toList .ret (fun t => bif Nat.beq t 0 then x0 else bif Nat.beq t 2 then .ptr i 0 else bif Nat.beq t 3 then .ptr j 0 else bif Nat.beq t 4 then .ptr k 0 else .tup []) st = rAll (.ptr i 0) (.ptr j 0) (.ptr k 0) st := by
  kernel_rfl
end Go.Ab
