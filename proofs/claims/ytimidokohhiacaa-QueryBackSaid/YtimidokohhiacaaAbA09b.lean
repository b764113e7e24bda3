import Derived.Test.YtimidokohhiacaaAbP09p
import Derived.Test.YtimidokohhiacaaAbA09
/- sinew/query: the parser's functions: signs, terms, paths. -/
namespace Go.Ab
open Go.Proofs Go.RowKit
set_option linter.unusedVariables false
set_option linter.unusedSimpArgs false
set_option maxRecDepth 100000
def pc (l : List Sg) (t : Nat) (e : Int) : Ob := .cells [.lst (l.map sgV) t, .int .i64 e]
/-- All is kept but one object. -/
structure KsP (p : Nat) (st st' : St) : Prop where
  ob : ∀ i, i < st.n → i ≠ p → st'.ob i = st.ob i
  n : st.n ≤ st'.n
  nt : st.nt ≤ st'.nt
  tk : ∀ t, t < st.nt → st'.tk t = st.tk t
theorem KsP.refl (p : Nat) (st : St) : KsP p st st := ⟨fun _ _ _ => rfl, Nat.le_refl _, Nat.le_refl _, fun _ _ => rfl⟩
theorem KsP.trans {p : Nat} {a b c : St} (h : KsP p a b) (k : KsP p b c) : KsP p a c :=
  ⟨fun i hi hp => (k.ob i (Nat.lt_of_lt_of_le hi h.n) hp).trans (h.ob i hi hp), Nat.le_trans h.n k.n, Nat.le_trans h.nt k.nt, fun t ht => (k.tk t (Nat.lt_of_lt_of_le ht h.nt)).trans (h.tk t ht)⟩
theorem Ks.toP {a b : St} (h : Ks a b) (p : Nat) : KsP p a b := ⟨fun i hi _ => h.ob i hi, h.n, h.nt, h.tk⟩
theorem KsP.new {p : Nat} {st0 st : St} (h : KsP p st0 st) (o : Ob) : KsP p st0 (st.new o) :=
  ⟨fun i hi hp => by rw [new_ne _ _ (by have := h.n; omega)]; exact h.ob i hi hp, by have := h.n; simp; omega, h.nt, h.tk⟩
theorem KsP.put {p : Nat} {st0 st : St} (h : KsP p st0 st) {i : Nat} (hi : st0.n ≤ i) (o : Ob) : KsP p st0 (st.put i o) :=
  ⟨fun j hj hp => by rw [put_ne _ _ (by omega)]; exact h.ob j hj hp, h.n, h.nt, h.tk⟩
theorem KsP.putP {p : Nat} {st0 st : St} (h : KsP p st0 st) (o : Ob) : KsP p st0 (st.put p o) :=
  ⟨fun j hj hp => by rw [put_ne _ _ hp]; exact h.ob j hj hp, h.n, h.nt, h.tk⟩
/-- A parser's function answers as it should. -/
def Par {α : Type} (p : Nat) (e : Int) (emb : α → V) (st : St) (r : PR α) (x : Res) : Prop := match r with
  | .ok a l => ∃ st' t, x = some (.ret (emb a), st') ∧ KsP p st st' ∧ st'.ob p = some (pc l t e)
  | .bad l => ∃ st' t, x = some (.panic (.iface 88 (.agg [.int .i64 (nowS l e).at_])), st') ∧ KsP p st st' ∧ st'.ob p = some (pc l t e)
theorem ret_panic (v : V) (st : St) (K : V → St → Res) : A.ret (some (.panic v, st)) K = some (.panic v, st) := rfl
theorem Par.lift {α : Type} {p : Nat} {e : Int} {emb : α → V} {st0 st : St} {r : PR α} {x : Res} (k : KsP p st0 st) (h : Par p e emb st r x) : Par p e emb st0 r x := by
  cases r with
  | ok a l => obtain ⟨st', t, h1, h2, h3⟩ := h; exact ⟨st', t, h1, k.trans h2, h3⟩
  | bad l => obtain ⟨st', t, h1, h2, h3⟩ := h; exact ⟨st', t, h1, k.trans h2, h3⟩
theorem Par.bind {α β : Type} {p : Nat} {e : Int} {emb : α → V} {emb2 : β → V} {st : St} {r : PR α} {x : Res} {f : α → List Sg → PR β} {K : V → St → Res} (h : Par p e emb st r x)
    (k : ∀ a l st1 t, r = .ok a l → KsP p st st1 → st1.ob p = some (pc l t e) → Par p e emb2 st1 (f a l) (K (emb a) st1)) : Par p e emb2 st (r.bind f) (A.ret x K) := by
  cases r with
  | ok a l => obtain ⟨st', t, rfl, h2, h3⟩ := h; rw [ret_ret]; exact (k a l st' t rfl h2 h3).lift h2
  | bad l => obtain ⟨st', t, rfl, h2, h3⟩ := h; rw [ret_panic]; exact ⟨st', t, rfl, h2, h3⟩
/-- .. told from further back. -/
theorem Par.bind' {α β : Type} {p : Nat} {e : Int} {emb : α → V} {emb2 : β → V} {st0 st : St} {r : PR α} {x : Res} {f : α → List Sg → PR β} {K : V → St → Res} (h : Par p e emb st r x) (k0 : KsP p st0 st)
    (k : ∀ a l st1 t, r = .ok a l → KsP p st st1 → st1.ob p = some (pc l t e) → Par p e emb2 st0 (f a l) (K (emb a) st1)) : Par p e emb2 st0 (r.bind f) (A.ret x K) := by
  cases r with
  | ok a l => obtain ⟨st', t, rfl, h2, h3⟩ := h; rw [ret_ret]; exact k a l st' t rfl h2 h3
  | bad l => obtain ⟨st', t, rfl, h2, h3⟩ := h; rw [ret_panic]; exact ⟨st', t, rfl, k0.trans h2, h3⟩
theorem Par.ret {α : Type} {p : Nat} {e : Int} {emb : α → V} {st st' : St} {a : α} {l : List Sg} {t : Nat} {v : V} (hv : v = emb a) (k : KsP p st st') (h : st'.ob p = some (pc l t e)) : Par p e emb st (.ok a l) (some (.ret v, st')) := by
  subst hv; exact ⟨st', t, rfl, k, h⟩
/-- A result's cells are read. -/
theorem res_cells (n : Nat) {st : St} {i : Nat} {cs : List V} (h : st.ob i = some (.cells cs)) (hn : n = cs.length) (h1 : ones cs = true) : A.res (rcell (A.load true n (.ptr i 0) st kid) (some [])) st = some (.ret (.agg (cs.map V.er0)), st) := by
  subst hn
  rw [load_obA, h, obo_some, h1]
  show A.res (rcell (if 0 + cs.length ≤ cs.length then kid (.agg ((cs.drop 0).take cs.length)) st else none) (some [])) st = _
  rw [if_pos (by omega), List.drop_zero, List.take_length]; rfl
theorem sgs_ok (l : List Sg) : szok 3 (l.map sgV) = true := szok_of (by intro v hv; obtain ⟨x, _, rfl⟩ := List.mem_map.1 hv; rfl)
theorem bx_sg (st : St) (K : V → St → Res) : A.box (.agg [(.int .i64 0), (.str []), (.int .i64 0)]) st K = K (.ptr st.n 0) (st.new (.cells [.int .i64 0, .str [], .int .i64 0])) := rfl
theorem bx_tm (st : St) (K : V → St → Res) : A.box (.agg [(.bool false), (.str [])]) st K = K (.ptr st.n 0) (st.new (.cells [.bool false, .str []])) := rfl
theorem bx_pth (st : St) (K : V → St → Res) : A.box (.agg [(.int .i64 0), (.str []), (.lst [] 1)]) st K = K (.ptr st.n 0) (st.new (.cells [.int .i64 0, .str [], .lst [] 1])) := rfl
/-- A whole object is written. -/
theorem sv_all (n : Nat) {st : St} {i : Nat} {cs : List V} (vs : List V) (h : st.ob i = some (.cells cs)) (hn : vs.length = n) (hc : cs.length = n) (hv : vs.all V.one = true) (K : St → Res) : A.store n (.ptr i 0) (.agg vs) st K = K (st.put i (.cells vs)) := by
  rw [store_agg, h, obo_some, if_pos ⟨hn, by omega, hv⟩, putL_eq _ _ _ (by omega)]
  simp [show vs.length = cs.length by omega]
theorem now_s {p : Nat} {e : Int} {l : List Sg} {t : Nat} {st : St} (h : st.ob p = some (pc l t e)) (hp : p < st.n) : ∃ st', s50 [.ptr p 0] st = some (.ret (sgV (nowS l e)), st') ∧ Ks st st' := by
  rw [s50_eq]
  unfold f50
  have h1 : (st.new (.cells [.int .i64 0, .str [], .int .i64 0])).ob p = some (pc l t e) := by rw [new_ne _ _ (by omega)]; exact h
  have k1 : Ks st (st.new (.cells [.int .i64 0, .str [], .int .i64 0])) := (Ks.refl st).new _
  have o1 := new_at st (.cells [.int .i64 0, .str [], .int .i64 0])
  have hn : st.n ≤ st.n := Nat.le_refl _
  simp only [bx_sg, nilc_ptr, faddr_ptr, Nat.zero_add]
  generalize st.new (.cells [.int .i64 0, .str [], .int .i64 0]) = s1 at h1 k1 o1 ⊢
  have w0 : ∀ K : V → St → Res, A.load false 1 (.ptr p 0) s1 K = K (.lst (l.map sgV) t) s1 := fun K => by simp [h1, pc]
  have w1 : ∀ K : V → St → Res, A.load false 1 (.ptr p 1) s1 K = K (.int .i64 e) s1 := fun K => by simp [h1, pc]
  simp only [w0, lenL_lst, List.length_map, eql_int, Bool.false_eq_true, if_false]
  cases l with
  | nil =>
    have b : ∀ K, A.build [(.int .i64 0), (.str []), (.int .i64 0)] [(2, 1, .int .i64 e)] K = K (.agg [.int .i64 0, .str [], .int .i64 e]) := fun K => rfl
    simp only [List.length_nil, show ((0 : Nat) : Int) = 0 from rfl, beq_self_eq_true, cond_true, nilc_ptr, faddr_ptr, Nat.zero_add, w1, b]
    rw [sv_all 3 _ o1 rfl rfl rfl, res_cells 3 (put_at _ _ _) rfl rfl]
    exact ⟨_, rfl, k1.put hn _⟩
  | cons x l =>
    have i1 : ∀ K, A.iaddr 3 (.lst ((x :: l).map sgV) t) (.int .i64 0) K = K (.lptr [.int .i64 x.k, .str x.tx, .int .i64 x.at_]) := fun K => rfl
    have i2 : ∀ (s : St) K, A.load true 3 (.lptr [.int .i64 x.k, .str x.tx, .int .i64 x.at_]) s K = K (.agg [.int .i64 x.k, .str x.tx, .int .i64 x.at_]) s := fun s K => by rw [load_lptrA]; rfl
    simp only [List.length_cons, show ((((l.length + 1 : Nat) : Int) == 0)) = false from by rw [beq_eq_false_iff_ne]; omega, cond_false]
    unfold g50b11
    simp only [nilc_ptr, faddr_ptr, Nat.zero_add, w0, i1, i2]
    rw [sv_all 3 _ o1 rfl rfl rfl, res_cells 3 (put_at _ _ _) rfl rfl]
    exact ⟨_, rfl, k1.put hn _⟩
/-- A sign is laid down. -/
theorem lay_sg {st : St} (x : Sg) (K : V → St → Res) : (A.box (.agg [(.int .i64 0), (.str []), (.int .i64 0)]) st fun a3 z4 => A.store 3 a3 (sgV x) z4 fun z5 => K a3 z5) = K (.ptr st.n 0) ((st.new (.cells [.int .i64 0, .str [], .int .i64 0])).put st.n (.cells [.int .i64 x.k, .str x.tx, .int .i64 x.at_])) := by
  rw [bx_sg]
  unfold sgV
  rw [sv_all 3 _ (new_at _ _) rfl rfl rfl]
/-- The first sign goes. -/
theorem drop_sg {st : St} {p t : Nat} {e : Int} {x : Sg} {l : List Sg} (h : st.ob p = some (pc (x :: l) t e)) (K : St → Res) :
    (A.load false 1 (.ptr p 0) st fun a3 z4 => A.slice 3 a3 (some (.int .i64 1)) none none fun a5 => A.store 1 (.ptr p 0) a5 z4 fun z8 => K z8) = K (st.put p (pc l t e)) := by
  have w0 : ∀ K : V → St → Res, A.load false 1 (.ptr p 0) st K = K (.lst ((x :: l).map sgV) t) st := fun K => by simp [h, pc]
  have sl : ∀ K, A.slice 3 (.lst ((x :: l).map sgV) t) (some (.int .i64 1)) none none K = K (.lst (l.map sgV) t) := fun K => by
    have := slice_from ((x :: l).map sgV) t 3 1 K (by simp) (sgs_ok _)
    simpa using this
  have so : ∀ K : St → Res, A.store 1 (.ptr p 0) (.lst (l.map sgV) t) st K = K (st.put p (pc l t e)) := fun K => by rw [store_ob _ _ _ _ _ rfl, h]; rfl
  rw [w0, sl, so]
theorem is_s {p : Nat} {e : Int} {l : List Sg} {t : Nat} {st : St} (h : st.ob p = some (pc l t e)) (hp : p < st.n) (m : List UInt8) : match pIs m l with
    | some l' => ∃ st' t', s83 [.ptr p 0, .str m] st = some (.ret (.bool true), st') ∧ KsP p st st' ∧ st'.ob p = some (pc l' t' e)
    | none => ∃ st', s83 [.ptr p 0, .str m] st = some (.ret (.bool false), st') ∧ Ks st st' := by
  rw [s83_eq]
  unfold f83
  obtain ⟨s1, q1, k1⟩ := now_s h hp
  simp only [er1_ptr, q1, ret_ret, lay_sg, faddr_ptr, Nat.zero_add]
  have hs1 := k1.n
  have h1 : (s1.ob p) = some (pc l t e) := (k1.ob p hp).trans h
  have k2 : Ks st ((s1.new (.cells [.int .i64 0, .str [], .int .i64 0])).put s1.n (.cells [.int .i64 (nowS l e).k, .str (nowS l e).tx, .int .i64 (nowS l e).at_])) := (k1.new _).put hs1 _
  have o2 := put_at (s1.new (.cells [.int .i64 0, .str [], .int .i64 0])) s1.n (.cells [.int .i64 (nowS l e).k, .str (nowS l e).tx, .int .i64 (nowS l e).at_])
  generalize (s1.new (.cells [.int .i64 0, .str [], .int .i64 0])).put s1.n (.cells [.int .i64 (nowS l e).k, .str (nowS l e).tx, .int .i64 (nowS l e).at_]) = s2 at k2 o2 ⊢
  have h2 : (s2.ob p) = some (pc l t e) := (k2.ob p hp).trans h
  have w0 : ∀ K : V → St → Res, A.load false 1 (.ptr s1.n 0) s2 K = K (.int .i64 (nowS l e).k) s2 := fun K => by simp [o2]
  have w1 : ∀ K : V → St → Res, A.load false 1 (.ptr s1.n 1) s2 K = K (.str (nowS l e).tx) s2 := fun K => by simp [o2]
  simp only [w0, w1, eql_int, eql_str, if_true]
  cases l with
  | nil => exact ⟨s2, rfl, k2⟩
  | cons x l =>
    rw [pIs]
    show match (if x.k = 3 ∧ x.tx = m then some l else none) with
      | some l' => ∃ st' t', A.guard (.bool (x.k != 3)) false (A.cond (.bool (x.tx != m)) (some (.ret (.bool false), s2)) (g83b11 (.ptr p 0) s2)) (some (.ret (.bool false), s2)) = some (.ret (.bool true), st') ∧ KsP p st st' ∧ st'.ob p = some (pc l' t' e)
      | none => ∃ st', A.guard (.bool (x.k != 3)) false (A.cond (.bool (x.tx != m)) (some (.ret (.bool false), s2)) (g83b11 (.ptr p 0) s2)) (some (.ret (.bool false), s2)) = some (.ret (.bool false), st') ∧ Ks st st'
    by_cases hk : x.k = 3
    · rw [show (x.k != 3) = false by rw [hk]; rfl, guard_ff]
      by_cases hm : x.tx = m
      · rw [if_pos ⟨hk, hm⟩, show (x.tx != m) = false by rw [hm]; exact bne_self_eq_false _, cond_false]
        unfold g83b11
        simp only [nilc_ptr, faddr_ptr, Nat.zero_add]
        rw [drop_sg h2]
        exact ⟨_, t, rfl, (k2.toP p).putP _, put_at _ _ _⟩
      · rw [if_neg (fun g => hm g.2), show (x.tx != m) = true from bne_iff_ne.2 hm, cond_true]
        exact ⟨s2, rfl, k2⟩
    · rw [if_neg (fun g => hk g.1), show (x.k != 3) = true from bne_iff_ne.2 hk, guard_tf]
      exact ⟨s2, rfl, k2⟩
theorem take_s {p : Nat} {e : Int} {l : List Sg} {t : Nat} {st : St} (h : st.ob p = some (pc l t e)) (hp : p < st.n) (k : Int) (hk : k ≠ 0) (ts : List (List UInt8)) (u : Nat) (hts : ts.length ≤ 1000) : Par p e V.str st (pTake k ts l) (s80 [.ptr p 0, .int .i64 k, .lst (strsV ts) u] st) := by
  rw [s80_eq]
  unfold f80
  obtain ⟨s1, q1, k1⟩ := now_s h hp
  simp only [er1_ptr, q1, ret_ret, lay_sg, faddr_ptr, Nat.zero_add]
  have hs1 := k1.n
  have k2 : Ks st ((s1.new (.cells [.int .i64 0, .str [], .int .i64 0])).put s1.n (.cells [.int .i64 (nowS l e).k, .str (nowS l e).tx, .int .i64 (nowS l e).at_])) := (k1.new _).put hs1 _
  have o2 := put_at (s1.new (.cells [.int .i64 0, .str [], .int .i64 0])) s1.n (.cells [.int .i64 (nowS l e).k, .str (nowS l e).tx, .int .i64 (nowS l e).at_])
  generalize (s1.new (.cells [.int .i64 0, .str [], .int .i64 0])).put s1.n (.cells [.int .i64 (nowS l e).k, .str (nowS l e).tx, .int .i64 (nowS l e).at_]) = s2 at k2 o2 ⊢
  have h2 : (s2.ob p) = some (pc l t e) := (k2.ob p hp).trans h
  have w0 : ∀ K : V → St → Res, A.load false 1 (.ptr s1.n 0) s2 K = K (.int .i64 (nowS l e).k) s2 := fun K => by simp [o2]
  have w1 : ∀ K : V → St → Res, A.load false 1 (.ptr s1.n 1) s2 K = K (.str (nowS l e).tx) s2 := fun K => by simp [o2]
  have w2 : ∀ K : V → St → Res, A.load false 1 (.ptr s1.n 2) s2 K = K (.int .i64 (nowS l e).at_) s2 := fun K => by simp [o2]
  have bu : ∀ K, A.build [(.int .i64 0)] [(0, 1, .int .i64 (nowS l e).at_)] K = K (.agg [.int .i64 (nowS l e).at_]) := fun K => rfl
  have bad : g80b1101 (.ptr p 0) (.ptr s1.n 0) (.bool true) s2 = some (.panic (.iface 88 (.agg [.int .i64 (nowS l e).at_])), s2) := by
    unfold g80b1101
    simp only [cond_true, faddr_ptr, Nat.zero_add, w2, bu]
  have good : ∀ x l', l = x :: l' → Par p e V.str st (.ok x.tx l') (g80b1101 (.ptr p 0) (.ptr s1.n 0) (.bool false) s2) := fun x l' hl => by
    subst hl
    unfold g80b1101
    rw [cond_false]
    unfold g80b111
    simp only [nilc_ptr, faddr_ptr, Nat.zero_add]
    rw [drop_sg h2]
    have hne : s1.n ≠ p := by omega
    have w3 : ∀ K : V → St → Res, A.load false 1 (.ptr s1.n 1) (s2.put p (pc l' t e)) K = K (.str x.tx) (s2.put p (pc l' t e)) := fun K => by
      rw [load_ob, put_ne _ _ hne, o2]; rfl
    rw [w3]
    exact ⟨_, t, rfl, (k2.toP p).putP _, put_at _ _ _⟩
  simp only [w0, w1, eql_int, lenL_lst, strsV_len, bin_gtr, guardT_b, if_true]
  cases l with
  | nil =>
    rw [show (((nowS [] e).k != k)) = true from bne_iff_ne.2 (fun g => hk g.symm), guard_tf, bad]
    exact ⟨s2, t, rfl, k2.toP p, h2⟩
  | cons x l =>
    rw [pTake]
    by_cases hxk : x.k = k
    · rw [show ((nowS (x :: l) e).k != k) = false by show (x.k != k) = false; rw [hxk]; exact bne_self_eq_false _, guard_ff]
      cases ts with
      | nil =>
        rw [if_pos ⟨hxk, .inl rfl⟩]
        simp only [List.length_nil, show ¬ ((0 : Int) < ((0 : Nat) : Int)) from by omega, decide_false, guard_ft]
        exact good x l rfl
      | cons a ts =>
        simp only [List.length_cons, show ((0 : Int) < ((ts.length + 1 : Nat) : Int)) from by omega, decide_true, guard_tt]
        simp only [er1_lst, er1_str, contains_s (a :: ts) u (nowS (x :: l) e).tx s2 (by omega), ret_ret, un_not]
        by_cases hc : (a :: ts).contains x.tx = true
        · rw [if_pos ⟨hxk, .inr hc⟩]
          have : (a :: ts).contains (nowS (x :: l) e).tx = true := hc
          rw [this]
          exact good x l rfl
        · rw [if_neg (by rintro ⟨_, g | g⟩; cases g; exact hc g)]
          have : (a :: ts).contains (nowS (x :: l) e).tx = false := by show (a :: ts).contains x.tx = false; simpa using hc
          rw [this, Bool.not_false, bad]
          exact ⟨s2, t, rfl, k2.toP p, h2⟩
    · rw [if_neg (fun g => hxk g.1), show ((nowS (x :: l) e).k != k) = true from bne_iff_ne.2 hxk, guard_tf, bad]
      exact ⟨s2, t, rfl, k2.toP p, h2⟩
end Go.Ab
