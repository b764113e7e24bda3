import Derived.Test.YtimidokohhiacaaAbA09n
/- sinewref09: the reader: signs, terms. -/
namespace Go.Ab
open Go.Proofs Go.RowKit
set_option linter.unusedVariables false
set_option linter.unusedSimpArgs false
set_option maxRecDepth 100000
def rdC (L : List Sg) (k : Nat) (e : Int) (b : Bool) (a : Int) : List V := [.lst (L.map sgV) 0, .int .i64 (k : Nat), .int .i64 e, .bool b, .int .i64 a]
/-- Where a reader stands. -/
def RAt (p : Nat) (L : List Sg) (e : Int) (st : St) (s : PR Unit) : Prop := match s with
  | .ok _ l => ∃ k, k ≤ L.length ∧ L.drop k = l ∧ st.ob p = some (.cells (rdC L k e false 0))
  | .bad l => ∃ k, k ≤ L.length ∧ st.ob p = some (.cells (rdC L k e true (nowS l e).at_))
def PR.unit {α : Type} (r : PR α) : PR Unit := match r with | .ok _ l => .ok () l | .bad l => .bad l
/-- What a reader's function answers. -/
def RRes {α : Type} (p : Nat) (L : List Sg) (e : Int) (emb : α → V) (st : St) (r : PR α) (x : Res) : Prop :=
  ∃ st' a, x = some (.ret (emb a), st') ∧ KsP p st st' ∧ RAt p L e st' r.unit ∧ ∀ b l, r = .ok b l → a = b
theorem RAt.ks {p : Nat} {L : List Sg} {e : Int} {st st' : St} {s : PR Unit} (h : RAt p L e st s) (k : Ks st st') (hp : p < st.n) : RAt p L e st' s := by
  cases s with
  | ok _ l => obtain ⟨i, h1, h2, h3⟩ := h; exact ⟨i, h1, h2, (k.ob p hp).trans h3⟩
  | bad l => obtain ⟨i, h1, h3⟩ := h; exact ⟨i, h1, (k.ob p hp).trans h3⟩
theorem RAt.put {p i : Nat} {L : List Sg} {e : Int} {st : St} {s : PR Unit} (h : RAt p L e st s) (hi : p ≠ i) (o : Ob) : RAt p L e (st.put i o) s := by
  cases s with
  | ok _ l => obtain ⟨k, h1, h2, h3⟩ := h; exact ⟨k, h1, h2, by rw [put_ne _ _ hi]; exact h3⟩
  | bad l => obtain ⟨k, h1, h3⟩ := h; exact ⟨k, h1, by rw [put_ne _ _ hi]; exact h3⟩
theorem RAt.new {p : Nat} {L : List Sg} {e : Int} {st : St} {s : PR Unit} (h : RAt p L e st s) (hp : p < st.n) (o : Ob) : RAt p L e (st.new o) s := by
  cases s with
  | ok _ l => obtain ⟨k, h1, h2, h3⟩ := h; exact ⟨k, h1, h2, by rw [new_ne _ _ (by omega)]; exact h3⟩
  | bad l => obtain ⟨k, h1, h3⟩ := h; exact ⟨k, h1, by rw [new_ne _ _ (by omega)]; exact h3⟩
theorem RAt.app {p : Nat} {L : List Sg} {e : Int} {st : St} {s : PR Unit} {u sz : Nat} (h : RAt p L e st s) : RAt p L e (appSt st u sz) s := by
  cases s with
  | ok _ l => obtain ⟨k, h1, h2, h3⟩ := h; exact ⟨k, h1, h2, by rw [appSt_ob]; exact h3⟩
  | bad l => obtain ⟨k, h1, h3⟩ := h; exact ⟨k, h1, by rw [appSt_ob]; exact h3⟩
/-- The cells of a reader, whatever its state. -/
theorem RAt.any {p : Nat} {L : List Sg} {e : Int} {st : St} {s : PR Unit} (h : RAt p L e st s) : ∃ k b a, k ≤ L.length ∧ st.ob p = some (.cells (rdC L k e b a)) ∧ (match s with | .ok _ l => L.drop k = l ∧ b = false ∧ a = 0 | .bad l => b = true ∧ a = (nowS l e).at_) := by
  cases s with
  | ok _ l => obtain ⟨k, h1, h2, h3⟩ := h; exact ⟨k, false, 0, h1, h3, h2, rfl, rfl⟩
  | bad l => obtain ⟨k, h1, h3⟩ := h; exact ⟨k, true, _, h1, h3, rfl, rfl⟩
theorem rd_load {st : St} {p : Nat} {L : List Sg} {k : Nat} {e : Int} {b : Bool} {a : Int} (h : st.ob p = some (.cells (rdC L k e b a))) : (∀ K : V → St → Res, A.load false 1 (.ptr p 0) st K = K (.lst (L.map sgV) 0) st) ∧ (∀ K : V → St → Res, A.load false 1 (.ptr p 1) st K = K (.int .i64 (k : Nat)) st) ∧ (∀ K : V → St → Res, A.load false 1 (.ptr p 2) st K = K (.int .i64 e) st) ∧ (∀ K : V → St → Res, A.load false 1 (.ptr p 3) st K = K (.bool b) st) ∧ (∀ K : V → St → Res, A.load false 1 (.ptr p 4) st K = K (.int .i64 a) st) :=
  ⟨fun K => by rw [load_ob, h]; rfl, fun K => by rw [load_ob, h]; rfl, fun K => by rw [load_ob, h]; rfl, fun K => by rw [load_ob, h]; rfl, fun K => by rw [load_ob, h]; rfl⟩
theorem rnow_s {p : Nat} {L : List Sg} {k : Nat} {e : Int} {b : Bool} {a : Int} {st : St} (h : st.ob p = some (.cells (rdC L k e b a))) (hp : p < st.n) : ∃ st', s56 [.ptr p 0] st = some (.ret (sgV (nowS (L.drop k) e)), st') ∧ Ks st st' := by
  rw [s56_eq]
  unfold f56
  have h1 : (st.new (.cells [.int .i64 0, .str [], .int .i64 0])).ob p = some (.cells (rdC L k e b a)) := by rw [new_ne _ _ (by omega)]; exact h
  have k1 : Ks st (st.new (.cells [.int .i64 0, .str [], .int .i64 0])) := (Ks.refl st).new _
  have o1 := new_at st (.cells [.int .i64 0, .str [], .int .i64 0])
  rw [bx_sg]
  generalize st.new (.cells [.int .i64 0, .str [], .int .i64 0]) = s1 at h1 k1 o1 ⊢
  obtain ⟨w0, w1, w2, _, _⟩ := rd_load h1
  simp only [nilc_ptr, faddr_ptr, Nat.zero_add, w0, w1, lenL_lst, List.length_map, bin_lss]
  unfold g56b101
  by_cases hk : k < L.length
  · rw [decide_eq_true (show ((k : Int) < (L.length : Int)) by omega), cond_true]
    have i1 : ∀ K, A.iaddr 3 (.lst (L.map sgV) 0) (.int .i64 (k : Nat)) K = K (.lptr [.int .i64 L[k].k, .str L[k].tx, .int .i64 L[k].at_]) := fun K => iaddr_lst (v := sgV L[k]) K (by simp [hk]) rfl
    have i2 : ∀ (s : St) K, A.load true 3 (.lptr [.int .i64 L[k].k, .str L[k].tx, .int .i64 L[k].at_]) s K = K (.agg [.int .i64 L[k].k, .str L[k].tx, .int .i64 L[k].at_]) s := fun s K => by rw [load_lptrA]; rfl
    have hs : A.store 3 (.ptr st.n 0) (.agg [.int .i64 L[k].k, .str L[k].tx, .int .i64 L[k].at_]) s1 (fun s => kid (.tup []) s) = some (.ret (.tup []), s1.put st.n (.cells [.int .i64 L[k].k, .str L[k].tx, .int .i64 L[k].at_])) := by rw [sv_all 3 _ o1 rfl rfl rfl]; rfl
    simp only [nilc_ptr, faddr_ptr, Nat.zero_add, w0, w1, i1, i2]
    rw [hs, ret_ret, res_cells 3 (put_at _ _ _) rfl rfl, List.drop_eq_getElem_cons hk]
    exact ⟨_, rfl, k1.put (Nat.le_refl _) _⟩
  · rw [decide_eq_false (show ¬ ((k : Int) < (L.length : Int)) by omega), cond_false]
    unfold g56b11
    have bu : ∀ K, A.build [(.int .i64 0), (.str []), (.int .i64 0)] [(2, 1, .int .i64 e)] K = K (.agg [.int .i64 0, .str [], .int .i64 e]) := fun K => rfl
    simp only [nilc_ptr, faddr_ptr, Nat.zero_add, w2, bu]
    rw [sv_all 3 _ o1 rfl rfl rfl, res_cells 3 (put_at _ _ _) rfl rfl, List.drop_of_length_le (by omega)]
    exact ⟨_, rfl, k1.put (Nat.le_refl _) _⟩
/-- Once something can not be, it stays so. -/
def PR.fail {α : Type} (s : PR α) : PR Unit := match s with | .ok _ l => .bad l | .bad l => .bad l
theorem rfails_s {p : Nat} {L : List Sg} {e : Int} {st : St} {s : PR Unit} (h : RAt p L e st s) (hp : p < st.n) : ∃ st', s60 [.ptr p 0] st = some (.ret (.tup []), st') ∧ KsP p st st' ∧ RAt p L e st' s.fail := by
  rw [s60_eq]
  unfold f60
  cases s with
  | bad l =>
    obtain ⟨k, h1, h3⟩ := h
    obtain ⟨_, _, _, w3, _⟩ := rd_load h3
    simp only [nilc_ptr, faddr_ptr, Nat.zero_add, w3, un_not, Bool.not_true, cond_false]
    exact ⟨st, rfl, KsP.refl p st, k, h1, h3⟩
  | ok _ l =>
    obtain ⟨k, h1, h2, h3⟩ := h
    obtain ⟨_, _, _, w3, _⟩ := rd_load h3
    simp only [nilc_ptr, faddr_ptr, Nat.zero_add, w3, un_not, Bool.not_false, cond_true]
    have so : ∀ K : St → Res, A.store 1 (.ptr p 3) (.bool true) st K = K (st.put p (.cells (rdC L k e true 0))) := fun K => by rw [store_ob _ _ _ _ _ rfl, h3]; rfl
    rw [so]
    obtain ⟨s2, q2, k2⟩ := rnow_s (put_at st p (.cells (rdC L k e true 0))) (by rw [put_n]; exact hp)
    have o2 := (k2.ob p (by rw [put_n]; exact hp)).trans (put_at st p (.cells (rdC L k e true 0)))
    have fa : ∀ (x : Sg) (K : V → Res), A.field false 1 2 (sgV x) K = K (.int .i64 x.at_) := fun x K => rfl
    simp only [er1_ptr, q2, ret_ret, fa, nilc_ptr, faddr_ptr, Nat.zero_add]
    have so2 : ∀ K : St → Res, A.store 1 (.ptr p 4) (.int .i64 (nowS (L.drop k) e).at_) s2 K = K (s2.put p (.cells (rdC L k e true (nowS (L.drop k) e).at_))) := fun K => by rw [store_ob _ _ _ _ _ rfl, o2]; rfl
    rw [so2]
    refine ⟨_, rfl, (((KsP.refl p st).putP _).trans (k2.toP p)).putP _, k, h1, ?_⟩
    rw [put_at, h2]
/-- Does a mark come? -/
def mk? (m : List UInt8) (s : PR Unit) : Bool := match s with | .ok _ l => (pIs m l).isSome | .bad _ => false
theorem rmark_s {p : Nat} {L : List Sg} {e : Int} {st : St} {s : PR Unit} (h : RAt p L e st s) (hp : p < st.n) (m : List UInt8) : ∃ st', s59 [.ptr p 0, .str m] st = some (.ret (.bool (mk? m s)), st') ∧ Ks st st' := by
  rw [s59_eq]
  unfold f59 g59b10_6
  cases s with
  | bad l =>
    obtain ⟨k, h1, h3⟩ := h
    obtain ⟨_, _, _, w3, _⟩ := rd_load h3
    simp only [nilc_ptr, faddr_ptr, Nat.zero_add, w3, un_not, Bool.not_true, guard_ft]
    unfold g59b10_12
    rw [guard_ft]
    exact ⟨st, rfl, Ks.refl st⟩
  | ok _ l =>
    obtain ⟨k, h1, h2, h3⟩ := h
    obtain ⟨_, _, _, w3, _⟩ := rd_load h3
    obtain ⟨s1, q1, k1⟩ := rnow_s h3 hp
    obtain ⟨s2, q2, k2⟩ := rnow_s ((k1.ob p hp).trans h3) (by have := k1.n; omega)
    simp only [nilc_ptr, faddr_ptr, Nat.zero_add, w3, un_not, Bool.not_false, guard_tt, er1_ptr, q1, ret_ret, sgV_k, eql_int, Bool.false_eq_true, if_false]
    unfold g59b10_12
    rw [h2]
    have hm : mk? m (.ok () l) = ((nowS l e).k == 3 && (nowS l e).tx == m) := by
      cases l with
      | nil => rfl
      | cons x l =>
        show (pIs m (x :: l)).isSome = (x.k == 3 && x.tx == m)
        rw [pIs]
        split
        · rename_i hc; rw [hc.1, hc.2]; simp
        · rename_i hc
          cases h1 : (x.k == 3) with
          | false => rfl
          | true =>
            cases h2 : (x.tx == m) with
            | false => rfl
            | true => exact absurd ⟨by simpa using h1, by simpa using h2⟩ hc
    rw [hm]
    cases hk3 : ((nowS l e).k == 3) with
    | false => rw [guard_ft]; exact ⟨s1, rfl, k1⟩
    | true =>
      rw [guard_tt]
      rw [h2] at q2
      simp only [er1_ptr, q2, ret_ret, sgV_t, eql_str, Bool.false_eq_true, if_false, er1_bool, Bool.true_and]
      exact ⟨s2, rfl, k1.trans k2⟩
/-- One sign further. -/
theorem rinc {p : Nat} {L : List Sg} {k : Nat} {e : Int} {st : St} (h : st.ob p = some (.cells (rdC L k e false 0))) (hk : k < L.length) (hL : L.length ≤ 1000000) (K : St → Res) :
    (A.nilc (.ptr p 0) fun a3 => A.faddr 1 a3 fun a4 => A.load false 1 a4 st fun a5 z6 => A.bin .add a5 (.int .i64 1) fun a7 => A.nilc (.ptr p 0) fun a8 => A.faddr 1 a8 fun a9 => A.store 1 a9 a7 z6 fun z10 => K z10) = K (st.put p (.cells (rdC L (k + 1) e false 0))) := by
  obtain ⟨_, w1, _, _, _⟩ := rd_load h
  simp only [nilc_ptr, faddr_ptr, Nat.zero_add, w1]
  rw [bin_inc (by omega), store_ob _ _ _ _ _ rfl, h]; rfl
theorem drop_next {L : List Sg} {k : Nat} {x : Sg} {l : List Sg} (h : L.drop k = x :: l) : k < L.length ∧ L.drop (k + 1) = l := by
  have hk : k < L.length := by
    rcases Nat.lt_or_ge k L.length with g | g
    · exact g
    · rw [List.drop_of_length_le g] at h; cases h
  refine ⟨hk, ?_⟩
  rw [List.drop_eq_getElem_cons hk] at h
  exact (List.cons.inj h).2
theorem rtakes_s {p : Nat} {L : List Sg} {e : Int} {st : St} {s : PR Unit} (h : RAt p L e st s) (hp : p < st.n) (hL : L.length ≤ 1000000) (kd : Int) (hkd : kd ≠ 0) : RRes p L e V.str st (s.bind fun _ l => pTake kd [] l) (s85 [.ptr p 0, .int .i64 kd] st) := by
  rw [s85_eq]
  unfold f85
  obtain ⟨k, b, a, hk, ho, hs⟩ := h.any
  obtain ⟨s1, q1, k1⟩ := rnow_s ho hp
  have n1 := k1.n
  simp only [er1_ptr, q1, ret_ret, lay_sg, nilc_ptr, faddr_ptr, Nat.zero_add]
  generalize hx : nowS (L.drop k) e = x
  have k2 : Ks st ((s1.new (.cells [.int .i64 0, .str [], .int .i64 0])).put s1.n (.cells [.int .i64 x.k, .str x.tx, .int .i64 x.at_])) := (k1.new _).put n1 _
  have o2 := put_at (s1.new (.cells [.int .i64 0, .str [], .int .i64 0])) s1.n (.cells [.int .i64 x.k, .str x.tx, .int .i64 x.at_])
  generalize (s1.new (.cells [.int .i64 0, .str [], .int .i64 0])).put s1.n (.cells [.int .i64 x.k, .str x.tx, .int .i64 x.at_]) = s2 at k2 o2 ⊢
  have h2 := h.ks k2 hp
  have n2 := k2.n
  have ho2 := (k2.ob p hp).trans ho
  obtain ⟨_, _, _, w3, _⟩ := rd_load ho2
  have x0 : ∀ K : V → St → Res, A.load false 1 (.ptr s1.n 0) s2 K = K (.int .i64 x.k) s2 := fun K => by rw [load_ob, o2]; rfl
  simp only [w3]
  obtain ⟨s3, q3, k3, h3⟩ := rfails_s h2 (by omega)
  cases s with
  | bad l =>
    obtain ⟨rfl, rfl⟩ := hs
    rw [guard_tf]
    simp only [er1_ptr, q3, ret_ret, er1_str]
    exact ⟨s3, [], rfl, (k2.toP p).trans k3, h3, fun b l h => by cases h⟩
  | ok _ l =>
    obtain ⟨hl, rfl, rfl⟩ := hs
    rw [guard_ff]
    simp only [x0, eql_int, if_true]
    show RRes p L e V.str st (pTake kd [] l) _
    by_cases hc : x.k = kd
    · rw [show (x.k != kd) = false from by rw [hc]; exact bne_self_eq_false _, cond_false]
      unfold g85b111
      -- there is one
      cases l with
      | nil => rw [hl] at hx; rw [← hx] at hc; exact absurd hc.symm hkd
      | cons y l =>
        have hxy : x = y := by rw [hl] at hx; exact hx.symm
        subst hxy
        obtain ⟨hlt, hd⟩ := drop_next hl
        rw [rinc ho2 hlt hL]
        have o3 : (s2.put p (.cells (rdC L (k + 1) e false 0))).ob s1.n = some (.cells [.int .i64 x.k, .str x.tx, .int .i64 x.at_]) := by rw [put_ne _ _ (by omega)]; exact o2
        have w : ∀ K : V → St → Res, A.load false 1 (.ptr s1.n 1) (s2.put p (.cells (rdC L (k + 1) e false 0))) K = K (.str x.tx) (s2.put p (.cells (rdC L (k + 1) e false 0))) := fun K => by rw [load_ob, o3]; rfl
        rw [faddr_ptr, Nat.zero_add, w, pTake, if_pos ⟨hc, .inl rfl⟩]
        exact ⟨_, x.tx, rfl, (k2.toP p).putP _, ⟨k + 1, hlt, hd, put_at _ _ _⟩, fun b l h => by cases h; rfl⟩
    · rw [show (x.k != kd) = true from bne_iff_ne.2 hc, cond_true]
      have hr : pTake kd [] l = .bad l := by
        cases l with
        | nil => rfl
        | cons y l =>
          have hxy : x = y := by rw [hl] at hx; exact hx.symm
          subst hxy
          rw [pTake, if_neg (fun g => hc g.1)]
      rw [hr]
      simp only [er1_ptr, q3, ret_ret, er1_str]
      exact ⟨s3, [], rfl, (k2.toP p).trans k3, h3, fun b l h => by cases h⟩
theorem rmust_s {p : Nat} {L : List Sg} {e : Int} {st : St} {s : PR Unit} (h : RAt p L e st s) (hp : p < st.n) (hL : L.length ≤ 1000000) (kd : Int) (hkd : kd ≠ 0) (t : List UInt8) : RRes p L e (fun _ : List UInt8 => .tup []) st (s.bind fun _ l => pTake kd [t] l) (s86 [.ptr p 0, .int .i64 kd, .str t] st) := by
  rw [s86_eq]
  unfold f86
  obtain ⟨k, b, a, hk, ho, hs⟩ := h.any
  obtain ⟨_, _, _, w3, _⟩ := rd_load ho
  simp only [nilc_ptr, faddr_ptr, Nat.zero_add, w3]
  unfold g86b00_12
  cases s with
  | bad l =>
    obtain ⟨rfl, rfl⟩ := hs
    obtain ⟨s3, q3, k3, h3⟩ := rfails_s h hp
    rw [guard_tf, guard_tf]
    simp only [er1_ptr, q3, ret_ret]
    exact ⟨s3, [], rfl, k3, h3, fun b l h => by cases h⟩
  | ok _ l =>
    obtain ⟨hl, rfl, rfl⟩ := hs
    rw [guard_ff]
    obtain ⟨s1, q1, k1⟩ := rnow_s ho hp
    have n1 := k1.n
    have ho1 := (k1.ob p hp).trans ho
    obtain ⟨s2, q2, k2⟩ := rnow_s ho1 (by omega)
    have n2 := k2.n
    have ho2 := (k2.ob p (by omega)).trans ho1
    simp only [er1_ptr, q1, ret_ret, sgV_k, eql_int, if_true]
    rw [hl]
    rw [hl] at q2
    show RRes p L e (fun _ : List UInt8 => .tup []) st (pTake kd [t] l) _
    have bad : ∀ {s' : St}, Ks st s' → pTake kd [t] l = .bad l → RRes p L e (fun _ : List UInt8 => .tup []) st (pTake kd [t] l) (A.ret (s60 [.ptr p 0] s') fun _ z => some (.ret (.tup []), z)) := fun {s'} ks hr => by
      obtain ⟨s3, q3, k3, h3⟩ := rfails_s (h.ks ks hp) (by have := ks.n; omega)
      rw [q3, ret_ret, hr]
      exact ⟨s3, [], rfl, (ks.toP p).trans k3, h3, fun b l h => by cases h⟩
    by_cases hc : (nowS l e).k = kd
    · rw [show ((nowS l e).k != kd) = false from by rw [hc]; exact bne_self_eq_false _, guard_ff]
      simp only [er1_ptr, q2, ret_ret, sgV_t, eql_str, if_true]
      cases l with
      | nil => exact absurd hc.symm hkd
      | cons y l =>
        by_cases ht : y.tx = t
        · rw [show ((nowS (y :: l) e).tx != t) = false from by show (y.tx != t) = false; rw [ht]; exact bne_self_eq_false _, cond_false]
          obtain ⟨hlt, hd⟩ := drop_next hl
          rw [rinc ho2 hlt hL, pTake, if_pos ⟨hc, .inr (by rw [ht]; simp)⟩]
          exact ⟨_, y.tx, rfl, ((k1.trans k2).toP p).putP _, ⟨k + 1, hlt, hd, put_at _ _ _⟩, fun b l h => by cases h; rfl⟩
        · rw [show ((nowS (y :: l) e).tx != t) = true from by show (y.tx != t) = true; exact bne_iff_ne.2 ht, cond_true]
          exact bad (k1.trans k2) (by rw [pTake, if_neg]; rintro ⟨_, g | g⟩; · cases g
                                      · simp at g; exact ht g)
    · rw [show ((nowS l e).k != kd) = true from bne_iff_ne.2 hc, guard_tf]
      exact bad k1 (by
        cases l with
        | nil => rfl
        | cons y l => rw [pTake, if_neg (fun g => hc g.1)])
theorem rterm_s {p : Nat} {L : List Sg} {e : Int} {st : St} {s : PR Unit} (h : RAt p L e st s) (hp : p < st.n) (hL : L.length ≤ 1000000) : RRes p L e tmV st (s.bind fun _ l => pTerm l) (s97 [.ptr p 0] st) := by
  rw [s97_eq]
  unfold f97
  rw [bx_tm]
  have h1 := h.new hp (.cells [.bool false, .str []])
  have k1 : KsP p st (st.new (.cells [.bool false, .str []])) := (KsP.refl p st).new _
  have o1 := new_at st (.cells [.bool false, .str []])
  have n1 : st.n < (st.new (.cells [.bool false, .str []])).n := by simp
  generalize st.new (.cells [.bool false, .str []]) = s1 at h1 k1 o1 n1 ⊢
  obtain ⟨k, b, a, hk, ho, hs⟩ := h1.any
  obtain ⟨s2, q2, k2⟩ := rnow_s ho (by omega)
  have n2 := k2.n
  have h2 := h1.ks k2 (by omega)
  have o2 := (k2.ob st.n n1).trans o1
  have k02 := k1.trans (k2.toP p)
  simp only [er1_ptr, q2, ret_ret, sgV_k, eql_int, Bool.false_eq_true, if_false]
  -- either way
  have fin : ∀ (v : Bool) (kd : Int) (hkd : kd ≠ 0) (hr : ∀ l, s = .ok () l → pTerm l = (pTake kd [] l).bind fun w l => .ok ⟨v, w⟩ l) (bu : ∀ (w : List UInt8) (K : V → Res), A.build [(.bool false), (.str [])] (if v then [(0, 1, (.bool true)), (1, 1, .str w)] else [(1, 1, .str w)]) K = K (.agg [.bool v, .str w])),
      RRes p L e tmV st (s.bind fun _ l => pTerm l) (A.ret (s85 [.ptr p 0, .int .i64 kd] s2) fun a7 z8 => A.build [(.bool false), (.str [])] (if v then [(0, 1, (.bool true)), (1, 1, a7)] else [(1, 1, a7)]) fun a9 => A.store 2 (.ptr st.n 0) a9 z8 fun z10 => A.res (rcell (A.load true 2 (.ptr st.n 0) z10 kid) (some [])) z10) := by
    intro v kd hkd hr bu
    obtain ⟨s3, w, q3, k3, h3, hv⟩ := rtakes_s h2 (by omega) hL kd hkd
    have o3 := (k3.ob st.n (by omega) (by omega)).trans o2
    rw [q3, ret_ret]
    have e : (s.bind fun _ l => pTerm l) = (s.bind fun _ l => pTake kd [] l).bind fun w l => .ok ⟨v, w⟩ l := by
      cases s with
      | bad l => rfl
      | ok _ l => exact hr l rfl
    rw [e]
    have hbu := bu w
    have hst : ∀ K : St → Res, A.store 2 (.ptr st.n 0) (.agg [.bool v, .str w]) s3 K = K (s3.put st.n (.cells [.bool v, .str w])) := fun K => sv_all 2 _ o3 rfl rfl rfl K
    refine ⟨s3.put st.n (.cells [.bool v, .str w]), ⟨v, w⟩, ?_, (k02.trans k3).put (Nat.le_refl _) _, ?_, ?_⟩
    · show A.build _ _ _ = _
      rw [hbu, hst, res_cells 2 (put_at _ _ _) rfl rfl]; rfl
    · have h4 := h3.put (i := st.n) (by omega) (.cells [.bool v, .str w])
      cases hq : (s.bind fun _ l => pTake kd [] l) with
      | bad l => rw [hq] at h4; exact h4
      | ok w l => rw [hq] at h4; exact h4
    · intro b l hb
      cases hq : (s.bind fun _ l => pTake kd [] l) with
      | bad l => rw [hq] at hb; cases hb
      | ok w' l' => rw [hq] at hb; cases hb; rw [hv w' _ hq]
  cases hc : ((nowS (L.drop k) e).k == 2) with
  | true =>
    rw [cond_true]
    refine fin true 2 (by decide) (fun l hl => ?_) (fun w K => rfl)
    subst hl
    have : L.drop k = l := hs.1
    unfold pTerm
    rw [← this, if_pos (by rw [← nowS_k (L.drop k) e]; simpa using hc)]
  | false =>
    rw [cond_false]
    refine fin false 1 (by decide) (fun l hl => ?_) (fun w K => rfl)
    subst hl
    have : L.drop k = l := hs.1
    unfold pTerm
    rw [← this, if_neg (by rw [← nowS_k (L.drop k) e]; simpa using hc)]
end Go.Ab
