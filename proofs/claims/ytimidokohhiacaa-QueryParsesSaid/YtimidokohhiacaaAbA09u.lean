import Derived.Test.YtimidokohhiacaaAbA09t
/- sinewref09: the reader: changes, requests. -/
namespace Go.Ab
open Go.Proofs Go.RowKit
set_option linter.unusedVariables false
set_option linter.unusedSimpArgs false
set_option maxRecDepth 100000
/-- The result's cells are laid down and read. -/
theorem rch_end {p i j : Nat} {L : List Sg} {e : Int} {st0 s1 : St} {r : PR Chg} {cs : List V} (c : Chg) (k : KsP p st0 s1) (h : RAt p L e s1 r.unit) (hq : ∀ b l, r = .ok b l → c = b) (o : s1.ob i = some (.cells (chC c))) (oj : s1.ob j = some (.cells cs)) (hc : cs.length = 4) (hj : st0.n ≤ j) (hjp : p ≠ j) :
    RRes p L e chV st0 r (A.load true 4 (.ptr i 0) s1 fun a6 z7 => A.store 4 (.ptr j 0) a6 z7 fun z8 => A.res (rcell (A.load true 4 (.ptr j 0) z8 kid) (some [])) z8) := by
  have ld : ∀ K : V → St → Res, A.load true 4 (.ptr i 0) s1 K = K (.agg (chC c)) s1 := fun K => by rw [load_obA, o]; rfl
  rw [ld, sv_all 4 _ oj rfl hc rfl, res_cells 4 (put_at _ _ _) rfl rfl]
  exact ⟨_, c, rfl, k.put hj _, h.put hjp _, hq⟩
theorem rch_tail {p i j x : Nat} {L : List Sg} {e : Int} (hL : L.length ≤ 1000000) {st0 s1 : St} {s : PR Unit} {tx : List UInt8} {k1 a1 : Int} {cs : List V} (k : KsP p st0 s1) (h : RAt p L e s1 s) (o : s1.ob i = some (.cells [.bool false, .str [], .str [], .str []])) (oj : s1.ob j = some (.cells cs)) (hc : cs.length = 4) (ox : s1.ob x = some (.cells [.int .i64 k1, .str tx, .int .i64 a1]))
    (hi : st0.n ≤ i) (hj : st0.n ≤ j) (hin : i < s1.n) (hjn : j < s1.n) (hij : i ≠ j) (hp : p < st0.n) (hxi : x ≠ i) :
    RRes p L e chV st0 (s.bind fun _ l => (pTake 1 [] l).bind fun s l => (pTake 1 [] l).bind fun p l => (pTake 1 [] l).bind fun o l => .ok ⟨tx == delW, s, p, o⟩ l) (g58b11111 (.ptr p 0) (.ptr j 0) (.ptr i 0) (.ptr x 0) s1) := by
  have n0 := k.n
  unfold g58b11111
  have lx : ∀ K : V → St → Res, A.load false 1 (.ptr x 1) s1 K = K (.str tx) s1 := fun K => by rw [load_ob, ox]; rfl
  have so1 : ∀ K : St → Res, A.store 1 (.ptr i 0) (.bool (tx == [100, 101, 108, 101, 116, 101])) s1 K = K (s1.put i (.cells [.bool (tx == delW), .str [], .str [], .str []])) := fun K => by rw [store_ob _ _ _ _ _ rfl, o]; rfl
  simp only [faddr_ptr, Nat.zero_add, lx, eql_str, Bool.false_eq_true, if_false, so1, er1_ptr, er1_int]
  have h2 := h.put (i := i) (by omega) (.cells [.bool (tx == delW), .str [], .str [], .str []])
  have k2 := k.put hi (.cells [.bool (tx == delW), .str [], .str [], .str []])
  have o2 := put_at s1 i (.cells [.bool (tx == delW), .str [], .str [], .str []])
  have oj2 : (s1.put i (.cells [.bool (tx == delW), .str [], .str [], .str []])).ob j = some (.cells cs) := by rw [put_ne _ _ (fun g => hij g.symm)]; exact oj
  have n2 : (s1.put i (.cells [.bool (tx == delW), .str [], .str [], .str []])).n = s1.n := put_n _ _ _
  generalize s1.put i (.cells [.bool (tx == delW), .str [], .str [], .str []]) = s2 at h2 k2 o2 oj2 n2 ⊢
  generalize (tx == delW) = g at o2 ⊢
  refine RRes.bind (rtakes_s h2 (by omega) hL 1 (by decide)) fun w3 s3 hv3 k3 h3 => ?_
  have n3 := k3.n
  have o3 := (k3.ob i (by omega) (by omega)).trans o2
  have oj3 := (k3.ob j (by omega) (by omega)).trans oj2
  have so3 : ∀ K : St → Res, A.store 1 (.ptr i 1) (.str w3) s3 K = K (s3.put i (.cells [.bool g, .str w3, .str [], .str []])) := fun K => by rw [store_ob _ _ _ _ _ rfl, o3]; rfl
  rw [show 1 + 0 = 1 from rfl, so3]
  have h4 := h3.put (i := i) (by omega) (.cells [.bool g, .str w3, .str [], .str []])
  have k4 := (k2.trans k3).put hi (.cells [.bool g, .str w3, .str [], .str []])
  have o4 := put_at s3 i (.cells [.bool g, .str w3, .str [], .str []])
  have oj4 : (s3.put i (.cells [.bool g, .str w3, .str [], .str []])).ob j = some (.cells cs) := by rw [put_ne _ _ (fun g => hij g.symm)]; exact oj3
  have n4 : (s3.put i (.cells [.bool g, .str w3, .str [], .str []])).n = s3.n := put_n _ _ _
  generalize s3.put i (.cells [.bool g, .str w3, .str [], .str []]) = s4 at h4 k4 o4 oj4 n4 ⊢
  refine RRes.bind (rtakes_s h4 (by omega) hL 1 (by decide)) fun w5 s5 hv5 k5 h5 => ?_
  have n5 := k5.n
  have o5 := (k5.ob i (by omega) (by omega)).trans o4
  have oj5 := (k5.ob j (by omega) (by omega)).trans oj4
  have so5 : ∀ K : St → Res, A.store 1 (.ptr i 2) (.str w5) s5 K = K (s5.put i (.cells [.bool g, .str w3, .str w5, .str []])) := fun K => by rw [store_ob _ _ _ _ _ rfl, o5]; rfl
  rw [show 1 + 1 = 2 from rfl, so5]
  have h6 := h5.put (i := i) (by omega) (.cells [.bool g, .str w3, .str w5, .str []])
  have k6 := (k4.trans k5).put hi (.cells [.bool g, .str w3, .str w5, .str []])
  have o6 := put_at s5 i (.cells [.bool g, .str w3, .str w5, .str []])
  have oj6 : (s5.put i (.cells [.bool g, .str w3, .str w5, .str []])).ob j = some (.cells cs) := by rw [put_ne _ _ (fun g => hij g.symm)]; exact oj5
  have n6 : (s5.put i (.cells [.bool g, .str w3, .str w5, .str []])).n = s5.n := put_n _ _ _
  generalize s5.put i (.cells [.bool g, .str w3, .str w5, .str []]) = s6 at h6 k6 o6 oj6 n6 ⊢
  unfold g58bze7
  simp only [faddr_ptr, Nat.zero_add, er1_ptr, er1_int]
  refine RRes.bind (rtakes_s h6 (by omega) hL 1 (by decide)) fun w7 s7 hv7 k7 h7 => ?_
  have n7 := k7.n
  have o7 := (k7.ob i (by omega) (by omega)).trans o6
  have oj7 := (k7.ob j (by omega) (by omega)).trans oj6
  have so7 : ∀ K : St → Res, A.store 1 (.ptr i 3) (.str w7) s7 K = K (s7.put i (.cells (chC ⟨g, w3, w5, w7⟩))) := fun K => by rw [store_ob _ _ _ _ _ rfl, o7]; rfl
  rw [show 1 + 2 = 3 from rfl, so7]
  have h8 := h7.put (i := i) (by omega) (.cells (chC ⟨g, w3, w5, w7⟩))
  have k8 := (k6.trans k7).put hi (.cells (chC ⟨g, w3, w5, w7⟩))
  have o8 := put_at s7 i (.cells (chC ⟨g, w3, w5, w7⟩))
  have oj8 : (s7.put i (.cells (chC ⟨g, w3, w5, w7⟩))).ob j = some (.cells cs) := by rw [put_ne _ _ (fun g => hij g.symm)]; exact oj7
  generalize s7.put i (.cells (chC ⟨g, w3, w5, w7⟩)) = s8 at h8 k8 o8 oj8 ⊢
  have e0 : (s.bind fun _ l => (pTake 1 [] l).bind fun s l => (pTake 1 [] l).bind fun p l => (pTake 1 [] l).bind fun o l => .ok (⟨g, s, p, o⟩ : Chg) l) = ((((s.bind fun _ l => pTake 1 [] l).unit.bind fun _ l => pTake 1 [] l).unit.bind fun _ l => pTake 1 [] l).bind fun o l => .ok ⟨g, w3, w5, o⟩ l) := by
    rw [bind_assoc, unit_bind _ w5 hv5 fun w5 l => (pTake 1 [] l).bind fun o l => .ok (⟨g, w3, w5, o⟩ : Chg) l, bind_assoc, unit_bind _ w3 hv3 fun w3 l => (pTake 1 [] l).bind fun w5 l => (pTake 1 [] l).bind fun o l => .ok (⟨g, w3, w5, o⟩ : Chg) l, bind_assoc]
  rw [e0]
  generalize (((s.bind fun _ l => pTake 1 [] l).unit.bind fun _ l => pTake 1 [] l).unit.bind fun _ l => pTake 1 [] l) = r at h8 hv7 ⊢
  refine rch_end ⟨g, w3, w5, w7⟩ k8 ?_ ?_ o8 oj8 hc hj (by omega)
  · cases r with
    | ok a l => exact h8
    | bad l => exact h8
  · intro b l hb
    cases r with
    | bad l => cases hb
    | ok a l => cases hb; rw [hv7 a l rfl]
theorem rchange_s {p : Nat} {L : List Sg} {e : Int} (hL : L.length ≤ 1000000) {st : St} {s : PR Unit} (h : RAt p L e st s) (hp : p < st.n) : RRes p L e chV st (s.bind fun _ l => pChg l) (s58 [.ptr p 0] st) := by
  rw [s58_eq]
  unfold f58
  have bx : ∀ (s : St) (K : V → St → Res), A.box (.agg [(.bool false), (.str []), (.str []), (.str [])]) s K = K (.ptr s.n 0) (s.new (.cells [.bool false, .str [], .str [], .str []])) := fun s K => rfl
  have bu : ∀ K, A.build [(.bool false), (.str []), (.str []), (.str [])] [] K = K (.agg [.bool false, .str [], .str [], .str []]) := fun K => rfl
  rw [bx, bu, bx, sv_all 4 _ (new_at _ _) rfl rfl rfl, new_n]
  have n1 : (((st.new (.cells [.bool false, .str [], .str [], .str []])).new (.cells [.bool false, .str [], .str [], .str []])).put (st.n + 1) (.cells [.bool false, .str [], .str [], .str []])).n = st.n + 2 := by simp
  have k1 : KsP p st (((st.new (.cells [.bool false, .str [], .str [], .str []])).new (.cells [.bool false, .str [], .str [], .str []])).put (st.n + 1) (.cells [.bool false, .str [], .str [], .str []])) := (((KsP.refl p st).new _).new _).put (by omega) _
  have h1 : RAt p L e (((st.new (.cells [.bool false, .str [], .str [], .str []])).new (.cells [.bool false, .str [], .str [], .str []])).put (st.n + 1) (.cells [.bool false, .str [], .str [], .str []])) s := ((h.new hp _).new (by simp; omega) _).put (by omega) _
  have o1 : (((st.new (.cells [.bool false, .str [], .str [], .str []])).new (.cells [.bool false, .str [], .str [], .str []])).put (st.n + 1) (.cells [.bool false, .str [], .str [], .str []])).ob (st.n + 1) = some (.cells [.bool false, .str [], .str [], .str []]) := put_at _ _ _
  have oj1 : (((st.new (.cells [.bool false, .str [], .str [], .str []])).new (.cells [.bool false, .str [], .str [], .str []])).put (st.n + 1) (.cells [.bool false, .str [], .str [], .str []])).ob st.n = some (.cells [.bool false, .str [], .str [], .str []]) := by
    rw [put_ne _ _ (by omega), new_ne _ _ (by simp), new_at]
  generalize ((st.new (.cells [.bool false, .str [], .str [], .str []])).new (.cells [.bool false, .str [], .str [], .str []])).put (st.n + 1) (.cells [.bool false, .str [], .str [], .str []]) = s1 at n1 k1 h1 o1 oj1 ⊢
  obtain ⟨kk, b, a, hk, ho, hs⟩ := h1.any
  obtain ⟨s2, q2, k2⟩ := rnow_s ho (by omega)
  have n2 := k2.n
  have h2 := h1.ks k2 (by omega)
  have o2 := (k2.ob (st.n + 1) (by omega)).trans o1
  have oj2 := (k2.ob st.n (by omega)).trans oj1
  have k02 := k1.trans (k2.toP p)
  have bx3 : ∀ (s : St) (K : V → St → Res), A.box (.agg [(.int .i64 0), (.str []), (.int .i64 0)]) s K = K (.ptr s.n 0) (s.new (.cells [.int .i64 0, .str [], .int .i64 0])) := fun s K => rfl
  simp only [er1_ptr, q2, ret_ret]
  rw [bx3]
  obtain ⟨y, hy⟩ : ∃ y, y = nowS (L.drop kk) e := ⟨_, rfl⟩
  rw [← hy]
  rw [show A.store 3 (.ptr s2.n 0) (sgV y) (s2.new (.cells [.int .i64 0, .str [], .int .i64 0])) = _ from funext fun K => sv_all 3 [.int .i64 y.k, .str y.tx, .int .i64 y.at_] (new_at _ _) rfl rfl rfl K]
  dsimp only
  have n3 : ((s2.new (.cells [.int .i64 0, .str [], .int .i64 0])).put s2.n (.cells [.int .i64 y.k, .str y.tx, .int .i64 y.at_])).n = s2.n + 1 := by simp
  have k3 : KsP p st ((s2.new (.cells [.int .i64 0, .str [], .int .i64 0])).put s2.n (.cells [.int .i64 y.k, .str y.tx, .int .i64 y.at_])) := (k02.new _).put (by omega) _
  have h3 : RAt p L e ((s2.new (.cells [.int .i64 0, .str [], .int .i64 0])).put s2.n (.cells [.int .i64 y.k, .str y.tx, .int .i64 y.at_])) s := (h2.new (by omega) _).put (by omega) _
  have o3 : ((s2.new (.cells [.int .i64 0, .str [], .int .i64 0])).put s2.n (.cells [.int .i64 y.k, .str y.tx, .int .i64 y.at_])).ob (st.n + 1) = some (.cells [.bool false, .str [], .str [], .str []]) := by rw [put_ne _ _ (by omega), new_ne _ _ (by omega)]; exact o2
  have oj3 : ((s2.new (.cells [.int .i64 0, .str [], .int .i64 0])).put s2.n (.cells [.int .i64 y.k, .str y.tx, .int .i64 y.at_])).ob st.n = some (.cells [.bool false, .str [], .str [], .str []]) := by rw [put_ne _ _ (by omega), new_ne _ _ (by omega)]; exact oj2
  have ox3 := put_at (s2.new (.cells [.int .i64 0, .str [], .int .i64 0])) s2.n (.cells [.int .i64 y.k, .str y.tx, .int .i64 y.at_])
  have op3 : ((s2.new (.cells [.int .i64 0, .str [], .int .i64 0])).put s2.n (.cells [.int .i64 y.k, .str y.tx, .int .i64 y.at_])).ob p = some (.cells (rdC L kk e b a)) := by rw [put_ne _ _ (by omega), new_ne _ _ (by omega)]; exact (k2.ob p (by omega)).trans ho
  generalize (s2.new (.cells [.int .i64 0, .str [], .int .i64 0])).put s2.n (.cells [.int .i64 y.k, .str y.tx, .int .i64 y.at_]) = s3 at n3 k3 h3 o3 oj3 ox3 op3 ⊢
  obtain ⟨_, _, _, w3, _⟩ := rd_load op3
  have lx0 : ∀ K : V → St → Res, A.load false 1 (.ptr s2.n 0) s3 K = K (.int .i64 y.k) s3 := fun K => by rw [load_ob, ox3]; rfl
  have lx1 : ∀ K : V → St → Res, A.load false 1 (.ptr s2.n 1) s3 K = K (.str y.tx) s3 := fun K => by rw [load_ob, ox3]; rfl
  simp only [nilc_ptr, faddr_ptr, Nat.zero_add, w3, lx0, eql_int, if_true]
  -- it can not be
  have badc : (∀ l, s = .ok () l → pChg l = .bad l) → RRes p L e chV st (s.bind fun _ l => pChg l) (g58b11101 (.ptr p 0) (.ptr st.n 0) (.ptr (st.n + 1) 0) (.ptr s2.n 0) (.bool true) s3) := fun hb => by
    unfold g58b11101
    rw [cond_true]
    simp only [er1_ptr]
    obtain ⟨s4, q4, k4, h4⟩ := rfails_s h3 (by omega)
    have n4 := k4.n
    rw [q4, ret_ret]
    have e1 : (s.bind fun _ l => pChg l).unit = s.fail := by
      cases s with
      | bad l => rfl
      | ok _ l => show (pChg l).unit = _; rw [hb l rfl]; rfl
    refine rch_end ⟨false, [], [], []⟩ (k3.trans k4) (by rw [e1]; exact h4) ?_ ((k4.ob _ (by omega) (by omega)).trans o3) ((k4.ob _ (by omega) (by omega)).trans oj3) rfl (Nat.le_refl _) (by omega)
    intro b' l' hb'
    cases s with
    | bad l => cases hb'
    | ok _ l => have : pChg l = .ok b' l' := hb'; rw [hb l rfl] at this; cases this
  cases s with
  | bad l =>
    obtain ⟨rfl, rfl⟩ := hs
    rw [guard_tf]
    unfold g58b11100_10
    rw [guard_tf]
    exact badc fun l h => by cases h
  | ok _ l =>
    obtain ⟨hl, rfl, rfl⟩ := hs
    rw [guard_ff]
    unfold g58b11100_10
    rw [hl] at hy
    by_cases hk1 : y.k = 1
    · rw [show (y.k != 1) = false by rw [hk1]; rfl, guard_ff]
      simp only [faddr_ptr, Nat.zero_add, lx1, eql_str, if_true]
      cases l with
      | nil => rw [hy] at hk1; cases hk1
      | cons z l =>
        have : y = z := hy
        subst this
        have good : [insW, delW].contains y.tx = true → RRes p L e chV st (pChg (y :: l)) (g58b11101 (.ptr p 0) (.ptr st.n 0) (.ptr (st.n + 1) 0) (.ptr s2.n 0) (.bool false) s3) := fun hc => by
          unfold g58b11101
          rw [cond_false]
          unfold g58b1111
          obtain ⟨hlt, hd⟩ := drop_next hl
          rw [rinc op3 hlt hL]
          have e0 : pChg (y :: l) = ((PR.ok () l : PR Unit).bind fun _ l => (pTake 1 [] l).bind fun s l => (pTake 1 [] l).bind fun p l => (pTake 1 [] l).bind fun o l => .ok ⟨y.tx == delW, s, p, o⟩ l) := by
            unfold pChg
            rw [show pTake 1 [insW, delW] (y :: l) = .ok y.tx l from by rw [pTake, if_pos ⟨hk1, .inr hc⟩]]
            rfl
          rw [e0]
          refine rch_tail hL (s := .ok () l) (k3.putP _) ⟨kk + 1, hlt, hd, put_at _ _ _⟩ ?_ (cs := [.bool false, .str [], .str [], .str []]) ?_ rfl (x := s2.n) (k1 := y.k) (a1 := y.at_) ?_ (by omega) (Nat.le_refl _) (by rw [put_n]; omega) (by rw [put_n]; omega) (by omega) hp (by omega)
          · rw [put_ne _ _ (by omega)]; exact o3
          · rw [put_ne _ _ (by omega)]; exact oj3
          · rw [put_ne _ _ (by omega)]; exact ox3
        show RRes p L e chV st (pChg (y :: l)) _
        by_cases hi1 : y.tx = insW
        · rw [show (y.tx != [105, 110, 115, 101, 114, 116]) = false from by rw [hi1]; rfl]
          exact good (by rw [hi1]; decide)
        · rw [show (y.tx != [105, 110, 115, 101, 114, 116]) = true from bne_iff_ne.2 hi1]
          show RRes p L e chV st (pChg (y :: l)) (g58b11101 (.ptr p 0) (.ptr st.n 0) (.ptr (st.n + 1) 0) (.ptr s2.n 0) (.bool (y.tx != [100, 101, 108, 101, 116, 101])) s3)
          by_cases hd1 : y.tx = delW
          · rw [show (y.tx != [100, 101, 108, 101, 116, 101]) = false from by rw [hd1]; rfl]
            exact good (by rw [hd1]; decide)
          · rw [show (y.tx != [100, 101, 108, 101, 116, 101]) = true from bne_iff_ne.2 hd1]
            refine badc fun l' h => ?_
            cases h
            unfold pChg
            rw [show pTake 1 [insW, delW] (y :: l) = .bad (y :: l) from by
              rw [pTake, if_neg]
              rintro ⟨_, g | g⟩
              · cases g
              · simp at g; rcases g with g | g
                · exact hi1 g
                · exact hd1 g]
            rfl
    · rw [show (y.k != 1) = true from bne_iff_ne.2 hk1, guard_tf]
      refine badc fun l' h => ?_
      cases h
      unfold pChg
      rw [show pTake 1 [insW, delW] l = .bad l from by
        cases l with
        | nil => rfl
        | cons z l =>
          have : y = z := hy
          subst this
          rw [pTake, if_neg (fun g => hk1 g.1)]]
      rfl
end Go.Ab
