import Derived.Test.YtimidokohhiacaaAbA09r
/- sinewref09: the reader: atoms, queries. -/
namespace Go.Ab
open Go.Proofs Go.RowKit
set_option linter.unusedVariables false
set_option linter.unusedSimpArgs false
set_option maxRecDepth 100000
theorem rpath98 {p : Nat} {L : List Sg} {e : Int} (hL : L.length ≤ 1000000) (N : Nat) (h1 : 1 ≤ N) (hN : N ≤ 100000) : RFn p L e (pPath N) N fun st => s98 [.ptr p 0] st := by
  obtain ⟨n, rfl⟩ : ∃ n, N = n + 1 := ⟨N - 1, by omega⟩
  intro st s hl hs hp
  show RRes p L e Pth.v st _ (s98 [.ptr p 0] st)
  rw [s98_n]
  obtain ⟨M, hM, hM2⟩ := big_succ
  obtain ⟨M', rfl⟩ : ∃ M', M = M' + 3 := ⟨M - 3, by omega⟩
  rw [hM]
  exact rpath_n hL n M' (by omega) (by omega) st s hl hs hp
def RFa (p : Nat) (L : List Sg) (e : Int) (N : Nat) : Prop := ∀ st (s : PR Unit), (∀ l, s = .ok () l → l.length < N) → RAt p L e st s → p < st.n → RRes p L e atpV st (s.bind fun _ l => pAtom N l) (s87 [.ptr p 0] st)
theorem ratom_s {p : Nat} {L : List Sg} {e : Int} (hL : L.length ≤ 1000000) (N : Nat) (hN1 : 1 ≤ N) (hN : N ≤ 100000) : RFa p L e N := by
  intro st s hl hs hp
  rw [s87_eq]
  unfold f87
  rw [bx_at]
  have h1 := hs.new hp (.cells Z7)
  have k1 : KsP p st (st.new (.cells Z7)) := (KsP.refl p st).new _
  have o1 : (st.new (.cells Z7)).ob st.n = some (.cells Z7) := new_at _ _
  have n1 : (st.new (.cells Z7)).n = st.n + 1 := rfl
  show RRes p L e atpV st _ (A.ret (s97 [(V.ptr p 0).er1] (st.new (.cells Z7))) _)
  generalize st.new (.cells Z7) = s1 at h1 k1 o1 n1 ⊢
  simp only [er1_ptr]
  refine RRes.bind (rterm_s h1 (by omega) hL) fun tm s2 hv2 k2 h2 => ?_
  have n2 := k2.n
  have b : ∀ K, A.build [(.bool false), (.str []), (.int .i64 0), (.str []), (.lst [] 1), (.bool false), (.str [])] [(0, 2, tmV tm)] K = K (.agg [.bool tm.v, .str tm.n, (.int .i64 0), (.str []), (.lst [] 1), (.bool false), (.str [])]) := fun K => rfl
  rw [b, bx_at, sv_all 7 _ (new_at _ _) rfl rfl rfl]
  have h3 := (h2.new (by omega) (.cells Z7)).put (i := s2.n) (by omega) (.cells [.bool tm.v, .str tm.n, (.int .i64 0), (.str []), (.lst [] 1), (.bool false), (.str [])])
  have k23 : KsP p s2 ((s2.new (.cells Z7)).put s2.n (.cells [.bool tm.v, .str tm.n, (.int .i64 0), (.str []), (.lst [] 1), (.bool false), (.str [])])) := ((KsP.refl p s2).new _).put (Nat.le_refl _) _
  have a3 := put_at (s2.new (.cells Z7)) s2.n (.cells [.bool tm.v, .str tm.n, (.int .i64 0), (.str []), (.lst [] 1), (.bool false), (.str [])])
  have n3 : ((s2.new (.cells Z7)).put s2.n (.cells [.bool tm.v, .str tm.n, (.int .i64 0), (.str []), (.lst [] 1), (.bool false), (.str [])])).n = s2.n + 1 := by simp
  show RRes p L e atpV st _ (A.ret (s98 [V.ptr p 0] ((s2.new (.cells Z7)).put s2.n (.cells [.bool tm.v, .str tm.n, (.int .i64 0), (.str []), (.lst [] 1), (.bool false), (.str [])]))) _)
  generalize (s2.new (.cells Z7)).put s2.n (.cells [.bool tm.v, .str tm.n, (.int .i64 0), (.str []), (.lst [] 1), (.bool false), (.str [])]) = s3 at h3 k23 a3 n3 ⊢
  have o3 := (k23.ob st.n (by omega) (by omega)).trans ((k2.ob st.n (by omega) (by omega)).trans o1)
  refine RRes.bind (rpath98 hL N hN1 hN s3 (s.bind fun _ l => pTerm l).unit (fun l hl2 => ?_) h3 (by omega)) fun q s4 hv4 k4 h4 => ?_
  · cases s with
    | bad l' => cases hl2
    | ok _ l' =>
      have h5 := hl l' rfl
      have hu' : (pTerm l').unit = .ok () l := hl2
      cases hr : pTerm l' with
      | bad l2 => rw [hr] at hu'; cases hu'
      | ok q2 l2 => rw [hr] at hu'; cases hu'; have := pTerm_lt hr; omega
  have n4 := k4.n
  have a4 := (k4.ob s2.n (by omega) (by omega)).trans a3
  have o4 := (k4.ob st.n (by omega) (by omega)).trans o3
  have sq : ∀ K : St → Res, A.store 3 (.ptr s2.n 2) q.v s4 K = K (s4.put s2.n (.cells [.bool tm.v, .str tm.n, .int .i64 q.kind, .str q.word, .lst (q.kids.map Pth.v) 0, (.bool false), (.str [])])) := fun K => by
    rw [pth_c, store_agg, a4, obo_some, if_pos ⟨rfl, by simp, rfl⟩]; rfl
  rw [faddr_ptr, Nat.zero_add, sq]
  have h5 := h4.put (i := s2.n) (by omega) (.cells [.bool tm.v, .str tm.n, .int .i64 q.kind, .str q.word, .lst (q.kids.map Pth.v) 0, (.bool false), (.str [])])
  have a5 := put_at s4 s2.n (.cells [.bool tm.v, .str tm.n, .int .i64 q.kind, .str q.word, .lst (q.kids.map Pth.v) 0, (.bool false), (.str [])])
  have o5 : (s4.put s2.n (.cells [.bool tm.v, .str tm.n, .int .i64 q.kind, .str q.word, .lst (q.kids.map Pth.v) 0, (.bool false), (.str [])])).ob st.n = some (.cells Z7) := by rw [put_ne _ _ (by omega)]; exact o4
  have k05 : KsP p st (s4.put s2.n (.cells [.bool tm.v, .str tm.n, .int .i64 q.kind, .str q.word, .lst (q.kids.map Pth.v) 0, (.bool false), (.str [])])) := (((k1.trans k2).trans k23).trans k4).put (by omega) _
  have n5 : (s4.put s2.n (.cells [.bool tm.v, .str tm.n, .int .i64 q.kind, .str q.word, .lst (q.kids.map Pth.v) 0, (.bool false), (.str [])])).n = s4.n := put_n _ _ _
  generalize s4.put s2.n (.cells [.bool tm.v, .str tm.n, .int .i64 q.kind, .str q.word, .lst (q.kids.map Pth.v) 0, (.bool false), (.str [])]) = s5 at h5 a5 o5 k05 n5 ⊢
  refine RRes.bind (rterm_s h5 (by omega) hL) fun tm2 s6 hv6 k6 h6 => ?_
  have n6 := k6.n
  have a6 := (k6.ob s2.n (by omega) (by omega)).trans a5
  have o6 := (k6.ob st.n (by omega) (by omega)).trans o5
  have st6 : ∀ K : St → Res, A.store 2 (.ptr s2.n 5) (tmV tm2) s6 K = K (s6.put s2.n (.cells (atpC ⟨tm, q, tm2⟩))) := fun K => by
    unfold tmV; rw [store_agg, a6, obo_some, if_pos ⟨rfl, by simp, rfl⟩]; rfl
  have a7 := put_at s6 s2.n (.cells (atpC ⟨tm, q, tm2⟩))
  have o7 : (s6.put s2.n (.cells (atpC ⟨tm, q, tm2⟩))).ob st.n = some (.cells Z7) := by rw [put_ne _ _ (by omega)]; exact o6
  have ld7 : ∀ K : V → St → Res, A.load true 7 (.ptr s2.n 0) (s6.put s2.n (.cells (atpC ⟨tm, q, tm2⟩))) K = K (atpV ⟨tm, q, tm2⟩) (s6.put s2.n (.cells (atpC ⟨tm, q, tm2⟩))) := fun K => by rw [load_obA, a7]; rfl
  rw [faddr_ptr, Nat.zero_add, st6, ld7, show A.store 7 (.ptr st.n 0) (atpV ⟨tm, q, tm2⟩) (s6.put s2.n (.cells (atpC ⟨tm, q, tm2⟩))) = _ from funext fun K => sv_all 7 (atpC ⟨tm, q, tm2⟩) o7 rfl rfl rfl K]
  dsimp only
  rw [res_cells 7 (put_at _ _ _) rfl rfl]
  have k07 : KsP p st ((s6.put s2.n (.cells (atpC ⟨tm, q, tm2⟩))).put st.n (.cells (atpC ⟨tm, q, tm2⟩))) := ((k05.trans k6).put (by omega) _).put (Nat.le_refl _) _
  have h7 := (h6.put (i := s2.n) (by omega) (.cells (atpC ⟨tm, q, tm2⟩))).put (i := st.n) (by omega) (.cells (atpC ⟨tm, q, tm2⟩))
  refine ⟨_, ⟨tm, q, tm2⟩, rfl, k07, ?_, ?_⟩
  · cases s with
    | bad l => exact h7
    | ok _ l =>
      show RAt p L e _ (pAtom N l).unit
      unfold pAtom
      cases q1 : pTerm l with
      | bad l1 => rw [show ((PR.ok () l : PR Unit).bind fun _ l => pTerm l) = pTerm l from rfl, q1] at h7; exact h7
      | ok t1 l1 =>
        rw [show ((PR.ok () l : PR Unit).bind fun _ l => pTerm l) = pTerm l from rfl, q1] at h7
        show RAt p L e _ ((pPath N l1).bind _).unit
        cases q2 : pPath N l1 with
        | bad l2 => rw [show ((PR.ok t1 l1 : PR Tm).unit.bind fun _ l => pPath N l) = pPath N l1 from rfl, q2] at h7; exact h7
        | ok t2 l2 =>
          rw [show ((PR.ok t1 l1 : PR Tm).unit.bind fun _ l => pPath N l) = pPath N l1 from rfl, q2] at h7
          show RAt p L e _ ((pTerm l2).bind _).unit
          cases q3 : pTerm l2 with
          | bad l3 => rw [show ((PR.ok t2 l2 : PR Pth).unit.bind fun _ l => pTerm l) = pTerm l2 from rfl, q3] at h7; exact h7
          | ok t3 l3 => rw [show ((PR.ok t2 l2 : PR Pth).unit.bind fun _ l => pTerm l) = pTerm l2 from rfl, q3] at h7; exact h7
  · intro b l hb
    cases s with
    | bad l => cases hb
    | ok _ l =>
      have hb' : pAtom N l = .ok b _ := hb
      unfold pAtom at hb'
      cases q1 : pTerm l with
      | bad l1 => rw [q1] at hb'; cases hb'
      | ok t1 l1 =>
        rw [q1, PR.bind_ok] at hb'
        cases q2 : pPath N l1 with
        | bad l2 => rw [q2] at hb'; cases hb'
        | ok t2 l2 =>
          rw [q2, PR.bind_ok] at hb'
          cases q3 : pTerm l2 with
          | bad l3 => rw [q3] at hb'; cases hb'
          | ok t3 l3 =>
            rw [q3] at hb'; cases hb'
            rw [hv2 t1 l1 q1]
            rw [show ((PR.ok () l : PR Unit).bind fun _ l => pTerm l) = pTerm l from rfl, q1] at hv4
            rw [hv4 t2 l2 q2]
            rw [show ((PR.ok () l : PR Unit).bind fun _ l => pTerm l) = pTerm l from rfl, q1, show ((PR.ok t1 l1 : PR Tm).unit.bind fun _ l => pPath N l) = pPath N l1 from rfl, q2] at hv6
            rw [hv6 t3 _ q3]
/-! queries -/
def pAt2 (N n : Nat) (ats : List AtP) (l : List Sg) : PR (List AtP) := match pIs [46] l with | none => .ok ats l | some l' => match pIs [125] l' with | some _ => .ok ats l' | none => pAtoms N n ats l'
theorem pAtoms_at2 (N n : Nat) (ats : List AtP) (l : List Sg) : pAtoms N (n + 1) ats l = (pAtom N l).bind fun a l => pAt2 N n (ats ++ [a]) l := rfl
def qEnd (vs : List (List UInt8)) (ats : List AtP) (l : List Sg) : PR (List (List UInt8) × List AtP) := (pTake 3 [[125]] l).bind fun _ l2 => .ok (vs, ats) l2
/-- The query is told. -/
theorem rq_end {p i j : Nat} {L : List Sg} {e : Int} (hL : L.length ≤ 1000000) {st0 s1 : St} {s : PR Unit} {u u2 : Nat} {vs : List (List UInt8)} {ats : List AtP} {cs : List V} (k : KsP p st0 s1) (h : RAt p L e s1 s) (o : s1.ob i = some (.cells (qC vs u ats u2))) (oj : s1.ob j = some (.cells cs)) (hc : cs.length = 2) (hi : i < s1.n) (hip : p ≠ i) (hj : st0.n ≤ j) (hjn : j < s1.n) (hjp : p ≠ j) (hij : i ≠ j) (hp : p < s1.n) :
    RRes p L e qV st0 (s.bind fun _ l => qEnd vs ats l) (A.ret (s86 [.ptr p 0, .int .i64 3, .str [125]] s1) fun a13 z14 => A.load true 2 (.ptr i 0) z14 fun a15 z16 => A.store 2 (.ptr j 0) a15 z16 fun z17 => A.res (rcell (A.load true 2 (.ptr j 0) z17 kid) (some [])) z17) := by
  refine RRes.bind (rmust_s h hp hL 3 (by decide) [125]) fun w s2 hv k2 h2 => ?_
  have o2 := (k2.ob i hi (fun g => hip g.symm)).trans o
  have oj2 := (k2.ob j hjn (fun g => hjp g.symm)).trans oj
  have ld : ∀ K : V → St → Res, A.load true 2 (.ptr i 0) s2 K = K (.agg (qC vs u ats u2)) s2 := fun K => by rw [load_obA, o2]; rfl
  rw [ld, sv_all 2 _ oj2 rfl hc rfl, res_cells 2 (put_at _ _ _) rfl rfl]
  refine ⟨_, (vs, ats), rfl, (k.trans k2).put hj _, ?_, ?_⟩
  · have h3 := h2.put hjp (.cells (qC vs u ats u2))
    cases s with
    | bad l => exact h3
    | ok _ l =>
      show RAt p L e _ ((pTake 3 [[125]] l).bind fun _ l2 => .ok (vs, ats) l2).unit
      have h3' : RAt p L e (s2.put j (.cells (qC vs u ats u2))) (pTake 3 [[125]] l).unit := h3
      cases hq : pTake 3 [[125]] l with
      | bad l => rw [hq] at h3'; exact h3'
      | ok w l => rw [hq] at h3'; exact h3'
  · intro b l hb
    cases s with
    | bad l => cases hb
    | ok _ l =>
      have hb' : ((pTake 3 [[125]] l).bind fun _ l2 => .ok (vs, ats) l2) = PR.ok b _ := hb
      cases hq : pTake 3 [[125]] l with
      | bad l => rw [hq] at hb'; cases hb'
      | ok w l => rw [hq] at hb'; cases hb'; rfl
/-- An atom more. -/
theorem at_app {p i : Nat} {L : List Sg} {e : Int} (hL : L.length ≤ 1000000) {N : Nat} (hA : RFa p L e N) {st0 s1 : St} {s : PR Unit} {u u2 : Nat} {vs : List (List UInt8)} {ats : List AtP} {r : PR (List (List UInt8) × List AtP)} {K : V → St → Res} (hl : ∀ l, s = .ok () l → l.length < N) (k : KsP p st0 s1) (h : RAt p L e s1 s) (o : s1.ob i = some (.cells (qC vs u ats u2))) (hu : Own st0 s1 7 u2) (hi : st0.n ≤ i) (hin : i < s1.n) (hip : p ≠ i) (hp : p < s1.n) (hats : ats.length ≤ 100000000)
    (next : ∀ a s' u', (∀ b l, (s.bind fun _ l => pAtom N l) = .ok b l → a = b) → KsP p st0 s' → RAt p L e s' (s.bind fun _ l => pAtom N l).unit → s'.ob i = some (.cells (qC vs u (ats ++ [a]) u')) → Own st0 s' 7 u' → s1.n ≤ s'.n → (∀ m, m < s1.n → m ≠ p → m ≠ i → s'.ob m = s1.ob m) → RRes p L e qV st0 r (K (.tup []) s')) :
    RRes p L e qV st0 r (A.faddr 1 (.ptr i 0) fun a1 => A.load false 1 a1 s1 fun a2 _ => A.ret (A.ret (s87 [.ptr p 0] s1) kid) fun a3 z4 => A.chk (ldv false 1 a1 z4) a2 (A.bslice 7 (.agg [(.bool false), (.str []), (.int .i64 0), (.str []), (.lst [] 1), (.bool false), (.str [])]) 1 [(0, a3)] fun a5 => A.ret (A.app 7 a2 (elemsOf 5 7 a5 z4) z4 kid) fun a6 z7 => A.faddr 1 (.ptr i 0) fun a8 => A.ret (A.store 1 a8 a6 z7 fun s => kid (.tup []) s) K)) := by
  have w0 : ∀ K : V → St → Res, A.load false 1 (.ptr i 1) s1 K = K (.lst (ats.map atpV) u2) s1 := fun K => by simp [o, qC]
  rw [faddr_ptr, Nat.zero_add, w0, ret_kid]
  refine RRes.bind (hA s1 s hl h hp) fun a s2 hv k2 h2 => ?_
  have n2 := k2.n
  have o2 := (k2.ob i hin (fun g => hip g.symm)).trans o
  have w1 : ldv false 1 (.ptr i 1) s2 = some (.lst (ats.map atpV) u2) := by unfold ldv; rw [load_ob, o2]; rfl
  have bs : ∀ K, A.bslice 7 (.agg [(.bool false), (.str []), (.int .i64 0), (.str []), (.lst [] 1), (.bool false), (.str [])]) 1 [(0, atpV a)] K = K (.lst [atpV a] 2) := fun K => rfl
  have hu2 := hu.monoP k2
  obtain ⟨k3, hu3⟩ := (k.trans k2).app hu2
  rw [w1, chk_same, bs, show elemsOf 5 7 (.lst [atpV a] 2) s2 = some [atpV a] from elemsOf_lst 7 _ 2 s2 (atps_ok [_]), app_own _ hu2 (by simp; omega) (atps_ok ats), kid_eq, ret_ret, faddr_ptr, Nat.zero_add]
  have o3 : (appSt s2 u2 7).ob i = some (.cells (qC vs u ats u2)) := by rw [appSt_ob]; exact o2
  have so : A.store 1 (.ptr i 1) (.lst (ats.map atpV ++ [atpV a]) (s2.nt + 3)) (appSt s2 u2 7) (fun s => kid (.tup []) s) = some (.ret (.tup []), (appSt s2 u2 7).put i (.cells (qC vs u (ats ++ [a]) (s2.nt + 3)))) := by
    rw [store_ob _ _ _ _ _ rfl, o3]
    simp [qC]
  rw [so, ret_ret]
  exact next a _ (s2.nt + 3) hv (k3.put hi _) ((RAt.app h2).put hip _) (put_at _ _ _) (own_put hu3) (by rw [put_n, appSt_n]; omega) (fun m hm hmp hmi => by rw [put_ne _ _ hmi, appSt_ob]; exact k2.ob m hm hmp)
end Go.Ab
