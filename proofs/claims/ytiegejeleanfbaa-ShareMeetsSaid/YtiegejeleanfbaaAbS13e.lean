import Derived.Test.YtiegejeleanfbaaAbS13d
/- sinewlaw13: Shares, of both. -/
namespace Go.Ab
open Go.RowKit Go.Proofs Sh13
set_option linter.unusedVariables false
set_option linter.unusedSimpArgs false

@[simp] theorem ldv_lptr (n : Nat) (v : V) (cs : List V) (st : St) : ldv false n (.lptr (v :: cs)) st = some v := rfl
theorem ldv_ptr {st : St} {i : Nat} {v : V} (h : st.ob i = some (.cells [v])) : ldv false 1 (.ptr i 0) st = some v := by simp [ldv, h]
theorem box_one {v : V} (h : v.one = true) (st : St) (K : V → St → Res) : A.box v st K = K (.ptr st.n 0) (st.new (.cells [v])) := by
  have := cells_of_one' h
  simp [A.box, this, h]
where cells_of_one' {v : V} (h : v.one = true) : v.cells = [v] := by cases v <;> first | rfl | cases h

/-- The best shares. -/
def bestL (ld : List Int → Int) : List (List Int) → List Int
  | x :: r => pickB ld x r
  | [] => []
def bestS (w : Int) (v : Nat) (ld : List Int → Int) : List Int := bestL ld (allT v w)
theorem bestL_eq (ld : List Int → Int) : ∀ {L : List (List Int)} (h : 0 < L.length), bestL ld L = pickB ld L[0] (L.drop 1)
  | x :: r, _ => rfl
theorem allT_pos (v : Nat) {w : Int} (hw : 1 ≤ w) : 0 < (allT v w).length := by
  have : (List.replicate v (1 : Int)) ∈ allT v w := (allT_mem v w _ (by omega)).2 ⟨by simp, by intro y hy; rw [(List.mem_replicate.1 hy).2]; omega, by
    have : ∀ k, pr (List.replicate k (1 : Int)) = 1 := by intro k; induction k with | zero => rfl | succ k ih => simp [List.replicate_succ, pr, ih]
    rw [this]; omega⟩
  exact List.length_pos_of_mem this
theorem ask_of {w : Int} {v : Nat} {atoms : List (List Int)} {sizes : List Int} (h : askB w v atoms sizes = true) (hs : ∀ a ∈ atoms, a.length ≤ 9223372036854775806) {x : List Int} (hx : x ∈ allT v w) : Ask x atoms sizes := by
  simp only [askB, Bool.and_eq_true, decide_eq_true_eq, List.all_eq_true, inB, szB] at h
  obtain ⟨⟨h1, h2, h3, h4, h5, h6⟩, h7, h8⟩ := h
  obtain ⟨q1, q2, q3⟩ := (allT_mem v w x h1).1 hx
  exact ⟨q2, by omega, by omega, fun a ha y hy => by rw [q1]; exact h8 a ha y hy, h7, h5, h6, hs⟩
theorem load_nonneg {x : List Int} {atoms : List (List Int)} {sizes : List Int} (H : Ask x atoms sizes) : 0 ≤ Sh13.load x atoms sizes := by
  have key : ∀ (al : List (List Int)) (ss : List Int) (n : Int), (∀ a ∈ al, ∀ v ∈ a, 0 ≤ v ∧ v < x.length) → (∀ s ∈ ss, 0 ≤ s ∧ s ≤ 1048576) → 0 ≤ n → 0 ≤ ldF x al ss n := by
    intro al
    induction al with
    | nil => intro ss n _ _ hn; simpa [ldF] using hn
    | cons a al ih =>
      intro ss n ha hs hn
      cases ss with
      | nil => simpa [ldF] using hn
      | cons s ss =>
        have hk := k_range H.pos H.prod (ha a (by simp))
        have h1 := hs s (by simp)
        have hc := ceil_range h1.1 h1.2 hk.1
        exact ih ss _ (fun b hb => ha b (List.mem_cons_of_mem _ hb)) (fun b hb => hs b (List.mem_cons_of_mem _ hb)) (by omega)
  exact key _ _ _ H.vars H.size (by omega)

theorem rshares_s {st : St} (w : Int) (v : Nat) (hv : (v : Int) ≤ 100) (atoms : List (List Int)) (sizes : List Int) (t u : Nat) (hl : atoms.length ≤ 9223372036854775807) (hl2 : sizes.length ≤ 9223372036854775807) (hs : ∀ a ∈ atoms, a.length ≤ 9223372036854775806)
    (hcap : askB w v atoms sizes = true → w.toNat ^ v ≤ 1073741824) :
    s13 [.int .i64 w, .int .i64 (v : Nat), .lst (intssV atoms) t, .lst (intsV sizes) u] st =
      some (.ret (if askB w v atoms sizes then .tup [.lst (intsV (bestS w v fun x => Sh13.load x atoms sizes)) 0, .int .i64 0] else .tup [.lst [] 0, .int .i64 1]), st) := by
  have ha := asks_s (st := st) w v atoms sizes t u hl hl2 (fun a h => by have := hs a h; omega)
  rw [s13_eq]
  cases hb : askB w v atoms sizes with
  | false =>
    refine fg_of (v := .tup [.lst [] 1, .int .i64 1]) (st' := st) ?_ (Ks.refl st) (by simp)
    unfold f13
    simp [ha, hb]
  | true =>
    have hq := hb
    simp only [askB, Bool.and_eq_true, decide_eq_true_eq] at hq
    have hall := all_s v w st (by omega) (by omega) (by omega) (hcap hb)
    have hB := big_le
    have hlen : (allT v w).length ≤ 1073741824 := Nat.le_trans (allT_len v w (by omega)) (hcap hb)
    refine fg_of (v := .tup [.lst (intsV (bestS w v fun x => Sh13.load x atoms sizes)) 0, .int .i64 0]) (st' := st) ?_ (Ks.refl st) (by simp)
    have key : ∀ (n b i : Nat) (hbl : b < (allT v w).length), i ≤ (allT v w).length → (allT v w).length < n + i →
        g13b1111010 n (.lst (intssV atoms) t) (.lst (intsV sizes) u) (.lst (intssV (allT v w)) 0) (.int .i64 (b : Nat)) (.int .i64 (i : Nat)) st = some (.ret (.tup [.lst (intsV (pickB (fun x => Sh13.load x atoms sizes) (allT v w)[b] ((allT v w).drop i))) 0, .int .i64 0]), st) := by
      intro n
      induction n with
      | zero => intro b i hbl hi hn; omega
      | succ n ih =>
        intro b i hbl hi hn
        unfold g13b1111010
        by_cases h : i < (allT v w).length
        · have h1 := rload_s (st := st) (ask_of hb hs (List.getElem_mem h)) 0 u t
          have h2 := rload_s (st := st) (ask_of hb hs (List.getElem_mem hbl)) 0 u t
          rw [List.drop_eq_getElem_cons h]
          simp only [lenL_lst, intssV_len, bin_lss, show ((i : Int) < ((allT v w).length : Int)) from by omega, decide_true, cond_true, iaddr_intss 0 h, iaddr_intss 0 hbl, load_l1', er1_lst, h1, h2, ret_ret, kid_eq, noP_ret, ldv_lptr, chk_same]
          unfold pickB
          by_cases hlt : Sh13.load (allT v w)[i] atoms sizes < Sh13.load (allT v w)[b] atoms sizes
          · simp only [hlt, decide_true, cond_true, if_true, bin_inc (show i < 9223372036854775807 by omega)]
            exact ih i (i + 1) h (by omega) (by omega)
          · simp only [hlt, decide_false, cond_false, if_false, bin_inc (show i < 9223372036854775807 by omega)]
            exact ih b (i + 1) hbl (by omega) (by omega)
        · have : i = (allT v w).length := by omega
          subst this
          simp only [lenL_lst, intssV_len, bin_lss, Int.lt_irrefl, decide_false, cond_false, iaddr_intss 0 hbl, load_l1', er1_lst, er1_int, List.drop_length]
          rfl
    have hpos := allT_pos v (show 1 ≤ w by omega)
    have hk := key big 0 1 hpos (by omega) (by omega)
    unfold f13
    simp only [er1_int, er1_lst, ha, hb, ret_ret, un_not, Bool.not_true, cond_false, hall, g13b111]
    refine hk.trans ?_
    rw [bestS, bestL_eq _ hpos]

/-! ### the program's search -/
theorem clone_s {st : St} (l : List Int) (t : Nat) (hl : l.length ≤ 1073741824) (ht : l = [] → t = 1) : ∃ st' t', s27 [.lst (intsV l) t] st = some (.ret (.lst (intsV l) t'), st') ∧ Ks st st' ∧ Own st st' 1 t' ∧ st'.ob = st.ob ∧ st'.n = st.n ∧ (l = [] → t' = 1) := by
  rw [s27_eq]
  cases l with
  | nil =>
    obtain rfl := ht rfl
    refine ⟨st, 1, ?_, Ks.refl st, Own.nil _ _ _, rfl, rfl, fun _ => rfl⟩
    unfold f27; simp [A.eql]
  | cons x l =>
    have hk := (Own.full st st 1).app (Ks.refl st)
    refine ⟨appSt st 2 1, st.nt + 3, ?_, hk.1, hk.2, appSt_ob _ _ _, appSt_n _ _ _, by simp⟩
    unfold f27
    have e1 : ∀ K, A.eql 5 false (.lst (intsV (x :: l)) t) (.lst [] 1) K = K (.bool false) := fun K => rfl
    have e2 : ∀ K, A.app 1 (.lst [] 2) (some (intsV (x :: l))) st K = K (.lst (intsV (x :: l)) (st.nt + 3)) (appSt st 2 1) := fun K => by
      rw [app_own (st0 := st) K (Own.full st st 1) (by simpa using hl) (by simp)]; rfl
    simp only [e1, cond_false, bslice_int0, elemsOf_ints, e2, er1_lst]
/-- The search's memory. -/
structure Sv (w : Int) (v : Nat) (atoms : List (List Int)) (sizes : List Int) (p ta tz : Nat) (st0 st : St) (bn : List Int × Int) : Prop where
  p0 : st0.n = p
  ow : st.ob p = some (.cells [.int .i64 w])
  ov : st.ob (p + 1) = some (.cells [.int .i64 (v : Nat)])
  oa : st.ob (p + 2) = some (.cells [.lst (intssV atoms) ta])
  oz : st.ob (p + 3) = some (.cells [.lst (intsV sizes) tz])
  ob : ∃ tb, st.ob (p + 4) = some (.cells [.lst (intsV bn.1) tb])
  ol : st.ob (p + 5) = some (.cells [.int .i64 bn.2])
  os : st.ob (p + 6) = some (.cells [.fn 25 [] [.ptr (p + 1) 0, .ptr p 0, .ptr (p + 6) 0, .ptr (p + 2) 0, .ptr (p + 3) 0, .ptr (p + 5) 0, .ptr (p + 4) 0]])
  ks : Ks st0 st
variable {w : Int} {v p ta tz : Nat} {atoms : List (List Int)} {sizes : List Int} {st0 st : St} {bn : List Int × Int}
theorem Sv.same {st' : St} (h : Sv w v atoms sizes p ta tz st0 st bn) (hk : Ks st st') (ho : st'.ob = st.ob) : Sv w v atoms sizes p ta tz st0 st' bn :=
  ⟨h.p0, by rw [ho]; exact h.ow, by rw [ho]; exact h.ov, by rw [ho]; exact h.oa, by rw [ho]; exact h.oz, by rw [ho]; exact h.ob, by rw [ho]; exact h.ol, by rw [ho]; exact h.os, h.ks.trans hk⟩
abbrev ldS (atoms : List (List Int)) (sizes : List Int) : List Int → Int := fun x => Sh13.load x atoms sizes
theorem search_leaf {R : Fn} (h : Sv w v atoms sizes p ta tz st0 st bn) (l : List Int) (t : Nat) (hl : l.length ≤ 1000) (ht : l = [] → t = 1) (H : Ask l atoms sizes) :
    ∃ st', g25b1 R (.lst (intsV l) t) (.ptr (p + 2) 0) (.ptr (p + 3) 0) (.ptr (p + 5) 0) (.ptr (p + 4) 0) st = some (.ret (.tup []), st') ∧ Sv w v atoms sizes p ta tz st0 st' (stepB (ldS atoms sizes) bn l) := by
  have hload := load_s (st := st) H t tz ta
  obtain ⟨st1, t1, c1, c2, c3, c4, c5, _⟩ := clone_s (st := st) l t (by omega) ht
  have h1 := h.same c2 c4
  obtain ⟨tb, hob⟩ := h1.ob
  have hol := h1.ol
  have hks := h1.ks
  have h0n := h1.p0
  have put : ∃ st', g25b111 R (.lst (intsV l) t) (.ptr (p + 5) 0) (.ptr (p + 4) 0) (.int .i64 (Sh13.load l atoms sizes)) (.bool true) st = some (.ret (.tup []), st') ∧ Sv w v atoms sizes p ta tz st0 st' (l, Sh13.load l atoms sizes) := by
    refine ⟨(st1.put (p + 4) (.cells [.lst (intsV l) t1])).put (p + 5) (.cells [.int .i64 (Sh13.load l atoms sizes)]), ?_, ?_⟩
    · unfold g25b111
      simp only [cond_true, er1_lst, c1, ret_ret, store_lst, hob, obo_some, List.length_singleton, Nat.zero_lt_one, if_true, List.set_cons_zero, store_int]
      rw [put_ne _ _ (show p + 5 ≠ p + 4 by omega), hol]
      simp
    · refine ⟨h0n, ?_, ?_, ?_, ?_, ⟨t1, ?_⟩, ?_, ?_, ?_⟩
      · rw [put_ne _ _ (by omega), put_ne _ _ (by omega)]; exact h1.ow
      · rw [put_ne _ _ (by omega), put_ne _ _ (by omega)]; exact h1.ov
      · rw [put_ne _ _ (by omega), put_ne _ _ (by omega)]; exact h1.oa
      · rw [put_ne _ _ (by omega), put_ne _ _ (by omega)]; exact h1.oz
      · rw [put_ne _ _ (by omega)]; simp
      · simp
      · rw [put_ne _ _ (by omega), put_ne _ _ (by omega)]; exact h1.os
      · exact (hks.put (by omega) _).put (by omega) _
  obtain ⟨st', e, hs'⟩ := put
  unfold g25b1
  simp only [load_ob, h.oa, h.oz, h.ol, obo_some, List.getElem?_cons_zero, ob_some', er1_lst, hload, ret_ret, bin_lss]
  by_cases hneg : bn.2 < 0
  · refine ⟨st', ?_, ?_⟩
    · simp only [hneg, decide_true, guard_tf]; exact e
    · rw [stepB, if_pos (.inl hneg)]; exact hs'
  · by_cases hlt : Sh13.load l atoms sizes < bn.2
    · refine ⟨st', ?_, ?_⟩
      · simp only [hneg, decide_false, guard_ff, hlt, decide_true]; exact e
      · rw [stepB, if_pos (.inr hlt)]; exact hs'
    · refine ⟨st, ?_, ?_⟩
      · simp only [hneg, decide_false, guard_ff, hlt]; unfold g25b111; simp
      · rw [stepB, if_neg (fun g => g.elim hneg hlt)]; exact h
theorem search_loop {R : Fn} {l : List Int} {t d : Nat} (hw : 1 ≤ w ∧ w ≤ 64) (hl : ∀ x ∈ l, 1 ≤ x) (hp : pr l ≤ w) (hlen : l.length ≤ 100) (ht : l = [] → t = 1)
    (hR : ∀ (s : Int) (t' : Nat) (st : St) (bn : List Int × Int), 1 ≤ s → pr l * s ≤ w → Sv w v atoms sizes p ta tz st0 st bn → ∃ st', R [.lst (intsV (l ++ [s])) t', .ptr (p + 1) 0, .ptr p 0, .ptr (p + 6) 0, .ptr (p + 2) 0, .ptr (p + 3) 0, .ptr (p + 5) 0, .ptr (p + 4) 0] st = some (.ret (.tup []), st') ∧
      Sv w v atoms sizes p ta tz st0 st' (((allT d (w / pr l / s)).map ((l ++ [s]) ++ ·)).foldl (stepB (ldS atoms sizes)) bn)) :
    ∀ (n k : Nat) (s : Int) (st : St) (bn : List Int × Int), 1 ≤ s → s + k = w / pr l + 1 → k < n → Sv w v atoms sizes p ta tz st0 st bn →
    ∃ st', g25b010010 R n (.lst (intsV l) t) (.ptr p 0) (.ptr (p + 6) 0) (.int .i64 s) st = some (.ret (.tup []), st') ∧ Sv w v atoms sizes p ta tz st0 st' (((allF (allT d) (w / pr l) k s).map (l ++ ·)).foldl (stepB (ldS atoms sizes)) bn) := by
  intro n
  have hpp := pr_pos hl
  have hdv : w / pr l ≤ w := Int.ediv_le_self _ (by omega)
  induction n with
  | zero => intro k s st bn _ _ hk; omega
  | succ n ih =>
    intro k s st bn hs hsk hkn hv
    unfold g25b010010
    obtain ⟨st1, t1, c1, c2, c3, c4, c5, _⟩ := clone_s (st := st) l t (by omega) ht
    have hk2 := c3.app c2
    have ho2 : (appSt st1 t1 1).ob = st.ob := by rw [appSt_ob, c4]
    have e1 : ∀ K, A.app 1 (.lst (intsV l) t1) (some (intsV [s])) st1 K = K (.lst (intsV (l ++ [s])) (st1.nt + 3)) (appSt st1 t1 1) := fun K => by
      rw [app_own K c3 (by simp; omega) (by simp), intsV_app]
    have hls : ∀ x ∈ l ++ [s], 1 ≤ x := by
      intro x hx; rcases List.mem_append.1 hx with g | g
      · exact hl x g
      · have : x = s := by simpa using g
        omega
    have hub : ∀ x ∈ l, x ≤ 64 := by
      intro x hx
      obtain ⟨a, b, rfl⟩ := List.append_of_mem hx
      rw [pr_app] at hp; simp only [pr] at hp
      have h1 := pr_pos (l := a) fun y hy => hl y (by simp [hy])
      have h2 := pr_pos (l := b) fun y hy => hl y (by simp [hy])
      have h3 := mul_ge (hl x hx) h2
      have h4 := mul_ge h1 (show 1 ≤ x * pr b by omega)
      omega
    have hprod := product_s (st := appSt st1 t1 1) (xs := l ++ [s]) (t := st1.nt + 3) (by simp; omega) (fun x hx => ⟨hls x hx, by
      rcases List.mem_append.1 hx with g | g
      · have := hub x g; omega
      · have : x = s := by simpa using g
        omega⟩)
    have hle := prodE_le hls
    have hpr : pr (l ++ [s]) = pr l * s := by rw [pr_app]; simp [pr]
    rw [hpr] at hle
    have hcond : (prodE (l ++ [s]) 1 ≤ w) ↔ pr l * s ≤ w := by
      constructor
      · intro g; have := hle.1.1 (by omega); have := hle.2 this; omega
      · intro g; have := hle.2 (by omega); omega
    have hl1 := ldv_ptr hv.ow
    have hl2 : ldv false 1 (.ptr p 0) st1 = some (.int .i64 w) := ldv_ptr (by rw [c4]; exact hv.ow)
    have hl3 : ldv false 1 (.ptr p 0) (appSt st1 t1 1) = some (.int .i64 w) := ldv_ptr (by rw [ho2]; exact hv.ow)
    have hw3 : (appSt st1 t1 1).ob p = some (.cells [.int .i64 w]) := by rw [ho2]; exact hv.ow
    have v2 : Sv w v atoms sizes p ta tz st0 (appSt st1 t1 1) bn := hv.same hk2.1 ho2
    simp only [er1_lst, c1, ret_ret, kid_eq, noP_ret, bslice_int1, elemsOf_ints, e1, hprod, load_ob, hw3, obo_some, List.getElem?_cons_zero, ob_some', hl1, hl2, hl3, chk_same, bin_leq, hcond]
    cases k with
    | zero =>
      have hno : ¬ (pr l * s ≤ w) := by
        have : w / pr l < s := by omega
        have := (Int.ediv_lt_iff_lt_mul (by omega)).1 this
        rw [Int.mul_comm]; omega
      refine ⟨appSt st1 t1 1, by simp [hno], ?_⟩
      simpa [allF] using v2
    | succ k =>
      have hyes : pr l * s ≤ w := by
        have : s ≤ w / pr l := by omega
        have := (Int.le_ediv_iff_mul_le (by omega)).1 this
        rw [Int.mul_comm]; exact this
      obtain ⟨st3, t3, d1, d2, d3, d4, d5, _⟩ := clone_s (st := appSt st1 t1 1) l t (by omega) ht
      have hk4 := d3.app d2
      have ho4 : (appSt st3 t3 1).ob = (appSt st1 t1 1).ob := by rw [appSt_ob, d4]
      have e3 : ∀ K, A.app 1 (.lst (intsV l) t3) (some (intsV [s])) st3 K = K (.lst (intsV (l ++ [s])) (st3.nt + 3)) (appSt st3 t3 1) := fun K => by
        rw [app_own K d3 (by simp; omega) (by simp), intsV_app]
      have v4 : Sv w v atoms sizes p ta tz st0 (appSt st3 t3 1) bn := v2.same hk4.1 ho4
      have m1 : ldv false 1 (.ptr (p + 6) 0) st3 = some (.fn 25 [] [.ptr (p + 1) 0, .ptr p 0, .ptr (p + 6) 0, .ptr (p + 2) 0, .ptr (p + 3) 0, .ptr (p + 5) 0, .ptr (p + 4) 0]) := ldv_ptr (by rw [d4]; exact v2.os)
      have m2 := ldv_ptr v4.os
      obtain ⟨st5, r1, r2⟩ := hR s (st3.nt + 3) _ bn hs hyes v4
      obtain ⟨st6, q1, q2⟩ := ih k (s + 1) st5 _ (by omega) (by omega) (by omega) r2
      have hs64 : s ≤ 64 := by have := mul_ge hpp hs; omega
      refine ⟨st6, ?_, ?_⟩
      · simp only [hyes, decide_true, cond_true, v2.os, obo_some, List.getElem?_cons_zero, ob_some', d1, ret_ret, kid_eq, noP_ret, m1, m2, chk_same, bslice_int1, elemsOf_ints, e3]
        rw [show A.call (g25T R) (.fn 25 [] [.ptr (p + 1) 0, .ptr p 0, .ptr (p + 6) 0, .ptr (p + 2) 0, .ptr (p + 3) 0, .ptr (p + 5) 0, .ptr (p + 4) 0]) [.lst (intsV (l ++ [s])) (st3.nt + 3)] (appSt st3 t3 1) kid
          = A.ret (R [.lst (intsV (l ++ [s])) (st3.nt + 3), .ptr (p + 1) 0, .ptr p 0, .ptr (p + 6) 0, .ptr (p + 2) 0, .ptr (p + 3) 0, .ptr (p + 5) 0, .ptr (p + 4) 0] (appSt st3 t3 1)) kid from rfl, r1]
        simp only [ret_ret, kid_eq, noP_ret]
        rw [bin_add _ (by omega) (by omega)]
        exact q1
      · simp only [allF_split, List.map_append, List.foldl_append, List.map_map]
        have ef : ((fun x => l ++ x) ∘ fun x => s :: x) = fun x => (l ++ [s]) ++ x := by funext x; simp
        rw [ef]
        exact q2
theorem search_n (hask : askB w v atoms sizes = true) (hs : ∀ a ∈ atoms, a.length ≤ 9223372036854775806) : ∀ (d n : Nat) (l : List Int) (t : Nat) (st : St) (bn : List Int × Int), l.length + d = v → d < n → (∀ x ∈ l, 1 ≤ x) → pr l ≤ w → (l = [] → t = 1) → Sv w v atoms sizes p ta tz st0 st bn →
    ∃ st', s25n n [.lst (intsV l) t, .ptr (p + 1) 0, .ptr p 0, .ptr (p + 6) 0, .ptr (p + 2) 0, .ptr (p + 3) 0, .ptr (p + 5) 0, .ptr (p + 4) 0] st = some (.ret (.tup []), st') ∧
      Sv w v atoms sizes p ta tz st0 st' (((allT d (w / pr l)).map (l ++ ·)).foldl (stepB (ldS atoms sizes)) bn) := by
  have hq := hask
  simp only [askB, Bool.and_eq_true, decide_eq_true_eq] at hq
  have hB := big_le
  intro d
  induction d with
  | zero =>
    intro n l t st bn hld hn hl hp ht h
    obtain ⟨n, rfl⟩ : ∃ k, n = k + 1 := ⟨n - 1, by omega⟩
    have hmem : l ∈ allT v w := (allT_mem v w l (by omega)).2 ⟨by omega, hl, hp⟩
    obtain ⟨st', e, h'⟩ := search_leaf (R := s25n n) h l t (by omega) ht (ask_of hask hs hmem)
    refine ⟨st', ?_, ?_⟩
    · rw [s25n_eq]; unfold f25
      have : ¬ ((l.length : Int) < v) := by omega
      simp only [lenL_lst, intsV_len, load_ob, h.ov, obo_some, List.getElem?_cons_zero, ob_some', bin_lss, this, decide_false, cond_false]
      exact e
    · simpa [allT] using h'
  | succ d ih =>
    intro n l t st bn hld hn hl hp ht h
    obtain ⟨n, rfl⟩ : ∃ k, n = k + 1 := ⟨n - 1, by omega⟩
    have hpp := pr_pos hl
    have hd0 : 0 ≤ w / pr l := Int.ediv_nonneg (by omega) (by omega)
    have hdv : w / pr l ≤ w := Int.ediv_le_self _ (by omega)
    obtain ⟨st', e, h'⟩ := search_loop (R := s25n n) (l := l) (t := t) (d := d) (w := w) (v := v) (atoms := atoms) (sizes := sizes) (p := p) (ta := ta) (tz := tz) (st0 := st0) ⟨by omega, by omega⟩ hl hp (by omega) ht (fun s t' st bn hs1 hsw hv => by
      obtain ⟨st', e, h'⟩ := ih n (l ++ [s]) t' st bn (by simp; omega) (by omega) (by
        intro x hx; rcases List.mem_append.1 hx with g | g
        · exact hl x g
        · have : x = s := by simpa using g
          omega) (by rw [pr_app]; simpa [pr] using hsw) (by simp) hv
      refine ⟨st', e, ?_⟩
      have ep : w / pr (l ++ [s]) = w / pr l / s := by
        rw [pr_app]; simp only [pr, Int.mul_one]
        rw [Int.ediv_ediv_of_nonneg (by omega)]
      rw [ep] at h'
      exact h') big (w / pr l).toNat 1 st bn (by omega) (by omega) (by omega) h
    refine ⟨st', ?_, ?_⟩
    · rw [s25n_eq]; unfold f25
      have : ((l.length : Int) < v) := by omega
      simp only [lenL_lst, intsV_len, load_ob, h.ov, obo_some, List.getElem?_cons_zero, ob_some', bin_lss, this, decide_true, cond_true]
      exact e
    · exact h'
end Go.Ab
