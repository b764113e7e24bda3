import Derived.Test.YtimidokohhiacaaAbA09q
/- sinewref09: the reader: paths. -/
namespace Go.Ab
open Go.Proofs Go.RowKit
set_option linter.unusedVariables false
set_option linter.unusedSimpArgs false
set_option maxRecDepth 100000
theorem RRes.bind {α β : Type} {p : Nat} {L : List Sg} {e : Int} {emb : α → V} {emb2 : β → V} {st0 st : St} {r : PR α} {x : Res} {K : V → St → Res} {g : PR β} (h : RRes p L e emb st r x)
    (k : ∀ a st1, (∀ b l, r = .ok b l → a = b) → KsP p st st1 → RAt p L e st1 r.unit → RRes p L e emb2 st0 g (K (emb a) st1)) : RRes p L e emb2 st0 g (A.ret x K) := by
  obtain ⟨st', a, rfl, h2, h3, h4⟩ := h
  rw [ret_ret]
  exact k a st' h4 h2 h3
theorem unit_bind {α β : Type} (r : PR α) (a : α) (h : ∀ b l, r = .ok b l → a = b) (f : α → List Sg → PR β) : (r.unit.bind fun _ l => f a l) = r.bind f := by
  cases r with
  | ok b l => rw [h b l rfl]; rfl
  | bad l => rfl
theorem unit_unit {α : Type} (r : PR α) : r.unit.unit = r.unit := by cases r <;> rfl
theorem bind_unit {α β : Type} (s : PR α) (f : α → List Sg → PR β) (h : ∀ a l, s = .ok a l → f a l = .bad l → True) : True := trivial
/-- The result is laid down and read. -/
theorem RRes.end {p : Nat} {L : List Sg} {e : Int} {st0 s1 : St} {r : PR Pth} {i tk : Nat} {cs : List V} (q : Pth) (k : KsP p st0 s1) (h : RAt p L e s1 r.unit) (hq : ∀ b l, r = .ok b l → q = b) (o : s1.ob i = some (.cells cs)) (hc : cs.length = 3) (hi : st0.n ≤ i) (hip : p ≠ i) :
    RRes p L e Pth.v st0 r (A.store 3 (.ptr i 0) (.agg (pthCt q tk)) s1 fun z => A.res (rcell (A.load true 3 (.ptr i 0) z kid) (some [])) z) := by
  rw [sv_all 3 _ o rfl hc rfl, res_cells 3 (put_at _ _ _) rfl rfl]
  exact ⟨_, q, by rw [pth_c]; rfl, k.put hi _, h.put hip _, hq⟩
theorem pthCt_v (q : Pth) : V.agg (pthCt q 0) = q.v := by rw [pth_c]; rfl
def RFn (p : Nat) (L : List Sg) (e : Int) (P : List Sg → PR Pth) (n : Nat) (run : St → Res) : Prop := ∀ st s, (∀ l, s = .ok () l → l.length < n) → RAt p L e st s → p < st.n → RRes p L e Pth.v st (s.bind fun _ l => P l) (run st)
theorem rbox {p : Nat} {L : List Sg} {e : Int} {st : St} {s : PR Unit} (h : RAt p L e st s) (hp : p < st.n) : KsP p st (st.new (.cells [.int .i64 0, .str [], .lst [] 1])) ∧ RAt p L e (st.new (.cells [.int .i64 0, .str [], .lst [] 1])) s ∧ (st.new (.cells [.int .i64 0, .str [], .lst [] 1])).ob st.n = some (.cells [.int .i64 0, .str [], .lst [] 1]) ∧ st.n < (st.new (.cells [.int .i64 0, .str [], .lst [] 1])).n :=
  ⟨(KsP.refl p st).new _, h.new hp _, new_at _ _, by simp⟩
/-- A mark is taken. -/
theorem rskip {p : Nat} {L : List Sg} {e : Int} {st : St} {l l' : List Sg} {m : List UInt8} (h : RAt p L e st (.ok () l)) (hL : L.length ≤ 1000000) (hm : pIs m l = some l') (K : St → Res) :
    ∃ st', (A.nilc (.ptr p 0) fun a3 => A.faddr 1 a3 fun a4 => A.load false 1 a4 st fun a5 z6 => A.bin .add a5 (.int .i64 1) fun a7 => A.nilc (.ptr p 0) fun a8 => A.faddr 1 a8 fun a9 => A.store 1 a9 a7 z6 fun z10 => K z10) = K st' ∧ KsP p st st' ∧ RAt p L e st' (.ok () l') ∧ st'.n = st.n := by
  obtain ⟨k, h1, h2, h3⟩ := h
  cases l with
  | nil => cases hm
  | cons x l =>
    obtain ⟨hlt, hd⟩ := drop_next h2
    have : l' = l := by
      rw [pIs] at hm
      split at hm
      · cases hm; rfl
      · cases hm
    subst this
    exact ⟨_, rinc h3 hlt hL K, (KsP.refl p st).putP _, ⟨k + 1, hlt, hd, put_at _ _ _⟩, put_n _ _ _⟩
theorem mk?_some {m : List UInt8} {s : PR Unit} (h : mk? m s = true) : ∃ l l', s = .ok () l ∧ pIs m l = some l' := by
  cases s with
  | bad l => cases h
  | ok _ l => obtain ⟨l', hl⟩ := Option.isSome_iff_exists.1 (show (pIs m l).isSome = true from h); exact ⟨l, l', rfl, hl⟩
theorem mk?_none {m : List UInt8} {s : PR Unit} (h : mk? m s = false) : ∀ l, s = .ok () l → pIs m l = none := by
  rintro l rfl
  cases hp : pIs m l with
  | none => rfl
  | some l' =>
    have h' : (pIs m l).isSome = false := h
    rw [hp] at h'; cases h'
theorem rprim_s {p : Nat} {L : List Sg} {e : Int} (hL : L.length ≤ 1000000) {n : Nat} {R : Nat → Fn} {P : List Sg → PR Pth} (h : ∀ st l, l.length < n → RAt p L e st (.ok () l) → p < st.n → RRes p L e Pth.v st (P l) (R 98 [.ptr p 0] st)) : RFn p L e (pPrim P) (n + 1) fun st => f106 R (.ptr p 0) st := by
  intro st s hl hs hp
  show RRes p L e Pth.v st (s.bind fun _ l => pPrim P l) (f106 R (.ptr p 0) st)
  unfold f106
  rw [bx_pth]
  obtain ⟨k1, h1, o1, n1⟩ := rbox hs hp
  generalize st.new (.cells [.int .i64 0, .str [], .lst [] 1]) = s1 at k1 h1 o1 n1 ⊢
  obtain ⟨s2, q2, k2⟩ := rmark_s h1 (by omega) [40]
  have n2 := k2.n
  have h2 := h1.ks k2 (by omega)
  have o2 := (k2.ob _ n1).trans o1
  have k02 := k1.trans (k2.toP p)
  simp only [er1_ptr, er1_str, er1_int, q2, ret_ret]
  cases hm : mk? [40] s with
  | false =>
    rw [cond_false]
    have e0 : (s.bind fun _ l => pPrim P l) = (s.bind fun _ l => pTake 1 [] l).bind fun w l => .ok (.mk 1 w []) l := by
      cases s with
      | bad l => rfl
      | ok _ l =>
        show pPrim P l = _
        unfold pPrim
        rw [mk?_none hm l rfl]; rfl
    rw [e0]
    refine RRes.bind (rtakes_s h2 (by omega) hL 1 (by decide)) fun w s3 hv k3 h3 => ?_
    have b : ∀ K, A.build [(.int .i64 0), (.str []), (.lst [] 1)] [(0, 1, (.int .i64 1)), (1, 1, .str w)] K = K (.agg (pthCt (.mk 1 w []) 1)) := fun K => rfl
    rw [b]
    refine RRes.end (.mk 1 w []) (k02.trans k3) ?_ ?_ ((k3.ob _ (by omega) (by omega)).trans o2) rfl (Nat.le_refl _) (by omega)
    · cases hq : (s.bind fun _ l => pTake 1 [] l) with
      | bad l => rw [hq] at h3; exact h3
      | ok w l => rw [hq] at h3; exact h3
    · intro b l hb
      cases hq : (s.bind fun _ l => pTake 1 [] l) with
      | bad l => rw [hq] at hb; cases hb
      | ok w' l' => rw [hq] at hb; cases hb; rw [hv w' _ hq]
  | true =>
    rw [cond_true]
    obtain ⟨l, l', rfl, hl'⟩ := mk?_some hm
    have hlt := pIs_lt hl'
    have hll := hl l rfl
    obtain ⟨s3, q3, k3, h3, n3⟩ := rskip h2 hL hl' (fun z12 => g106b10101 R (.ptr p 0) (.ptr st.n 0) z12)
    rw [q3]
    have o3 := (k3.ob st.n (by omega) (by omega)).trans o2
    have e0 : (PR.bind (.ok () l) fun _ l => pPrim P l) = (P l').bind fun q l => (pTake 3 [[41]] l).bind fun _ l => .ok q l := by
      show pPrim P l = _
      unfold pPrim; rw [hl']
    rw [e0]
    unfold g106b10101
    simp only [er1_ptr, er1_str, er1_int]
    refine RRes.bind (h s3 l' (by omega) h3 (by omega)) fun q s4 hv k4 h4 => ?_
    have n4 := k4.n
    have o4 := (k4.ob st.n (by omega) (by omega)).trans o3
    rw [bx_pth]
    obtain ⟨k5, h5, o5, n5⟩ := rbox h4 (by omega)
    have o45 : (s4.new (.cells [.int .i64 0, .str [], .lst [] 1])).ob st.n = _ := (k5.ob _ (by omega) (by omega)).trans o4
    rw [pth_store q o5 rfl]
    have h6 := h5.put (i := s4.n) (by omega) (.cells (pthC q))
    have k06 : KsP p st ((s4.new (.cells [.int .i64 0, .str [], .lst [] 1])).put s4.n (.cells (pthC q))) := ((((k02.trans k3).trans k4).trans k5)).put (by have := k02.n; omega) _
    have o6 := put_at (s4.new (.cells [.int .i64 0, .str [], .lst [] 1])) s4.n (.cells (pthC q))
    have o56 : ((s4.new (.cells [.int .i64 0, .str [], .lst [] 1])).put s4.n (.cells (pthC q))).ob st.n = some (.cells [.int .i64 0, .str [], .lst [] 1]) := by rw [put_ne _ _ (by omega)]; exact o45
    have n6 : ((s4.new (.cells [.int .i64 0, .str [], .lst [] 1])).put s4.n (.cells (pthC q))).n = s4.n + 1 := by simp
    generalize (s4.new (.cells [.int .i64 0, .str [], .lst [] 1])).put s4.n (.cells (pthC q)) = s6 at h6 k06 o6 o56 n6 ⊢
    refine RRes.bind (rmust_s h6 (by omega) hL 3 (by decide) [41]) fun w s7 hw k7 h7 => ?_
    have n7 := k7.n
    rw [pth_load q ((k7.ob s4.n (by omega) (by omega)).trans o6), ← pthCt_v]
    refine RRes.end q (k06.trans k7) ?_ ?_ ((k7.ob st.n (by omega) (by omega)).trans o56) rfl (Nat.le_refl _) (by omega)
    · cases hP : P l' with
      | bad l2 => rw [hP] at h7; exact h7
      | ok q2 l2 =>
        rw [hP] at h7
        have h7' : RAt p L e s7 (pTake 3 [[41]] l2).unit := h7
        show RAt p L e s7 ((pTake 3 [[41]] l2).bind fun _ l => .ok q2 l).unit
        cases ht : pTake 3 [[41]] l2 with
        | bad l3 => rw [ht] at h7'; exact h7'
        | ok w l3 => rw [ht] at h7'; exact h7'
    · intro b l3 hb
      cases hP : P l' with
      | bad l2 => rw [hP] at hb; cases hb
      | ok qq l2 =>
        rw [hP] at hb
        have hqq := hv qq l2 hP
        have hb' : ((pTake 3 [[41]] l2).bind fun _ l => .ok qq l : PR Pth) = .ok b l3 := hb
        cases ht : pTake 3 [[41]] l2 with
        | bad l4 => rw [ht] at hb'; cases hb'
        | ok w l4 => rw [ht] at hb'; cases hb'; exact hqq
/-! marks behind -/
theorem rstars_loop {p : Nat} {L : List Sg} {e : Int} (hL : L.length ≤ 1000000) {R : Nat → Fn} {st0 : St} {i j : Nat} (hi : st0.n ≤ i) (hj : st0.n ≤ j) (hij : i ≠ j) (hip : p < st0.n) :
    ∀ (f : Nat) (s : PR Unit) (q : Pth) (tk : Nat) (s1 : St) (cs : List V), (∀ l, s = .ok () l → l.length + 1 < f) → 1 < f → KsP p st0 s1 → RAt p L e s1 s → s1.ob i = some (.cells cs) → cs.length = 3 → i < s1.n → s1.ob j = some (.cells (pthCt q tk)) → j < s1.n →
      RRes p L e Pth.v st0 (s.bind fun _ l => .ok (pStars q l).1 (pStars q l).2) (g105b110 R f (.ptr p 0) (.ptr i 0) (.ptr j 0) s1) := by
  intro f
  induction f with
  | zero => intro s q tk s1 cs _ h; omega
  | succ f ih =>
    intro s q tk s1 cs hf h1f k h o hc hin oj hjn
    have hps : p < s1.n := by have := k.n; omega
    rw [g105b110]
    obtain ⟨s2, q2, k2⟩ := rmark_s h hps [42]
    have n2 := k2.n
    have h2 := h.ks k2 hps
    obtain ⟨s3, q3, k3⟩ := rmark_s h2 (by omega) [43]
    have n3 := k3.n
    have h3 := h2.ks k3 (by omega)
    obtain ⟨s4, q4, k4⟩ := rmark_s h3 (by omega) [63]
    have n4 := k4.n
    have h4 := h3.ks k4 (by omega)
    have kk := ((k2.trans k3).trans k4)
    have o4 := (kk.ob i hin).trans o
    have oj4 := (kk.ob j hjn).trans oj
    have k04 := k.trans (kk.toP p)
    -- what kind there is
    have main : ∀ kd : Int, (kd = 0 → ∀ l, s = .ok () l → pStars q l = (q, l)) → (kd ≠ 0 → ∃ l l' m, s = .ok () l ∧ pIs m l = some l' ∧ pStars q l = pStars (.mk kd [] [q]) l') →
        RRes p L e Pth.v st0 (s.bind fun _ l => .ok (pStars q l).1 (pStars q l).2) (g105bzpb R (g105b110 R f) (.ptr p 0) (.ptr i 0) (.ptr j 0) (.int .i64 kd) s4) := by
      intro kd hz hn
      unfold g105bzpb
      simp only [eql_int, Bool.false_eq_true, if_false]
      by_cases hk : kd = 0
      · rw [show (kd == 0) = true from by rw [hk]; rfl, cond_true, pth_loadT q oj4]
        refine RRes.end q k04 ?_ ?_ o4 hc hi (by omega)
        · cases s with
          | bad l => exact h4
          | ok _ l => show RAt p L e s4 (.ok () (pStars q l).2); rw [hz hk l rfl]; exact h4
        · intro b l hb
          cases s with
          | bad l => cases hb
          | ok _ l =>
            have hb' : (PR.ok (pStars q l).1 (pStars q l).2) = .ok b _ := hb
            cases hb'
            rw [hz hk l rfl]
      · rw [show (kd == 0) = false from beq_eq_false_iff_ne.2 hk, cond_false]
        obtain ⟨l, l', m, rfl, hm, hst⟩ := hn hk
        have hlt := pIs_lt hm
        have hfl := hf l rfl
        obtain ⟨s5, q5, k5, h5, n5⟩ := rskip h4 hL hm (fun z12 => g105bz2tb R (g105b110 R f) (.ptr p 0) (.ptr i 0) (.ptr j 0) (.int .i64 kd) z12)
        rw [q5]
        have oj5 := (k5.ob j (by omega) (by omega)).trans oj4
        have o5 := (k5.ob i (by omega) (by omega)).trans o4
        unfold g105bz2tb
        have b : ∀ K, A.build [(.int .i64 0), (.str []), (.lst [] 1)] [(0, 1, .int .i64 kd), (2, 1, .lst [q.v] 2)] K = K (.agg [.int .i64 kd, .str [], .lst [q.v] 2]) := fun K => rfl
        rw [pth_loadT q oj5, bs_pthT, b, sv_all 3 _ oj5 rfl rfl rfl]
        have e0 : ((PR.ok () l : PR Unit).bind fun _ l => .ok (pStars q l).1 (pStars q l).2 : PR Pth) = ((PR.ok () l' : PR Unit).bind fun _ l => .ok (pStars (.mk kd [] [q]) l).1 (pStars (.mk kd [] [q]) l).2) := by
          show (PR.ok (pStars q l).1 (pStars q l).2) = .ok _ _
          rw [hst]
        rw [e0]
        exact ih (.ok () l') (.mk kd [] [q]) 2 _ cs (fun l hl => by cases hl; omega) (by omega) ((k04.trans k5).put hj _) (h5.put (by omega) _) (by rw [put_ne _ _ hij]; exact o5) hc (by rw [put_n]; omega) (put_at _ _ _) (by rw [put_n]; omega)
    simp only [er1_ptr, er1_str, q2, ret_ret]
    have e3 : ∀ kd : Int, g105bz6b R (g105b110 R f) (.ptr p 0) (.ptr i 0) (.ptr j 0) (.int .i64 kd) s2 = g105bzpb R (g105b110 R f) (.ptr p 0) (.ptr i 0) (.ptr j 0) (.int .i64 (if mk? [63] s = true then 6 else if mk? [43] s = true then 5 else kd)) s4 := fun kd => by
      unfold g105bz6b g105bzcn
      simp only [er1_ptr, er1_str, q3, q4, ret_ret]
      cases mk? [43] s <;> cases mk? [63] s <;> simp [q4]
    have e2 : ∀ v : Bool, A.cond (.bool v) (g105bz6b R (g105b110 R f) (.ptr p 0) (.ptr i 0) (.ptr j 0) (.int .i64 4) s2) (g105bz6b R (g105b110 R f) (.ptr p 0) (.ptr i 0) (.ptr j 0) (.int .i64 0) s2) = g105bzpb R (g105b110 R f) (.ptr p 0) (.ptr i 0) (.ptr j 0) (.int .i64 (if mk? [63] s = true then 6 else if mk? [43] s = true then 5 else if v = true then 4 else 0)) s4 := fun v => by
      cases v
      · rw [cond_false, e3]; rfl
      · rw [cond_true, e3]; rfl
    rw [e2]
    -- at most one of the three comes
    have only : ∀ {m : List UInt8} {l : List Sg}, mk? m s = true → s = .ok () l → ∃ x l', l = x :: l' ∧ x.k = 3 ∧ x.tx = m := fun {m l} hm hs => by
      subst hs
      cases l with
      | nil => cases hm
      | cons x l =>
        have hm' : (pIs m (x :: l)).isSome = true := hm
        rw [pIs] at hm'
        split at hm'
        · rename_i hc; exact ⟨x, l, rfl, hc.1, hc.2⟩
        · cases hm'
    have isx : ∀ {m : List UInt8} {x : Sg} {l : List Sg}, x.k = 3 → x.tx = m → pIs m (x :: l) = some l := fun h1 h2 => by rw [pIs, if_pos ⟨h1, h2⟩]
    by_cases c6 : mk? [63] s = true
    · rw [if_pos c6]
      obtain ⟨l, l', hs, hm⟩ := mk?_some c6
      obtain ⟨x, l2, rfl, g1, g2⟩ := only c6 hs
      refine main 6 (fun h => by cases h) (fun _ => ⟨x :: l2, l2, [63], hs, isx g1 g2, ?_⟩)
      rw [pStars, if_neg (by rw [g2]; simp), if_neg (by rw [g2]; simp), if_pos ⟨g1, g2⟩]
    rw [if_neg c6]
    by_cases c5 : mk? [43] s = true
    · rw [if_pos c5]
      obtain ⟨l, l', hs, hm⟩ := mk?_some c5
      obtain ⟨x, l2, rfl, g1, g2⟩ := only c5 hs
      refine main 5 (fun h => by cases h) (fun _ => ⟨x :: l2, l2, [43], hs, isx g1 g2, ?_⟩)
      rw [pStars, if_neg (by rw [g2]; simp), if_pos ⟨g1, g2⟩]
    rw [if_neg c5]
    by_cases c4 : mk? [42] s = true
    · rw [if_pos c4]
      obtain ⟨l, l', hs, hm⟩ := mk?_some c4
      obtain ⟨x, l2, rfl, g1, g2⟩ := only c4 hs
      refine main 4 (fun h => by cases h) (fun _ => ⟨x :: l2, l2, [42], hs, isx g1 g2, ?_⟩)
      rw [pStars, if_pos ⟨g1, g2⟩]
    rw [if_neg c4]
    refine main 0 (fun _ l hs => ?_) (fun h => absurd rfl h)
    have no : ∀ {m : List UInt8}, ¬ mk? m s = true → pIs m l = none := fun {m} hm => mk?_none (by simpa using hm) l hs
    cases l with
    | nil => rfl
    | cons x l =>
      have a4 := no c4
      have a5 := no c5
      have a6 := no c6
      rw [pIs] at a4 a5 a6
      rw [pStars]
      split at a4
      · cases a4
      split at a5
      · cases a5
      split at a6
      · cases a6
      rename_i g1 g2 g3
      rw [if_neg g1, if_neg g2, if_neg g3]
theorem rpost_s {p : Nat} {L : List Sg} {e : Int} (hL : L.length ≤ 1000000) {n : Nat} (hn : n ≤ 1000001) {R : Nat → Fn} {P : List Sg → PR Pth} (hP : ∀ l, (P l).le l.length) (h : RFn p L e (pPrim P) n fun st => R 106 [.ptr p 0] st) : RFn p L e (pPost P) n fun st => f105 R (.ptr p 0) st := by
  intro st s hl hs hp
  show RRes p L e Pth.v st (s.bind fun _ l => pPost P l) (f105 R (.ptr p 0) st)
  unfold f105
  rw [bx_pth]
  obtain ⟨k1, h1, o1, n1⟩ := rbox hs hp
  generalize st.new (.cells [.int .i64 0, .str [], .lst [] 1]) = s1 at k1 h1 o1 n1 ⊢
  refine RRes.bind (h s1 s hl h1 (by omega)) fun q s2 hv k2 h2 => ?_
  have n2 := k2.n
  have o2 := (k2.ob _ n1 (by omega)).trans o1
  rw [bx_pth]
  obtain ⟨k3, h3, o3, n3⟩ := rbox h2 (by omega)
  have o23 : (s2.new (.cells [.int .i64 0, .str [], .lst [] 1])).ob st.n = _ := (k3.ob _ (by omega) (by omega)).trans o2
  rw [pth_store q o3 rfl]
  have k13 := (k1.trans k2).trans k3
  have e0 : (s.bind fun _ l => pPost P l) = ((s.bind fun _ l => pPrim P l).unit.bind fun _ l => .ok (pStars q l).1 (pStars q l).2) := by
    rw [unit_bind _ q hv fun q l => .ok (pStars q l).1 (pStars q l).2, bind_assoc]
    rfl
  rw [e0]
  refine rstars_loop hL (Nat.le_refl _) (by have := k1.n; omega) (by omega) hp big (s.bind fun _ l => pPrim P l).unit q 0 _ _ ?_ (lt_big (by omega)) (k13.put (by have := k1.n; omega) _) (h3.put (by omega) _) (by rw [put_ne _ _ (by omega)]; exact o23) rfl (by rw [put_n]; omega) (put_at _ _ _) (by rw [put_n]; omega)
  intro l hu
  have hlen : l.length ≤ 1000000 := by
    cases s with
    | bad l' => cases hu
    | ok _ l' =>
      have h5 := hl l' rfl
      have h6 := pPrim_le hP l'
      have hu' : (pPrim P l').unit = .ok () l := hu
      cases hr : pPrim P l' with
      | bad l2 => rw [hr] at hu'; cases hu'
      | ok q2 l2 => rw [hr] at hu' h6; cases hu'; have h6' : l.length ≤ l'.length := h6; omega
  exact lt_big (by omega)
/-! parts with marks between -/
theorem rmore_end {p : Nat} {L : List Sg} {e : Int} {st0 s1 : St} {r : PR Pth} {i u : Nat} {cs : List V} (ki : Int) (ps : List Pth) (hne : ps ≠ []) (hlen : ps.length ≤ 3000000) (k : KsP p st0 s1) (h : RAt p L e s1 r.unit) (hq : ∀ b l, r = .ok b l → mkN ki ps = b) (o : s1.ob i = some (.cells cs)) (hc : cs.length = 3) (hi : st0.n ≤ i) (hip : p ≠ i) :
    RRes p L e Pth.v st0 r (A.lenL (.lst (ps.map Pth.v) u) fun a8 => A.eql 2 false a8 (.int .i64 1) fun a9 => A.cond a9
 (A.iaddr 3 (.lst (ps.map Pth.v) u) (.int .i64 0) fun a10 => A.load true 3 a10 s1 fun a11 z12 => A.store 3 (.ptr i 0) a11 z12 fun z13 => A.res (rcell (A.load true 3 (.ptr i 0) z13 kid) (some [])) z13)
 (A.build [(.int .i64 0), (.str []), (.lst [] 1)] [(0, 1, .int .i64 ki), (2, 1, .lst (ps.map Pth.v) u)] fun a14 => A.store 3 (.ptr i 0) a14 s1 fun z15 => A.res (rcell (A.load true 3 (.ptr i 0) z15 kid) (some [])) z15)) := by
  simp only [lenL_lst, List.length_map, eql_int, Bool.false_eq_true, if_false]
  match ps, hne with
  | [q], _ =>
    simp only [List.length_cons, List.length_nil, show (((0 + 1 : Nat) : Int) == 1) = true from rfl, cond_true]
    have i1 : ∀ K, A.iaddr 3 (.lst ([q].map Pth.v) u) (.int .i64 0) K = K (.lptr (pthC q)) := fun K => by
      have := iaddr_lst (l := [q].map Pth.v) (t := u) (sz := 3) (n := 0) (v := q.v) K rfl (by rw [pth_c]; rfl)
      rw [pth_c q] at this
      exact this
    rw [i1, load_pth, ← pthCt_v]
    exact RRes.end q k h hq o hc hi hip
  | q :: q2 :: ps, _ =>
    rw [show ((((q :: q2 :: ps).length : Nat) : Int) == 1) = false from by rw [beq_eq_false_iff_ne]; simp only [List.length_cons]; omega, cond_false]
    have b : ∀ K, A.build [(.int .i64 0), (.str []), (.lst [] 1)] [(0, 1, .int .i64 ki), (2, 1, .lst ((q :: q2 :: ps).map Pth.v) u)] K = K (.agg (pthCt (.mk ki [] (q :: q2 :: ps)) u)) := fun K => rfl
    rw [b]
    exact RRes.end (.mk ki [] (q :: q2 :: ps)) k h hq o hc hi hip
/-- One loop of 'seq' or 'path'. -/
structure MoreL (p : Nat) (ki : Int) (m : List UInt8) (R : Nat → Fn) (g : Nat) (loop : Nat → V → V → V → St → Res) : Prop where
  eq : ∀ (f : Nat) (x0 x2 x3 : V) (st : St), loop (f + 1) x0 x2 x3 st = A.ret (s59 [x0.er1, (.str m : V).er1] st) fun a1 z2 =>
       A.cond a1
       (A.nilc x0 fun a3 => A.faddr 1 a3 fun a4 => A.load false 1 a4 z2 fun a5 z6 => A.bin .add a5 (.int .i64 1) fun a7 => A.nilc x0 fun a8 => A.faddr 1 a8 fun a9 => A.store 1 a9 a7 z6 fun z10 =>
       A.ret (R g [x0.er1] z10) fun a11 z12 =>
       A.bslice 3 (.agg [(.int .i64 0), (.str []), (.lst [] 1)]) 1 [(0, a11)] fun a13 =>
       A.app 3 x3 (elemsOf 5 3 a13 z12) z12 fun a14 z15 => loop f x0 x2 a14 z15)
       (A.lenL x3 fun a16 => A.eql 2 false a16 (.int .i64 1) fun a17 =>
       A.cond a17
       (A.iaddr 3 x3 (.int .i64 0) fun a18 => A.load true 3 a18 z2 fun a19 z20 => A.store 3 x2 a19 z20 fun z21 => A.res (rcell (A.load true 3 x2 z21 kid) (some [])) z21)
       (A.build [(.int .i64 0), (.str []), (.lst [] 1)] [(0, 1, (.int .i64 ki)), (2, 1, x3)] fun a22 => A.store 3 x2 a22 z2 fun z23 => A.res (rcell (A.load true 3 x2 z23 kid) (some [])) z23))
theorem rmore_loop {p : Nat} {L : List Sg} {e : Int} (hL : L.length ≤ 1000000) {N : Nat} {R : Nat → Fn} {part : List Sg → PR Pth} {ki : Int} {m : List UInt8} {g : Nat} {loop : Nat → V → V → V → St → Res} (hloop : MoreL p ki m R g loop) (hle : ∀ l, (part l).le l.length) (hpart : RFn p L e part N fun st => R g [.ptr p 0] st) {st0 : St} {i : Nat} (hi : st0.n ≤ i) (hip : p ≠ i) (hp : p < st0.n) :
    ∀ (n f : Nat) (s : PR Unit) (ps : List Pth) (s1 : St) (u : Nat) (cs : List V), (∀ l, s = .ok () l → l.length < n ∧ l.length < N) → n + 1 < f → n ≤ 1000001 → ps ≠ [] → ps.length + n ≤ 3000000 → KsP p st0 s1 → Own st0 s1 3 u → RAt p L e s1 s → s1.ob i = some (.cells cs) → cs.length = 3 → i < s1.n →
      RRes p L e Pth.v st0 (s.bind fun _ l => (pMore m part n ps l).bind fun ps l => .ok (mkN ki ps) l) (loop f (.ptr p 0) (.ptr i 0) (.lst (ps.map Pth.v) u) s1) := by
  intro n
  induction n with
  | zero =>
    intro f s ps s1 u cs hl hf hn hne hlen k hu h o hc hin
    obtain ⟨f, rfl⟩ : ∃ f', f = f' + 1 := ⟨f - 1, by omega⟩
    have hps : p < s1.n := by have := k.n; omega
    rw [hloop.eq]
    obtain ⟨s2, q2, k2⟩ := rmark_s h hps m
    simp only [er1_ptr, er1_str, q2, ret_ret]
    cases s with
    | ok _ l => have := hl l rfl; omega
    | bad l =>
      rw [show mk? m (.bad l) = false from rfl, cond_false]
      exact rmore_end ki ps hne (by omega) (k.trans (k2.toP p)) (h.ks k2 hps) (fun b l hb => by cases hb) ((k2.ob i hin).trans o) hc hi hip
  | succ n ih =>
    intro f s ps s1 u cs hl hf hn hne hlen k hu h o hc hin
    obtain ⟨f, rfl⟩ : ∃ f', f = f' + 1 := ⟨f - 1, by omega⟩
    have hps : p < s1.n := by have := k.n; omega
    rw [hloop.eq]
    obtain ⟨s2, q2, k2⟩ := rmark_s h hps m
    have n2 := k2.n
    have h2 := h.ks k2 hps
    have o2 := (k2.ob i hin).trans o
    have k02 := k.trans (k2.toP p)
    simp only [er1_ptr, er1_str, q2, ret_ret]
    cases hm : mk? m s with
    | false =>
      rw [cond_false]
      refine rmore_end ki ps hne (by omega) k02 ?_ ?_ o2 hc hi hip
      · cases s with
        | bad l => exact h2
        | ok _ l =>
          show RAt p L e s2 ((pMore m part (n + 1) ps l).bind fun ps l => .ok (mkN ki ps) l).unit
          rw [pMore, mk?_none hm l rfl]; exact h2
      · intro b l hb
        cases s with
        | bad l => cases hb
        | ok _ l =>
          have hb' : ((pMore m part (n + 1) ps l).bind fun ps l => .ok (mkN ki ps) l) = .ok b _ := hb
          rw [pMore, mk?_none hm l rfl] at hb'
          cases hb'; rfl
    | true =>
      rw [cond_true]
      obtain ⟨l, l', rfl, hl'⟩ := mk?_some hm
      have hlt := pIs_lt hl'
      obtain ⟨hl1, hl2⟩ := hl l rfl
      obtain ⟨s3, q3, k3, h3, n3⟩ := rskip h2 hL hl' (fun z10 => A.ret (R g [.ptr p 0] z10) fun a11 z12 =>
 A.bslice 3 (.agg [(.int .i64 0), (.str []), (.lst [] 1)]) 1 [(0, a11)] fun a13 =>
 A.app 3 (.lst (ps.map Pth.v) u) (elemsOf 5 3 a13 z12) z12 fun a14 z15 => loop f (.ptr p 0) (.ptr i 0) a14 z15)
      rw [q3]
      have o3 := (k3.ob i (by omega) (by omega)).trans o2
      refine RRes.bind (hpart s3 (.ok () l') (fun l hl => by cases hl; omega) h3 (by omega)) fun q s4 hv k4 h4 => ?_
      have e1 : ((PR.ok () l' : PR Unit).bind fun _ l => part l) = part l' := rfl
      rw [e1] at hv h4
      have n4 := k4.n
      have o4 := (k4.ob i (by omega) (by omega)).trans o3
      have hu4 : Own st0 s4 3 u := ((hu.mono k2).monoP k3).monoP k4
      rw [bs_pth, show elemsOf 5 3 (.lst [q.v] 2) s4 = some [q.v] from elemsOf_lst 3 _ 2 s4 (pths_ok [q])]
      rw [app_own _ hu4 (by simp; omega) (pths_ok ps)]
      obtain ⟨k5, hu5⟩ := ((k02.trans k3).trans k4).app hu4
      have e0 : ((PR.ok () l : PR Unit).bind fun _ l => (pMore m part (n + 1) ps l).bind fun ps l => .ok (mkN ki ps) l : PR Pth) = ((part l').unit.bind fun _ l => (pMore m part n (ps ++ [q]) l).bind fun ps l => .ok (mkN ki ps) l) := by
        rw [unit_bind _ q hv fun q l => (pMore m part n (ps ++ [q]) l).bind fun ps l => .ok (mkN ki ps) l]
        show (pMore m part (n + 1) ps l).bind _ = _
        rw [pMore, hl']
        exact bind_assoc _ _ _
      rw [e0]
      have := ih f (part l').unit (ps ++ [q]) (appSt s4 u 3) (s4.nt + 3) cs (fun l2 hl2 => by
        have h6 := hle l'
        cases hr : part l' with
        | bad l3 => rw [hr] at hl2; cases hl2
        | ok q3 l3 => rw [hr] at hl2 h6; cases hl2; have h6' : l2.length ≤ l'.length := h6; omega) (by omega) (by omega) (by simp) (by simp; omega) k5 hu5 (RAt.app h4) (by rw [appSt_ob]; exact o4) hc (by rw [appSt_n]; omega)
      rw [List.map_append] at this
      exact this
theorem more98 {p : Nat} (R : Nat → Fn) : MoreL p 3 [124] R 103 (g98b1100 R) := ⟨fun f x0 x2 x3 st => rfl⟩
theorem more103 {p : Nat} (R : Nat → Fn) : MoreL p 2 [47] R 105 (g103b1100 R) := ⟨fun f x0 x2 x3 st => rfl⟩
theorem rsome_s {p : Nat} {L : List Sg} {e : Int} (hL : L.length ≤ 1000000) {N : Nat} (hN : N ≤ 1000000) {R : Nat → Fn} {part : List Sg → PR Pth} {ki : Int} {m : List UInt8} {g : Nat} {loop : Nat → V → V → V → St → Res} (hloop : MoreL p ki m R g loop) (hle : ∀ l, (part l).le l.length) (hlt : ∀ {l l' q}, part l = .ok q l' → l'.length < l.length) (hpart : RFn p L e part (N + 1) fun st => R g [.ptr p 0] st) :
    RFn p L e (pSome ki m part N) (N + 1) fun st => A.box (.agg [(.int .i64 0), (.str []), (.lst [] 1)]) st fun a1 z2 => A.ret (R g [(.ptr p 0 : V).er1] z2) fun a3 z4 => A.bslice 3 (.agg [(.int .i64 0), (.str []), (.lst [] 1)]) 1 [(0, a3)] fun a5 => loop big (.ptr p 0) a1 a5 z4 := by
  intro st s hl hs hp
  dsimp only
  rw [bx_pth]
  obtain ⟨k1, h1, o1, n1⟩ := rbox hs hp
  generalize st.new (.cells [.int .i64 0, .str [], .lst [] 1]) = s1 at k1 h1 o1 n1 ⊢
  rw [er1_ptr]
  refine RRes.bind (hpart s1 s hl h1 (by omega)) fun q s2 hv k2 h2 => ?_
  have n2 := k2.n
  have o2 := (k2.ob _ n1 (by omega)).trans o1
  rw [bs_pth]
  have e0 : (s.bind fun _ l => pSome ki m part N l) = ((s.bind fun _ l => part l).unit.bind fun _ l => (pMore m part N [q] l).bind fun ps l => .ok (mkN ki ps) l) := by
    rw [unit_bind _ q hv fun q l => (pMore m part N [q] l).bind fun ps l => .ok (mkN ki ps) l, bind_assoc]
    rfl
  rw [e0]
  refine rmore_loop hL hloop hle hpart (Nat.le_refl _) (by omega) hp N big (s.bind fun _ l => part l).unit [q] s2 2 _ ?_ (lt_big (by omega)) (by omega) (by simp) (by simp; omega) (k1.trans k2) (.inr (.inl rfl)) h2 o2 rfl (by omega)
  intro l hu
  cases s with
  | bad l' => cases hu
  | ok _ l' =>
    have h5 := hl l' rfl
    have hu' : (part l').unit = .ok () l := hu
    cases hr : part l' with
    | bad l2 => rw [hr] at hu'; cases hu'
    | ok q2 l2 => rw [hr] at hu'; cases hu'; have := hlt hr; omega
theorem rpath_n {p : Nat} {L : List Sg} {e : Int} (hL : L.length ≤ 1000000) : ∀ (n M : Nat), n ≤ 100000 → 4 * n ≤ M → RFn p L e (pPath (n + 1)) (n + 1) fun st => G98 (M + 4) 98 [.ptr p 0] st
  | n, M, hn, hM => by
    have ih : ∀ st l, l.length < n → RAt p L e st (.ok () l) → p < st.n → RRes p L e Pth.v st (pPath n l) (G98 M 98 [.ptr p 0] st) := by
      cases n with
      | zero => intro st l hl; omega
      | succ n =>
        obtain ⟨M', rfl⟩ : ∃ M', M = M' + 4 := ⟨M - 4, by omega⟩
        intro st l hl hs hp
        exact rpath_n hL n M' (by omega) (by omega) st (.ok () l) (fun l' h => by cases h; exact hl) hs hp
    have h1 : RFn p L e (pPrim (pPath n)) (n + 1) fun st => G98 (M + 1) 106 [.ptr p 0] st := by
      intro st s hl hs hp
      show RRes p L e Pth.v st _ (G98 (M + 1) 106 [.ptr p 0] st)
      rw [G98_106_eq]
      exact rprim_s hL ih st s hl hs hp
    have h2 : RFn p L e (pPost (pPath n)) (n + 1) fun st => G98 (M + 2) 105 [.ptr p 0] st := by
      intro st s hl hs hp
      show RRes p L e Pth.v st _ (G98 (M + 1 + 1) 105 [.ptr p 0] st)
      rw [G98_105_eq]
      exact rpost_s hL (by omega) (pPath_le n) h1 st s hl hs hp
    have h3 : RFn p L e (pSome 2 [47] (pPost (pPath n)) n) (n + 1) fun st => G98 (M + 3) 103 [.ptr p 0] st := by
      intro st s hl hs hp
      show RRes p L e Pth.v st _ (G98 (M + 2 + 1) 103 [.ptr p 0] st)
      rw [G98_103_eq]
      exact rsome_s hL (by omega) (more103 _) (fun l => pPost_le (pPath_le n) l) (fun h => pPost_lt (pPath_le n) h) h2 st s hl hs hp
    intro st s hl hs hp
    show RRes p L e Pth.v st _ (G98 (M + 3 + 1) 98 [.ptr p 0] st)
    rw [G98_98_eq]
    exact rsome_s hL (by omega) (more98 _) (fun l => pSome_le (fun l => pPost_le (pPath_le n) l) n l) (fun h => pSome_lt (fun l => pPost_le (pPath_le n) l) (fun h => pPost_lt (pPath_le n) h) h) h3 st s hl hs hp
end Go.Ab
