import Derived.Test.YtjdgaphjjhhjeaaAbPair
/- Regions that draw their order, with a call that leaves the world alone and an allocation of which either may be the first. -/
namespace Go.Ab
open Go.RowKit
set_option linter.unusedVariables false
set_option linter.unusedSimpArgs false
variable {P : Program} {mu : Nat → Bool} {T : Tbl} {ops : Array Oper} {B : List Nat}
/-- A function that leaves the world as it was, and tells the same whatever objects there are. -/
def Obliv (sh : Fn) : Prop := ∀ (args : List V) (st : St) (r : Out × St), sh args st = some r → ∃ v, r = (.ret v, st) ∧ ∀ z, sh args (st.new (.cells z)) = some (.ret v, st.new (.cells z))
def callO (obl : Nat → Bool) (o : Oper) : Bool := match o.op with
  | .call c => (match c.callee with | .value (.func f) => obl f | _ => false) && o.guard.isNone && o.dst.isSome
  | _ => false
theorem callO_some {obl : Nat → Bool} {o : Oper} (h : callO obl o = true) : (∃ c f, o.op = .call c ∧ c.callee = .value (.func f) ∧ obl f = true) ∧ o.guard = none ∧ ∃ d, o.dst = some d := by
  unfold callO at h
  split at h
  · rename_i c hc
    simp only [Bool.and_eq_true, Option.isNone_iff_eq_none] at h
    obtain ⟨⟨h1, h2⟩, h3⟩ := h
    refine ⟨?_, h2, Option.isSome_iff_exists.1 h3⟩
    split at h1
    · rename_i f hf; exact ⟨c, f, hc, hf, h1⟩
    · cases h1
  · cases h
theorem callO_aop {obl : Nat → Bool} {o : Oper} (h : callO obl o = true) (hO : ∀ f sh, obl f = true → T f = some sh → Obliv sh) {env : Env} {st : St} {r : Out × St} (hr : aop P mu T o env st kid = some r) :
    ∃ v, r = (.ret v, st) ∧ ∀ z, aop P mu T o env (st.new (.cells z)) kid = some (.ret v, st.new (.cells z)) := by
  obtain ⟨⟨c, f, h1, h2, h3⟩, _⟩ := callO_some h
  unfold aop at hr ⊢
  rw [h1] at hr ⊢
  simp only [h2] at hr ⊢
  obtain ⟨fv, e1, hr⟩ := ob_some hr
  obtain ⟨vs, e2, hr⟩ := obs_some hr
  simp only [e1, e2, ob, obs]
  cases e1
  unfold A.call at hr ⊢
  simp only at hr ⊢
  cases hT : T f with
  | none => rw [hT] at hr; cases hr
  | some sh =>
    rw [hT] at hr
    simp only at hr ⊢
    unfold A.ret at hr
    split at hr
    · rename_i v st' hs
      obtain ⟨v2, e3, e4⟩ := hO f sh h3 hT _ _ _ hs
      cases e3
      refine ⟨v, (Option.some.inj hr).symm, fun z => ?_⟩
      rw [e4 z]; rfl
    · rename_i p st' hs
      obtain ⟨v2, e3, e4⟩ := hO f sh h3 hT _ _ _ hs
      cases e3
    · cases hr
theorem callO_cls {obl : Nat → Bool} {o : Oper} (h : callO obl o = true) : cls P mu o = 2 := by
  obtain ⟨⟨c, f, h1, h2, h3⟩, _⟩ := callO_some h
  unfold cls
  rw [h1]
  simp only [h2]
def pairOC (P : Program) (mu : Nat → Bool) (obl : Nat → Bool) (ops : Array Oper) (B : List Nat) (i j : Nat) : Bool :=
  match ops[i]?, ops[j]? with
  | some q, some o => callO obl q && (allocT P o).isSome && Nat.blt i j && q.dst != o.dst && !(q.looksAt ops).any (fun t => some t == o.dst) &&
    (List.range ops.size).all fun k => Nat.beq k i || Nat.beq k j || match ops[k]? with
      | none => false
      | some x => x.dst != q.dst && x.dst != o.dst && (!hasEdge x j || hasEdge x i) && ((still P x && !(x.looksAt ops).any (fun t => some t == o.dst)) || ((Nat.blt j k || cls P mu x != 2) && ord B i k))
  | _, _ => false
def areg3 (P : Program) (mu : Nat → Bool) (T : Tbl) (obl : Nat → Bool) (m : Nat) (ops : Array Oper) (env : Env) (st : St) (K : Env → St → Res) : Res :=
  if regOk P mu ops (befs ops.toList []) then aregL P mu T m ops (befs ops.toList []) K (List.range ops.size) env st [] []
  else match findPair P mu ops (befs ops.toList []) with
    | some (i, j) => if regOk P mu (addE ops i j) (befs (addE ops i j).toList []) && pairOC P mu obl ops (befs (addE ops i j).toList []) i j then aregL P mu T m (addE ops i j) (befs (addE ops i j).toList []) K (List.range (addE ops i j).size) env st [] [] else none
    | none => none
theorem areg3_sound {obl : Nat → Bool} (hT : SimT P T) (hObl : ∀ f sh, obl f = true → T f = some sh → Obliv sh) (hm : P.follows .mixedOrders = true) (m : Nat) : SoundR P m (areg3 P mu T obl m) := by
  intro W0 B0 r Q id ops env0 e0 a0 K fr hW h hr he0 hI hK hP
  unfold areg3 at h
  split at h
  · rename_i hok
    exact areg_sound hT hm m W0 B0 r Q id ops env0 e0 a0 K fr hW (by unfold areg; rw [if_pos hok]; exact h) hr he0 hI hK hP
  split at h
  case h_2 => cases h
  rename_i i j hfp
  obtain ⟨hok, h⟩ := if_some h
  rw [Bool.and_eq_true] at hok
  obtain ⟨hok, hpk⟩ := hok
  have hR := reg_of_ok hok
  unfold pairOC at hpk
  split at hpk
  case h_2 => cases hpk
  rename_i q o hq ho
  simp only [Bool.and_eq_true, bne_iff_ne, ne_eq] at hpk
  obtain ⟨⟨⟨⟨⟨t1, t2⟩, hij⟩, hdne⟩, hqlk⟩, hall⟩ := hpk
  obtain ⟨tj, htj⟩ := Option.isSome_iff_exists.1 t2
  have hij : i < j := by simpa using hij
  have hsz' : (addE ops i j).size = ops.size := addE_size i j
  have hO : (addE ops i j)[j]? = some { o with after := o.after.push { on := i, ground := Ground.data } } := addE_at ho
  have hQ' : (addE ops i j)[i]? = some q := (addE_ne (by omega)).trans hq
  generalize hB' : befs (addE ops i j).toList [] = B' at hok hall h hR
  obtain ⟨_, hgi, ⟨di, hdi⟩⟩ := callO_some t1
  obtain ⟨_, hgj, ⟨dj, hdj⟩, _⟩ := allocT_some htj
  have hjsz : j < ops.size := (Array.getElem?_eq_some_iff.mp ho).1
  have fact : ∀ k x, k ≠ i → k ≠ j → ops[k]? = some x → x.dst ≠ q.dst ∧ x.dst ≠ o.dst ∧ (hasEdge x j = true → hasEdge x i = true) ∧ ((still P x = true ∧ ∀ t ∈ x.looksAt ops, some t ≠ o.dst) ∨ ((j < k ∨ cls P mu x ≠ 2) ∧ ord B' i k = true)) := by
    intro k x hki hkj hx
    have := List.all_eq_true.1 hall k (List.mem_range.2 (Array.getElem?_eq_some_iff.mp hx).1)
    rw [show Nat.beq k i = false by rw [← Bool.not_eq_true, Nat.beq_eq]; exact hki, show Nat.beq k j = false by rw [← Bool.not_eq_true, Nat.beq_eq]; exact hkj, hx] at this
    simp only [Bool.false_or, Bool.and_eq_true, bne_iff_ne, ne_eq, Bool.or_eq_true, Bool.not_eq_true'] at this
    obtain ⟨⟨⟨a1, a2⟩, a3⟩, a4⟩ := this
    refine ⟨a1, a2, fun g => ?_, ?_⟩
    · rcases a3 with b | b
      · rw [g] at b; cases b
      · exact b
    · rcases a4 with ⟨b1, b2⟩ | ⟨b1, b2⟩
      · refine .inl ⟨b1, fun t ht g => ?_⟩
        have := List.any_eq_false.1 b2 t ht
        simp [g] at this
      · exact .inr ⟨b1.imp (fun g => by simpa using g) (fun g => g), b2⟩
  have edge_iff : ∀ (x : Oper) (k : Nat), hasEdge x k = true ↔ ∃ y ∈ x.after.toList, Region.binds .any y = true ∧ y.on = k := by
    intro x k
    unfold hasEdge
    rw [List.any_eq_true]
    constructor
    · rintro ⟨y, h1, h2⟩; rw [Bool.and_eq_true, beq_iff_eq] at h2; exact ⟨y, h1, h2⟩
    · rintro ⟨y, h1, h2, h3⟩; exact ⟨y, h1, by rw [Bool.and_eq_true, beq_iff_eq]; exact ⟨h2, h3⟩⟩
  have back : ∀ k x, ops[k]? = some x → ∀ y ∈ x.after.toList, Region.binds .any y = true → y.on < k := by
    intro k x hx y hy hb
    by_cases hkj : k = j
    · subst hkj
      rw [ho] at hx; cases hx
      exact hR.back k _ hO y (by simp; exact .inl (by simpa using hy)) hb
    · exact hR.back k x ((addE_ne hkj).trans hx) y hy hb
  rw [List.range_eq_range'] at h
  have htr := areg_trace _ _ _ _ _ _ h
  have key : ∀ (N : Nat) (hN : N ≤ (addE ops i j).size) (K' : Env → St → Res) (f : Nat → TI) (hF : Tr P mu T m (addE ops i j) B' K' r N 0 env0 e0.st [] [] f) (hend : N = (addE ops i j).size → K' = K) (hpan : N < (addE ops i j).size → ∃ o, Pan P mu T m (addE ops i j) B' r N 0 env0 e0.st [] [] f o ∧ K' = panK P mu T o) (hjN : j < N) (fuel : Nat),
      (∀ (listed : Array Bool) (e : E) (a : Act), (∀ n, N ≤ n → listed.getD n false = false) → listed.size = (addE ops i j).size → (unl (addE ops i j).size listed).length = fuel → Closed (addE ops i j) (fun i => listed.getD i false) → e.st = stN P mu (addE ops i j) f e0.st (fun i => listed.getD i false) (addE ops i j).size →
        EnvR m e (envN m (addE ops i j) f env0 (fun i => listed.getD i false) (addE ops i j).size) a.tmps → Ext e0 e → Rel W0 B0 e → InF fr a → wpAny P .any ops Q fuel listed a e.w) ∧
      (∀ (l0 : Array Bool) (e : E) (a : Act) (b : Nat) (cz : Array Value), (∀ n, N ≤ n → l0.getD n false = false) → l0.size = (addE ops i j).size → (unl (addE ops i j).size (l0.setIfInBounds j true)).length = fuel → Closed (addE ops i j) (fun i => l0.getD i false) → l0.getD i false = false → l0.getD j false = false → (∀ x ∈ o.after.toList, Region.binds .any x = true → l0.getD x.on false = true) →
        e.st = stN P mu (addE ops i j) f e0.st (fun i => l0.getD i false) (addE ops i j).size → EnvR m e (putV m (envN m (addE ops i j) f env0 (fun i => l0.getD i false) (addE ops i j).size) (some dj) (.bld 0)) a.tmps → (dj < m → a.tmps.getD dj undef = .pointer (some ⟨b, 0, none⟩)) →
        Lone B0 e b (.cells cz tj (0, 0)) → (∀ z, zeroV P tj = some z → z.cells.all V.one = true → Rs e z.cells cz.toList ∧ z.cells.length = cz.size) → Ext e0 e → Rel W0 B0 e → InF fr a → wpAny P .any ops Q fuel (l0.setIfInBounds j true) a e.w) := by
    intro N hN K' f hF hend hpan hjN fuel
    have hiN : i < N := by omega
    have set_get : ∀ (l : Array Bool) (k n : Nat), k < l.size → (l.setIfInBounds k true).getD n false = if n = k then true else l.getD n false := fun l k n hk => getD_set _ _ _ _ hk
    have closed_set : ∀ (l : Array Bool) (k : Nat) (x : Oper), k < l.size → Closed (addE ops i j) (fun i => l.getD i false) → (addE ops i j)[k]? = some x → (∀ y ∈ x.after.toList, Region.binds .any y = true → l.getD y.on false = true) → Closed (addE ops i j) (fun n => (l.setIfInBounds k true).getD n false) := by
      intro l k x hk hC hx hro n q hq hj y hy hb
      simp only [set_get l k _ hk] at hj ⊢
      by_cases hnk : n = k
      · subst hnk
        rw [hx] at hq; cases hq
        by_cases hxi : y.on = n
        · rw [if_pos hxi]
        · rw [if_neg hxi]; exact hro y hy hb
      · rw [if_neg hnk] at hj
        have := hC n q hq hj y hy hb
        by_cases hxi : y.on = k
        · rw [if_pos hxi]
        · rw [if_neg hxi]; exact this
    have ready_any : ∀ (l : Array Bool), l.size = ops.size → 0 < (unl ops.size l).length → Region.ready .any ops l = [] → False := by
      intro listed hs hpos hnil
      have hmin : ∀ i, i < ops.size → listed.getD i true = false → False := by
        intro i
        induction i using Nat.strongRecOn with
        | _ i ih2 =>
          intro hi hl
          have ho := Array.getElem?_eq_getElem hi
          have : i ∈ Region.ready .any ops listed := by
            refine ready_mem.mpr ⟨hi, hl, _, ho, fun x hx hb => ?_⟩
            have hlt := back i _ ho x hx hb
            have hsz : x.on < listed.size := by omega
            cases hq : listed.getD x.on true with
            | false => exact (ih2 x.on hlt (by omega) hq).elim
            | true =>
              simp only [Array.getD_eq_getD_getElem?, Array.getElem?_eq_getElem hsz, Option.getD_some] at hq ⊢
              exact hq
          rw [hnil] at this; cases this
      obtain ⟨i, hi⟩ := List.exists_mem_of_length_pos hpos
      simp only [unl, List.mem_filter, List.mem_range, Bool.not_eq_true'] at hi
      exact hmin i hi.1 hi.2
    have false_of : ∀ (l : Array Bool) (k : Nat), k < l.size → l.getD k true = false → l.getD k false = false := by
      intro l k hk h
      simp only [Array.getD_eq_getD_getElem?, Array.getElem?_eq_getElem hk, Option.getD_some] at h ⊢
      exact h
    have true_of : ∀ (l : Array Bool) (k : Nat), k < l.size → l.getD k false = false → l.getD k true = false := by
      intro l k hk h
      simp only [Array.getD_eq_getD_getElem?, Array.getElem?_eq_getElem hk, Option.getD_some] at h ⊢
      exact h
    -- what the text's order makes of the two
    obtain ⟨q', okI⟩ := hF.ok i (by omega) (by omega)
    have : q = q' := by have := okI.op; rw [hQ'] at this; exact Option.some.inj this
    subst this
    obtain ⟨o', okJ⟩ := hF.ok j (by omega) (by omega)
    have hoj : o' = { o with after := o.after.push { on := i, ground := Ground.data } } := by have := okJ.op; rw [hO] at this; exact (Option.some.inj this).symm
    subst hoj
    have ranI : (f i).ran = true := by
      have := okI.guard
      unfold gd at this
      rw [hgi] at this
      exact (Option.some.inj this).symm
    have ranJ : (f j).ran = true := by
      have := okJ.guard
      unfold gd at this
      rw [hgj] at this
      exact (Option.some.inj this).symm
    have clI := callO_cls (P := P) (mu := mu) t1
    have htj' : allocT P { o with after := o.after.push { on := i, ground := Ground.data } } = some tj := htj
    have clJ := alloc_cls (mu := mu) htj'
    have wbI : isWb P mu (addE ops i j) i = true := by simp [isWb, hQ', clI]
    have wbJ : isWb P mu (addE ops i j) j = true := by simp [isWb, hO, clJ]
    have hwI := okI.write ranI (by omega) (by omega)
    obtain ⟨vI, hvi, hcom⟩ := callO_aop (P := P) (mu := mu) t1 hObl hwI
    obtain ⟨zj, hzj, onej, hvj⟩ := alloc_ret htj' (okJ.write ranJ (by omega) (by omega))
    simp only [Prod.mk.injEq, Out.ret.injEq] at hvi hvj
    obtain ⟨vi1, vi2⟩ := hvi
    obtain ⟨vj1, vj2⟩ := hvj
    induction fuel with
    | zero =>
      refine ⟨?_, ?_⟩
      · intro listed e a hDN hs hu hC hst hrs hx hrel hd
        have hnil : unl (addE ops i j).size listed = [] := List.eq_nil_of_length_eq_zero hu
        have hall : ∀ i', i' < (addE ops i j).size → listed.getD i' false = true := by
          intro k hk
          have : k ∉ unl (addE ops i j).size listed := by rw [hnil]; simp
          simp only [unl, List.mem_filter, List.mem_range, Bool.not_eq_true', not_and] at this
          have := this hk
          have hsz : k < listed.size := by omega
          simp only [Array.getD_eq_getD_getElem?, Array.getElem?_eq_getElem hsz, Option.getD_some] at this ⊢
          simpa using this
        have hready : Region.ready .any ops listed = [] := by
          apply List.eq_nil_iff_forall_not_mem.mpr
          intro k hk
          obtain ⟨h1, h2, _⟩ := ready_mem.mp hk
          have : k ∈ unl (addE ops i j).size listed := by simp [unl, hsz', h1]; simpa [Array.getD_eq_getD_getElem?] using h2
          rw [hnil] at this; cases this
        refine ⟨hready, ?_⟩
        have hNe : N = (addE ops i j).size := by
          rcases Nat.lt_or_ge N (addE ops i j).size with g | g
          · have := hall N g
            rw [hDN N (Nat.le_refl _)] at this; cases this
          · omega
        have hKe := hend hNe
        subst hKe
        subst hNe
        have henv : ∀ n, n ≤ (addE ops i j).size → envN m (addE ops i j) f env0 (fun i => listed.getD i false) n = envN m (addE ops i j) f env0 (fun _ => true) n := by
          intro n
          induction n with
          | zero => intro _; rfl
          | succ n ih => intro hn; simp only [envN, hall n (by omega), ih (by omega)]
        have hstn : ∀ n, n ≤ (addE ops i j).size → stN P mu (addE ops i j) f e0.st (fun i => listed.getD i false) n = (f n).st := by
          intro n hn
          rcases stN_cases (st0 := e0.st) hR hN hF hC n hn with g | ⟨n0, g1, g2, _⟩
          · exact g
          · have := hall n0 (by omega)
            rw [g2] at this; cases this
        have hfin := hF.fin
        rw [Nat.zero_add] at hfin
        rw [hstn _ (Nat.le_refl _)] at hst
        rw [henv _ (Nat.le_refl _), ← env_all hN hF _ (Nat.le_refl _)] at hrs
        exact hK _ e a (by rw [hst]; exact hfin) hx hrel hrs hd
      · intro l0 e a b cz hDN hs hu hC h0i h0j
        exfalso
        have hnil := List.eq_nil_of_length_eq_zero hu
        have : i ∈ unl (addE ops i j).size (l0.setIfInBounds j true) := by
          simp only [unl, List.mem_filter, List.mem_range, Bool.not_eq_true']
          refine ⟨by omega, true_of _ _ (by simp; omega) ?_⟩
          rw [set_get _ _ _ (by omega), if_neg (by omega)]; exact h0i
        rw [hnil] at this; cases this
    | succ fuel ih =>
      obtain ⟨ihN, ihP⟩ := ih
      refine ⟨?_, ?_⟩
      · intro listed e a hDN hs hu hC hst hrs hx hrel hd
        refine ⟨fun hnil => (ready_any listed (by omega) (by rw [← hsz']; omega) hnil).elim, fun k hk => ?_⟩
        obtain ⟨hk1, hk2, x, hxk, hro⟩ := ready_mem.mp hk
        have hksz : k < listed.size := by omega
        have hni := false_of listed k hksz hk2
        have hunl : (unl (addE ops i j).size (listed.setIfInBounds k true)).length = fuel := by
          have := unl_set hs (show k ∈ unl (addE ops i j).size listed by simp only [unl, List.mem_filter, List.mem_range, Bool.not_eq_true']; exact ⟨by omega, hk2⟩)
          omega
        by_cases hkj : k = j ∧ listed.getD i false = false
        · obtain ⟨rfl, hli⟩ := hkj
          rw [ho] at hxk; cases hxk
          unfold wpOp
          simp only [ho]
          rw [if_pos (by simp [Region.wanted, hgj])]
          left
          obtain ⟨inf, zv, w1, w2, w3⟩ := zero_cells (P := P) (e := e) hzj
          refine alloc_wp htj w1 w2 hdj ?_
          refine ihP listed (e.garb (.cells zv.cells tj (0, 0))) _ e.w.heap.size zv.cells hDN hs hunl hC hli hni hro hst ?_ (fun hd => by rw [put_getD hrs.1, if_pos ⟨hd, rfl⟩]) (Lone.garb hrel _) ?_ (hx.trans (Ext.garb e _)) (hrel.garb _) (by have := hd.put (noD_at hW ho) (.pointer (some ⟨e.w.heap.size, 0, none⟩)); rw [hdj] at this; exact this)
          · exact putV_sound (hrs.mono (Ext.garb e _)) (some dj) (.bld 0 _ .nil)
          · intro z hz _
            rw [hzj] at hz; cases hz
            exact w3 _
        · obtain ⟨x', hx', hxd, hro'⟩ : ∃ x', (addE ops i j)[k]? = some x' ∧ x'.dst = x.dst ∧ ∀ y ∈ x'.after.toList, Region.binds .any y = true → listed.getD y.on false = true := by
            by_cases hk2 : k = j
            · subst hk2
              rw [ho] at hxk; cases hxk
              refine ⟨_, hO, rfl, fun y hy hb => ?_⟩
              simp only [Array.toList_push, List.mem_append, List.mem_singleton] at hy
              rcases hy with g | g
              · exact hro y g hb
              · subst g
                cases hl : listed.getD i false with
                | true => rfl
                | false => exact absurd ⟨rfl, hl⟩ hkj
            · exact ⟨x, (addE_ne hk2).trans hxk, rfl, hro⟩
          rw [← addE_wpOp i j]
          refine step_ok hT hR hN hF hpan hDN hs hC hst hrs hrel hx' hni hro' ?_ ?_
          · intro hkN v' e' g1 g2 g3 g4
            refine ihN _ e' _ (fun n hn => by rw [set_get _ _ _ hksz, if_neg (by omega)]; exact hDN n hn) (by simp [hs]) hunl (closed_set listed k x' hksz hC hx' hro') g1 g4 (hx.trans g2) g3 ?_
            have := hd.put (noD_at hW hxk) v'
            rw [← hxd] at this; exact this
          · intro p p' e' g1 g2 g3 g4
            exact hP p p' e' a g1 (hx.trans g2) g3 g4 hd
      · intro l0 e a b cz hDN hs hu hC h0i h0j hjr hst hrs hp hl hcz hx hrel hd
        have hjs : j < l0.size := by omega
        refine ⟨fun hnil => (ready_any _ (by simp; omega) (by rw [← hsz']; omega) hnil).elim, fun k hk => ?_⟩
        obtain ⟨hk1, hk2, x, hxk, hro⟩ := ready_mem.mp hk
        have hksz : k < l0.size := by omega
        have hni' := false_of _ k (by simp; omega) hk2
        rw [set_get _ _ _ hjs] at hni'
        have hkj : k ≠ j := fun g => by rw [if_pos g] at hni'; cases hni'
        rw [if_neg hkj] at hni'
        have hunl : (unl (addE ops i j).size ((l0.setIfInBounds j true).setIfInBounds k true)).length = fuel := by
          have := unl_set (n := (addE ops i j).size) (listed := l0.setIfInBounds j true) (by simp; omega) (show k ∈ unl (addE ops i j).size (l0.setIfInBounds j true) by simp only [unl, List.mem_filter, List.mem_range, Bool.not_eq_true']; exact ⟨by omega, hk2⟩)
          omega
        have hxk' : (addE ops i j)[k]? = some x := (addE_ne hkj).trans hxk
        have hsC := set_comm l0 j k
        by_cases hki : k = i
        · subst hki
          rw [hq] at hxk; cases hxk
          have hro0 : ∀ y ∈ q.after.toList, Region.binds .any y = true → l0.getD y.on false = true := by
            intro y hy hb
            have h1 := hro y hy hb
            have h2 := back k q hq y hy hb
            rw [set_get _ _ _ hjs, if_neg (by omega)] at h1
            exact h1
          have hC1 := closed_set l0 k q hksz hC hQ' hro0
          have hro1 : ∀ y ∈ ({ o with after := o.after.push { on := k, ground := Ground.data } } : Oper).after.toList, Region.binds .any y = true → (l0.setIfInBounds k true).getD y.on false = true := by
            intro y hy hb
            rw [set_get _ _ _ hksz]
            simp only [Array.toList_push, List.mem_append, List.mem_singleton] at hy
            rcases hy with g | g
            · split
              · rfl
              · exact hjr y g hb
            · subst g; rw [if_pos rfl]
          have hC2 := closed_set (l0.setIfInBounds k true) j _ (by simp; omega) hC1 hO hro1
          have sD1 : ∀ n, (l0.setIfInBounds k true).getD n false = if n = k then true else l0.getD n false := fun n => set_get l0 k n hksz
          have sD2 : ∀ n, ((l0.setIfInBounds k true).setIfInBounds j true).getD n false = if n = j then true else (l0.setIfInBounds k true).getD n false := fun n => set_get _ j n (by simp; omega)
          have h1j : (l0.setIfInBounds k true).getD j false = false := by rw [sD1, if_neg (by omega)]; exact h0j
          have sI := st_write (st0 := e0.st) hR hN hF hC hQ' (by omega) h0i wbI hro0 (addE ops k j).size (by omega) (Nat.le_refl _)
          have sJ := st_write (st0 := e0.st) hR hN hF hC1 hO (by omega) h1j wbJ hro1 (addE ops k j).size (by omega) (Nat.le_refl _)
          have aI := stN_add (f := f) (st0 := e0.st) hR hC hQ' h0i sD1 (addE ops k j).size (Nat.le_refl _)
          have aJ := stN_add (f := f) (st0 := e0.st) hR hC1 hO h1j sD2 (addE ops k j).size (Nat.le_refl _)
          rw [if_pos ⟨by omega, ranI, wbI⟩] at aI
          rw [if_pos ⟨by omega, ranJ, wbJ⟩] at aJ
          have eJ : (f j).st = (f (k + 1)).st := sJ.symm.trans aI
          have eN1 := envN_add (m := m) (f := f) (env0 := env0) hR hC hQ' h0i sD1 (addE ops k j).size (Nat.le_refl _)
          have eN2 := envN_add (m := m) (f := f) (env0 := env0) hR hC1 hO h1j sD2 (addE ops k j).size (Nat.le_refl _)
          rw [if_pos (by omega)] at eN1 eN2
          have est : e.st = (f k).st := hst.trans sI
          have onej' : ∀ v ∈ zj.cells, v.one = true := by simpa using onej
          have hnew : ∀ o', e.st.ob e.st.n = some o' → False := fun o' ho' => by have := (hrel.live _ _ ho').1; omega
          obtain ⟨z1, z2⟩ := hcz zj hzj onej
          have X2 := Ext.adopt e (.cells zj.cells) b hnew
          have R2 := hrel.adopt hl (cs := zj.cells) (fun x hx => oneB_of (onej' x hx)) (fun i _ _ => by simp) (by omega) (by rw [z2, List.take_of_length_le (by simp)]; exact z1) (bldOK_of onej')
          have hlook : ∀ t, t ∈ q.looksAt (addE ops k j) → putV m (envN m (addE ops k j) f env0 (fun i => l0.getD i false) (addE ops k j).size) (some dj) (.bld 0) t = (f k).env t := fun t ht => by
            have h1 := look_same hR hN hF hC hQ' (by omega) h0i hro0 ht
            rw [addE_looks] at ht
            have hne : some t ≠ o.dst := fun g => by
              rw [Bool.not_eq_true', List.any_eq_false] at hqlk
              have := hqlk t ht
              simp [g] at this
            rw [putV_ne (by intro g; exact hne (by rw [hdj]; exact g.symm))]
            exact h1
          have same := opV_same (ops := addE ops k j) hlook
          have hrun : aop P mu T q (putV m (envN m (addE ops k j) f env0 (fun i => l0.getD i false) (addE ops k j).size) (some dj) (.bld 0)) (e.adopt (.cells zj.cells) b).st kid = some (.ret vI, (e.adopt (.cells zj.cells) b).st) := by
            rw [aop_congr same]
            show aop P mu T q (f k).env (e.st.new (.cells zj.cells)) kid = some (.ret vI, e.st.new (.cells zj.cells))
            rw [est]
            exact hcom zj.cells
          unfold wpOp
          simp only [hq]
          rw [if_pos (by simp [Region.wanted, hgi])]
          left
          refine aop_sound (e := e.adopt (.cells zj.cells) b) hT hrun R2 (hrs.mono X2) ?_ (by intro p p' e' h1; cases h1)
          intro v v' e' h1 h2 h3 h4
          unfold kid at h1
          simp only [Option.some.injEq, Prod.mk.injEq, Out.ret.injEq] at h1
          obtain ⟨hv, hst2⟩ := h1
          subst hv
          have est2 : e'.st = (f k).st.new (.cells zj.cells) := by rw [hst2, ← est]; rfl
          have := ihN ((l0.setIfInBounds k true).setIfInBounds j true) e' (a.put q.dst v')
            (fun n hn => by rw [sD2, if_neg (by omega), sD1, if_neg (by omega)]; exact hDN n hn) (by simp; omega) (by rw [← hsC]; exact hunl) hC2 ?_ ?_ (hx.trans (X2.trans h2)) h3 (hd.put (noD_at hW hq) v')
          · rw [hsC]; exact this
          · rw [aJ, vj2, eJ, vi2, est2]
          · have H1 := putV_sound ((hrs.mono X2).mono h2) q.dst h4
            rw [eN2, eN1]
            refine ⟨H1.1, fun t => ?_⟩
            have ht := H1.2 t
            show Rs _ [putV m (putV m _ q.dst (f k).v) o.dst (f j).v t] _
            rw [hdi] at ht ⊢
            rw [hdj]
            rw [putV_at]
            by_cases hc : dj < m ∧ t = dj
            · rw [if_pos hc]
              obtain ⟨hc1, rfl⟩ := hc
              rw [put_getD hrs.1, if_neg (fun g => hdne (by rw [hdi, hdj, g.2])), hp hc1]
              rw [vj1, eJ, vi2, ← est]
              have hn2 : e.st.n < e'.st.n := by rw [est2, ← est]; exact Nat.lt_succ_self _
              refine .ptr _ _ _ hn2 (fun o ho => ?_) .nil
              rw [h2.σ e.st.n (Nat.lt_succ_self _)]
              simp [E.adopt]
            · rw [if_neg hc]
              rw [putV_at] at ht ⊢
              rw [vi1]
              by_cases hc2 : di < m ∧ t = di
              · rw [if_pos hc2] at ht ⊢; exact ht
              · rw [if_neg hc2] at ht ⊢
                rw [putV_at, if_neg hc] at ht
                exact ht
        · obtain ⟨f1, f2, f3, f4⟩ := fact k x hki hkj hxk
          have hro0 : ∀ y ∈ x.after.toList, Region.binds .any y = true → l0.getD y.on false = true := by
            intro y hy hb
            have h1 := hro y hy hb
            rw [set_get _ _ _ hjs] at h1
            by_cases hyj : y.on = j
            · exfalso
              obtain ⟨y2, c1, c2, c3⟩ := (edge_iff x i).1 (f3 ((edge_iff x j).2 ⟨y, hy, hb, hyj⟩))
              have h2 := hro y2 c1 c2
              rw [set_get _ _ _ hjs, c3, if_neg (by omega), h0i] at h2
              cases h2
            · rw [if_neg hyj] at h1; exact h1
          obtain ⟨hstill, hlk⟩ : still P x = true ∧ ∀ t ∈ x.looksAt ops, some t ≠ o.dst := by
            rcases f4 with g | ⟨_, g⟩
            · exact g
            · have := Ready.ord hR hC hxk' hro0 g
              rw [h0i] at this; cases this
          have hcl := still_cls (mu := mu) hstill
          have hkN : k < N := by
            rcases Nat.lt_or_ge k N with g | g
            · exact g
            exfalso
            obtain ⟨q2, hq2, _⟩ := hpan (by omega)
            by_cases hkN2 : k = N
            · have hop := hq2.op
              rw [Nat.zero_add, ← hkN2, hxk'] at hop
              cases hop
              rcases hcl with g2 | g2
              · exact hq2.wr.1 g2
              · exact hq2.wr.2 g2
            · have hal := hq2.al
              rw [Nat.zero_add] at hal
              have := List.all_eq_true.1 hal k (List.mem_range.2 (by omega))
              rw [Bool.or_eq_true] at this
              rcases this with g2 | g2
              · have := Nat.le_of_ble_eq_true g2; omega
              · have := Ready.ord hR hC hxk' hro0 g2
                rw [hDN N (Nat.le_refl _)] at this; cases this
          have hlook : ∀ t, t ∈ x.looksAt (addE ops i j) → putV m (envN m (addE ops i j) f env0 (fun i => l0.getD i false) (addE ops i j).size) (some dj) (.bld 0) t = (f k).env t := fun t ht => by
            have h1 := look_same hR hN hF hC hxk' (by omega) hni' hro0 ht
            rw [addE_looks] at ht
            rw [putV_ne (by intro g; exact hlk t ht (by rw [hdj]; exact g.symm))]
            exact h1
          obtain ⟨o', ok⟩ := hF.ok k (by omega) (by omega)
          have : o' = x := by have := ok.op; rw [hxk'] at this; exact (Option.some.inj this).symm
          subst this
          have hw := wanted_of hrs ((gd_same hlook).trans ok.guard)
          have sD1 : ∀ n, (l0.setIfInBounds k true).getD n false = if n = k then true else l0.getD n false := fun n => set_get l0 k n hksz
          have henv' : envN m (addE ops i j) f env0 (fun n => (l0.setIfInBounds k true).getD n false) (addE ops i j).size = putV m (envN m (addE ops i j) f env0 (fun n => l0.getD n false) (addE ops i j).size) o'.dst (f k).v := by
            rw [envN_add hR hC hxk' hni' sD1 (addE ops i j).size (Nat.le_refl _), if_pos (by omega)]
          have hst' := stN_add (f := f) (st0 := e0.st) hR hC hxk' hni' sD1 (addE ops i j).size (Nat.le_refl _)
          have hnw : isWb P mu (addE ops i j) k = false := by
            rcases hcl with g | g <;> simp [isWb, hxk', g]
          have hdne2 : ∀ d, o'.dst = some d → d ≠ dj := fun d hd g => f2 (by rw [hd, hdj, g])
          have after : ∀ (v' : Value), Rs e [(f k).v] [v'] → wpAny P .any ops Q fuel ((l0.setIfInBounds j true).setIfInBounds k true) (a.put o'.dst v') e.w := by
            intro v' h4
            rw [hsC]
            refine ihP (l0.setIfInBounds k true) e _ b cz (fun n hn => by rw [sD1, if_neg (by omega)]; exact hDN n hn) (by simp; omega) (by rw [← hsC]; exact hunl) (closed_set l0 k o' hksz hC hxk' hro0) (by rw [sD1, if_neg (fun g => hki g.symm)]; exact h0i) (by rw [sD1, if_neg (fun g => hkj g.symm)]; exact h0j) (fun y hy hb => by rw [sD1]; split; rfl; exact hjr y hy hb) ?_ ?_ ?_ hl hcz hx hrel (hd.put (noD_at hW hxk) _)
            · rw [hst', if_neg (by rw [hnw]; simp)]; exact hst
            · rw [henv']
              have := putV_sound hrs o'.dst h4
              cases hdd : o'.dst with
              | none => rw [hdd] at this; exact this
              | some d =>
                rw [hdd] at this
                rw [putV_comm (fun g => hdne2 d hdd g)]
                exact this
            · intro hdm
              cases hdd : o'.dst with
              | none => exact hp hdm
              | some d => rw [put_getD hrs.1, if_neg (fun g => hdne2 d hdd g.2.symm)]; exact hp hdm
          rw [← addE_wpOp i j]
          unfold wpOp
          simp only [hxk']
          cases hran : (f k).ran with
          | false =>
            rw [hran] at hw
            rw [if_neg (by rw [hw]; simp)]
            obtain ⟨g1, g2⟩ := ok.skip hran
            exact after undef (by rw [g1]; exact .tup [] #[] .nil .nil)
          | true =>
            rw [hran] at hw
            rw [if_pos hw]
            left
            have same := opV_same (ops := addE ops i j) hlook
            have hrun : aop P mu T o' (putV m (envN m (addE ops i j) f env0 (fun i => l0.getD i false) (addE ops i j).size) (some dj) (.bld 0)) e.st kid = some (.ret (f k).v, e.st) := by
              rcases hcl with hc | hc
              · obtain ⟨g1, g2⟩ := ok.pure hran hc
                rw [aop_congr same, g2]; rfl
              · obtain ⟨g1, ag, c, p, g2, g3⟩ := ok.load hran hc
                have hli : IsL P mu (addE ops i j) f k ag c p := ⟨o', hxk', hc, g2⟩
                have hv := st_load (st0 := e0.st) hR hN hF hC hDN hxk' hkN hni' hran hro0 hli g3
                rw [← hst] at hv
                rw [aop_congr same]
                unfold loadOf at g2
                unfold aop
                cases hop : o'.op with
                | load t ad =>
                  rw [hop] at g2
                  simp only at g2 ⊢
                  by_cases hk : known P t = true
                  · rw [if_pos hk] at g2 ⊢
                    cases hq : opV (f k).env ad with
                    | none => rw [hq] at g2; cases g2
                    | some pv =>
                      rw [hq] at g2
                      simp only [Option.some.injEq, Prod.mk.injEq] at g2
                      obtain ⟨r1, r2, r3⟩ := g2
                      subst r3
                      show A.load (isAg P t) (P.cellsOf t) pv e.st kid = _
                      rw [r1, r2, ldv_load hv]; rfl
                  · rw [if_neg hk] at g2; cases g2
                | _ => rw [hop] at g2; cases g2
            exact still_sound hstill hrun hrel hrs after
  refine wp_region_any hm ?_
  have hrep : ∀ i, (Array.replicate ops.size false).getD i false = false := by
    intro i
    by_cases hi : i < ops.size
    · simp [Array.getD_eq_getD_getElem?, hi]
    · simp [Array.getD_eq_getD_getElem?, hi]
  have hfun : (fun i => (Array.replicate ops.size false).getD i false) = fun _ => false := funext hrep
  have henv0 : ∀ f n, envN m (addE ops i j) f env0 (fun _ => false) n = env0 := by
    intro f n; induction n with
    | zero => rfl
    | succ n ih => simp only [envN, ih]; simp
  have hst0 : ∀ f n, stN P mu (addE ops i j) f e0.st (fun _ => false) n = e0.st := by
    intro f n; induction n with
    | zero => rfl
    | succ n ih => simp only [stN, ih]; simp
  have start : ∀ (N : Nat) (hN : N ≤ (addE ops i j).size) (K' : Env → St → Res) (f : Nat → TI) (hF : Tr P mu T m (addE ops i j) B' K' r N 0 env0 e0.st [] [] f) (hend : N = (addE ops i j).size → K' = K) (hpan : N < (addE ops i j).size → ∃ o, Pan P mu T m (addE ops i j) B' r N 0 env0 e0.st [] [] f o ∧ K' = panK P mu T o) (hjN : j < N), wpAny P .any ops Q ops.size (Array.replicate ops.size false) a0 e0.drew.w := by
    intro N hN K' f hF hend hpan hjN
    refine (key N hN K' f hF hend hpan hjN ops.size).1 (Array.replicate ops.size false) e0.drew a0 (fun n _ => hrep n) (by simp [hsz']) ?_ ?_ ?_ ?_ (Ext.drew e0) hr.drew hI
    · have : unl (addE ops i j).size (Array.replicate ops.size false) = List.range ops.size := by
        unfold unl
        rw [hsz']
        apply List.filter_eq_self.mpr
        intro i hi
        have hi' : i < ops.size := by simpa using hi
        simp [Array.getD_eq_getD_getElem?, hi']
      rw [this, List.length_range]
    · intro j q hq hj; have hj' := hrep j; simp only at hj; rw [hj'] at hj; cases hj
    · rw [hfun, hst0]; rfl
    · rw [hfun, henv0]; exact he0.mono (Ext.drew e0)
  rcases htr with ⟨f, hF⟩ | ⟨k, x, f, hk, hp⟩
  · exact start (addE ops i j).size (Nat.le_refl _) K f hF (fun _ => rfl) (fun h => absurd h (Nat.lt_irrefl _)) (by omega)
  · refine start k (Nat.le_of_lt hk) _ f hp.tr (fun h => by omega) (fun _ => ⟨x, hp, rfl⟩) ?_
    -- what panics stands behind both
    have hop := hp.op
    rw [Nat.zero_add] at hop
    have noal : ∀ (x' : Oper) (t : TypeId), (addE ops i j)[k]? = some x' → allocT P x' = some t → False := by
      intro x' t hx' ht
      rw [hop] at hx'; cases hx'
      have hfin := hp.tr.fin
      rw [Nat.zero_add] at hfin
      obtain ⟨z, _, _, h3⟩ := alloc_ret (T := T) (mu := mu) ht hfin
      obtain ⟨p, st', h4⟩ := hp.pan
      rw [h4] at h3; cases h3
    have hki : k ≠ i := by
      rintro rfl
      rw [hQ'] at hop; cases hop
      have hfin := hp.tr.fin
      rw [Nat.zero_add] at hfin
      obtain ⟨v, h3, _⟩ := callO_aop (P := P) (mu := mu) t1 hObl hfin
      obtain ⟨p, st', h4⟩ := hp.pan
      rw [h4] at h3; cases h3
    have hkj : k ≠ j := by rintro rfl; exact noal _ _ hO htj
    obtain ⟨_, _, _, f4⟩ := fact k x hki hkj (by rw [← addE_ne hkj]; exact hop)
    rcases f4 with ⟨g, _⟩ | ⟨g, _⟩
    · rcases still_cls (mu := mu) g with g2 | g2
      · exact absurd g2 hp.wr.1
      · exact absurd g2 hp.wr.2
    · rcases g with g | g
      · exact g
      · exact absurd (by rcases cls_le (P := P) (mu := mu) x with h1 | h1 | h1; exact absurd h1 hp.wr.1; exact absurd h1 hp.wr.2; exact h1) g
end Go.Ab
