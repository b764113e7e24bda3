import Derived.Test.YtmbaebedkobijaaAbDraw4
/- Regions that draw their order are sound. -/
namespace Go.Ab
open Go.RowKit
set_option linter.unusedVariables false
set_option linter.unusedSimpArgs false
variable {P : Program} {mu : Nat → Bool} {T : Tbl} {ops : Array Oper} {B : List Nat}

def unl (n : Nat) (listed : Array Bool) : List Nat := (List.range n).filter fun i => !listed.getD i true

theorem getD_set (listed : Array Bool) (i j : Nat) (d : Bool) (hi : i < listed.size) : (listed.setIfInBounds i true).getD j d = if j = i then true else listed.getD j d := by
  simp only [Array.getD_eq_getD_getElem?, Array.getElem?_setIfInBounds]
  by_cases h : i = j
  · subst h; simp [hi]
  · rw [if_neg h, if_neg (Ne.symm h)]

theorem unl_set {n : Nat} {listed : Array Bool} {i : Nat} (hs : listed.size = n) (hi : i ∈ unl n listed) : (unl n (listed.setIfInBounds i true)).length + 1 = (unl n listed).length := by
  have hin : i < n := by
    have := (List.mem_filter.mp hi).1
    simpa using this
  have e1 : unl n (listed.setIfInBounds i true) = (unl n listed).erase i := by
    rw [List.Nodup.erase_eq_filter (show (unl n listed).Nodup from List.nodup_range.sublist List.filter_sublist)]
    unfold unl
    rw [List.filter_filter]
    apply List.filter_congr
    intro j hj
    rw [getD_set _ _ _ _ (by omega)]
    by_cases h : j = i
    · simp [h]
    · simp [h]
  rw [e1, List.length_erase_of_mem hi]
  have : 0 < (unl n listed).length := List.length_pos_of_mem hi
  omega

theorem ready_mem {listed : Array Bool} {i : Nat} : i ∈ Region.ready .any ops listed ↔ i < ops.size ∧ listed.getD i true = false ∧ ∃ o, ops[i]? = some o ∧ ∀ x ∈ o.after.toList, Region.binds .any x = true → listed.getD x.on false = true := by
  unfold Region.ready
  simp only [List.mem_filter, List.mem_range, Bool.and_eq_true, Bool.not_eq_true']
  constructor
  · rintro ⟨h1, h2, h3⟩
    refine ⟨h1, h2, ?_⟩
    have ho := Array.getElem?_eq_getElem h1
    refine ⟨_, ho, fun x hx hb => ?_⟩
    rw [ho] at h3
    simp only [Option.map_some, Option.getD_some, Array.all_eq_true_iff_forall_mem] at h3
    have := h3 x (by simpa using hx)
    simpa [hb] using this
  · rintro ⟨h1, h2, o, ho, h3⟩
    refine ⟨h1, h2, ?_⟩
    rw [ho]
    simp only [Option.map_some, Option.getD_some, Array.all_eq_true_iff_forall_mem]
    intro x hx
    by_cases hb : Region.binds .any x = true
    · simp [h3 x (by simpa using hx) hb]
    · simp [hb]

theorem opV_same {env env' : Env} {o : Oper} (h : ∀ t, t ∈ o.looksAt ops → env t = env' t) : Same o.op.operands.toList env env' := by
  intro x hx
  refine opV_congr (fun t ht => h t ?_)
  subst ht
  unfold Oper.looksAt
  refine List.mem_append.mpr (.inl (List.mem_filterMap.mpr ⟨_, hx, rfl⟩))

theorem gd_same {env env' : Env} {o : Oper} (h : ∀ t, t ∈ o.looksAt ops → env t = env' t) : gd ops o env = gd ops o env' := by
  unfold gd
  cases hg : o.guard with
  | none => rfl
  | some jw =>
    obtain ⟨j, want⟩ := jw
    simp only
    cases hd : (ops[j]?).bind (·.dst) with
    | none => rfl
    | some d =>
      simp only
      rw [h d]
      unfold Oper.looksAt
      refine List.mem_append.mpr (.inr ?_)
      rw [hg]
      simp only [hd, Option.toList_some, List.mem_singleton]

theorem wanted_of {e : E} {m : Nat} {env : Env} {a : Act} {o : Oper} {b : Bool} (he : EnvR m e env a.tmps) (h : gd ops o env = some b) : Region.wanted o (yielded ops a.tmps) = b := by
  unfold gd at h
  cases hg : o.guard with
  | none => rw [hg] at h; simp only at h; cases h; simp [Region.wanted, hg]
  | some jw =>
    obtain ⟨j, want⟩ := jw
    rw [hg] at h
    simp only at h
    cases hd : (ops[j]?).bind (·.dst) with
    | none => rw [hd] at h; cases h
    | some d =>
      rw [hd] at h
      simp only at h
      cases hb : env d with
      | bool v =>
        rw [hb] at h
        simp only [Option.some.injEq] at h
        have hx := opV_sound (x := .tmp d) he rfl
        rw [hb] at hx
        have hx2 : a.tmps.getD d undef = .bool v := by
          simp only [Act.eval] at hx
          generalize a.tmps.getD d undef = q at hx
          cases hx; rfl
        have hy : yielded ops a.tmps j = some v := by
          unfold yielded
          rw [hd]
          simp only [Option.bind_some]
          have : a.tmps[d]? = some (.bool v) := by
            rw [Array.getD_eq_getD_getElem?] at hx2
            cases hq : a.tmps[d]? with
            | none => rw [hq] at hx2; cases hx2
            | some q => rw [hq] at hx2; simp at hx2; rw [hx2]
          rw [this]
        simp only [Region.wanted, hg, hy, ← h]
        rfl
      | tup l =>
        rw [hb] at h
        simp only [Option.some.injEq] at h
        simp only [Region.wanted, hg, yielded_tup he hd hb, ← h]
        rfl
      | _ => rw [hb] at h; cases h

theorem areg_sound (hT : SimT P T) (hm : P.follows .mixedOrders = true) (m : Nat) : SoundR P m (areg P mu T m) := by
  intro W0 B0 r Q id ops env0 e0 a0 K h hr he0 hK hP
  unfold areg at h
  obtain ⟨hok, h⟩ := if_some h
  have hR := reg_of_ok hok
  rw [List.range_eq_range'] at h
  obtain ⟨f, hF⟩ := areg_trace _ _ _ _ _ _ h
  -- each order
  have key : ∀ (fuel : Nat) (listed : Array Bool) (e : E) (a : Act), listed.size = ops.size → (unl ops.size listed).length = fuel → Closed ops (fun i => listed.getD i false) → e.st = stN P mu ops f e0.st (fun i => listed.getD i false) ops.size →
      EnvR m e (envN m ops f env0 (fun i => listed.getD i false) ops.size) a.tmps → Ext e0 e → Rel W0 B0 e → a.defers = a0.defers → wpAny P .any ops Q fuel listed a e.w := by
    intro fuel
    induction fuel with
    | zero =>
      intro listed e a hs hu hC hst hrs hx hrel hd
      have hnil : unl ops.size listed = [] := List.eq_nil_of_length_eq_zero hu
      have hall : ∀ i, i < ops.size → listed.getD i false = true := by
        intro i hi
        have : i ∉ unl ops.size listed := by rw [hnil]; simp
        simp only [unl, List.mem_filter, List.mem_range, Bool.not_eq_true', not_and] at this
        have := this hi
        have hsz : i < listed.size := by omega
        simp only [Array.getD_eq_getD_getElem?, Array.getElem?_eq_getElem hsz, Option.getD_some] at this ⊢
        simpa using this
      have hready : Region.ready .any ops listed = [] := by
        apply List.eq_nil_iff_forall_not_mem.mpr
        intro i hi
        obtain ⟨h1, h2, _⟩ := ready_mem.mp hi
        have : i ∈ unl ops.size listed := by simp [unl, h1]; simpa [Array.getD_eq_getD_getElem?] using h2
        rw [hnil] at this; cases this
      refine ⟨hready, ?_⟩
      have henv : ∀ n, n ≤ ops.size → envN m ops f env0 (fun i => listed.getD i false) n = envN m ops f env0 (fun _ => true) n := by
        intro n
        induction n with
        | zero => intro _; rfl
        | succ n ih => intro hn; simp only [envN, hall n (by omega), ih (by omega)]
      have hstn : ∀ n, n ≤ ops.size → stN P mu ops f e0.st (fun i => listed.getD i false) n = (f n).st := by
        intro n hn
        rcases stN_cases (st0 := e0.st) hR hF hC n hn with g | ⟨n0, g1, g2, _⟩
        · exact g
        · have := hall n0 (by omega)
          rw [g2] at this; cases this
      have hfin := hF.fin
      rw [Nat.zero_add] at hfin
      rw [hstn _ (Nat.le_refl _)] at hst
      rw [henv _ (Nat.le_refl _), ← env_all hF _ (Nat.le_refl _)] at hrs
      exact hK _ e a (by rw [hst]; exact hfin) hx hrel hrs hd
    | succ fuel ih =>
      intro listed e a hs hu hC hst hrs hx hrel hd
      refine ⟨fun hnil => ?_, fun i hi => ?_⟩
      · -- something is ready
        exfalso
        have hpos : 0 < (unl ops.size listed).length := by omega
        have hmin : ∀ i, i < ops.size → listed.getD i true = false → False := by
          intro i
          induction i using Nat.strongRecOn with
          | _ i ih2 =>
            intro hi hl
            have ho := Array.getElem?_eq_getElem hi
            have : i ∈ Region.ready .any ops listed := by
              refine ready_mem.mpr ⟨hi, hl, _, ho, fun x hx hb => ?_⟩
              have hlt := hR.back i _ ho x hx hb
              have hsz : x.on < listed.size := by omega
              cases hq : listed.getD x.on true with
              | false => exact (ih2 x.on hlt (by omega) hq).elim
              | true =>
                simp only [Array.getD_eq_getD_getElem?, Array.getElem?_eq_getElem hsz, Option.getD_some] at hq ⊢
                exact hq
            rw [hnil] at this; cases this
        obtain ⟨i, hi⟩ := List.exists_mem_of_length_pos hpos
        simp only [unl, List.mem_filter, List.mem_range, Bool.not_eq_true'] at hi
        exact hmin i hi.1 hi.2
      · obtain ⟨hi1, hi2, o, ho, hro⟩ := ready_mem.mp hi
        have hsz : i < listed.size := by omega
        have hni : listed.getD i false = false := by
          simp only [Array.getD_eq_getD_getElem?, Array.getElem?_eq_getElem hsz, Option.getD_some] at hi2 ⊢
          exact hi2
        have hlook : ∀ t, t ∈ o.looksAt ops → envN m ops f env0 (fun i => listed.getD i false) ops.size t = (f i).env t := fun t ht => look_same hR hF hC ho hni hro ht
        obtain ⟨o', ok⟩ := hF.ok i (by omega) (by omega)
        have : o' = o := by have := ok.op; rw [ho] at this; exact (Option.some.inj this).symm
        subst this
        have hw := wanted_of hrs ((gd_same hlook).trans ok.guard)
        have hD' : ∀ n, (listed.setIfInBounds i true).getD n false = if n = i then true else listed.getD n false := fun n => getD_set _ _ _ _ hsz
        have hC' : Closed ops (fun n => (listed.setIfInBounds i true).getD n false) := by
          intro j q hq hj x hx hb
          simp only [hD'] at hj ⊢
          by_cases hji : j = i
          · subst hji
            rw [ho] at hq; cases hq
            by_cases hxi : x.on = j
            · rw [if_pos hxi]
            · rw [if_neg hxi]; exact hro x hx hb
          · rw [if_neg hji] at hj
            have := hC j q hq hj x hx hb
            by_cases hxi : x.on = i
            · rw [if_pos hxi]
            · rw [if_neg hxi]; exact this
        have hunl : (unl ops.size (listed.setIfInBounds i true)).length = fuel := by
          have := unl_set hs (show i ∈ unl ops.size listed by simp only [unl, List.mem_filter, List.mem_range, Bool.not_eq_true']; exact ⟨hi1, hi2⟩)
          omega
        have henv' : envN m ops f env0 (fun n => (listed.setIfInBounds i true).getD n false) ops.size = putV m (envN m ops f env0 (fun n => listed.getD n false) ops.size) o'.dst (f i).v := by
          rw [envN_add hR hC ho hni hD' ops.size (Nat.le_refl _), if_pos hi1]
        have hst' := stN_add (f := f) (st0 := e0.st) hR hC ho hni hD' ops.size (Nat.le_refl _)
        -- behind the operation
        have after : ∀ (v' : Value) (e' : E), e'.st = stN P mu ops f e0.st (fun n => (listed.setIfInBounds i true).getD n false) ops.size → Ext e e' → Rel W0 B0 e' → Rs e' [(f i).v] [v'] → wpAny P .any ops Q fuel (listed.setIfInBounds i true) (a.put o'.dst v') e'.w := by
          intro v' e' h1 h2 h3 h4
          refine ih _ e' _ (by simp [hs]) hunl hC' h1 ?_ (hx.trans h2) h3 (by rw [put_defers]; exact hd)
          rw [henv']
          exact putV_sound (hrs.mono h2) o'.dst h4
        unfold wpOp
        simp only [ho]
        cases hran : (f i).ran with
        | false =>
          rw [hran] at hw
          rw [if_neg (by rw [hw]; simp)]
          obtain ⟨g1, g2⟩ := ok.skip hran
          refine after undef e ?_ (Ext.refl e) hrel (by rw [g1]; exact .tup [] #[] .nil .nil)
          rw [hst', if_neg (by rw [hran]; simp)]; exact hst
        | true =>
          rw [hran] at hw
          rw [if_pos hw]
          left
          have same := opV_same (ops := ops) hlook
          rcases cls_le (P := P) (mu := mu) o' with hc | hc | hc
          · obtain ⟨g1, g2⟩ := ok.pure hran hc
            have hnw : isWb P mu ops i = false := by simp [isWb, ho, hc]
            have hrun : aop P mu T o' (envN m ops f env0 (fun i => listed.getD i false) ops.size) e.st kid = some (.ret (f i).v, e.st) := by
              rw [aop_congr same, g2]; rfl
            refine aop_sound hT hrun hrel hrs ?_ ?_
            · intro v v' e' h1 h2 h3 h4
              unfold kid at h1
              simp only [Option.some.injEq, Prod.mk.injEq, Out.ret.injEq] at h1
              refine after v' e' ?_ h2 h3 (by rw [← h1.1]; exact h4)
              rw [hst', if_neg (by rw [hnw]; simp), h1.2]; exact hst
            · intro p p' e' h1; cases h1
          · obtain ⟨g1, ag, c, p, g2, g3⟩ := ok.load hran hc
            have hnw : isWb P mu ops i = false := by simp [isWb, ho, hc]
            have hl : IsL P mu ops f i ag c p := ⟨o', ho, hc, g2⟩
            have hv := st_load (st0 := e0.st) hR hF hC ho hni hran hro hl g3
            rw [← hst] at hv
            have hrun : aop P mu T o' (envN m ops f env0 (fun i => listed.getD i false) ops.size) e.st kid = some (.ret (f i).v, e.st) := by
              rw [aop_congr same]
              unfold loadOf at g2
              unfold aop
              cases hop : o'.op with
              | load t ad =>
                rw [hop] at g2
                simp only at g2 ⊢
                by_cases hk : known P t = true
                · rw [if_pos hk] at g2 ⊢
                  cases hq : opV (f i).env ad with
                  | none => rw [hq] at g2; cases g2
                  | some pv =>
                    rw [hq] at g2
                    simp only [Option.some.injEq, Prod.mk.injEq] at g2
                    obtain ⟨r1, r2, r3⟩ := g2
                    subst r3
                    show A.load (isAg P t) (P.cellsOf t) pv e.st kid = _
                    rw [r1, r2, ldv_load hv]; rfl
                · rw [if_neg hk] at g2; cases g2
              | _ => rw [hop] at g2; cases g2
            refine aop_sound hT hrun hrel hrs ?_ ?_
            · intro v v' e' h1 h2 h3 h4
              unfold kid at h1
              simp only [Option.some.injEq, Prod.mk.injEq, Out.ret.injEq] at h1
              refine after v' e' ?_ h2 h3 (by rw [← h1.1]; exact h4)
              rw [hst', if_neg (by rw [hnw]; simp), h1.2]; exact hst
            · intro p p' e' h1; cases h1
          · have hwb : isWb P mu ops i = true := by simp [isWb, ho, hc]
            have g1 := ok.write hran (by omega) (by omega)
            have hs0 := st_write (st0 := e0.st) hR hF hC ho hni hwb hro ops.size (by omega) (Nat.le_refl _)
            have hrun : aop P mu T o' (envN m ops f env0 (fun i => listed.getD i false) ops.size) e.st kid = some (.ret (f i).v, (f (i + 1)).st) := by
              rw [aop_congr same, hst, hs0]; exact g1
            refine aop_sound hT hrun hrel hrs ?_ ?_
            · intro v v' e' h1 h2 h3 h4
              unfold kid at h1
              simp only [Option.some.injEq, Prod.mk.injEq, Out.ret.injEq] at h1
              refine after v' e' ?_ h2 h3 (by rw [← h1.1]; exact h4)
              rw [hst', if_pos ⟨hi1, hran, hwb⟩, h1.2]
            · intro p p' e' h1; cases h1
  refine wp_region_any hm ?_
  have hrep : ∀ i, (Array.replicate ops.size false).getD i false = false := by
    intro i
    by_cases hi : i < ops.size
    · simp [Array.getD_eq_getD_getElem?, hi]
    · simp [Array.getD_eq_getD_getElem?, hi]
  have hfun : (fun i => (Array.replicate ops.size false).getD i false) = fun _ => false := funext hrep
  have henv0 : ∀ n, envN m ops f env0 (fun _ => false) n = env0 := by
    intro n; induction n with
    | zero => rfl
    | succ n ih => simp only [envN, ih]; simp
  have hst0 : ∀ n, stN P mu ops f e0.st (fun _ => false) n = e0.st := by
    intro n; induction n with
    | zero => rfl
    | succ n ih => simp only [stN, ih]; simp
  refine key ops.size (Array.replicate ops.size false) e0.drew a0 (by simp) ?_ ?_ ?_ ?_ (Ext.drew e0) hr.drew rfl
  · have : unl ops.size (Array.replicate ops.size false) = List.range ops.size := by
      unfold unl
      apply List.filter_eq_self.mpr
      intro i hi
      have hi' : i < ops.size := by simpa using hi
      simp [Array.getD_eq_getD_getElem?, hi']
    rw [this, List.length_range]
  · intro j q hq hj; have hj' := hrep j; simp only at hj; rw [hj'] at hj; cases hj
  · rw [hfun, hst0]; rfl
  · rw [hfun, henv0]; exact he0.mono (Ext.drew e0)
end Go.Ab
