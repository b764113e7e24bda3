import Derived.Test.YtmbaebedkobijaaAbDraw
/- Regions that draw their order, proved sound. -/
namespace Go.Ab
open Go.RowKit
set_option linter.unusedVariables false
set_option linter.unusedSimpArgs false

theorem Pu.obsK {o : Option (List (Nat × Nat × V))} {f : List (Nat × Nat × V) → (V → Res) → Res} (h : ∀ v, Pu (f v)) : Pu (fun K => pobs o fun v => f v K) := by
  intro K r hk
  obtain ⟨v, rfl, h2⟩ := pobs_some hk
  exact h v K r h2
theorem Pu.eobsK {o : Option (List (Nat × V))} {f : List (Nat × V) → (V → Res) → Res} (h : ∀ v, Pu (f v)) : Pu (fun K => eobs o fun v => f v K) := by
  intro K r hk
  obtain ⟨v, rfl, h2⟩ := eobs_some hk
  exact h v K r h2
theorem Pu.oobK {o : Option (Option V)} {f : Option V → (V → Res) → Res} (h : ∀ v, Pu (f v)) : Pu (fun K => oob o fun v => f v K) := by
  intro K r hk
  obtain ⟨v, rfl, h2⟩ := oob_some hk
  exact h v K r h2

theorem aop_pure {P : Program} {mu : Nat → Bool} {T : Tbl} {o : Oper} {env : Env} (hc : cls P mu o = 0) : ∃ f : (V → Res) → Res, Pu f ∧ ∀ st K, aop P mu T o env st K = f (fun v => K v st) := by
  unfold cls at hc
  cases hop : o.op <;> simp only [hop] at hc <;> (try (exact absurd hc (by decide)))
  case move x => exact ⟨_, Pu.ob (o := opV env x) (f := fun v K => K v) (fun v => Pu.const v), fun st K => by simp only [aop, hop]⟩
  case assign x => exact ⟨_, Pu.ob (o := opV env x) (f := fun v K => K v) (fun v => Pu.const v), fun st K => by simp only [aop, hop]⟩
  case pick c a b => exact ⟨_, Pu.ob (o := opV env c) (fun c => Pu.ob (o := opV env a) (fun a => Pu.ob (o := opV env b) (fun b => Pu.pick c a b))), fun st K => by simp only [aop, hop]⟩
  case build t parts => exact ⟨_, Pu.ite (c := partsKnown P t = true) (Pu.ob (o := zeroV P t) (fun z => Pu.obsK (o := partsV P t env parts.toList) (fun ps => Pu.build z.cells ps))) Pu.none, fun st K => by simp only [aop, hop]⟩
  case buildSlice t len parts =>
    cases hs : sle P t with
    | none => exact ⟨_, Pu.none, fun st K => by simp only [aop, hop, hs]⟩
    | some x0 => exact ⟨_, Pu.ob (o := zeroV P x0) (fun z => Pu.eobsK (o := elemsV env parts.toList) (fun ps => Pu.bslice (P.cellsOf x0) z len ps)), fun st K => by simp only [aop, hop, hs]⟩
  case nilCheck x => exact ⟨_, Pu.ob (o := opV env x) (fun v => Pu.nilc v), fun st K => by simp only [aop, hop]⟩
  case binOp op t x y ty =>
    refine ⟨_, Pu.ob (o := opV env x) (fun a => Pu.ob (o := opV env y) (fun b => (show Pu (fun K => match op with | .eql => A.eql (tk P t) false a b K | .neq => A.eql (tk P t) true a b K | op => A.bin op a b K) from ?_))), fun st K => ?_⟩
    · cases op <;> first | exact Pu.eql _ _ _ _ | exact Pu.bin _ _ _
    · simp only [aop, hop]
      cases op <;> rfl
  case unOp op t x => exact ⟨_, Pu.ob (o := opV env x) (fun v => Pu.un op v), fun st K => by simp only [aop, hop]⟩
  case convert src dst x =>
    cases hk : intK P dst with
    | none => rw [hk] at hc; simp at hc
    | some k => exact ⟨_, Pu.ite (c := known P src = true) (Pu.ob (o := opV env x) (fun v => Pu.toInt k v)) Pu.none, fun st K => by simp only [aop, hop, hk]⟩
  case makeFunc fn first captured =>
    cases fn with
    | func f => exact ⟨_, Pu.obs (o := opsV env first.toList) (fun a => Pu.obs (o := opsV env captured.toList) (f := fun b K => K (.fn f a b)) (fun b => Pu.const (.fn f a b))), fun st K => by simp only [aop, hop]⟩
    | _ => exact ⟨_, Pu.none, fun st K => by simp only [aop, hop]⟩
  case makeInterface t x => exact ⟨_, Pu.ite (c := P.concrete t = true) (Pu.ob (o := opV env x) (f := fun v K => K (.iface t v)) (fun v => Pu.const _)) Pu.none, fun st K => by simp only [aop, hop]⟩
  case makeSlice t l c =>
    cases hs : sle P t with
    | none => exact ⟨_, Pu.none, fun st K => by simp only [aop, hop, hs]⟩
    | some x0 =>
      by_cases hm : (o.dst.map mu).getD false = true
      · rw [if_pos hm] at hc; cases hc
      · exact ⟨_, Pu.ob (o := zeroV P x0) (fun z => Pu.ob (o := opV env l) (fun l => Pu.ob (o := opV env c) (fun c => Pu.mksl (P.cellsOf x0) (P.bytesOf x0) z l c))), fun st K => by simp only [aop, hop, hs]; simp only [if_neg hm]⟩
  case slice t x lo hi mx =>
    cases ha : arr P t with
    | some _ => rw [ha] at hc; simp at hc
    | none =>
      cases hs : sle P t with
      | some x0 =>
        have hk3 : tk P t ≠ 3 := by
          have := sle_some hs
          simp [tk, this]
        refine ⟨_, Pu.ob (o := opV env x) (fun a => Pu.oobK (o := oV env lo) (fun b => Pu.oobK (o := oV env hi) (fun c => Pu.oobK (o := oV env mx) (fun d => Pu.ite (c := known P x0 = true) (Pu.slice (P.cellsOf x0) a b c d) Pu.none)))), fun st K => ?_⟩
        simp only [aop, hop, hs, ha]
      | none =>
        by_cases hk3 : tk P t = 3
        · refine ⟨_, Pu.ob (o := opV env x) (fun a => Pu.oobK (o := oV env lo) (fun b => Pu.oobK (o := oV env hi) (fun c => Pu.oobK (o := oV env mx) (fun d => Pu.ite (c := d.isNone = true) (Pu.sliceS a b c) Pu.none)))), fun st K => ?_⟩
          simp only [aop, hop, hs, ha, hk3]
        · refine ⟨_, Pu.ob (o := opV env x) (fun a => Pu.oobK (o := oV env lo) (fun b => Pu.oobK (o := oV env hi) (fun c => Pu.oobK (o := oV env mx) (fun d => Pu.none)))), fun st K => ?_⟩
          simp only [aop, hop, hs, ha]
  case fieldAddr t x f =>
    cases hf : fld P t f with
    | none => exact ⟨_, Pu.none, fun st K => by simp only [aop, hop, hf]⟩
    | some fd => exact ⟨_, Pu.ite (c := (known P fd.type && P.cellsOf fd.type != 0) = true) (Pu.ob (o := opV env x) (fun a => Pu.faddr fd.offset a)) Pu.none, fun st K => by simp only [aop, hop, hf]⟩
  case field t x f =>
    cases hf : fld P t f with
    | none => exact ⟨_, Pu.none, fun st K => by simp only [aop, hop, hf]⟩
    | some fd => exact ⟨_, Pu.ite (c := known P fd.type = true) (Pu.ob (o := opV env x) (fun a => Pu.field (isAg P fd.type) (P.cellsOf fd.type) fd.offset a)) Pu.none, fun st K => by simp only [aop, hop, hf]⟩
  case indexAddr t x i =>
    cases hs : sle P t with
    | some x0 => exact ⟨_, Pu.ob (o := opV env x) (fun a => Pu.ob (o := opV env i) (fun b => Pu.ite (c := known P x0 = true) (Pu.iaddr (P.cellsOf x0) a b) Pu.none)), fun st K => by simp only [aop, hop, hs]⟩
    | none =>
      cases ha : arr P t with
      | some nx => exact ⟨_, Pu.ob (o := opV env x) (fun a => Pu.ob (o := opV env i) (fun b => Pu.ite (c := known P nx.2 = true) (Pu.iaddrA nx.1 (P.cellsOf nx.2) a b) Pu.none)), fun st K => by simp only [aop, hop, hs, ha]⟩
      | none => exact ⟨_, Pu.ob (o := opV env x) (fun a => Pu.ob (o := opV env i) (fun b => Pu.none)), fun st K => by simp only [aop, hop, hs, ha]⟩
  case index t x i => exact ⟨_, Pu.ob (o := opV env x) (fun a => Pu.ob (o := opV env i) (fun b => Pu.ite (c := tk P t = 3) (Pu.idxS a b) Pu.none)), fun st K => by simp only [aop, hop]⟩
  case extract t i => exact ⟨_, Pu.ob (o := opV env t) (fun a => Pu.ext a i), fun st K => by simp only [aop, hop]⟩
  case call c =>
    cases hcl : c.callee with
    | value f => rw [hcl] at hc; simp at hc
    | invoke r m => rw [hcl] at hc; simp at hc
    | builtin b =>
      rw [hcl] at hc
      cases b <;> simp only at hc <;> (try (exact absurd hc (by decide)))
      case len =>
        cases ht : c.argTypes[0]? with
        | none => rw [ht] at hc; simp at hc
        | some t =>
          rw [ht] at hc
          cases hargs : c.args.toList with
          | nil => exact ⟨_, Pu.none, fun st K => by simp only [aop, hop, hcl, ht, hargs]⟩
          | cons x xs =>
            cases xs with
            | cons _ _ => exact ⟨_, Pu.none, fun st K => by simp only [aop, hop, hcl, ht, hargs]⟩
            | nil =>
              by_cases h6 : tk P t = 6
              · simp [h6] at hc
              · refine ⟨_, Pu.ob (o := opV env x) (fun a => (show Pu (fun K => match tk P t with | 3 => A.lenS a K | 5 => A.lenL a K | _ => none) from ?_)), fun st K => ?_⟩
                · split
                  · exact Pu.lenS a
                  · exact Pu.lenL a
                  · exact Pu.none
                · simp only [aop, hop, hcl, ht, hargs]
                  congr 1; funext a
                  split
                  · rename_i h3; simp only [h3]
                  · rename_i h3; simp only [h3]
                  · rename_i h3; exact absurd h3 h6
                  · rename_i h3 h4 h5
                    split
                    · rename_i h7; exact absurd h7 h3
                    · rename_i h7; exact absurd h7 h4
                    · rfl
      case min =>
        cases hargs : c.args.toList with
        | nil => exact ⟨_, Pu.none, fun st K => by simp only [aop, hop, hcl, hargs]⟩
        | cons x xs =>
          cases xs with
          | nil => exact ⟨_, Pu.none, fun st K => by simp only [aop, hop, hcl, hargs]⟩
          | cons y ys =>
            cases ys with
            | cons _ _ => exact ⟨_, Pu.none, fun st K => by simp only [aop, hop, hcl, hargs]⟩
            | nil => exact ⟨_, Pu.ob (o := opV env x) (fun a => Pu.ob (o := opV env y) (fun b => Pu.min a b)), fun st K => by simp only [aop, hop, hcl, hargs]⟩
      case max =>
        cases hargs : c.args.toList with
        | nil => exact ⟨_, Pu.none, fun st K => by simp only [aop, hop, hcl, hargs]⟩
        | cons x xs =>
          cases xs with
          | nil => exact ⟨_, Pu.none, fun st K => by simp only [aop, hop, hcl, hargs]⟩
          | cons y ys =>
            cases ys with
            | cons _ _ => exact ⟨_, Pu.none, fun st K => by simp only [aop, hop, hcl, hargs]⟩
            | nil => exact ⟨_, Pu.ob (o := opV env x) (fun a => Pu.ob (o := opV env y) (fun b => Pu.max a b)), fun st K => by simp only [aop, hop, hcl, hargs]⟩

/-- The operands' values are all that matters. -/
theorem opV_congr {env env' : Env} {x : Operand} (h : ∀ t, x = .tmp t → env t = env' t) : opV env x = opV env' x := by
  cases x with
  | tmp t => simp only [opV]; rw [h t rfl]
  | _ => rfl
def Same (xs : List Operand) (env env' : Env) : Prop := ∀ x ∈ xs, opV env x = opV env' x
theorem opsV_congr {env env' : Env} : ∀ {xs : List Operand}, Same xs env env' → opsV env xs = opsV env' xs
  | [], _ => rfl
  | x :: xs, h => by simp only [opsV]; rw [h x (by simp), opsV_congr (fun y hy => h y (List.mem_cons_of_mem _ hy))]
theorem elemsV_congr {env env' : Env} : ∀ {xs : List (Nat × Operand)}, Same (xs.map (·.2)) env env' → elemsV env xs = elemsV env' xs
  | [], _ => rfl
  | (i, x) :: xs, h => by simp only [elemsV]; rw [h x (by simp), elemsV_congr (fun y hy => h y (List.mem_cons_of_mem _ hy))]
theorem partsV_congr {P : Program} {t : TypeId} {env env' : Env} : ∀ {xs : List (Nat × Operand)}, Same (xs.map (·.2)) env env' → partsV P t env xs = partsV P t env' xs
  | [], _ => rfl
  | (i, x) :: xs, h => by simp only [partsV]; rw [h x (by simp), partsV_congr (fun y hy => h y (List.mem_cons_of_mem _ hy))]
theorem oV_congr {env env' : Env} {x : Option Operand} (h : Same x.toList env env') : oV env x = oV env' x := by
  cases x with
  | none => rfl
  | some x => simp only [oV]; rw [h x (by simp)]

theorem aop_congr {P : Program} {mu : Nat → Bool} {T : Tbl} {o : Oper} {env env' : Env} (h : Same o.op.operands.toList env env') (st : St) (K : V → St → Res) : aop P mu T o env st K = aop P mu T o env' st K := by
  cases hop : o.op <;> simp only [hop, Op.operands] at h <;> simp only [aop, hop]
  case move x => rw [h x (by simp)]
  case assign x => rw [h x (by simp)]
  case pick c a b => rw [h c (by simp), h a (by simp), h b (by simp)]
  case box t x => rw [h x (by simp)]
  case build t parts => rw [partsV_congr (by simpa using h)]
  case buildSlice t len parts => rw [elemsV_congr (by simpa using h)]
  case load t a => rw [h a (by simp)]
  case store t a x => rw [h a (by simp), h x (by simp)]
  case nilCheck x => rw [h x (by simp)]
  case binOp op t x y ty => rw [h x (by simp), h y (by simp)]
  case unOp op t x => rw [h x (by simp)]
  case convert s d x => rw [h x (by simp)]
  case makeInterface t x => rw [h x (by simp)]
  case makeFunc f a b =>
    have h1 : opsV env a.toList = opsV env' a.toList := opsV_congr (fun x hx => h x (by simp at hx ⊢; exact .inl hx))
    have h2 : opsV env b.toList = opsV env' b.toList := opsV_congr (fun x hx => h x (by simp at hx ⊢; exact .inr hx))
    cases f <;> simp only [h1, h2]
  case makeSlice t l c => rw [h l (by simp), h c (by simp)]
  case slice t x lo hi mx =>
    rw [h x (by simp), oV_congr (x := lo) (fun y hy => h y (by simp at hy ⊢; simp [hy])), oV_congr (x := hi) (fun y hy => h y (by simp at hy ⊢; simp [hy])), oV_congr (x := mx) (fun y hy => h y (by simp at hy ⊢; simp [hy]))]
  case fieldAddr t x f => rw [h x (by simp)]
  case field t x f => rw [h x (by simp)]
  case indexAddr t x i => rw [h x (by simp), h i (by simp)]
  case index t x i => rw [h x (by simp), h i (by simp)]
  case lookup t x i ok => rw [h x (by simp), h i (by simp)]
  case mapUpdate t m k x => rw [h m (by simp), h k (by simp), h x (by simp)]
  case extract t i => rw [h t (by simp)]
  case panic x => rw [h x (by simp)]
  case call c =>
    unfold Call.operands at h
    cases hc : c.callee with
    | value f =>
      rw [hc] at h
      simp only
      rw [h f (by simp), opsV_congr (xs := c.args.toList) (fun x hx => h x (by simp at hx ⊢; exact .inr hx))]
    | invoke _ _ => rfl
    | builtin b =>
      rw [hc] at h
      have ha : ∀ x ∈ c.args.toList, opV env x = opV env' x := fun x hx => h x (by simpa using hx)
      cases b <;> simp only <;> (try rfl)
      case append =>
        generalize c.args.toList = l at ha ⊢
        generalize c.argTypes.toList = q
        rcases l with _ | ⟨x, _ | ⟨y, _ | ⟨z, l⟩⟩⟩ <;> (try rfl)
        rcases q with _ | ⟨t, _ | ⟨u, _ | ⟨z, q⟩⟩⟩ <;> (try rfl)
        simp only [ha x (by simp), ha y (by simp)]
      case len =>
        generalize c.args.toList = l at ha ⊢
        generalize c.argTypes[0]? = q
        rcases l with _ | ⟨x, _ | ⟨y, l⟩⟩ <;> (try rfl)
        cases q <;> (try rfl)
        simp only [ha x (by simp)]
      case unsafeSliceData =>
        generalize c.args.toList = l at ha ⊢
        rcases l with _ | ⟨x, _ | ⟨y, l⟩⟩ <;> (try rfl)
        simp only [ha x (by simp)]
      case unsafeString =>
        generalize c.args.toList = l at ha ⊢
        generalize c.argTypes.toList = q
        rcases l with _ | ⟨x, _ | ⟨y, _ | ⟨z, l⟩⟩⟩ <;> (try rfl)
        rcases q with _ | ⟨t, _ | ⟨u, _ | ⟨z, q⟩⟩⟩ <;> (try rfl)
        simp only [ha x (by simp), ha y (by simp)]
      case max =>
        generalize c.args.toList = l at ha ⊢
        rcases l with _ | ⟨x, _ | ⟨y, _ | ⟨z, l⟩⟩⟩ <;> (try rfl)
        simp only [ha x (by simp), ha y (by simp)]
      case min =>
        generalize c.args.toList = l at ha ⊢
        rcases l with _ | ⟨x, _ | ⟨y, _ | ⟨z, l⟩⟩⟩ <;> (try rfl)
        simp only [ha x (by simp), ha y (by simp)]
  case makeMap t r => cases r <;> rfl
end Go.Ab
