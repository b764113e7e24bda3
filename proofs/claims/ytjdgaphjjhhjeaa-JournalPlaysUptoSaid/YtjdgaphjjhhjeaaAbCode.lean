import Derived.Test.YtjdgaphjjhhjeaaAbExec
import Derived.LoopN
/- Regions, code, functions. -/
namespace Go.Ab
open Go.RowKit
set_option linter.unusedVariables false
set_option linter.unusedSimpArgs false

def putV (m : Nat) (env : Env) (d : Option Tmp) (v : V) : Env := match d with | some d => (if d < m then (fun j => bif Nat.beq j d then v else env j) else env) | none => env
theorem putV_at {m d t : Nat} {env : Env} {v : V} : putV m env (some d) v t = if d < m ∧ t = d then v else env t := by
  unfold putV
  by_cases h : d < m
  · simp only [h, if_true, true_and]
    by_cases ht : t = d
    · subst ht; simp
    · have : Nat.beq t d = false := by cases hb : Nat.beq t d with | false => rfl | true => exact absurd (Nat.eq_of_beq_eq_true hb) ht
      simp [this, ht]
  · simp [h]
theorem putV_self {m d : Nat} {env : Env} {v : V} (h : env d = v) : putV m env (some d) v = env := by
  funext t
  rw [putV_at]
  split
  · rename_i h1; rw [h1.2]; exact h.symm
  · rfl
theorem putV_sound {m : Nat} {e : E} {env : Env} {a : Act} {v : V} {v' : Value} (he : EnvR m e env a.tmps) (d : Option Tmp) (hv : Rs e [v] [v']) : EnvR m e (putV m env d v) (a.put d v').tmps := by
  cases d with
  | none => exact he
  | some d =>
    refine ⟨by simp only [Act.put, Array.size_setIfInBounds]; exact he.1, fun t => ?_⟩
    rw [putV_at]
    simp only [Act.put, Array.getD_eq_getD_getElem?, Array.getElem?_setIfInBounds]
    by_cases ht : t = d
    · subst ht
      by_cases hm : t < m
      · rw [if_pos ⟨hm, rfl⟩, if_pos rfl, if_pos (by rw [he.1]; exact hm)]; exact hv
      · rw [if_neg (fun h => hm h.1), if_pos rfl, if_neg (by rw [he.1]; exact hm)]
        have := he.2 t
        rw [Array.getD_eq_getD_getElem?, Array.getElem?_eq_none (by rw [he.1]; omega)] at this
        exact this
    · rw [if_neg (fun h => ht h.2), if_neg (Ne.symm ht)]
      have := he.2 t
      rw [Array.getD_eq_getD_getElem?] at this; exact this

/-- A region's operations, one behind the other. -/
def aops (P : Program) (mu : Nat → Bool) (T : Tbl) (m : Nat) (ops : Array Oper) : List Nat → Env → St → (Env → St → Res) → Res
  | [], env, st, K => K env st
  | i :: rest, env, st, K =>
    match ops[i]? with
    | none => none
    | some o =>
      match o.guard with
      | none => aop P mu T o env st fun v st => aops P mu T m ops rest (putV m env o.dst v) st K
      | some (j, want) =>
        match (ops[j]?).bind (·.dst) with
        | none => none
        | some d => cond ((ops[j]?).bind (·.guard)).isSome (A.guardT (env d) want (aop P mu T o (putV m env (some d) (.bool want)) st fun v st => aops P mu T m ops rest (putV m (putV m env (some d) (.bool want)) o.dst v) st K) (aops P mu T m ops rest (putV m (putV m env (some d) (.bool !want)) o.dst (.tup [])) st K) (aops P mu T m ops rest (putV m env o.dst (.tup [])) st K)) (A.guard (env d) want (aop P mu T o (putV m env (some d) (.bool want)) st fun v st => aops P mu T m ops rest (putV m (putV m env (some d) (.bool want)) o.dst v) st K) (aops P mu T m ops rest (putV m (putV m env (some d) (.bool !want)) o.dst (.tup [])) st K))

inductive Ex where
  | normal
  | exit (id : Nat)
  | ret

abbrev Kon := Ex → Env → St → Res
def kSeq (c : Env → St → Res) (K : Kon) : Kon := fun ex env st => match ex with | .normal => c env st | .exit i => K (.exit i) env st | .ret => K .ret env st
def kBlk (id : Nat) (K : Kon) : Kon := fun ex env st => match ex with | .normal => K .normal env st | .exit i => if i = id then K .normal env st else K (.exit i) env st | .ret => K .ret env st

def aloop (body : Kon → Env → St → Res) (K : Kon) : Nat → Env → St → Res
  | 0, _, _ => none
  | n + 1, env, st => body (kSeq (aloop body K n) K) env st

/-- How a region that draws its order is run. -/
abbrev Rg := Array Oper → Env → St → (Env → St → Res) → Res

def aexec (P : Program) (mu : Nat → Bool) (T : Tbl) (N m : Nat) (R : Rg) : Code → Kon → Env → St → Res
  | .skip, K, env, st => K .normal env st
  | .region _ ops draw, K, env, st => if draw then R ops env st (K .normal) else aops P mu T m ops (List.range ops.size) env st (K .normal)
  | .seq x y, K, env, st => aexec P mu T N m R x (kSeq (aexec P mu T N m R y K) K) env st
  | .cond c x y, K, env, st => ob (opV env c) fun c => A.cond c (aexec P mu T N m R x K env st) (aexec P mu T N m R y K env st)
  | .block id x, K, env, st => aexec P mu T N m R x (kBlk id K) env st
  | .loop x, K, env, st => aloop (aexec P mu T N m R x) K N env st
  | .exit id, K, env, st => K (.exit id) env st
  | .label _, K, env, st => K .normal env st
  | .ret, K, env, st => K .ret env st
  | _, _, _, _ => none

/-- The results. -/
def aresV (P : Program) (env : Env) (st : St) : List ResultVar → Option (List V)
  | [] => some []
  | .tmp t :: rest => (match aresV P env st rest with | some l => some ((env t).er1 :: l) | none => none)
  | .cell a t :: rest => if known P t then (match A.load (isAg P t) (P.cellsOf t) (env a) st (fun v st => some (.ret v, st)), aresV P env st rest with | some (.ret v, _), some l => some (v.er1 :: l) | _, _ => none) else none
def aresK (P : Program) (rs : List ResultVar) (ex : Ex) (env : Env) (st : St) : Res :=
  match ex with
  | .exit _ => none
  | _ => (match aresV P env st rs with
    | some [v] => some (.ret v, st)
    | some l => some (.ret (.tup l), st)
    | none => none)

/-- A function. -/
def afn (P : Program) (mu : Nat → Bool) (T : Tbl) (N : Nat) (R : Nat → Rg) (f : FuncId) : Fn := fun args st =>
  match P.funcs[f]? with
  | some fn => (match fn.body with
    | some c => if args.length ≤ fn.ntmps then aexec P mu T N fn.ntmps (R fn.ntmps) c (aresK P fn.results.toList) (fun t => args.getD t (.tup [])) st else none
    | none => none)
  | none => none

variable {P : Program} {W0 : World} {B : Nat} {r : Out × St} {Q : Exit → Act → World → Prop}

/-- What a frame keeps: its deferred calls, and what some slots hold. -/
structure Fr where
  ds : List Deferred
  F : Nat → Bool
  tm : Nat → Value
def InF (fr : Fr) (a : Act) : Prop := a.defers = fr.ds ∧ ∀ t, fr.F t = true → a.tmps.getD t undef = fr.tm t
def noD (F : Nat → Bool) (o : Oper) : Bool := match o.dst with | some d => !(F d) | none => true
/-- Code writes none of these slots. -/
def noW (F : Nat → Bool) : Code → Bool
  | .region _ ops _ => ops.toList.all (noD F)
  | .seq x y => noW F x && noW F y
  | .cond _ x y => noW F x && noW F y
  | .block _ x => noW F x
  | .loop x => noW F x
  | _ => true
theorem noD_false (o : Oper) : noD (fun _ => false) o = true := by unfold noD; split <;> rfl
theorem noW_false : ∀ c : Code, noW (fun _ => false) c = true
  | .region _ ops _ => List.all_eq_true.2 fun o _ => noD_false o
  | .seq x y => by rw [noW, noW_false x, noW_false y]; rfl
  | .cond _ x y => by rw [noW, noW_false x, noW_false y]; rfl
  | .block _ x => by rw [noW, noW_false x]
  | .loop x => by rw [noW, noW_false x]
  | .skip | .label _ | .exit _ | .ret | .rangeFunc _ _ _ _ | .scope _ | .goto _ | .refuse _ => rfl
theorem InF.put {fr : Fr} {a : Act} (h : InF fr a) {o : Oper} (ho : noD fr.F o = true) (v : Value) : InF fr (a.put o.dst v) := by
  cases hd : o.dst with
  | none => exact h
  | some d =>
    refine ⟨h.1, fun t ht => ?_⟩
    have hne : d ≠ t := by
      rintro rfl
      unfold noD at ho
      rw [hd] at ho
      simp only [ht, Bool.not_true] at ho
      cases ho
    rw [← h.2 t ht]
    simp only [Act.put, Array.getD_eq_getD_getElem?, Array.getElem?_setIfInBounds, if_neg hne]
theorem noD_at {F : Nat → Bool} {ops : Array Oper} (h : ops.toList.all (noD F) = true) {i : Nat} {o : Oper} (ho : ops[i]? = some o) : noD F o = true := by
  refine List.all_eq_true.1 h o ?_
  have := Array.mem_of_getElem? ho
  simpa using this

/-- What a continuation owes. -/
def Owes (m : Nat) (W0 : World) (B : Nat) (e : E) (r : Out × St) (fr : Fr) (K : Kon) (Q : Exit → Act → World → Prop) : Prop :=
  ∀ ex env' e' a', K ex env' e'.st = some r → Ext e e' → Rel W0 B e' → EnvR m e' env' a'.tmps → InF fr a' → Q (match ex with | .normal => .normal | .exit i => .exit i | .ret => .ret) a' e'.w
def OwesP (W0 : World) (B : Nat) (e : E) (r : Out × St) (fr : Fr) (Q : Exit → Act → World → Prop) : Prop :=
  ∀ p p' e' a', r = (.panic p, e'.st) → Ext e e' → Rel W0 B e' → Rs e' [p] [p'] → InF fr a' → Q (.panic [{ v := p', recovered := false }]) a' e'.w
theorem Owes.step {e e1 : E} {fr : Fr} {K : Kon} {m : Nat} (h : Owes m W0 B e r fr K Q) (x : Ext e e1) : Owes m W0 B e1 r fr K Q :=
  fun ex env' e' a' h1 h2 => h ex env' e' a' h1 (x.trans h2)
theorem OwesP.step {e e1 : E} {fr : Fr} (h : OwesP W0 B e r fr Q) (x : Ext e e1) : OwesP W0 B e1 r fr Q :=
  fun p p' e' a' h1 h2 => h p p' e' a' h1 (x.trans h2)

theorem yielded_tup {m : Nat} {e : E} {env : Env} {a : Act} {ops : Array Oper} {j d : Nat} {l : List V} (he : EnvR m e env a.tmps) (hd : (ops[j]?).bind (·.dst) = some d) (hb : env d = .tup l) : yielded ops a.tmps j = none := by
  have hx := opV_sound (x := .tmp d) he rfl
  rw [hb] at hx
  have hx2 : ∃ A, a.tmps.getD d undef = .tuple A := by
    simp only [Act.eval] at hx
    generalize a.tmps.getD d undef = q at hx
    cases hx with | tup cs A h1 _ => exact ⟨A, rfl⟩
  obtain ⟨A, hx2⟩ := hx2
  unfold yielded
  rw [hd]
  simp only [Option.bind_some]
  rw [Array.getD_eq_getD_getElem?] at hx2
  cases hq : a.tmps[d]? with
  | none => rfl
  | some q => rw [hq] at hx2; simp at hx2; rw [hx2]
theorem aops_sound {mu : Nat → Bool} {T : Tbl} (hT : SimT P T) {m : Nat} {ops : Array Oper} {fr : Fr} (hW : ops.toList.all (noD fr.F) = true) : ∀ (l : List Nat) (env : Env) (e : E) (a : Act) (K : Env → St → Res), aops P mu T m ops l env e.st K = some r → Rel W0 B e → EnvR m e env a.tmps → InF fr a →
    (∀ env' e' a', K env' e'.st = some r → Ext e e' → Rel W0 B e' → EnvR m e' env' a'.tmps → InF fr a' → Q .normal a' e'.w) → OwesP W0 B e r fr Q → wpOps P ops Q l a e.w
  | [], env, e, a, K, h, hr, he, hI, hK, hP => hK env e a h (Ext.refl e) hr he hI
  | i :: rest, env, e, a, K, h, hr, he, hI, hK, hP => by
    unfold aops at h
    unfold wpOps
    split at h
    · cases h
    · rename_i o ho
      simp only [ho]
      have run : (aop P mu T o env e.st fun v st => aops P mu T m ops rest (putV m env o.dst v) st K) = some r → o.wp P a e.w (wpOps P ops Q rest) Q := by
        intro h
        refine aop_sound hT h hr he ?_ ?_
        · intro v v' e' h1 h2 h3 h4
          exact aops_sound hT hW rest _ e' _ K h1 h3 (putV_sound (he.mono h2) o.dst h4) (hI.put (noD_at hW ho) _) (fun env' e2 a' q1 q2 q3 q4 q5 => hK env' e2 a' q1 (h2.trans q2) q3 q4 q5) (hP.step h2)
        · intro p p' e' h1 h2 h3 h4
          exact hP p p' e' a h1 h2 h3 h4 hI
      split at h
      · rename_i hg
        have hw : Region.wanted o (yielded ops a.tmps) = true := by simp [Region.wanted, hg]
        rw [if_pos hw]
        exact .inl (run h)
      · rename_i j want hg
        split at h
        · cases h
        · rename_i d hd
          rcases guardT_some h with ⟨b, hb, h⟩ | ⟨l, hb, h⟩
          · -- the guard's value
            have hy : yielded ops a.tmps j = some b := by
              have hx := opV_sound (x := .tmp d) he rfl
              rw [hb] at hx
              have hx2 : a.tmps.getD d undef = .bool b := by
                simp only [Act.eval] at hx
                generalize a.tmps.getD d undef = q at hx
                cases hx; rfl
              unfold yielded
              rw [hd]
              simp only [Option.bind_some]
              have : a.tmps[d]? = some (.bool b) := by
                rw [Array.getD_eq_getD_getElem?] at hx2
                cases hq : a.tmps[d]? with
                | none => rw [hq] at hx2; cases hx2
                | some q => rw [hq] at hx2; simp at hx2; rw [hx2]
              rw [this]
            by_cases hbw : (b == want) = true
            · rw [if_pos hbw, putV_self (by rw [hb, (beq_iff_eq.mp hbw)])] at h
              have hw : Region.wanted o (yielded ops a.tmps) = true := by
                simp only [Region.wanted, hg, hy]; simpa using hbw
              rw [if_pos hw]
              exact .inl (run h)
            · rw [if_neg hbw, putV_self (by rw [hb]; congr 1; cases b <;> cases want <;> simp_all)] at h
              have hw : ¬ (Region.wanted o (yielded ops a.tmps) = true) := by
                simp only [Region.wanted, hg, hy]; simpa using hbw
              rw [if_neg hw]
              exact aops_sound hT hW rest _ e _ K h hr (putV_sound he o.dst (.tup [] #[] .nil .nil)) (hI.put (noD_at hW ho) _) (fun env' e2 a' q1 q2 q3 q4 q5 => hK env' e2 a' q1 q2 q3 q4 q5) hP
          · have hw : ¬ (Region.wanted o (yielded ops a.tmps) = true) := by
              simp only [Region.wanted, hg, yielded_tup he hd hb]; exact Bool.false_ne_true
            rw [if_neg hw]
            exact aops_sound hT hW rest _ e _ K h hr (putV_sound he o.dst (.tup [] #[] .nil .nil)) (hI.put (noD_at hW ho) _) (fun env' e2 a' q1 q2 q3 q4 q5 => hK env' e2 a' q1 q2 q3 q4 q5) hP

/-- A region that draws its order is sound. -/
def SoundR (P : Program) (m : Nat) (R : Rg) : Prop :=
  ∀ (W0 : World) (B : Nat) (r : Out × St) (Q : Exit → Act → World → Prop) (id : Nat) (ops : Array Oper) (env : Env) (e : E) (a : Act) (K : Env → St → Res) (fr : Fr), ops.toList.all (noD fr.F) = true → R ops env e.st K = some r → Rel W0 B e → EnvR m e env a.tmps → InF fr a →
    (∀ env' e' a', K env' e'.st = some r → Ext e e' → Rel W0 B e' → EnvR m e' env' a'.tmps → InF fr a' → Q .normal a' e'.w) → OwesP W0 B e r fr Q → (Code.region id ops true).wp P Q a e.w

/-- What a post says of ways out: those of 'Owes' and 'OwesP' alone are told. -/
theorem aexec_sound {mu : Nat → Bool} {T : Tbl} (hT : SimT P T) {N m : Nat} {R : Rg} (hR : SoundR P m R) {fr : Fr} : ∀ (c : Code) (_ : noW fr.F c = true) (Q : Exit → Act → World → Prop) (env : Env) (e : E) (a : Act) (K : Kon), aexec P mu T N m R c K env e.st = some r → Rel W0 B e → EnvR m e env a.tmps → InF fr a → Owes m W0 B e r fr K Q → OwesP W0 B e r fr Q → c.wp P Q a e.w
  | .skip, _, Q, env, e, a, K, h, hr, he, hI, hK, hP => wp_skip (hK .normal env e a h (Ext.refl e) hr he hI)
  | .label l, _, Q, env, e, a, K, h, hr, he, hI, hK, hP => wp_label (hK .normal env e a h (Ext.refl e) hr he hI)
  | .exit id, _, Q, env, e, a, K, h, hr, he, hI, hK, hP => wp_exit (hK (.exit id) env e a h (Ext.refl e) hr he hI)
  | .ret, _, Q, env, e, a, K, h, hr, he, hI, hK, hP => wp_ret (hK .ret env e a h (Ext.refl e) hr he hI)
  | .region id ops draw, hW, Q, env, e, a, K, h, hr, he, hI, hK, hP => by
    unfold aexec at h
    cases draw with
    | true => exact hR W0 B r Q id ops env e a _ fr hW (by simpa using h) hr he hI (fun env' e' a' h1 h2 h3 h4 h5 => hK .normal env' e' a' h1 h2 h3 h4 h5) hP
    | false => exact wp_region (aops_sound hT hW _ env e a _ (by simpa using h) hr he hI (fun env' e' a' h1 h2 h3 h4 h5 => hK .normal env' e' a' h1 h2 h3 h4 h5) hP)
  | .seq x y, hW, Q, env, e, a, K, h, hr, he, hI, hK, hP => by
    unfold aexec at h
    rw [noW, Bool.and_eq_true] at hW
    refine wp_seq (aexec_sound hT hR x hW.1 _ env e a _ h hr he hI ?_ ?_)
    · intro ex env' e' a' h1 h2 h3 h4 h5
      cases ex with
      | normal => exact aexec_sound hT hR y hW.2 Q env' e' a' K h1 h3 h4 h5 (hK.step h2) (hP.step h2)
      | exit i => exact hK (.exit i) env' e' a' h1 h2 h3 h4 h5
      | ret => exact hK .ret env' e' a' h1 h2 h3 h4 h5
    · intro p p' e' a' h1 h2 h3 h4 h5
      exact hP p p' e' a' h1 h2 h3 h4 h5
  | .cond c x y, hW, Q, env, e, a, K, h, hr, he, hI, hK, hP => by
    unfold aexec at h
    obtain ⟨v, h1, h⟩ := ob_some h
    have hv := opV_sound he h1
    rw [noW, Bool.and_eq_true] at hW
    unfold A.cond at h
    split at h
    · have : a.eval c = .bool true := by generalize a.eval c = q at hv; cases hv; rfl
      exact wp_cond_true this (aexec_sound hT hR x hW.1 Q env e a K h hr he hI hK hP)
    · have : a.eval c = .bool false := by generalize a.eval c = q at hv; cases hv; rfl
      exact wp_cond_false this (aexec_sound hT hR y hW.2 Q env e a K h hr he hI hK hP)
    · cases h
  | .block id x, hW, Q, env, e, a, K, h, hr, he, hI, hK, hP => by
    unfold aexec at h
    refine wp_block (aexec_sound hT hR x (by simpa only [noW] using hW) _ env e a _ h hr he hI ?_ ?_)
    · intro ex env' e' a' h1 h2 h3 h4 h5
      cases ex with
      | normal => exact hK .normal env' e' a' h1 h2 h3 h4 h5
      | exit i =>
        show (if i = id then _ else _)
        by_cases hi : i = id
        · rw [if_pos hi]
          exact hK .normal env' e' a' (by simpa [kBlk, hi] using h1) h2 h3 h4 h5
        · rw [if_neg hi]
          exact hK (.exit i) env' e' a' (by simpa [kBlk, hi] using h1) h2 h3 h4 h5
      | ret => exact hK .ret env' e' a' h1 h2 h3 h4 h5
    · intro p p' e' a' h1 h2 h3 h4 h5
      exact hP p p' e' a' h1 h2 h3 h4 h5
  | .loop x, hW, Q, env, e, a, K, h, hr, he, hI, hK, hP => by
    unfold aexec at h
    refine wp_loop_rounds N ?_
    have key : ∀ (n : Nat) (env : Env) (e : E) (a : Act), aloop (aexec P mu T N m R x) K n env e.st = some r → Rel W0 B e → EnvR m e env a.tmps → InF fr a → Owes m W0 B e r fr K Q → OwesP W0 B e r fr Q → Code.rounds P x Q n a e.w := by
      intro n
      induction n with
      | zero => intro env e a h; cases h
      | succ n ih =>
        intro env e a h hr he hI hK hP
        rw [rounds_succ]
        unfold aloop at h
        refine aexec_sound hT hR x (by simpa only [noW] using hW) _ env e a _ h hr he hI ?_ ?_
        · intro ex env' e' a' h1 h2 h3 h4 h5
          cases ex with
          | normal => exact ih env' e' a' h1 h3 h4 h5 (hK.step h2) (hP.step h2)
          | exit i => exact hK (.exit i) env' e' a' h1 h2 h3 h4 h5
          | ret => exact hK .ret env' e' a' h1 h2 h3 h4 h5
        · intro p p' e' a' h1 h2 h3 h4 h5
          exact hP p p' e' a' h1 h2 h3 h4 h5
    exact key N env e a h hr he hI hK hP
  | .rangeFunc _ _ _ _, _, _, _, _, _, _, h, _, _, _, _, _ => by cases h
  | .scope _, _, _, _, _, _, _, h, _, _, _, _, _ => by cases h
  | .goto _, _, _, _, _, _, _, h, _, _, _, _, _ => by cases h
  | .refuse _, _, _, _, _, _, _, h, _, _, _, _, _ => by cases h

def resOne (tmps : Array Value) : ResultVar → Sem Value
  | .tmp t => Pure.pure (tmps.getD t undef)
  | .cell a t => do loadVar t (← asAddr (tmps.getD a undef))
theorem results_eq (fn : Func) (tmps : Array Value) : results fn tmps = (do let vs ← fn.results.mapM (resOne tmps); Pure.pure (if h : vs.size = 1 then vs[0] else .tuple vs)) := by
  unfold results
  congr 2

/-- The results are read. -/
theorem aresV_sound {m : Nat} {e : E} (hr : Rel W0 B e) {env : Env} {tmps : Array Value} (he : EnvR m e env tmps) : ∀ (rs : List ResultVar) (l : List V), aresV P env e.st rs = some l →
    ∃ ws : List Value, (rs.mapM (resOne tmps)).run P e.w = .ok ws e.w ∧ Rs e l ws
  | [], l, h => by cases h; exact ⟨[], by simp, .nil⟩
  | .tmp t :: rest, l, h => by
    unfold aresV at h
    split at h
    · rename_i l0 hl0
      cases h
      obtain ⟨ws, g1, g2⟩ := aresV_sound hr he rest l0 hl0
      have hx : Rs e [env t] [tmps.getD t undef] := opV_sound (m := m) (a := ⟨tmps, []⟩) (x := .tmp t) he rfl
      refine ⟨tmps.getD t undef :: ws, ?_, Rs.cons hx.er1 g2⟩
      simp only [List.mapM_cons, resOne, Sem.run_bind, Sem.run_pure, Result.andThen, g1]
    · cases h
  | .cell a t :: rest, l, h => by
    unfold aresV at h
    split at h
    · rename_i hk
      split at h
      · rename_i v st' l0 hv hl0
        cases h
        obtain ⟨ws, g1, g2⟩ := aresV_sound hr he rest l0 hl0
        have hx : Rs e [env a] [tmps.getD a undef] := opV_sound (m := m) (a := ⟨tmps, []⟩) (x := .tmp a) he rfl
        obtain ⟨v1, v', q1, q2, q3⟩ := load_pure (P := P) (e := e) hk hv hr hx
        cases q1
        refine ⟨v' :: ws, ?_, Rs.cons q3.er1 g2⟩
        have hla : (do loadVar t (← asAddr (tmps.getD a undef)) : Sem Value).run P e.w = .ok v' e.w := by
          generalize tmps.getD a undef = q at q2
          cases q with
          | pointer ad => cases ad with
            | none => simp [Instr.loadAt, Instr.sureAddr] at q2
            | some ad => simpa [Instr.loadAt, Instr.sureAddr, asAddr] using q2
          | _ => simp [Instr.loadAt, Instr.sureAddr] at q2
        have hla2 : (resOne tmps (.cell a t)).run P e.w = .ok v' e.w := hla
        rw [List.mapM_cons, Sem.run_bind, hla2]
        simp only [Result.andThen, Sem.run_bind, g1, Sem.run_pure]
      · cases h
    · cases h

theorem aresK_sound {m : Nat} {e : E} {fn : Func} (hr : Rel W0 B e) {env : Env} {tmps : Array Value} (he : EnvR m e env tmps) {ex : Ex} (h : aresK P fn.results.toList ex env e.st = some r) :
    (∀ i, ex ≠ .exit i) ∧ ∃ v v', r = (.ret v, e.st) ∧ (results fn tmps).run P e.w = .ok v' e.w ∧ Rs e [v] [v'] := by
  unfold aresK at h
  have main : ∀ (h : (match aresV P env e.st fn.results.toList with | some [v] => some (Out.ret v, e.st) | some l => some (.ret (.tup l), e.st) | none => none) = some r), ∃ v v', r = (.ret v, e.st) ∧ (results fn tmps).run P e.w = .ok v' e.w ∧ Rs e [v] [v'] := by
    intro h
    cases hl : aresV P env e.st fn.results.toList with
    | none => rw [hl] at h; cases h
    | some l =>
      rw [hl] at h
      obtain ⟨ws, g1, g2⟩ := aresV_sound hr he _ _ hl
      have hrun : (results fn tmps).run P e.w = .ok (if h : ws.toArray.size = 1 then ws.toArray[0] else .tuple ws.toArray) e.w := by
        rw [results_eq]
        simp only [Sem.run_bind, Array.mapM_eq_mapM_toList, Sem.run_map, g1, Result.andThen, Sem.run_pure]
      match l, ws, g2, hrun, h with
      | [v], [w], g2, hrun, h =>
        cases h
        exact ⟨v, w, rfl, by rw [hrun]; rfl, g2⟩
      | [], [], g2, hrun, h =>
        cases h
        exact ⟨.tup [], .tuple #[], rfl, by rw [hrun]; rfl, .tup [] #[] .nil .nil⟩
      | v :: v2 :: vs, w :: w2 :: ws, g2, hrun, h =>
        cases h
        refine ⟨_, .tuple (w :: w2 :: ws).toArray, rfl, ?_, .tup _ _ g2 .nil⟩
        rw [hrun, dif_neg (by simp)]
      | [], _ :: _, g2, _, _ => cases g2
      | _ :: _, [], g2, _, _ => cases g2
      | [_], _ :: _ :: _, g2, _, _ => have := g2.length; simp at this
      | _ :: _ :: _, [_], g2, _, _ => have := g2.length; simp at this
  cases ex with
  | exit i => cases h
  | normal => exact ⟨fun i => by simp, main h⟩
  | ret => exact ⟨fun i => by simp, main h⟩

/-- A Go function does what the abstract machine says. -/
theorem afn_sim {mu : Nat → Bool} {T : Tbl} (hT : SimT P T) {N : Nat} {R : Nat → Rg} (hR : ∀ m, SoundR P m (R m)) (f : FuncId) (hf : okFn P f = true) : Sim P f (afn P mu T N R f) := by
  refine ⟨hf, fun W0 B e args cargs out st' h hr ha => ?_⟩
  unfold afn at h
  split at h
  · rename_i fn hfn
    split at h
    · rename_i c hc
      obtain ⟨hm, h⟩ := if_some h
      refine calls_of_wp hfn hc ?_
      have hlen : args.length = cargs.size := by simpa using ha.length
      have henv : EnvR fn.ntmps e (fun t => args.getD t (.tup [])) (cargs ++ Array.replicate (fn.ntmps - cargs.size) undef) := by
        refine ⟨by simp; omega, fun t => ?_⟩
        simp only [Array.getD_eq_getD_getElem?]
        by_cases ht : t < args.length
        · obtain ⟨w, h1, h2⟩ := ha.get t (List.getElem?_eq_getElem ht)
          have e1 : args.getD t (.tup []) = args[t] := by simp [List.getD, ht]
          rw [e1, Array.getElem?_append_left (by omega)]
          simp only [Array.getElem?_toList] at h1
          rw [h1]; exact h2
        · have e1 : args.getD t (.tup []) = .tup [] := by simp [List.getD, List.getElem?_eq_none (Nat.le_of_not_lt ht)]
          rw [e1, Array.getElem?_append_right (by omega)]
          by_cases h3 : t - cargs.size < fn.ntmps - cargs.size
          · rw [Array.getElem?_replicate, if_pos h3]; exact .tup [] #[] .nil .nil
          · rw [Array.getElem?_replicate, if_neg h3]; exact .tup [] #[] .nil .nil
      refine aexec_sound hT (hR fn.ntmps) (fr := ⟨[], fun _ => false, fun _ => undef⟩) c (noW_false c) _ _ e _ _ h hr henv ⟨rfl, fun t ht => by cases ht⟩ ?_ ?_
      · intro ex env' e' a' h1 h2 h3 h4 h5
        obtain ⟨g0, v, v', g1, g2, g3⟩ := aresK_sound h3 h4 h1
        obtain ⟨g4, g5⟩ : out = .ret v ∧ st' = e'.st := by cases g1; exact ⟨rfl, rfl⟩
        subst g4
        cases ex with
        | exit i => exact absurd rfl (g0 i)
        | normal => exact ⟨h5.1, v', g2, e', g5.symm, rfl, h2, h3, v', rfl, g3⟩
        | ret => exact ⟨h5.1, v', g2, e', g5.symm, rfl, h2, h3, v', rfl, g3⟩
      · intro p p' e' a' h1 h2 h3 h4 h5
        cases h1
        exact ⟨h5.1, e', rfl, rfl, h2, h3, p', rfl, h4⟩
    · cases h
  · cases h
end Go.Ab
