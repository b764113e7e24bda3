import Derived.Test.YtimidokohhiacaaAbForget
/- A region that draws its order, of what computes and loads alone: the text's order, cut anywhere. -/
namespace Go.Ab
open Go.RowKit
set_option linter.unusedVariables false
set_option linter.unusedSimpArgs false
variable {P : Program} {mu : Nat → Bool} {T : Tbl} {N m : Nat} {K : Kon} {c : Code} {G : Env → St → Res}
def quiet (P : Program) (mu : Nat → Bool) (ops : Array Oper) : Bool := ops.toList.all fun o => cls P mu o != 2
/-! Regions where each load has an order with each operation that may write. -/
/-- An operation, then; what may write does not panic. -/
def stepN (P : Program) (mu : Nat → Bool) (T : Tbl) (al : Bool) (o : Oper) (env : Env) (st : St) (K : V → St → Res) : Res := if cls P mu o == 2 then A.noPx al (aop P mu T o env st kid) K else aop P mu T o env st K
def aopsN (P : Program) (mu : Nat → Bool) (T : Tbl) (m : Nat) (ops : Array Oper) (B : List Nat) : List Nat → Env → St → (Env → St → Res) → Res
  | [], env, st, K => K env st
  | i :: rest, env, st, K =>
    match ops[i]? with
    | none => none
    | some o =>
      match o.guard with
      | none => stepN P mu T (allow B ops.size i) o env st fun v st => aopsN P mu T m ops B rest (putV m env o.dst v) st K
      | some (j, want) =>
        match (ops[j]?).bind (·.dst) with
        | none => none
        | some d => cond ((ops[j]?).bind (·.guard)).isSome (A.guardT (env d) want (stepN P mu T (allow B ops.size i) o (putV m env (some d) (.bool want)) st fun v st => aopsN P mu T m ops B rest (putV m (putV m env (some d) (.bool want)) o.dst v) st K) (aopsN P mu T m ops B rest (putV m (putV m env (some d) (.bool !want)) o.dst (.tup [])) st K) (aopsN P mu T m ops B rest (putV m env o.dst (.tup [])) st K)) (A.guard (env d) want (stepN P mu T (allow B ops.size i) o (putV m env (some d) (.bool want)) st fun v st => aopsN P mu T m ops B rest (putV m (putV m env (some d) (.bool want)) o.dst v) st K) (aopsN P mu T m ops B rest (putV m (putV m env (some d) (.bool !want)) o.dst (.tup [])) st K))
theorem aopsN_app {ops : Array Oper} {B : List Nat} : ∀ (l1 l2 : List Nat) (env : Env) (st : St) (K : Env → St → Res), aopsN P mu T m ops B (l1 ++ l2) env st K = aopsN P mu T m ops B l1 env st (fun env st => aopsN P mu T m ops B l2 env st K)
  | [], l2, env, st, K => rfl
  | i :: l1, l2, env, st, K => by
    have ih : ∀ env st, aopsN P mu T m ops B (l1 ++ l2) env st K = aopsN P mu T m ops B l1 env st (fun env st => aopsN P mu T m ops B l2 env st K) := fun env st => aopsN_app l1 l2 env st K
    rw [List.cons_append]
    simp only [aopsN, ih]
def clsAt (P : Program) (mu : Nat → Bool) (ops : Array Oper) (i : Nat) : Nat := match ops[i]? with | some o => cls P mu o | none => 0
def calm (P : Program) (mu : Nat → Bool) (ops : Array Oper) (B : List Nat) : Bool :=
  (List.range ops.size).all fun j => (List.range j).all fun i => !((clsAt P mu ops i == 1 && clsAt P mu ops j == 2) || (clsAt P mu ops i == 2 && clsAt P mu ops j == 1)) || ord B i j
theorem chkL_calm {B : List Nat} {i : Nat} {st : St} {k : Res} : ∀ {L : List Ld}, (∀ x ∈ L, ord B x.i i = true) → chkL B i st L k = k
  | [], _ => rfl
  | x :: L, h => by
    unfold chkL
    rw [if_pos (h x (by simp))]
    exact chkL_calm fun y hy => h y (List.mem_cons_of_mem _ hy)
theorem chkH_calm {B : List Nat} {i n : Nat} {ag : Bool} {p v : V} {k : Res} : ∀ {H : List (Nat × St)}, (∀ y ∈ H, ord B y.1 i = true) → chkH B i ag n p v H k = k
  | [], _ => rfl
  | (j, s) :: H, h => by
    unfold chkH
    rw [if_pos (h (j, s) (by simp))]
    exact chkH_calm fun y hy => h y (List.mem_cons_of_mem _ hy)
theorem aregL_calm {ops : Array Oper} {B : List Nat} {K : Env → St → Res} (hq : calm P mu ops B = true) : ∀ (n i : Nat) (env : Env) (st : St) (L : List Ld) (H : List (Nat × St)), (∀ x ∈ L, x.i < i ∧ clsAt P mu ops x.i = 1) → (∀ y ∈ H, y.1 < i ∧ clsAt P mu ops y.1 = 2) →
    aregL P mu T m ops B K (List.range' i n) env st L H = aopsN P mu T m ops B (List.range' i n) env st K
  | 0, i, env, st, L, H, _, _ => rfl
  | n + 1, i, env, st, L, H, hL, hH => by
    have ih := fun env st L H => aregL_calm (K := K) hq n (i + 1) env st L H
    rw [List.range'_succ]
    unfold aregL aopsN
    cases ho : ops[i]? with
    | none => dsimp only
    | some o =>
      have hi : i < ops.size := (Array.getElem?_eq_some_iff.mp ho).1
      have hci : clsAt P mu ops i = cls P mu o := by unfold clsAt; rw [ho]
      have cal : ∀ j, j < i → ((clsAt P mu ops j = 1 ∧ cls P mu o = 2) ∨ (clsAt P mu ops j = 2 ∧ cls P mu o = 1)) → ord B j i = true := by
        intro j hj hc
        have h1 := List.all_eq_true.1 hq i (List.mem_range.2 hi)
        have h2 := List.all_eq_true.1 h1 j (List.mem_range.2 hj)
        rw [hci] at h2
        simp only [Bool.or_eq_true, Bool.not_eq_true', Bool.or_eq_false_iff, Bool.and_eq_false_iff, beq_eq_false_iff_ne] at h2
        rcases h2 with g | g
        · rcases hc with ⟨c1, c2⟩ | ⟨c1, c2⟩ <;> simp [c1, c2] at g
        · exact g
      have hL1 : ∀ x ∈ L, x.i < i + 1 ∧ clsAt P mu ops x.i = 1 := fun x hx => ⟨by have := (hL x hx).1; omega, (hL x hx).2⟩
      have hH1 : ∀ y ∈ H, y.1 < i + 1 ∧ clsAt P mu ops y.1 = 2 := fun y hy => ⟨by have := (hH y hy).1; omega, (hH y hy).2⟩
      have run : ∀ env, (match cls P mu o with
          | 0 => aop P mu T o env st fun v _ => aregL P mu T m ops B K (List.range' (i + 1) n) (putV m env o.dst v) st L H
          | 1 => (match loadOf P env o with
            | some (ag, n', p) => A.load ag n' p st fun v _ => chkH B i ag n' p v H (aregL P mu T m ops B K (List.range' (i + 1) n) (putV m env o.dst v) st (⟨i, ag, n', p, v⟩ :: L) H)
            | none => none)
          | _ => A.noPx (allow B ops.size i) (aop P mu T o env st kid) fun v st' => chkL B i st' L (aregL P mu T m ops B K (List.range' (i + 1) n) (putV m env o.dst v) st' L ((i, st) :: H))) = stepN P mu T (allow B ops.size i) o env st fun v st => aopsN P mu T m ops B (List.range' (i + 1) n) (putV m env o.dst v) st K := by
        intro env
        unfold stepN
        rcases cls_le (P := P) (mu := mu) o with h | h | h
        · rw [h]
          obtain ⟨f, hf, he⟩ := aop_pure (P := P) (mu := mu) (T := T) (env := env) h
          have e : ((0 : Nat) == 2) = false := rfl
          simp only [he, e, Bool.false_eq_true, if_false]
          congr 1; funext v
          exact ih _ _ _ _ hL1 hH1
        · rw [h]
          have e : ((1 : Nat) == 2) = false := rfl
          simp only [e, Bool.false_eq_true, if_false]
          have hl : ∃ t a, o.op = .load t a := by
            have h' := h
            unfold cls at h'
            cases hop : o.op <;> simp only [hop] at h' <;> first
              | exact ⟨_, _, rfl⟩
              | (exact absurd h' (by decide))
              | (split at h' <;> first | (exact absurd h' (by decide)) | (split at h' <;> first | (exact absurd h' (by decide)) | (split at h' <;> exact absurd h' (by decide))))
          obtain ⟨t, a, hop⟩ := hl
          unfold loadOf aop
          simp only [hop]
          by_cases hk : known P t = true
          · rw [if_pos hk, if_pos hk]
            cases hv : opV env a with
            | none => rfl
            | some p =>
              obtain ⟨f, hf, he⟩ := load_pu (isAg P t) (P.cellsOf t) p st
              simp only [ob, he]
              congr 1; funext v
              rw [chkH_calm (fun y hy => cal y.1 (hH y hy).1 (.inr ⟨(hH y hy).2, h⟩))]
              refine ih _ _ _ _ (fun x hx => ?_) hH1
              rcases List.mem_cons.1 hx with g | g
              · rw [g]; exact ⟨by simp, by rw [show (⟨i, isAg P t, P.cellsOf t, p, v⟩ : Ld).i = i from rfl, hci, h]⟩
              · exact hL1 x g
          · rw [if_neg hk, if_neg hk]
        · rw [h]
          have e : ((2 : Nat) == 2) = true := rfl
          simp only [e, if_true]
          congr 1; funext v st'
          rw [chkL_calm (fun x hx => cal x.i (hL x hx).1 (.inl ⟨(hL x hx).2, h⟩))]
          refine ih _ _ _ _ hL1 (fun y hy => ?_)
          rcases List.mem_cons.1 hy with g | g
          · rw [g]; exact ⟨by simp, by rw [show ((i, st) : Nat × St).1 = i from rfl, hci, h]⟩
          · exact hH1 y g
      dsimp only
      cases hg : o.guard with
      | none => dsimp only; exact run env
      | some jw =>
        obtain ⟨j, want⟩ := jw
        dsimp only
        cases hd : (ops[j]?).bind (·.dst) with
        | none => dsimp only
        | some d => dsimp only; rw [ih _ _ _ _ hL1 hH1, ih _ _ _ _ hL1 hH1]; exact congrArg (fun x => cond ((ops[j]?).bind (·.guard)).isSome (A.guardT (env d) want x (aopsN P mu T m ops B (List.range' (i + 1) n) (putV m (putV m env (some d) (.bool !want)) o.dst (.tup [])) st K) (aopsN P mu T m ops B (List.range' (i + 1) n) (putV m env o.dst (.tup [])) st K)) (A.guard (env d) want x (aopsN P mu T m ops B (List.range' (i + 1) n) (putV m (putV m env (some d) (.bool !want)) o.dst (.tup [])) st K))) (run (putV m env (some d) (.bool want)))
theorem areg_calm {ops : Array Oper} (hok : regOk P mu ops (befs ops.toList []) = true) (hq : calm P mu ops (befs ops.toList []) = true) (env : Env) (st : St) (K : Env → St → Res) : areg P mu T m ops env st K = aopsN P mu T m ops (befs ops.toList []) (List.range ops.size) env st K := by
  unfold areg
  rw [if_pos hok, List.range_eq_range']
  exact aregL_calm hq _ 0 env st [] [] (by simp) (by simp)
theorem reg_cutN {id : Nat} {ops : Array Oper} {l1 l2 : List Nat} (hc : c = .region id ops true) (hok : regOk P mu ops (befs ops.toList []) = true) (hq : calm P mu ops (befs ops.toList []) = true) (hl : List.range ops.size = l1 ++ l2) (h : (fun env st => aopsN P mu T m ops (befs ops.toList []) l2 env st (K .normal)) = G) :
    aexec P mu T N m (areg P mu T m) c K = fun env st => aopsN P mu T m ops (befs ops.toList []) l1 env st G := by
  subst hc; subst h
  funext env st
  show (if true then areg P mu T m ops env st (K .normal) else _) = _
  rw [if_pos rfl, areg_calm hok hq, hl]
  exact aopsN_app l1 l2 env st _
end Go.Ab
