import Derived.Test.YtmbaebedkobijaaAbDraw2
/- The run in the text's order, told. -/
namespace Go.Ab
open Go.RowKit
set_option linter.unusedVariables false
set_option linter.unusedSimpArgs false

theorem load_pu (ag : Bool) (n : Nat) (p : V) (st : St) : ∃ f : (V → Res) → Res, Pu f ∧ ∀ K, A.load ag n p st K = f (fun v => K v st) := by
  unfold A.load
  cases p with
  | ptr id off =>
    cases h : st.ob id with
    | none => exact ⟨_, Pu.none, fun K => by simp only [h]⟩
    | some o => cases o with
      | cells cs =>
        cases hc : (ag && !cs.all V.one) with
        | true => exact ⟨_, Pu.none, fun K => by simp only [h, hc, cond_true]⟩
        | false => exact ⟨_, Pu.part ag n off cs, fun K => by simp only [h, hc, cond_false]⟩
      | map es => exact ⟨_, Pu.none, fun K => by simp only [h]⟩
  | lptr cs => exact ⟨_, Pu.part ag n 0 cs, fun K => rfl⟩
  | _ => exact ⟨_, Pu.none, fun K => rfl⟩
theorem load_ldv {ag : Bool} {n : Nat} {p : V} {st : St} {K : V → St → Res} {r : Out × St} (h : A.load ag n p st K = some r) : ∃ v, ldv ag n p st = some v ∧ K v st = some r := by
  obtain ⟨f, hf, he⟩ := load_pu ag n p st
  rw [he] at h
  obtain ⟨v, h1, h2⟩ := hf _ _ h
  refine ⟨v, ?_, h1⟩
  unfold ldv
  rw [he, h2]; rfl
theorem ldv_load {ag : Bool} {n : Nat} {p : V} {st : St} {v : V} (h : ldv ag n p st = some v) (K : V → St → Res) : A.load ag n p st K = K v st := by
  obtain ⟨f, hf, he⟩ := load_pu ag n p st
  unfold ldv at h
  rw [he] at h ⊢
  cases hk : f (fun v => kid v st) with
  | none => rw [hk] at h; cases h
  | some r =>
    obtain ⟨v', h1, h2⟩ := hf _ _ hk
    rw [hk] at h
    cases h1
    simp only [Option.some.injEq] at h
    subst h
    exact h2 _

theorem chk_some {x : Option V} {v : V} {k : Res} {r : Out × St} (h : A.chk x v k = some r) : x = some v ∧ k = some r := by
  unfold A.chk at h
  split at h
  · rename_i w
    split at h
    · rename_i hb; exact ⟨by rw [V.eqB_eq _ _ hb], h⟩
    · cases h
  · cases h
theorem chkL_some {B : List Nat} {i : Nat} {st : St} {k : Res} {r : Out × St} : ∀ {L : List Ld}, chkL B i st L k = some r → (∀ x ∈ L, ord B x.i i = false → ldv x.ag x.n x.p st = some x.v) ∧ k = some r
  | [], h => ⟨by simp, h⟩
  | x :: xs, h => by
    unfold chkL at h
    split at h
    · rename_i ho
      obtain ⟨h1, h2⟩ := chkL_some h
      refine ⟨fun y hy hn => ?_, h2⟩
      rcases List.mem_cons.mp hy with g | g
      · rw [g, ho] at hn; cases hn
      · exact h1 y g hn
    · obtain ⟨h0, h⟩ := chk_some h
      obtain ⟨h1, h2⟩ := chkL_some h
      refine ⟨fun y hy hn => ?_, h2⟩
      rcases List.mem_cons.mp hy with g | g
      · rw [g]; exact h0
      · exact h1 y g hn
theorem chkH_some {B : List Nat} {i : Nat} {ag : Bool} {n : Nat} {p v : V} {k : Res} {r : Out × St} : ∀ {L : List (Nat × St)}, chkH B i ag n p v L k = some r → (∀ x ∈ L, ord B x.1 i = false → ldv ag n p x.2 = some v) ∧ k = some r
  | [], h => ⟨by simp, h⟩
  | (j, s) :: xs, h => by
    unfold chkH at h
    split at h
    · rename_i ho
      obtain ⟨h1, h2⟩ := chkH_some h
      refine ⟨fun y hy hn => ?_, h2⟩
      rcases List.mem_cons.mp hy with g | g
      · rw [g] at hn; simp only [ho] at hn; cases hn
      · exact h1 y g hn
    · obtain ⟨h0, h⟩ := chk_some h
      obtain ⟨h1, h2⟩ := chkH_some h
      refine ⟨fun y hy hn => ?_, h2⟩
      rcases List.mem_cons.mp hy with g | g
      · rw [g]; exact h0
      · exact h1 y g hn

structure TI where
  ran : Bool
  v : V
  env : Env
  st : St

section
variable (P : Program) (mu : Nat → Bool) (T : Tbl) (m : Nat) (ops : Array Oper) (B : List Nat)
structure OpOK (f : Nat → TI) (j : Nat) (o : Oper) : Prop where
  op : ops[j]? = some o
  guard : gd ops o (f j).env = some (f j).ran
  env : (f (j + 1)).env = putV m (f j).env o.dst (f j).v
  skip : (f j).ran = false → (f j).v = .tup [] ∧ (f (j + 1)).st = (f j).st
  pure : (f j).ran = true → cls P mu o = 0 → (f (j + 1)).st = (f j).st ∧ ∀ st K, aop P mu T o (f j).env st K = K (f j).v st
  load : (f j).ran = true → cls P mu o = 1 → (f (j + 1)).st = (f j).st ∧ ∃ ag n p, loadOf P (f j).env o = some (ag, n, p) ∧ ldv ag n p (f j).st = some (f j).v
  write : (f j).ran = true → cls P mu o ≠ 0 → cls P mu o ≠ 1 → aop P mu T o (f j).env (f j).st kid = some (.ret (f j).v, (f (j + 1)).st)
def IsW (j : Nat) : Prop := ∃ o, ops[j]? = some o ∧ cls P mu o ≠ 0 ∧ cls P mu o ≠ 1
def IsL (f : Nat → TI) (j : Nat) (ag : Bool) (n : Nat) (p : V) : Prop := ∃ o, ops[j]? = some o ∧ cls P mu o = 1 ∧ loadOf P (f j).env o = some (ag, n, p)
structure Tr (K : Env → St → Res) (r : Out × St) (n i : Nat) (env : Env) (st : St) (L : List Ld) (H : List (Nat × St)) (f : Nat → TI) : Prop where
  env : (f i).env = env
  st : (f i).st = st
  ok : ∀ j, i ≤ j → j < i + n → ∃ o, OpOK P mu T m ops f j o
  fin : K (f (i + n)).env (f (i + n)).st = some r
  L : ∀ x ∈ L, ∀ j, i ≤ j → j < i + n → (f j).ran = true → IsW P mu ops j → ord B x.i j = false → ldv x.ag x.n x.p (f (j + 1)).st = some x.v
  H : ∀ y ∈ H, ∀ j, i ≤ j → j < i + n → (f j).ran = true → ∀ ag c p, IsL P mu ops f j ag c p → ord B y.1 j = false → ldv ag c p y.2 = some (f j).v
  LW : ∀ j k, i ≤ j → j < k → k < i + n → (f j).ran = true → (f k).ran = true → ∀ ag c p, IsL P mu ops f j ag c p → IsW P mu ops k → ord B j k = false → ldv ag c p (f (k + 1)).st = some (f j).v
  WL : ∀ j k, i ≤ j → j < k → k < i + n → (f j).ran = true → (f k).ran = true → ∀ ag c p, IsW P mu ops j → IsL P mu ops f k ag c p → ord B j k = false → ldv ag c p (f j).st = some (f k).v
end

variable {P : Program} {mu : Nat → Bool} {T : Tbl} {ops : Array Oper} {B : List Nat} {m : Nat} {K : Env → St → Res} {r : Out × St}

theorem tr_step {n i : Nat} {o : Oper} {ran : Bool} {v : V} {env env' : Env} {st st' : St} {L L' : List Ld} {H H' : List (Nat × St)} {f' : Nat → TI} (R : Tr P mu T m ops B K r n (i + 1) env' st' L' H' f')
    (ho : ops[i]? = some o) (hg : gd ops o env = some ran) (he : env' = putV m env o.dst v)
    (hs : ran = false → v = .tup [] ∧ st' = st)
    (hp : ran = true → cls P mu o = 0 → st' = st ∧ ∀ st K, aop P mu T o env st K = K v st)
    (hl : ran = true → cls P mu o = 1 → st' = st ∧ ∃ ag n p, loadOf P env o = some (ag, n, p) ∧ ldv ag n p st = some v)
    (hw : ran = true → cls P mu o ≠ 0 → cls P mu o ≠ 1 → aop P mu T o env st kid = some (.ret v, st'))
    (hL : ∀ x ∈ L, x ∈ L') (hLi : ran = true → cls P mu o ≠ 0 → cls P mu o ≠ 1 → ∀ x ∈ L, ord B x.i i = false → ldv x.ag x.n x.p st' = some x.v)
    (hL2 : ran = true → cls P mu o = 1 → ∀ ag n p, loadOf P env o = some (ag, n, p) → (⟨i, ag, n, p, v⟩ : Ld) ∈ L')
    (hH : ∀ y ∈ H, y ∈ H') (hHi : ran = true → cls P mu o = 1 → ∀ ag n p, loadOf P env o = some (ag, n, p) → ∀ y ∈ H, ord B y.1 i = false → ldv ag n p y.2 = some v)
    (hH2 : ran = true → cls P mu o ≠ 0 → cls P mu o ≠ 1 → (i, st) ∈ H') : ∃ f, Tr P mu T m ops B K r (n + 1) i env st L H f := by
  let f : Nat → TI := fun j => if j = i then ⟨ran, v, env, st⟩ else f' j
  have fi : f i = ⟨ran, v, env, st⟩ := by simp [f]
  have fj : ∀ j, i < j → f j = f' j := fun j hj => by simp only [f]; rw [if_neg (by omega)]
  have fs : f (i + 1) = f' (i + 1) := fj _ (by omega)
  have isl : ∀ j ag m p, i < j → IsL P mu ops f j ag m p → IsL P mu ops f' j ag m p := by
    intro j ag m p hj ⟨o, h1, h2, h3⟩
    rw [fj j hj] at h3; exact ⟨o, h1, h2, h3⟩
  have wi : IsW P mu ops i → cls P mu o ≠ 0 ∧ cls P mu o ≠ 1 := by
    intro ⟨q, h1, h2, h3⟩; rw [ho] at h1; cases h1; exact ⟨h2, h3⟩
  have li : ∀ ag m p, IsL P mu ops f i ag m p → cls P mu o = 1 ∧ loadOf P env o = some (ag, m, p) := by
    intro ag m p ⟨q, h1, h2, h3⟩; rw [ho] at h1; cases h1; rw [fi] at h3; exact ⟨h2, h3⟩
  refine ⟨f, by rw [fi], by rw [fi], ?_, ?_, ?_, ?_, ?_, ?_⟩
  · intro j h1 h2
    by_cases hj : j = i
    · subst hj
      refine ⟨o, ho, by rw [fi]; exact hg, by rw [fs, R.env, fi]; exact he, ?_, ?_, ?_, ?_⟩
      · intro h; rw [fi] at h; rw [fs, R.st, fi]; exact hs h
      · intro h hc; rw [fi] at h; rw [fs, R.st, fi]; exact hp h hc
      · intro h hc; rw [fi] at h; rw [fs, R.st, fi]; exact hl h hc
      · intro h hc hc2; rw [fi] at h; rw [fs, R.st, fi]; exact hw h hc hc2
    · obtain ⟨q, k⟩ := R.ok j (by omega) (by omega)
      have e1 := fj j (by omega)
      have e2 := fj (j + 1) (by omega)
      refine ⟨q, k.op, ?_, ?_, ?_, ?_, ?_, ?_⟩ <;> rw [e1] <;> (try rw [e2])
      · exact k.guard
      · exact k.env
      · exact k.skip
      · exact k.pure
      · exact k.load
      · exact k.write
  · rw [show i + (n + 1) = i + 1 + n by omega, fj _ (by omega)]; exact R.fin
  · intro x hx j h1 h2 h3 h4 h5
    by_cases hj : j = i
    · subst hj
      rw [fi] at h3
      obtain ⟨q1, q2⟩ := wi h4
      rw [fs, R.st]; exact hLi h3 q1 q2 x hx h5
    · rw [fj j (by omega)] at h3; rw [fj (j + 1) (by omega)]
      exact R.L x (hL x hx) j (by omega) (by omega) h3 h4 h5
  · intro y hy j h1 h2 h3 ag m p h4 h5
    by_cases hj : j = i
    · subst hj
      rw [fi] at h3 ⊢
      obtain ⟨q1, q2⟩ := li _ _ _ h4
      exact hHi h3 q1 _ _ _ q2 y hy h5
    · rw [fj j (by omega)] at h3 ⊢
      exact R.H y (hH y hy) j (by omega) (by omega) h3 ag m p (isl j _ _ _ (by omega) h4) h5
  · intro j k h1 h2 h3 h4 h5 ag m p h6 h7 h8
    rw [fj k (by omega)] at h5; rw [fj (k + 1) (by omega)]
    by_cases hj : j = i
    · subst hj
      rw [fi] at h4 ⊢
      obtain ⟨q1, q2⟩ := li _ _ _ h6
      exact R.L _ (hL2 h4 q1 _ _ _ q2) k (by omega) (by omega) h5 h7 h8
    · rw [fj j (by omega)] at h4 ⊢
      exact R.LW j k (by omega) h2 (by omega) h4 h5 ag m p (isl j _ _ _ (by omega) h6) h7 h8
  · intro j k h1 h2 h3 h4 h5 ag m p h6 h7 h8
    have h7' := isl k _ _ _ (by omega) h7
    rw [fj k (by omega)] at h5 ⊢
    by_cases hj : j = i
    · subst hj
      rw [fi] at h4 ⊢
      obtain ⟨q1, q2⟩ := wi h6
      exact R.H _ (hH2 h4 q1 q2) k (by omega) (by omega) h5 ag m p h7' h8
    · rw [fj j (by omega)] at h4 ⊢
      exact R.WL j k (by omega) h2 (by omega) h4 h5 ag m p h6 h7' h8

theorem areg_trace : ∀ (n i : Nat) (env : Env) (st : St) (L : List Ld) (H : List (Nat × St)), aregL P mu T m ops B K (List.range' i n) env st L H = some r → ∃ f, Tr P mu T m ops B K r n i env st L H f
  | 0, i, env, st, L, H, h => by
    refine ⟨fun _ => ⟨true, .tup [], env, st⟩, rfl, rfl, fun j h1 h2 => by omega, h, fun x _ j h1 h2 => by omega, fun x _ j h1 h2 => by omega, fun j k h1 h2 h3 => by omega, fun j k h1 h2 h3 => by omega⟩
  | n + 1, i, env, st, L, H, h => by
    rw [List.range'_succ] at h
    unfold aregL at h
    split at h
    · cases h
    rename_i o ho
    have run : gd ops o env = some true → (match cls P mu o with
        | 0 => aop P mu T o env st fun v _ => aregL P mu T m ops B K (List.range' (i + 1) n) (putV m env o.dst v) st L H
        | 1 => (match loadOf P env o with
          | some (ag, n', p) => A.load ag n' p st fun v _ => chkH B i ag n' p v H (aregL P mu T m ops B K (List.range' (i + 1) n) (putV m env o.dst v) st (⟨i, ag, n', p, v⟩ :: L) H)
          | none => none)
        | _ => A.noP (aop P mu T o env st kid) fun v st' => chkL B i st' L (aregL P mu T m ops B K (List.range' (i + 1) n) (putV m env o.dst v) st' L ((i, st) :: H))) = some r → ∃ f, Tr P mu T m ops B K r (n + 1) i env st L H f := by
      intro hg h
      split at h
      · rename_i hc
        obtain ⟨f, hf, he⟩ := aop_pure (P := P) (mu := mu) (T := T) (env := env) hc
        rw [he] at h
        obtain ⟨v, h1, h2⟩ := hf _ _ h
        obtain ⟨f', R⟩ := areg_trace n (i + 1) _ _ _ _ h1
        exact tr_step R ho hg rfl (by intro h; cases h) (fun _ _ => ⟨rfl, fun st K => by rw [he, h2]⟩) (fun _ h => by omega) (fun _ h => by omega) (fun x h => h) (fun _ h => by omega) (fun _ h => by omega) (fun x h => h) (fun _ h => by omega) (fun _ h => by omega)
      · rename_i hc
        split at h
        · rename_i ag n' p hl
          obtain ⟨v, h1, h2⟩ := load_ldv h
          obtain ⟨h3, h4⟩ := chkH_some h2
          obtain ⟨f', R⟩ := areg_trace n (i + 1) _ _ _ _ h4
          refine tr_step R ho hg rfl (by intro h; cases h) (fun _ h => by omega) (fun _ _ => ⟨rfl, ag, n', p, hl, h1⟩) (fun _ _ h => by omega) (fun x h => List.mem_cons_of_mem _ h) (fun _ _ h => by omega) ?_ (fun x h => h) ?_ (fun _ _ h => by omega)
          · intro _ _ a b c hl2; rw [hl] at hl2; cases hl2; simp
          · intro _ _ a b c hl2 y hy ho2; rw [hl] at hl2; cases hl2; exact h3 y hy ho2
        · cases h
      · rename_i h0 h1
        unfold A.noP at h
        split at h
        · rename_i v st' hrun
          obtain ⟨h3, h4⟩ := chkL_some h
          obtain ⟨f', R⟩ := areg_trace n (i + 1) _ _ _ _ h4
          exact tr_step R ho hg rfl (by intro h; cases h) (fun _ h => absurd h h0) (fun _ h => absurd h h1) (fun _ _ _ => hrun) (fun x h => h) (fun _ _ _ => h3) (fun _ h => absurd h h1) (fun x h => List.mem_cons_of_mem _ h) (fun _ h => absurd h h1) (fun _ _ _ => by simp)
        · cases h
    cases hgd : o.guard with
    | none =>
      simp only [hgd] at h
      exact run (by simp [gd, hgd]) h
    | some jw =>
      obtain ⟨j, want⟩ := jw
      simp only [hgd] at h
      cases hd : (ops[j]?).bind (·.dst) with
      | none => simp only [hd] at h; cases h
      | some d =>
        simp only [hd] at h
        rcases guardT_some h with ⟨b, hb, h⟩ | ⟨l, hb, h⟩
        · have hgv : gd ops o env = some (b == want) := by simp only [gd, hgd, hd, hb]
          by_cases hbw : (b == want) = true
          · rw [if_pos hbw, putV_self (by rw [hb, (beq_iff_eq.mp hbw)])] at h
            exact run (by rw [hgv, hbw]) h
          · rw [if_neg hbw, putV_self (by rw [hb]; congr 1; cases b <;> cases want <;> simp_all)] at h
            have hbw' : (b == want) = false := by simpa using hbw
            obtain ⟨f', R⟩ := areg_trace n (i + 1) _ _ _ _ h
            exact tr_step R ho (by rw [hgv, hbw']) rfl (fun _ => ⟨rfl, rfl⟩) (by intro h; cases h) (by intro h; cases h) (by intro h; cases h) (fun x h => h) (by intro h; cases h) (by intro h; cases h) (fun x h => h) (by intro h; cases h) (by intro h; cases h)
        · have hgv : gd ops o env = some false := by simp only [gd, hgd, hd, hb]
          obtain ⟨f', R⟩ := areg_trace n (i + 1) _ _ _ _ h
          exact tr_step R ho hgv rfl (fun _ => ⟨rfl, rfl⟩) (by intro h; cases h) (by intro h; cases h) (by intro h; cases h) (fun x h => h) (by intro h; cases h) (by intro h; cases h) (fun x h => h) (by intro h; cases h) (by intro h; cases h)
end Go.Ab
