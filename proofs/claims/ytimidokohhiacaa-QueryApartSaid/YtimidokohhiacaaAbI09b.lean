import Derived.Test.YtimidokohhiacaaAbI09
import Derived.Test.YtimidokohhiacaaAbQuiet
import Derived.Recover
import Derived.Tactics
import Derived.Tactics2
/- sinew/query: read: a deferred closure that recovers. -/
namespace Go.Ab
open Go.RowKit Go.Proofs Go.Shelf
set_option linter.unusedVariables false
set_option linter.unusedSimpArgs false
set_option maxRecDepth 100000
noncomputable def B25 : Code := match Try.f25.body with | some c => c | none => .skip
noncomputable def B49 : Code := match Try.f49.body with | some c => c | none => .skip
noncomputable def C25r : Code := sub B25 [1, 1]
noncomputable def C49r : Code := sub B49 [1]
theorem B25_eq : B25 = .seq (.region 0 (rops (sub B25 [0])) false) (.seq (.region 1 (rops (sub B25 [1, 0])) false) C25r) := by kernel_rfl
theorem B49_eq : B49 = .seq (.region 0 (rops (sub B49 [0])) false) C49r := by kernel_rfl
theorem B25_some : Try.f25.body = some B25 := by kernel_rfl
theorem B49_some : Try.f49.body = some B49 := by kernel_rfl
theorem idle49 (c0 c1 c2 : Value) (w : World) : CallsD Try.prog 49 #[c0, c1, c2] .returning w fun e u' w' => e = .returned (.tuple #[]) ∧ u' = .returning ∧ w' = w := by
  refine callsD_of_wpS Try.func49 rfl fun c₀ cs hu => ?_
  apply wpS_seq
  apply wpS_region
  simp [wpOpsS, go_sem, recoverD, hu, Try.ntmps49, Exit.thenS]
  refine wpS_of_wp ?_
  refine wp_block ?_
  refine wp_seq ?_
  refine wp_region ?_
  obtain ⟨d0, hd⟩ : ∃ d, Try.prog.underlying 20 = some (.interface d) := tk_interface (by kernel_rfl)
  have he : ∀ a : Act, a.eval (.tmp 6) = .nilIface → (execOp a.eval { dst := some 8, op := Op.binOp BinOp.eql 20 (Operand.tmp 6) (Operand.const Value.nilIface) 20, type := 4, pos := "query.go:137", after := #[], guard := none }).run Try.prog w = .ok (.value (.bool true)) w := by
    intro a ha
    have h1 : (eqGuard .eql 20 (Operand.tmp 6) (Operand.const Value.nilIface) .nilIface .nilIface).run Try.prog w = .ok () w := rfl
    have h2 : (binOp .eql 20 .nilIface .nilIface).run Try.prog w = .ok (.bool true) w := by
      have : binOp .eql 20 .nilIface .nilIface = eqDo false 20 .nilIface .nilIface := rfl
      rw [this]
      unfold eqDo
      rw [Sem.run_bind, equal_lift (r := true) (fun d => by simp only [Op.equalIn, Sem.run_bind, run_under hd, Result.andThen]; rfl)]
      rfl
    show (do let q ← (do eqGuard .eql 20 (Operand.tmp 6) (Operand.const Value.nilIface) (a.eval (.tmp 6)) (a.eval (.const .nilIface)); binOp .eql 20 (a.eval (.tmp 6)) (a.eval (.const .nilIface))); Pure.pure (Next.value q) : Sem Next).run Try.prog w = _
    rw [ha, show a.eval (.const .nilIface) = .nilIface from rfl]
    simp only [Sem.run_bind, h1, h2, Result.andThen, Sem.run_pure]
  show wpOps _ _ _ [0] _ _
  unfold wpOps
  simp only [List.getElem?_toArray, List.getElem?_cons_zero]
  rw [if_pos (show Region.wanted _ _ = true by simp [Region.wanted])]
  left
  unfold Oper.wp
  rw [he _ (by simp [Act.eval, Array.replicate])]
  rw [Oper.upon_value]
  unfold wpOps
  refine wp_cond_true (by simp [Act.eval, Act.put, Array.replicate]) ?_
  refine wp_region ?_
  show wpOps _ _ _ [0] _ _
  simp [wpOps, go_sem]
  cases c₀
  simp_all [bodyPostS, results, Try.results49, Exit.inBlock]

noncomputable def kMark : Kon := fun ex env st => match ex with | .exit _ => none | _ => some (.ret (.tup []), st)
def env49 (v0 v1 v2 p : V) : Env := fun t => bif Nat.beq t 0 then v0 else bif Nat.beq t 1 then v1 else bif Nat.beq t 2 then v2 else bif Nat.beq t 6 then p else .tup []
theorem caught49 {W0 : World} {B N : Nat} {R : Nat → Rg} (hR : ∀ m, SoundR Try.prog m (R m)) {e : E} (hr : Rel W0 B e) {v0 v1 v2 p v : V} {c0 c1 c2 p' : Value} (h0 : Rs e [v0] [c0]) (h1 : Rs e [v1] [c1]) (h2 : Rs e [v2] [c2]) (hp : Rs e [p] [p']) {st' : St}
    (h : aexec Try.prog (fun _ => false) (tget []) N 15 (R 15) C49r kMark (env49 v0 v1 v2 p) e.st = some (.ret v, st')) :
    CallsD Try.prog 49 #[c0, c1, c2] (.panicking [{ v := p', recovered := false }]) e.w fun en u' w' => en = .returned (.tuple #[]) ∧ u' = .panicking [{ v := p', recovered := true }] ∧ ∃ e', e'.st = st' ∧ e'.w = w' ∧ Ext e e' ∧ Rel W0 B e' := by
  refine callsD_of_wpS Try.func49 B49_some fun c₀ cs hu => ?_
  rw [B49_eq]
  apply wpS_seq
  apply wpS_region
  have ho : rops (sub B49 [0]) = #[{ dst := some 6, op := Op.call { callee := Callee.builtin Builtin.recover, args := #[], argTypes := #[] }, type := 20, pos := "query.go:137", after := #[], guard := none }] := by kernel_rfl
  rw [ho]
  simp [wpOpsS, go_sem, recoverD, hu, Try.ntmps49, Exit.thenS]
  refine wpS_of_wp ?_
  refine aexec_sound (P := Try.prog) (simT_nil) (hR 15) (fr := ⟨[], fun _ => false, fun _ => undef⟩) C49r (noW_false _) _ _ e _ kMark h hr ?_ ⟨rfl, fun t ht => by cases ht⟩ ?_ ?_
  · have ht : (#[c0, c1, c2] ++ (Array.replicate 12 undef).setIfInBounds 3 p') = #[c0, c1, c2, undef, undef, undef, p', undef, undef, undef, undef, undef, undef, undef, undef] := rfl
    rw [ht]
    refine ⟨rfl, fun t => ?_⟩
    match t with
    | 0 => exact h0
    | 1 => exact h1
    | 2 => exact h2
    | 6 => exact hp
    | 3 | 4 | 5 | 7 | 8 | 9 | 10 | 11 | 12 | 13 | 14 => exact .tup [] #[] .nil .nil
    | n + 15 => exact .tup [] #[] .nil .nil
  · intro ex env' e' a' g1 g2 g3 g4 g5
    have fin : (.ret v, st') = (Out.ret (.tup []), e'.st) → bodyPostS Try.prog Try.f49 c₀ cs (fun en u' w' => en = .returned (.tuple #[]) ∧ u' = .panicking [{ v := p', recovered := true }] ∧ ∃ e', e'.st = st' ∧ e'.w = w' ∧ Ext e e' ∧ Rel W0 B e') .normal a' ({ c₀ with mode := .panicking [{ v := p', recovered := true }] } :: cs) e'.w := by
      intro hq
      cases hq
      refine ⟨g5.1, _, rfl, .tuple #[], ?_, rfl, rfl, e', rfl, rfl, g2, g3⟩
      simp [results, Try.results49]
    cases ex with
    | normal => exact fin (by unfold kMark at g1; exact (Option.some.inj g1).symm)
    | ret => exact fin (by unfold kMark at g1; exact (Option.some.inj g1).symm)
    | exit i => cases g1
  · intro q q' e' a' g1
    cases g1
/-- The results are read. -/
theorem res25 {W0 : World} {B : Nat} {e : E} (hr : Rel W0 B e) {env : Env} {tmps : Array Value} (h2 : Rs e [env 2] [tmps.getD 2 undef]) (h3 : Rs e [env 3] [tmps.getD 3 undef]) (h4 : Rs e [env 4] [tmps.getD 4 undef]) {r : Out × St} (h : aresK Try.prog Try.f25.results.toList .ret env e.st = some r) :
    ∃ v v', r = (.ret v, e.st) ∧ (results Try.f25 tmps).run Try.prog e.w = .ok v' e.w ∧ Rs e [v] [v'] := by
  have hE : EnvR 5 e (fun t => bif Nat.beq t 2 then env 2 else bif Nat.beq t 3 then env 3 else bif Nat.beq t 4 then env 4 else .tup []) #[undef, undef, tmps.getD 2 undef, tmps.getD 3 undef, tmps.getD 4 undef] := by
    refine ⟨rfl, fun t => ?_⟩
    match t with
    | 0 | 1 => exact .tup [] #[] .nil .nil
    | 2 => exact h2
    | 3 => exact h3
    | 4 => exact h4
    | n + 5 => exact .tup [] #[] .nil .nil
  have hl : Try.f25.results = #[ResultVar.cell 2 28, ResultVar.cell 3 3, ResultVar.cell 4 29] := Try.results25
  have h' : aresK Try.prog Try.f25.results.toList .ret (fun t => bif Nat.beq t 2 then env 2 else bif Nat.beq t 3 then env 3 else bif Nat.beq t 4 then env 4 else .tup []) e.st = some r := by
    rw [hl] at h ⊢
    exact h
  obtain ⟨_, v, v', q1, q2, q3⟩ := aresK_sound hr hE h'
  refine ⟨v, v', q1, ?_, q3⟩
  rw [← q2, results_eq, results_eq, hl]
  simp only [Array.mapM_eq_mapM_toList, List.mapM_cons, List.mapM_nil, resOne]
  rfl
noncomputable def rd3 (N : Nat) (R : Nat → Rg) (env : Env) (x : Res) : Res :=
  match x with
  | some (.ret _, st') => aresK Try.prog Try.f25.results.toList .ret env st'
  | some (.panic p, st') => (match aexec Try.prog (fun _ => false) (tget []) N 15 (R 15) C49r kMark (env49 (env 2) (env 3) (env 4) p) st' with
    | some (.ret _, st'') => aresK Try.prog Try.f25.results.toList .ret env st''
    | _ => none)
  | none => none
noncomputable def rd2 (T : Tbl) (N : Nat) (R : Nat → Rg) (env : Env) (st : St) : Res := rd3 N R env (aexec Try.prog (fun _ => false) T N 39 (R 39) C25r kMark env st)
noncomputable def rd1 (T : Tbl) (N : Nat) (R : Nat → Rg) (env : Env) (st : St) : Res := rd2 T N R (putV 39 env (some 6) (.fn 49 [] [env 2, env 3, env 4])) st
noncomputable def a25 (T : Tbl) (N : Nat) (R : Nat → Rg) : Fn := fun args st => match args with
  | [p] => aops Try.prog (fun _ => false) T 39 (rops (sub B25 [0])) (List.range (rops (sub B25 [0])).size) (fun t => [p].getD t (.tup [])) st (rd1 T N R)
  | _ => none
theorem simA25 {T : Tbl} (hT : SimT Try.prog T) {R : Nat → Rg} (hR : ∀ m, SoundR Try.prog m (R m)) (N : Nat) : Sim Try.prog 25 (a25 T N R) := by
  refine ⟨by kernel_rfl, fun W0 B e args cargs out st' h hr ha => ?_⟩
  unfold a25 at h
  split at h
  case h_2 => cases h
  rename_i p
  obtain ⟨xs⟩ := cargs
  simp only at ha
  obtain ⟨x, rfl⟩ : ∃ x, xs = [x] := by
    have := ha.length
    match xs, this with
    | [x], _ => exact ⟨x, rfl⟩
  refine calls_of_wp_defers Try.func25 B25_some ?_
  rw [B25_eq]
  refine wp_seq (wp_region (aops_sound hT (fr := ⟨[], fun _ => false, fun _ => undef⟩) (List.all_eq_true.2 fun o _ => noD_false o) _ _ e _ _ h hr ?_ ⟨rfl, fun t ht => by cases ht⟩ ?_ ?_))
  · refine ⟨by simp [Try.ntmps25], fun t => ?_⟩
    have e1 : (#[x] ++ Array.replicate (Try.f25.ntmps - #[x].size) undef).getD t undef = if t = 0 then x else undef := by
      rw [Array.getD_eq_getD_getElem?, Array.getElem?_append]
      by_cases ht : t = 0
      · subst ht; rfl
      · rw [if_neg (by simp; omega), if_neg ht, Array.getElem?_replicate]
        split <;> rfl
    rw [e1]
    cases t with
    | zero => exact ha
    | succ t => exact .tup [] #[] .nil .nil
  · -- the deferred call is laid
    intro env1 e1 a1 q1 x1 r1 en1 I1
    refine wp_seq (wp_region ?_)
    have ho : rops (sub B25 [1, 0]) = #[{ dst := some 6, op := Op.makeFunc (Fn.func 49) #[] #[Operand.tmp 2, Operand.tmp 3, Operand.tmp 4], type := 1, pos := "query.go:136", after := #[], guard := none }, { dst := none, op := Op.defer { callee := Callee.value (Operand.tmp 6), args := #[], argTypes := #[] }, type := 0, pos := "query.go:136", after := #[{ on := 0, ground := Ground.data }], guard := none }] := by kernel_rfl
    rw [ho]
    have hsz : a1.tmps.size = 39 := en1.1
    have f2 := en1.2 2
    have f3 := en1.2 3
    have f4 := en1.2 4
    obtain ⟨c0, hc0⟩ : ∃ c, a1.tmps.getD 2 undef = c := ⟨_, rfl⟩
    obtain ⟨c1, hc1⟩ : ∃ c, a1.tmps.getD 3 undef = c := ⟨_, rfl⟩
    obtain ⟨c2, hc2⟩ : ∃ c, a1.tmps.getD 4 undef = c := ⟨_, rfl⟩
    rw [hc0] at f2
    rw [hc1] at f3
    rw [hc2] at f4
    show wpOps _ _ _ [0, 1] _ _
    unfold wpOps
    simp only [List.getElem?_toArray, List.getElem?_cons_zero]
    rw [if_pos (show Region.wanted _ _ = true by simp [Region.wanted])]
    left
    unfold Oper.wp
    have hx : (execOp a1.eval { dst := some 6, op := Op.makeFunc (Fn.func 49) #[] #[Operand.tmp 2, Operand.tmp 3, Operand.tmp 4], type := 1, pos := "query.go:136", after := #[], guard := none }).run Try.prog e1.w = .ok (.value (.func (.func 49) #[] #[c0, c1, c2])) e1.w := by
      simp only [execOp, List.map_toArray, List.map_cons, List.map_nil, Act.eval, hc0, hc1, hc2]
      rfl
    rw [hx, Oper.upon_value]
    unfold wpOps
    simp only [List.getElem?_toArray, List.getElem?_cons_succ, List.getElem?_cons_zero]
    rw [if_pos (show Region.wanted _ _ = true by simp [Region.wanted])]
    left
    unfold Oper.wp
    have h6 : (a1.put (some 6) (.func (.func 49) #[] #[c0, c1, c2])).eval (.tmp 6) = .func (.func 49) #[] #[c0, c1, c2] := by
      simp [Act.eval, Act.put, hsz]
    have hy : (execOp (a1.put (some 6) (.func (.func 49) #[] #[c0, c1, c2])).eval { dst := none, op := Op.defer { callee := Callee.value (Operand.tmp 6), args := #[], argTypes := #[] }, type := 0, pos := "query.go:136", after := #[{ on := 0, ground := Ground.data }], guard := none }).run Try.prog e1.w = .ok (.defer { target := .fn (.func 49) #[c0, c1, c2], args := #[] }) e1.w := by
      show (Sem.run Try.prog (do let q ← resolve (a1.put (some 6) (.func (.func 49) #[] #[c0, c1, c2])).eval { callee := Callee.value (Operand.tmp 6), args := #[], argTypes := #[] } 0; Pure.pure (Next.defer q)) e1.w) = _
      unfold resolve
      simp only [h6, List.map_toArray, List.map_nil]
      rfl
    rw [hy, Oper.upon_defer]
    unfold wpOps
    -- the rest
    have hd1 : a1.defers = [] := I1.1
    have e2 : EnvR 39 e1 (putV 39 env1 (some 6) (.fn 49 [] [env1 2, env1 3, env1 4])) (a1.put (some 6) (.func (.func 49) #[] #[c0, c1, c2])).tmps := by
      refine putV_sound en1 (some 6) (.fn 49 _ _ _ _ .nil ?_ .nil)
      exact Rs.cons f2 (Rs.cons f3 f4)
    generalize ha2 : ({ (a1.put (some 6) (.func (.func 49) #[] #[c0, c1, c2])) with defers := { target := .fn (.func 49) #[c0, c1, c2], args := #[] } :: (a1.put (some 6) (.func (.func 49) #[] #[c0, c1, c2])).defers } : Act).put none undef = a2
    have e2' : EnvR 39 e1 (putV 39 env1 (some 6) (.fn 49 [] [env1 2, env1 3, env1 4])) a2.tmps := by rw [← ha2]; exact e2
    have hd2 : a2.defers = [{ target := .fn (.func 49) #[c0, c1, c2], args := #[] }] := by rw [← ha2]; show _ :: (a1.put _ _).defers = _; rw [put_defers, hd1]
    have t2 : a2.tmps.getD 2 undef = c0 := by rw [← ha2, ← hc0]; show ((a1.tmps.setIfInBounds 6 _).getD 2 undef) = _; simp [Array.getD_eq_getD_getElem?, Array.getElem?_setIfInBounds]
    have t3 : a2.tmps.getD 3 undef = c1 := by rw [← ha2, ← hc1]; show ((a1.tmps.setIfInBounds 6 _).getD 3 undef) = _; simp [Array.getD_eq_getD_getElem?, Array.getElem?_setIfInBounds]
    have t4 : a2.tmps.getD 4 undef = c2 := by rw [← ha2, ← hc2]; show ((a1.tmps.setIfInBounds 6 _).getD 4 undef) = _; simp [Array.getD_eq_getD_getElem?, Array.getElem?_setIfInBounds]
    have p2 : putV 39 env1 (some 6) (.fn 49 [] [env1 2, env1 3, env1 4]) 2 = env1 2 := by rw [putV_at, if_neg (by omega)]
    have p3 : putV 39 env1 (some 6) (.fn 49 [] [env1 2, env1 3, env1 4]) 3 = env1 3 := by rw [putV_at, if_neg (by omega)]
    have p4 : putV 39 env1 (some 6) (.fn 49 [] [env1 2, env1 3, env1 4]) 4 = env1 4 := by rw [putV_at, if_neg (by omega)]
    unfold rd1 rd2 at q1
    generalize putV 39 env1 (some 6) (.fn 49 [] [env1 2, env1 3, env1 4]) = env2 at q1 e2' p2 p3 p4
    have hinv : ∀ w : World, (invoke (.fn (.func 49) #[c0, c1, c2]) #[]).run Try.prog w = .ok (.enter 49 #[c0, c1, c2]) w := fun w => enters_of Try.func49 (by kernel_rfl) rfl _ _
    -- what is told at the end
    have told : ∀ (e3 : E) (tmps : Array Value), Ext e1 e3 → Rel W0 B e3 → tmps.getD 2 undef = c0 → tmps.getD 3 undef = c1 → tmps.getD 4 undef = c2 → aresK Try.prog Try.f25.results.toList .ret env2 e3.st = some (out, st') →
        Leaves Try.prog Try.f25 tmps (fun en w' => ∃ e', e'.st = st' ∧ e'.w = w' ∧ Ext e e' ∧ Rel W0 B e' ∧ OutR e' out en) [] .returning e3.w := by
      intro e3 tmps X3 R3 g2 g3 g4 hres
      obtain ⟨v, v', z1, z2, z3⟩ := res25 R3 (tmps := tmps) (by rw [p2, g2]; exact f2.mono X3) (by rw [p3, g3]; exact f3.mono X3) (by rw [p4, g4]; exact f4.mono X3) hres
      cases z1
      exact ⟨v', z2, e3, rfl, rfl, x1.trans X3, R3, v', rfl, z3⟩
    cases hrun : aexec Try.prog (fun _ => false) T N 39 (R 39) C25r kMark env2 e1.st with
    | none => rw [hrun] at q1; cases q1
    | some r2 =>
      rw [hrun] at q1
      have I2 : InF ⟨[{ target := .fn (.func 49) #[c0, c1, c2], args := #[] }], fun t => Nat.beq t 2 || Nat.beq t 3 || Nat.beq t 4, fun t => a2.tmps.getD t undef⟩ a2 := ⟨hd2, fun t _ => rfl⟩
      refine aexec_sound hT (hR 39) C25r (by kernel_rfl) _ env2 e1 a2 kMark hrun r1 e2' I2 ?_ ?_
      · -- it returns
        intro ex env' e3 a3 g1 X3 R3 en3 I3
        have i2 : a3.tmps.getD 2 undef = c0 := (I3.2 2 rfl).trans t2
        have i3 : a3.tmps.getD 3 undef = c1 := (I3.2 3 rfl).trans t3
        have i4 : a3.tmps.getD 4 undef = c2 := (I3.2 4 rfl).trans t4
        have fin : r2 = (.ret (.tup []), e3.st) → Leaves Try.prog Try.f25 a3.tmps (fun en w' => ∃ e', e'.st = st' ∧ e'.w = w' ∧ Ext e e' ∧ Rel W0 B e' ∧ OutR e' out en) a3.defers .returning e3.w := by
          intro hq
          subst hq
          rw [I3.1]
          refine leaves_cons (by intro h; cases h) (hinv e3.w) ?_
          refine (idle49 c0 c1 c2 e3.w).mono ?_
          rintro en u' w' ⟨rfl, rfl, rfl⟩
          exact told e3 a3.tmps X3 R3 i2 i3 i4 q1
        cases ex with
        | normal => exact fin (by unfold kMark at g1; exact (Option.some.inj g1).symm)
        | ret => exact fin (by unfold kMark at g1; exact (Option.some.inj g1).symm)
        | exit i => cases g1
      · -- it panics
        intro q q' e3 a3 g1 X3 R3 hq I3
        subst g1
        have i2 : a3.tmps.getD 2 undef = c0 := (I3.2 2 rfl).trans t2
        have i3 : a3.tmps.getD 3 undef = c1 := (I3.2 3 rfl).trans t3
        have i4 : a3.tmps.getD 4 undef = c2 := (I3.2 4 rfl).trans t4
        show Leaves Try.prog Try.f25 a3.tmps _ a3.defers (.panicking [{ v := q', recovered := false }]) e3.w
        rw [I3.1]
        refine leaves_cons (by intro h; cases h) (hinv e3.w) ?_
        simp only [rd3] at q1
        split at q1
        · rename_i v st4 hc
          refine (caught49 hR R3 (by rw [p2]; exact f2.mono X3) (by rw [p3]; exact f3.mono X3) (by rw [p4]; exact f4.mono X3) hq hc).mono ?_
          rintro en u' w' ⟨rfl, rfl, e4, rfl, rfl, X4, R4⟩
          exact told e4 a3.tmps (X3.trans X4) R4 i2 i3 i4 q1
        · cases q1
  · -- nothing panics there
    intro q q' e1 a1 g1 X1 R1 hq I1
    cases g1
    show Leaves Try.prog Try.f25 a1.tmps _ a1.defers (.panicking [{ v := q', recovered := false }]) e1.w
    rw [I1.1]
    exact ⟨e1, rfl, rfl, X1, R1, q', rfl, hq⟩
end Go.Ab
