import Derived.Test.YtimidokohhiacaaAbDrawmerged0
/- Regions that draw their order, with two allocations of which either may be the first. -/
namespace Go.Ab
open Go.RowKit
set_option linter.unusedVariables false
set_option linter.unusedSimpArgs false
variable {P : Program} {mu : Nat → Bool} {T : Tbl} {ops : Array Oper} {B : List Nat}
/-- It reads, and leaves the world alone. -/
def still (P : Program) (o : Oper) : Bool := match o.op with | .move _ | .load .. | .fieldAddr .. => true | .indexAddr t _ _ => (sle P t).isSome | _ => false
def hasEdge (o : Oper) (i : Nat) : Bool := o.after.toList.any fun x => Region.binds .any x && x.on == i
def allocT (P : Program) (o : Oper) : Option TypeId := match o.op with
  | .alloc t => if o.guard.isNone && o.dst.isSome && !isBld P t then some t else none
  | _ => none
theorem allocT_some {o : Oper} {t : TypeId} (h : allocT P o = some t) : o.op = .alloc t ∧ o.guard = none ∧ (∃ d, o.dst = some d) ∧ isBld P t = false := by
  unfold allocT at h
  split at h
  · rename_i t' ht
    split at h
    · rename_i hc
      cases h
      simp only [Bool.and_eq_true, Bool.not_eq_true', Option.isNone_iff_eq_none] at hc
      exact ⟨ht, hc.1.1, Option.isSome_iff_exists.1 hc.1.2, hc.2⟩
    · cases h
  · cases h
/-- A block that nobody knows. -/
def E.garb (e : E) (x : Obj) : E := { e with w := { e.w with heap := e.w.heap.push x } }
theorem Ext.garb (e : E) (x : Obj) : Ext e (e.garb x) :=
  ⟨Nat.le_refl _, Nat.le_refl _, fun _ _ => rfl, fun _ _ o h => ⟨o, h⟩, fun _ _ => rfl, fun _ _ _ h => h, fun _ => Nat.le_refl _, fun b c ty fz hb => ⟨c, fz, push_old hb, rfl, fun _ _ => rfl⟩⟩
theorem Rel.garb {W0 : World} {B : Nat} {e : E} (h : Rel W0 B e) (x : Obj) : Rel W0 B (e.garb x) := by
  have X := Ext.garb e x
  refine ⟨⟨h.below.os, h.below.tape, h.below.output, by have := h.below.size; simp only [E.garb, Array.size_push]; omega, fun k hk => ?_⟩, h.hB, ?_, ?_, h.live, h.inj, h.tkn, ?_, h.tinj, h.tob, ?_, ?_⟩
  · have := h.hB; have := h.below.size
    simp only [E.garb]; rw [Array.getElem?_push, if_neg (by omega)]; exact h.below.block k hk
  · intro id cs ho
    obtain ⟨a, b, c, ty, fz, d, f, g, k, kb⟩ := h.cells id cs ho
    exact ⟨a, b, c, ty, fz, push_old d, f, g, k.mono X, kb⟩
  · intro id es ho
    obtain ⟨a, ents, clock, b, c, d⟩ := h.maps id es ho
    exact ⟨a, ents, clock, push_old b, c.mono X, d.1.mono X, d.2⟩
  · intro t s b k ht hτ
    obtain ⟨a, b', c, ty, fz, d, f⟩ := h.toks t s b k ht hτ
    exact ⟨a, b', c, ty, fz, push_old d, f⟩
  · intro b c ty fz hb
    by_cases hbs : b < e.w.heap.size
    · simp only [E.garb] at hb ⊢; rw [Array.getElem?_push, if_neg (by omega)] at hb; exact h.frs b c ty fz hb
    · have : e.fr b = 0 := h.frn b (by omega)
      show e.fr b ≤ _; omega
  · intro b hb
    simp only [E.garb, Array.size_push] at hb
    exact h.frn b (by omega)
/-- .. and what is told of it. -/
structure Lone (B : Nat) (e : E) (b : Nat) (x : Obj) : Prop where
  at_ : e.w.heap[b]? = some x
  hB : B ≤ b
  fr : e.fr b = 0
  ob : ∀ id o, e.st.ob id = some o → e.σ id ≠ b
  tk : ∀ t s b' k, e.st.tk t = some s → e.τ t = some (b', k) → b' ≠ b
theorem Rel.lt {W0 : World} {B : Nat} {e : E} (h : Rel W0 B e) : ∀ id o', e.st.ob id = some o' → e.σ id < e.w.heap.size := by
  intro id o' ho'
  cases o' with
  | cells cs => obtain ⟨_, _, c, ty, fz, d, _⟩ := h.cells id cs ho'; exact (Array.getElem?_eq_some_iff.mp d).1
  | map es => obtain ⟨_, ents, clock, d, _⟩ := h.maps id es ho'; exact (Array.getElem?_eq_some_iff.mp d).1
theorem Lone.garb {W0 : World} {B : Nat} {e : E} (h : Rel W0 B e) (x : Obj) : Lone B (e.garb x) e.w.heap.size x := by
  refine ⟨by show (e.w.heap.push x)[e.w.heap.size]? = some x; rw [Array.getElem?_push, if_pos rfl], Nat.le_trans h.hB h.below.size, h.frn _ (Nat.le_refl _), fun id o ho => ?_, fun t s b' k ht hτ => ?_⟩
  · have := h.lt id o ho; show e.σ id ≠ _; omega
  · obtain ⟨_, _, c, ty, fz, d, _⟩ := h.toks t s b' k ht hτ
    have := (Array.getElem?_eq_some_iff.mp d).1
    omega
theorem Lone.newOb {W0 : World} {B : Nat} {e : E} {b : Nat} {x : Obj} (h : Rel W0 B e) (l : Lone B e b x) (o : Ob) (y : Obj) : Lone B (e.newOb o y) b x := by
  have hb := (Array.getElem?_eq_some_iff.mp l.at_).1
  refine ⟨push_old l.at_, l.hB, l.fr, fun id o' ho => ?_, l.tk⟩
  simp only [E.newOb, St.new] at ho ⊢
  by_cases hi : id = e.st.n
  · rw [if_pos hi]; omega
  · rw [if_neg hi] at ho ⊢; exact l.ob id o' ho
/-- It becomes an object. -/
def E.adopt (e : E) (o : Ob) (b : Nat) : E := { e with st := e.st.new o, σ := fun i => if i = e.st.n then b else e.σ i }
theorem Ext.adopt (e : E) (o : Ob) (b : Nat) (hn : ∀ o', e.st.ob e.st.n = some o' → False) : Ext e (e.adopt o b) := by
  refine ⟨Nat.le_succ _, Nat.le_refl _, fun id hi => ?_, fun id hi o' ho' => ?_, fun _ _ => rfl, fun _ _ _ h => h, fun _ => Nat.le_refl _, fun b c ty fz hb => ⟨c, fz, hb, rfl, fun _ _ => rfl⟩⟩
  · simp only [E.adopt]; rw [if_neg (by omega)]
  · simp only [E.adopt, St.new] at ho'; rw [if_neg (by omega)] at ho'; exact ⟨o', ho'⟩
theorem Rel.adopt {W0 : World} {B : Nat} {e : E} (h : Rel W0 B e) {b : Nat} {cs : List V} {c : Array Value} {ty : TypeId} {fz : Nat × Nat} (l : Lone B e b (.cells c ty fz)) (h1 : ∀ v ∈ cs, v.oneB = true) (h2 : unfz c fz 0) (h3 : cs.length ≤ c.size) (h4 : Rs e cs (c.toList.take cs.length)) (h5 : BldOK b cs c ty) : Rel W0 B (e.adopt (.cells cs) b) := by
  have hnew : ∀ o', e.st.ob e.st.n = some o' → False := fun o' ho' => by have := (h.live _ _ ho').1; omega
  have X := Ext.adopt e (.cells cs) b hnew
  have hobj : ∀ id o', (e.adopt (.cells cs) b).st.ob id = some o' → (id = e.st.n ∧ o' = .cells cs) ∨ (id ≠ e.st.n ∧ e.st.ob id = some o') := by
    intro id o' ho'
    simp only [E.adopt, St.new] at ho'
    by_cases hi : id = e.st.n
    · rw [if_pos hi] at ho'; exact .inl ⟨hi, (Option.some.inj ho').symm⟩
    · rw [if_neg hi] at ho'; exact .inr ⟨hi, ho'⟩
  have hσn : (e.adopt (.cells cs) b).σ e.st.n = b := by simp [E.adopt]
  have hσ : ∀ id, id ≠ e.st.n → (e.adopt (.cells cs) b).σ id = e.σ id := fun id hi => by simp [E.adopt, hi]
  refine ⟨h.below, h.hB, ?_, ?_, ?_, ?_, h.tkn, h.toks, h.tinj, ?_, h.frs, h.frn⟩
  · intro id cs' ho
    rcases hobj id _ ho with ⟨rfl, he⟩ | ⟨hi, ho'⟩
    · cases he; rw [hσn]; exact ⟨l.hB, h1, c, ty, fz, l.at_, h2, h3, h4.mono X, h5⟩
    · obtain ⟨a, b, c, ty, fz, d, f, g, k, kb⟩ := h.cells id cs' ho'
      rw [hσ id hi]
      exact ⟨a, b, c, ty, fz, d, f, g, k.mono X, kb⟩
  · intro id es ho
    rcases hobj id _ ho with ⟨rfl, he⟩ | ⟨hi, ho'⟩
    · cases he
    · obtain ⟨a, ents, clock, b, c, d⟩ := h.maps id es ho'
      rw [hσ id hi]
      exact ⟨a, ents, clock, b, c.mono X, d.1.mono X, d.2⟩
  · intro id o' ho
    rcases hobj id _ ho with ⟨rfl, he⟩ | ⟨hi, ho'⟩
    · rw [hσn]; exact ⟨Nat.lt_succ_self _, l.fr⟩
    · rw [hσ id hi]; exact ⟨Nat.lt_succ_of_lt (h.live _ _ ho').1, (h.live _ _ ho').2⟩
  · intro i j o1 o2 h1 h2 hs
    rcases hobj i _ h1 with ⟨rfl, _⟩ | ⟨hi, h1'⟩ <;> rcases hobj j _ h2 with ⟨rfl, _⟩ | ⟨hj, h2'⟩
    · rfl
    · rw [hσn, hσ j hj] at hs; exact absurd hs.symm (l.ob j _ h2')
    · rw [hσn, hσ i hi] at hs; exact absurd hs (l.ob i _ h1')
    · rw [hσ i hi, hσ j hj] at hs; exact h.inj i j _ _ h1' h2' hs
  · intro t s b' k id o' ht hτ ho
    rcases hobj id _ ho with ⟨rfl, _⟩ | ⟨hi, ho'⟩
    · rw [hσn]; exact fun g => l.tk t s b' k ht hτ g.symm
    · rw [hσ id hi]; exact h.tob t s b' k id o' ht hτ ho'
/-! what stands still -/
theorem wp_pure {o : Oper} {a : Act} {e : E} {next : Act → World → Prop} {Q : Exit → Act → World → Prop} {s : Sem Value} {v' : Value} (hop : execOp a.eval o = (do Pure.pure (.value (← s)))) (h : s.run P e.w = .ok v' e.w)
    (hn : next (a.put o.dst v') e.w) : o.wp P a e.w next Q := by
  unfold Oper.wp
  rw [hop]
  simp only [Sem.run_bind, h, Result.andThen, Sem.run_pure]
  exact hn
theorem faddr_pure {e : E} {K : V → St → Res} {r : Out × St} {s : TypeId} {f : Nat} {fd : Field} {a : V} {a' : Value} (hf : fld P s f = some fd) (hi : ∃ i, P.info? fd.type = some i) (h0 : P.cellsOf fd.type ≠ 0)
    (h : A.faddr fd.offset a (fun v => K v e.st) = some r) (ha : Rs e [a] [a']) : ∃ v v', K v e.st = some r ∧ (Instr.fieldAt s a' f).run P e.w = .ok v' e.w ∧ Rs e [v] [v'] := by
  unfold fld at hf
  split at hf
  · rename_i fs hs
    obtain ⟨i, hi⟩ := hi
    rw [cellsOf_eq hi] at h0
    unfold A.faddr at h
    split at h
    · rename_i id o
      cases ha with | ptr id off a hn hl _ =>
      refine ⟨_, .pointer (some (a.add fd.offset)), h, by simp [Instr.fieldAt, run_under hs, hf, Instr.sureAddr, fieldPlace, sizeOf_run hi, h0], .ptr _ _ _ hn (fun x hx => ?_) .nil⟩
      rw [hl x hx, add_plain]
    · rename_i cs
      split at h
      · rename_i hle
        cases ha with | lptr cs b o c ty fz hb hf' ho hc _ =>
        refine ⟨_, .pointer (some ⟨b, o + fd.offset, none⟩), h, by simp [Instr.fieldAt, run_under hs, hf, Instr.sureAddr, fieldPlace, sizeOf_run hi, h0, add_plain], .lptr _ b (o + fd.offset) c ty fz hb (by simp; omega) (fun v hv => ho v (List.mem_of_mem_drop hv)) ?_ .nil⟩
        have := hc.drop fd.offset
        rw [List.drop_take, List.drop_drop] at this
        simpa using this
      · cases h
    · cases h
  · cases hf
theorem iaddr_pure {e : E} {K : V → St → Res} {r : Out × St} {t x0 : TypeId} {x i : V} {x' i' : Value} (hs : sle P t = some x0) (hi : ∃ i, P.info? x0 = some i)
    (h : A.iaddr (P.cellsOf x0) x i (fun v => K v e.st) = some r) (hx : Rs e [x] [x']) (hix : Rs e [i] [i']) : ∃ v v', K v e.st = some r ∧ (Instr.indexAt t x' i').run P e.w = .ok v' e.w ∧ Rs e [v] [v'] := by
  obtain ⟨inf, hi⟩ := hi
  rw [cellsOf_eq hi] at h
  have hu := run_under (P := P) (sle_some hs) e.w
  unfold A.iaddr at h
  split at h
  · rename_i k n
    cases hix with | int _ _ _ =>
    split at h
    · rename_i h0
      split at h
      · rename_i id off len sz'
        split at h
        · rename_i hh
          obtain ⟨h1, rfl⟩ := hh
          cases hx with | sl _ _ _ _ cap a hn hcap hl _ =>
          refine ⟨_, .pointer (some (a.add (n.toNat * inf.size))), h, ?_, .ptr _ _ _ hn (fun o ho => ?_) .nil⟩
          · simp [Instr.indexAt, asIntOf, hu, h0, h1, sizeOf_run hi]
          · obtain ⟨g, _⟩ := hl o ho (by omega)
            rw [g, add_plain]
        · cases h
      · rename_i l tk0
        split at h
        · rename_i v hv
          split at h
          · rename_i hvs
            have hn' := (List.getElem?_eq_some_iff.mp hv).1
            cases hx with
            | lst0 _ _ _ => simp at hn'
            | lste _ _ _ _ => simp at hn'
            | lst _ _ len cap b o sz c ty2 fz hlen hcap hb hsz ho hf hc hx1 ht1 _ =>
              have hszv : v.cells.length = sz := hsz v (List.mem_of_getElem? hv)
              have : sz = inf.size := by omega
              subst this
              obtain ⟨g1, g2⟩ := lst_elem hlen hsz hc hv
              have h1 : n < (len : Int) := by omega
              refine ⟨_, .pointer (some ⟨b, o + n.toNat * inf.size, none⟩), h, ?_, .lptr _ b _ c ty2 fz hb (by omega) (fun y hy => ho y ?_) (by rw [hszv]; exact g1) .nil⟩
              · simp [Instr.indexAt, asIntOf, hu, h0, h1, sizeOf_run hi, add_plain]
              · exact List.mem_flatMap.mpr ⟨v, List.mem_of_getElem? hv, hy⟩
          · cases h
        · cases h
      · cases h
    · cases h
  · cases h
theorem still_sound {W0 : World} {B : Nat} {e : E} {m : Nat} {env : Env} {a : Act} {o : Oper} {v : V} {st' : St} {next : Act → World → Prop} {Q : Exit → Act → World → Prop} (hs : still P o = true) (h : aop P mu T o env e.st kid = some (.ret v, st')) (hr : Rel W0 B e) (he : EnvR m e env a.tmps)
    (hn : ∀ v', Rs e [v] [v'] → next (a.put o.dst v') e.w) : o.wp P a e.w next Q := by
  unfold still at hs
  unfold aop at h
  have fin : ∀ {v1 : V} {v' : Value}, kid v1 e.st = some (.ret v, st') → Rs e [v1] [v'] → Rs e [v] [v'] := by
    intro v1 v' hk h1
    unfold kid at hk
    simp only [Option.some.injEq, Prod.mk.injEq, Out.ret.injEq] at hk
    rw [← hk.1]; exact h1
  cases hop : o.op <;> rw [hop] at hs <;> simp only at hs <;> (try (cases hs; done))
  case move x =>
    rw [hop] at h
    obtain ⟨v1, h1, h2⟩ := ob_some h
    exact wp_pure (s := Pure.pure (a.eval x)) (by simp [execOp, hop]) rfl (hn _ (fin h2 (opV_sound he h1)))
  case load t x =>
    rw [hop] at h
    obtain ⟨hk, h⟩ := if_some h
    obtain ⟨p, h1, h⟩ := ob_some h
    obtain ⟨v1, v', g1, g2, g3⟩ := load_pure (P := P) hk h hr (opV_sound he h1)
    exact wp_pure (by simp only [execOp, hop]) g2 (hn _ (fin g1 g3))
  case fieldAddr s x f =>
    rw [hop] at h
    simp only at h
    split at h
    · rename_i fd hf
      obtain ⟨hk, h⟩ := if_some h
      simp only [Bool.and_eq_true, bne_iff_ne] at hk
      obtain ⟨v0, h1, h⟩ := ob_some h
      obtain ⟨v1, v', g1, g2, g3⟩ := faddr_pure (P := P) hf (known_info hk.1) hk.2 h (opV_sound he h1)
      exact wp_pure (by simp only [execOp, hop]) g2 (hn _ (fin g1 g3))
    · cases h
  case indexAddr t x i =>
    rw [hop] at h
    obtain ⟨va, h1, h⟩ := ob_some h
    obtain ⟨vb, h2, h⟩ := ob_some h
    obtain ⟨x0, hx0⟩ := Option.isSome_iff_exists.1 hs
    rw [hx0] at h
    simp only at h
    obtain ⟨hk, h⟩ := if_some h
    obtain ⟨v1, v', g1, g2, g3⟩ := iaddr_pure (P := P) hx0 (known_info hk) h (opV_sound he h1) (opV_sound he h2)
    exact wp_pure (by simp only [execOp, hop]) g2 (hn _ (fin g1 g3))
/-- One step of what is ready. -/
theorem step_ok {m : Nat} (hT : SimT P T) (hR : Reg P mu ops B) {K' : Env → St → Res} {f : Nat → TI} {r : Out × St} {env0 : Env} {st0 : St} {N : Nat} (hN : N ≤ ops.size) (hF : Tr P mu T m ops B K' r N 0 env0 st0 [] [] f)
    (hpan : N < ops.size → ∃ o, Pan P mu T m ops B r N 0 env0 st0 [] [] f o ∧ K' = panK P mu T o) {W0 : World} {B0 : Nat} {Q : Exit → Act → World → Prop} {listed : Array Bool} {e : E} {a : Act} (hDN : ∀ n, N ≤ n → listed.getD n false = false) (hs : listed.size = ops.size)
    (hC : Closed ops (fun i => listed.getD i false)) (hst : e.st = stN P mu ops f st0 (fun i => listed.getD i false) ops.size) (hrs : EnvR m e (envN m ops f env0 (fun i => listed.getD i false) ops.size) a.tmps) (hrel : Rel W0 B0 e)
    {i : Nat} {o : Oper} (ho : ops[i]? = some o) (hni : listed.getD i false = false) (hro : ∀ x ∈ o.after.toList, Region.binds .any x = true → listed.getD x.on false = true) {cont : Act → World → Prop}
    (hcont : i < N → ∀ (v' : Value) (e' : E), e'.st = stN P mu ops f st0 (fun n => (listed.setIfInBounds i true).getD n false) ops.size → Ext e e' → Rel W0 B0 e' → EnvR m e' (envN m ops f env0 (fun n => (listed.setIfInBounds i true).getD n false) ops.size) (a.put o.dst v').tmps → cont (a.put o.dst v') e'.w)
    (hP : ∀ p p' e', r = (.panic p, e'.st) → Ext e e' → Rel W0 B0 e' → Rs e' [p] [p'] → Q (.panic [{ v := p', recovered := false }]) a e'.w) : wpOp P ops Q i cont a e.w := by
  have hi1 : i < ops.size := (Array.getElem?_eq_some_iff.mp ho).1
  have hsz : i < listed.size := by omega
  have hiN : i ≤ N := by
    rcases Nat.lt_or_ge N i with g | g
    · obtain ⟨q, hq, _⟩ := hpan (by omega)
      have hal := hq.al
      rw [Nat.zero_add] at hal
      have := List.all_eq_true.1 hal i (List.mem_range.2 hi1)
      rw [Bool.or_eq_true] at this
      rcases this with g2 | g2
      · have := Nat.le_of_ble_eq_true g2; omega
      · have := Ready.ord hR hC ho hro g2
        rw [hDN N (Nat.le_refl _)] at this; cases this
    · exact g
  have hlook : ∀ t, t ∈ o.looksAt ops → envN m ops f env0 (fun i => listed.getD i false) ops.size t = (f i).env t := fun t ht => look_same hR hN hF hC ho hiN hni hro ht
  rcases Nat.lt_or_ge i N with hiN' | hge
  case inr =>
    have hiN2 : i = N := by omega
    subst hiN2
    obtain ⟨q, hq, hKq⟩ := hpan hi1
    have hop := hq.op
    rw [Nat.zero_add, ho] at hop
    cases hop
    have hgu := hq.guard
    rw [Nat.zero_add] at hgu
    have hw := wanted_of hrs ((gd_same hlook).trans hgu)
    unfold wpOp
    simp only [ho]
    rw [if_pos hw]
    left
    have same := opV_same (ops := ops) hlook
    have hwb : isWb P mu ops i = true := by simp [isWb, ho, hq.wr.1, hq.wr.2]
    have hs0 := st_write (st0 := st0) hR hN hF hC ho hiN hni hwb hro ops.size (by omega) (Nat.le_refl _)
    have hfin := hF.fin
    rw [Nat.zero_add, hKq] at hfin
    have hrun : aop P mu T o (envN m ops f env0 (fun i => listed.getD i false) ops.size) e.st kid = some r := by
      rw [aop_congr same, hst, hs0]; exact hfin
    obtain ⟨p0, st0', hrp⟩ := hq.pan
    refine aop_sound hT hrun hrel hrs ?_ ?_
    · intro v v' e' h1 h2 h3 h4
      unfold kid at h1
      rw [hrp] at h1
      cases h1
    · intro p p' e' h1 h2 h3 h4
      exact hP p p' e' h1 h2 h3 h4
  obtain ⟨o', ok⟩ := hF.ok i (by omega) (by omega)
  have : o' = o := by have := ok.op; rw [ho] at this; exact (Option.some.inj this).symm
  subst this
  have hw := wanted_of hrs ((gd_same hlook).trans ok.guard)
  have hD' : ∀ n, (listed.setIfInBounds i true).getD n false = if n = i then true else listed.getD n false := fun n => getD_set _ _ _ _ hsz
  have henv' : envN m ops f env0 (fun n => (listed.setIfInBounds i true).getD n false) ops.size = putV m (envN m ops f env0 (fun n => listed.getD n false) ops.size) o'.dst (f i).v := by
    rw [envN_add hR hC ho hni hD' ops.size (Nat.le_refl _), if_pos hi1]
  have hst' := stN_add (f := f) (st0 := st0) hR hC ho hni hD' ops.size (Nat.le_refl _)
  have after : ∀ (v' : Value) (e' : E), e'.st = stN P mu ops f st0 (fun n => (listed.setIfInBounds i true).getD n false) ops.size → Ext e e' → Rel W0 B0 e' → Rs e' [(f i).v] [v'] → cont (a.put o'.dst v') e'.w := fun v' e' h1 h2 h3 h4 =>
    hcont hiN' v' e' h1 h2 h3 (by rw [henv']; exact putV_sound (hrs.mono h2) o'.dst h4)
  unfold wpOp
  simp only [ho]
  cases hran : (f i).ran with
  | false =>
    rw [hran] at hw
    rw [if_neg (by rw [hw]; simp)]
    obtain ⟨g1, g2⟩ := ok.skip hran
    refine after undef e ?_ (Ext.refl e) hrel (by rw [g1]; exact .tup [] #[] .nil .nil)
    rw [hst', if_neg (by rw [hran]; simp)]; exact hst
  | true =>
    rw [hran] at hw
    rw [if_pos hw]
    left
    have same := opV_same (ops := ops) hlook
    rcases cls_le (P := P) (mu := mu) o' with hc | hc | hc
    · obtain ⟨g1, g2⟩ := ok.pure hran hc
      have hnw : isWb P mu ops i = false := by simp [isWb, ho, hc]
      have hrun : aop P mu T o' (envN m ops f env0 (fun i => listed.getD i false) ops.size) e.st kid = some (.ret (f i).v, e.st) := by
        rw [aop_congr same, g2]; rfl
      refine aop_sound hT hrun hrel hrs ?_ ?_
      · intro v v' e' h1 h2 h3 h4
        unfold kid at h1
        simp only [Option.some.injEq, Prod.mk.injEq, Out.ret.injEq] at h1
        refine after v' e' ?_ h2 h3 (by rw [← h1.1]; exact h4)
        rw [hst', if_neg (by rw [hnw]; simp), h1.2]; exact hst
      · intro p p' e' h1; cases h1
    · obtain ⟨g1, ag, c, p, g2, g3⟩ := ok.load hran hc
      have hnw : isWb P mu ops i = false := by simp [isWb, ho, hc]
      have hl : IsL P mu ops f i ag c p := ⟨o', ho, hc, g2⟩
      have hv := st_load (st0 := st0) hR hN hF hC hDN ho hiN' hni hran hro hl g3
      rw [← hst] at hv
      have hrun : aop P mu T o' (envN m ops f env0 (fun i => listed.getD i false) ops.size) e.st kid = some (.ret (f i).v, e.st) := by
        rw [aop_congr same]
        unfold loadOf at g2
        unfold aop
        cases hop : o'.op with
        | load t ad =>
          rw [hop] at g2
          simp only at g2 ⊢
          by_cases hk : known P t = true
          · rw [if_pos hk] at g2 ⊢
            cases hq : opV (f i).env ad with
            | none => rw [hq] at g2; cases g2
            | some pv =>
              rw [hq] at g2
              simp only [Option.some.injEq, Prod.mk.injEq] at g2
              obtain ⟨r1, r2, r3⟩ := g2
              subst r3
              show A.load (isAg P t) (P.cellsOf t) pv e.st kid = _
              rw [r1, r2, ldv_load hv]; rfl
          · rw [if_neg hk] at g2; cases g2
        | _ => rw [hop] at g2; cases g2
      refine aop_sound hT hrun hrel hrs ?_ ?_
      · intro v v' e' h1 h2 h3 h4
        unfold kid at h1
        simp only [Option.some.injEq, Prod.mk.injEq, Out.ret.injEq] at h1
        refine after v' e' ?_ h2 h3 (by rw [← h1.1]; exact h4)
        rw [hst', if_neg (by rw [hnw]; simp), h1.2]; exact hst
      · intro p p' e' h1; cases h1
    · have hwb : isWb P mu ops i = true := by simp [isWb, ho, hc]
      have g1 := ok.write hran (by omega) (by omega)
      have hs0 := st_write (st0 := st0) hR hN hF hC ho (by omega) hni hwb hro ops.size (by omega) (Nat.le_refl _)
      have hrun : aop P mu T o' (envN m ops f env0 (fun i => listed.getD i false) ops.size) e.st kid = some (.ret (f i).v, (f (i + 1)).st) := by
        rw [aop_congr same, hst, hs0]; exact g1
      refine aop_sound hT hrun hrel hrs ?_ ?_
      · intro v v' e' h1 h2 h3 h4
        unfold kid at h1
        simp only [Option.some.injEq, Prod.mk.injEq, Out.ret.injEq] at h1
        refine after v' e' ?_ h2 h3 (by rw [← h1.1]; exact h4)
        rw [hst', if_pos ⟨hi1, hran, hwb⟩, h1.2]
      · intro p p' e' h1; cases h1
/-- An edge more. -/
def addE (ops : Array Oper) (i j : Nat) : Array Oper := ops.modify j fun o => { o with after := o.after.push { on := i, ground := Ground.data } }
def pairOK (P : Program) (ops : Array Oper) (B : List Nat) (i j : Nat) : Bool :=
  match ops[i]?, ops[j]? with
  | some q, some o => (allocT P q).isSome && (allocT P o).isSome && Nat.blt i j && q.dst != o.dst &&
    (List.range ops.size).all fun k => Nat.beq k i || Nat.beq k j || match ops[k]? with
      | none => false
      | some x => x.dst != q.dst && x.dst != o.dst && (!hasEdge x j || hasEdge x i) && ((still P x && !(x.looksAt ops).any (fun t => some t == o.dst)) || (Nat.blt j k && ord B i k))
  | _, _ => false
def findPair (P : Program) (mu : Nat → Bool) (ops : Array Oper) (B : List Nat) : Option (Nat × Nat) :=
  (List.range ops.size).findSome? fun j => (List.range j).findSome? fun i => match ops[i]?, ops[j]? with
    | some q, some o => if cls P mu o == 2 && cls P mu q == 2 && !ord B i j then some (i, j) else none
    | _, _ => none
def areg2 (P : Program) (mu : Nat → Bool) (T : Tbl) (m : Nat) (ops : Array Oper) (env : Env) (st : St) (K : Env → St → Res) : Res :=
  if regOk P mu ops (befs ops.toList []) then aregL P mu T m ops (befs ops.toList []) K (List.range ops.size) env st [] []
  else match findPair P mu ops (befs ops.toList []) with
    | some (i, j) => if regOk P mu (addE ops i j) (befs (addE ops i j).toList []) && pairOK P ops (befs (addE ops i j).toList []) i j then aregL P mu T m (addE ops i j) (befs (addE ops i j).toList []) K (List.range (addE ops i j).size) env st [] [] else none
    | none => none
theorem alloc_ret {o : Oper} {t : TypeId} (h : allocT P o = some t) {env : Env} {st : St} {r : Out × St} (hr : aop P mu T o env st kid = some r) : ∃ z, zeroV P t = some z ∧ z.cells.all V.one = true ∧ r = (.ret (.ptr st.n 0), st.new (.cells z.cells)) := by
  obtain ⟨h1, h2, h3, h4⟩ := allocT_some h
  unfold aop at hr
  rw [h1] at hr
  simp only at hr
  obtain ⟨z, hz, hr⟩ := ob_some hr
  rw [h4] at hr
  simp only [_root_.cond_false] at hr
  unfold A.box at hr
  split at hr
  · rename_i ho
    unfold kid at hr
    exact ⟨z, hz, ho, (Option.some.inj hr).symm⟩
  · cases hr
theorem addE_ne {i j k : Nat} (h : k ≠ j) : (addE ops i j)[k]? = ops[k]? := by
  unfold addE; rw [Array.getElem?_modify, if_neg (fun g => h g.symm)]
theorem addE_at {i j : Nat} {o : Oper} (h : ops[j]? = some o) : (addE ops i j)[j]? = some { o with after := o.after.push { on := i, ground := Ground.data } } := by
  unfold addE; rw [Array.getElem?_modify, if_pos rfl, h]; rfl
theorem addE_size (i j : Nat) : (addE ops i j).size = ops.size := by unfold addE; simp
theorem addE_dst (i j k : Nat) : ((addE ops i j)[k]?).bind (·.dst) = (ops[k]?).bind (·.dst) := by
  by_cases h : k = j
  · subst h
    cases ho : ops[k]? with
    | none =>
      have : (addE ops i k)[k]? = none := by unfold addE; rw [Array.getElem?_modify, if_pos rfl, ho]; rfl
      rw [this]
    | some o => rw [addE_at ho]; rfl
  · rw [addE_ne h]
theorem addE_yielded (i j : Nat) (tmps : Array Value) : yielded (addE ops i j) tmps = yielded ops tmps := by
  funext k
  unfold yielded
  rw [addE_dst]
theorem addE_wpOp (i j : Nat) (Q : Exit → Act → World → Prop) (k : Nat) (K : Act → World → Prop) (a : Act) (w : World) : wpOp P (addE ops i j) Q k K a w = wpOp P ops Q k K a w := by
  unfold wpOp
  rw [addE_yielded]
  by_cases h : k = j
  · subst h
    cases ho : ops[k]? with
    | none =>
      have : (addE ops i k)[k]? = none := by unfold addE; rw [Array.getElem?_modify, if_pos rfl, ho]; rfl
      rw [this]
    | some o => rw [addE_at ho]; rfl
  · rw [addE_ne h]
theorem addE_looks (i j : Nat) (x : Oper) : x.looksAt (addE ops i j) = x.looksAt ops := by
  unfold Oper.looksAt
  cases x.guard with
  | none => rfl
  | some g => obtain ⟨k, w⟩ := g; simp only; rw [addE_dst]
theorem set_comm (l : Array Bool) (i j : Nat) : (l.setIfInBounds i true).setIfInBounds j true = (l.setIfInBounds j true).setIfInBounds i true := by
  apply Array.ext_getElem?
  intro k
  simp only [Array.getElem?_setIfInBounds, Array.size_setIfInBounds]
  by_cases h1 : j = k <;> by_cases h2 : i = k <;> simp [h1, h2]
theorem wp_run {o : Oper} {a : Act} {w w' : World} {next : Act → World → Prop} {Q : Exit → Act → World → Prop} {s : Sem Value} {v' : Value} (hop : execOp a.eval o = (do Pure.pure (.value (← s)))) (h : s.run P w = .ok v' w')
    (hn : next (a.put o.dst v') w') : o.wp P a w next Q := by
  unfold Oper.wp
  rw [hop]
  simp only [Sem.run_bind, h, Result.andThen, Sem.run_pure]
  exact hn
theorem alloc_run {t : TypeId} {i : TypeInfo} {z : Value} (hi : P.info? t = some i) (hz : i.zero = some z) (old : Value) (w : World) : (Instr.alloc t true old).run P w = .ok (.pointer (some ⟨w.heap.size, 0, none⟩)) { w with heap := w.heap.push (.cells z.cells t (0, 0)) } := by
  simp [Instr.alloc, zeroValue, typeInfo, hi, hz, newVar, newRow]
theorem alloc_wp {o : Oper} {t : TypeId} (h : allocT P o = some t) {i : TypeInfo} {z : Value} (hi : P.info? t = some i) (hz : i.zero = some z) {d : Nat} (hd : o.dst = some d) {a : Act} {w : World} {next : Act → World → Prop} {Q : Exit → Act → World → Prop}
    (hn : next (a.put (some d) (.pointer (some ⟨w.heap.size, 0, none⟩))) { w with heap := w.heap.push (.cells z.cells t (0, 0)) }) : o.wp P a w next Q := by
  obtain ⟨h1, h2, h3, h4⟩ := allocT_some h
  exact wp_run (by simp [execOp, h1]; rfl) (alloc_run hi hz _ w) (by rw [hd]; exact hn)
theorem put_getD {a : Act} {m d t : Nat} (hs : a.tmps.size = m) (v : Value) : (a.put (some d) v).tmps.getD t undef = if d < m ∧ t = d then v else a.tmps.getD t undef := by
  simp only [Act.put, Array.getD_eq_getD_getElem?, Array.getElem?_setIfInBounds, hs]
  by_cases h : d = t
  · subst h
    by_cases h2 : d < m
    · simp [h2]
    · simp [h2, hs]
  · rw [if_neg h, if_neg (fun g => h g.2.symm)]
theorem alloc_cls {mu : Nat → Bool} {o : Oper} {t : TypeId} (h : allocT P o = some t) : cls P mu o = 2 := by
  obtain ⟨h1, _⟩ := allocT_some h
  unfold cls; rw [h1]
theorem still_cls {mu : Nat → Bool} {o : Oper} (h : still P o = true) : cls P mu o = 0 ∨ cls P mu o = 1 := by
  unfold still at h
  unfold cls
  cases hop : o.op <;> rw [hop] at h <;> simp at h ⊢
theorem zero_cells {e : E} {t : TypeId} {z : V} (hz : zeroV P t = some z) : ∃ i zv, P.info? t = some i ∧ i.zero = some zv ∧ ∀ e : E, Rs e z.cells zv.cells.toList ∧ z.cells.length = zv.cells.size := by
  obtain ⟨i, zv, hi, hiz, hc⟩ := zeroV_some hz
  refine ⟨i, zv, hi, hiz, fun e => ?_⟩
  have := (constV_sound e hc).cells
  exact ⟨this, by simpa using this.length⟩
theorem areg2_sound (hT : SimT P T) (hm : P.follows .mixedOrders = true) (m : Nat) : SoundR P m (areg2 P mu T m) := by
  intro W0 B0 r Q id ops env0 e0 a0 K fr hW h hr he0 hI hK hP
  unfold areg2 at h
  split at h
  · rename_i hok
    exact areg_sound hT hm m W0 B0 r Q id ops env0 e0 a0 K fr hW (by unfold areg; rw [if_pos hok]; exact h) hr he0 hI hK hP
  split at h
  case h_2 => cases h
  rename_i i j hfp
  obtain ⟨hok, h⟩ := if_some h
  rw [Bool.and_eq_true] at hok
  obtain ⟨hok, hpk⟩ := hok
  have hR := reg_of_ok hok
  unfold pairOK at hpk
  split at hpk
  case h_2 => cases hpk
  rename_i q o hq ho
  simp only [Bool.and_eq_true, bne_iff_ne, ne_eq] at hpk
  obtain ⟨⟨⟨⟨t1, t2⟩, hij⟩, hdne⟩, hall⟩ := hpk
  obtain ⟨ti, hti⟩ := Option.isSome_iff_exists.1 t1
  obtain ⟨tj, htj⟩ := Option.isSome_iff_exists.1 t2
  have hij : i < j := by simpa using hij
  have hsz' : (addE ops i j).size = ops.size := addE_size i j
  have hO : (addE ops i j)[j]? = some { o with after := o.after.push { on := i, ground := Ground.data } } := addE_at ho
  have hQ' : (addE ops i j)[i]? = some q := (addE_ne (by omega)).trans hq
  generalize hB' : befs (addE ops i j).toList [] = B' at hok hall h hR
  obtain ⟨_, hgi, ⟨di, hdi⟩, _⟩ := allocT_some hti
  obtain ⟨_, hgj, ⟨dj, hdj⟩, _⟩ := allocT_some htj
  have hjsz : j < ops.size := (Array.getElem?_eq_some_iff.mp ho).1
  have fact : ∀ k x, k ≠ i → k ≠ j → ops[k]? = some x → x.dst ≠ q.dst ∧ x.dst ≠ o.dst ∧ (hasEdge x j = true → hasEdge x i = true) ∧ ((still P x = true ∧ ∀ t ∈ x.looksAt ops, some t ≠ o.dst) ∨ (j < k ∧ ord B' i k = true)) := by
    intro k x hki hkj hx
    have := List.all_eq_true.1 hall k (List.mem_range.2 (Array.getElem?_eq_some_iff.mp hx).1)
    rw [show Nat.beq k i = false by rw [← Bool.not_eq_true, Nat.beq_eq]; exact hki, show Nat.beq k j = false by rw [← Bool.not_eq_true, Nat.beq_eq]; exact hkj, hx] at this
    simp only [Bool.false_or, Bool.and_eq_true, bne_iff_ne, ne_eq, Bool.or_eq_true, Bool.not_eq_true'] at this
    obtain ⟨⟨⟨a1, a2⟩, a3⟩, a4⟩ := this
    refine ⟨a1, a2, fun g => ?_, ?_⟩
    · rcases a3 with b | b
      · rw [g] at b; cases b
      · exact b
    · rcases a4 with ⟨b1, b2⟩ | ⟨b1, b2⟩
      · refine .inl ⟨b1, fun t ht g => ?_⟩
        have := List.any_eq_false.1 b2 t ht
        simp [g] at this
      · exact .inr ⟨by simpa using b1, b2⟩
  have edge_iff : ∀ (x : Oper) (k : Nat), hasEdge x k = true ↔ ∃ y ∈ x.after.toList, Region.binds .any y = true ∧ y.on = k := by
    intro x k
    unfold hasEdge
    rw [List.any_eq_true]
    constructor
    · rintro ⟨y, h1, h2⟩; rw [Bool.and_eq_true, beq_iff_eq] at h2; exact ⟨y, h1, h2⟩
    · rintro ⟨y, h1, h2, h3⟩; exact ⟨y, h1, by rw [Bool.and_eq_true, beq_iff_eq]; exact ⟨h2, h3⟩⟩
  have back : ∀ k x, ops[k]? = some x → ∀ y ∈ x.after.toList, Region.binds .any y = true → y.on < k := by
    intro k x hx y hy hb
    by_cases hkj : k = j
    · subst hkj
      rw [ho] at hx; cases hx
      exact hR.back k _ hO y (by simp; exact .inl (by simpa using hy)) hb
    · exact hR.back k x ((addE_ne hkj).trans hx) y hy hb
  rw [List.range_eq_range'] at h
  have htr := areg_trace _ _ _ _ _ _ h
  have key : ∀ (N : Nat) (hN : N ≤ (addE ops i j).size) (K' : Env → St → Res) (f : Nat → TI) (hF : Tr P mu T m (addE ops i j) B' K' r N 0 env0 e0.st [] [] f) (hend : N = (addE ops i j).size → K' = K) (hpan : N < (addE ops i j).size → ∃ o, Pan P mu T m (addE ops i j) B' r N 0 env0 e0.st [] [] f o ∧ K' = panK P mu T o) (hjN : j < N) (fuel : Nat),
      (∀ (listed : Array Bool) (e : E) (a : Act), (∀ n, N ≤ n → listed.getD n false = false) → listed.size = (addE ops i j).size → (unl (addE ops i j).size listed).length = fuel → Closed (addE ops i j) (fun i => listed.getD i false) → e.st = stN P mu (addE ops i j) f e0.st (fun i => listed.getD i false) (addE ops i j).size →
        EnvR m e (envN m (addE ops i j) f env0 (fun i => listed.getD i false) (addE ops i j).size) a.tmps → Ext e0 e → Rel W0 B0 e → InF fr a → wpAny P .any ops Q fuel listed a e.w) ∧
      (∀ (l0 : Array Bool) (e : E) (a : Act) (b : Nat) (cz : Array Value), (∀ n, N ≤ n → l0.getD n false = false) → l0.size = (addE ops i j).size → (unl (addE ops i j).size (l0.setIfInBounds j true)).length = fuel → Closed (addE ops i j) (fun i => l0.getD i false) → l0.getD i false = false → l0.getD j false = false → (∀ x ∈ o.after.toList, Region.binds .any x = true → l0.getD x.on false = true) →
        e.st = stN P mu (addE ops i j) f e0.st (fun i => l0.getD i false) (addE ops i j).size → EnvR m e (putV m (envN m (addE ops i j) f env0 (fun i => l0.getD i false) (addE ops i j).size) (some dj) (.bld 0)) a.tmps → (dj < m → a.tmps.getD dj undef = .pointer (some ⟨b, 0, none⟩)) →
        Lone B0 e b (.cells cz tj (0, 0)) → (∀ z, zeroV P tj = some z → z.cells.all V.one = true → Rs e z.cells cz.toList ∧ z.cells.length = cz.size) → Ext e0 e → Rel W0 B0 e → InF fr a → wpAny P .any ops Q fuel (l0.setIfInBounds j true) a e.w) := by
    intro N hN K' f hF hend hpan hjN fuel
    have hiN : i < N := by omega
    have set_get : ∀ (l : Array Bool) (k n : Nat), k < l.size → (l.setIfInBounds k true).getD n false = if n = k then true else l.getD n false := fun l k n hk => getD_set _ _ _ _ hk
    have closed_set : ∀ (l : Array Bool) (k : Nat) (x : Oper), k < l.size → Closed (addE ops i j) (fun i => l.getD i false) → (addE ops i j)[k]? = some x → (∀ y ∈ x.after.toList, Region.binds .any y = true → l.getD y.on false = true) → Closed (addE ops i j) (fun n => (l.setIfInBounds k true).getD n false) := by
      intro l k x hk hC hx hro n q hq hj y hy hb
      simp only [set_get l k _ hk] at hj ⊢
      by_cases hnk : n = k
      · subst hnk
        rw [hx] at hq; cases hq
        by_cases hxi : y.on = n
        · rw [if_pos hxi]
        · rw [if_neg hxi]; exact hro y hy hb
      · rw [if_neg hnk] at hj
        have := hC n q hq hj y hy hb
        by_cases hxi : y.on = k
        · rw [if_pos hxi]
        · rw [if_neg hxi]; exact this
    have ready_any : ∀ (l : Array Bool), l.size = ops.size → 0 < (unl ops.size l).length → Region.ready .any ops l = [] → False := by
      intro listed hs hpos hnil
      have hmin : ∀ i, i < ops.size → listed.getD i true = false → False := by
        intro i
        induction i using Nat.strongRecOn with
        | _ i ih2 =>
          intro hi hl
          have ho := Array.getElem?_eq_getElem hi
          have : i ∈ Region.ready .any ops listed := by
            refine ready_mem.mpr ⟨hi, hl, _, ho, fun x hx hb => ?_⟩
            have hlt := back i _ ho x hx hb
            have hsz : x.on < listed.size := by omega
            cases hq : listed.getD x.on true with
            | false => exact (ih2 x.on hlt (by omega) hq).elim
            | true =>
              simp only [Array.getD_eq_getD_getElem?, Array.getElem?_eq_getElem hsz, Option.getD_some] at hq ⊢
              exact hq
          rw [hnil] at this; cases this
      obtain ⟨i, hi⟩ := List.exists_mem_of_length_pos hpos
      simp only [unl, List.mem_filter, List.mem_range, Bool.not_eq_true'] at hi
      exact hmin i hi.1 hi.2
    have false_of : ∀ (l : Array Bool) (k : Nat), k < l.size → l.getD k true = false → l.getD k false = false := by
      intro l k hk h
      simp only [Array.getD_eq_getD_getElem?, Array.getElem?_eq_getElem hk, Option.getD_some] at h ⊢
      exact h
    have true_of : ∀ (l : Array Bool) (k : Nat), k < l.size → l.getD k false = false → l.getD k true = false := by
      intro l k hk h
      simp only [Array.getD_eq_getD_getElem?, Array.getElem?_eq_getElem hk, Option.getD_some] at h ⊢
      exact h
    -- what the text's order makes of the two
    obtain ⟨q', okI⟩ := hF.ok i (by omega) (by omega)
    have : q = q' := by have := okI.op; rw [hQ'] at this; exact Option.some.inj this
    subst this
    obtain ⟨o', okJ⟩ := hF.ok j (by omega) (by omega)
    have hoj : o' = { o with after := o.after.push { on := i, ground := Ground.data } } := by have := okJ.op; rw [hO] at this; exact (Option.some.inj this).symm
    subst hoj
    have ranI : (f i).ran = true := by
      have := okI.guard
      unfold gd at this
      rw [hgi] at this
      exact (Option.some.inj this).symm
    have ranJ : (f j).ran = true := by
      have := okJ.guard
      unfold gd at this
      rw [hgj] at this
      exact (Option.some.inj this).symm
    have clI := alloc_cls (mu := mu) hti
    have htj' : allocT P { o with after := o.after.push { on := i, ground := Ground.data } } = some tj := htj
    have clJ := alloc_cls (mu := mu) htj'
    have wbI : isWb P mu (addE ops i j) i = true := by simp [isWb, hQ', clI]
    have wbJ : isWb P mu (addE ops i j) j = true := by simp [isWb, hO, clJ]
    obtain ⟨zi, hzi, onei, hvi⟩ := alloc_ret hti (okI.write ranI (by omega) (by omega))
    obtain ⟨zj, hzj, onej, hvj⟩ := alloc_ret htj' (okJ.write ranJ (by omega) (by omega))
    simp only [Prod.mk.injEq, Out.ret.injEq] at hvi hvj
    obtain ⟨vi1, vi2⟩ := hvi
    obtain ⟨vj1, vj2⟩ := hvj
    induction fuel with
    | zero =>
      refine ⟨?_, ?_⟩
      · intro listed e a hDN hs hu hC hst hrs hx hrel hd
        have hnil : unl (addE ops i j).size listed = [] := List.eq_nil_of_length_eq_zero hu
        have hall : ∀ i', i' < (addE ops i j).size → listed.getD i' false = true := by
          intro k hk
          have : k ∉ unl (addE ops i j).size listed := by rw [hnil]; simp
          simp only [unl, List.mem_filter, List.mem_range, Bool.not_eq_true', not_and] at this
          have := this hk
          have hsz : k < listed.size := by omega
          simp only [Array.getD_eq_getD_getElem?, Array.getElem?_eq_getElem hsz, Option.getD_some] at this ⊢
          simpa using this
        have hready : Region.ready .any ops listed = [] := by
          apply List.eq_nil_iff_forall_not_mem.mpr
          intro k hk
          obtain ⟨h1, h2, _⟩ := ready_mem.mp hk
          have : k ∈ unl (addE ops i j).size listed := by simp [unl, hsz', h1]; simpa [Array.getD_eq_getD_getElem?] using h2
          rw [hnil] at this; cases this
        refine ⟨hready, ?_⟩
        have hNe : N = (addE ops i j).size := by
          rcases Nat.lt_or_ge N (addE ops i j).size with g | g
          · have := hall N g
            rw [hDN N (Nat.le_refl _)] at this; cases this
          · omega
        have hKe := hend hNe
        subst hKe
        subst hNe
        have henv : ∀ n, n ≤ (addE ops i j).size → envN m (addE ops i j) f env0 (fun i => listed.getD i false) n = envN m (addE ops i j) f env0 (fun _ => true) n := by
          intro n
          induction n with
          | zero => intro _; rfl
          | succ n ih => intro hn; simp only [envN, hall n (by omega), ih (by omega)]
        have hstn : ∀ n, n ≤ (addE ops i j).size → stN P mu (addE ops i j) f e0.st (fun i => listed.getD i false) n = (f n).st := by
          intro n hn
          rcases stN_cases (st0 := e0.st) hR hN hF hC n hn with g | ⟨n0, g1, g2, _⟩
          · exact g
          · have := hall n0 (by omega)
            rw [g2] at this; cases this
        have hfin := hF.fin
        rw [Nat.zero_add] at hfin
        rw [hstn _ (Nat.le_refl _)] at hst
        rw [henv _ (Nat.le_refl _), ← env_all hN hF _ (Nat.le_refl _)] at hrs
        exact hK _ e a (by rw [hst]; exact hfin) hx hrel hrs hd
      · intro l0 e a b cz hDN hs hu hC h0i h0j
        exfalso
        have hnil := List.eq_nil_of_length_eq_zero hu
        have : i ∈ unl (addE ops i j).size (l0.setIfInBounds j true) := by
          simp only [unl, List.mem_filter, List.mem_range, Bool.not_eq_true']
          refine ⟨by omega, true_of _ _ (by simp; omega) ?_⟩
          rw [set_get _ _ _ (by omega), if_neg (by omega)]; exact h0i
        rw [hnil] at this; cases this
    | succ fuel ih =>
      obtain ⟨ihN, ihP⟩ := ih
      refine ⟨?_, ?_⟩
      · intro listed e a hDN hs hu hC hst hrs hx hrel hd
        refine ⟨fun hnil => (ready_any listed (by omega) (by rw [← hsz']; omega) hnil).elim, fun k hk => ?_⟩
        obtain ⟨hk1, hk2, x, hxk, hro⟩ := ready_mem.mp hk
        have hksz : k < listed.size := by omega
        have hni := false_of listed k hksz hk2
        have hunl : (unl (addE ops i j).size (listed.setIfInBounds k true)).length = fuel := by
          have := unl_set hs (show k ∈ unl (addE ops i j).size listed by simp only [unl, List.mem_filter, List.mem_range, Bool.not_eq_true']; exact ⟨by omega, hk2⟩)
          omega
        by_cases hkj : k = j ∧ listed.getD i false = false
        · obtain ⟨rfl, hli⟩ := hkj
          rw [ho] at hxk; cases hxk
          unfold wpOp
          simp only [ho]
          rw [if_pos (by simp [Region.wanted, hgj])]
          left
          obtain ⟨inf, zv, w1, w2, w3⟩ := zero_cells (P := P) (e := e) hzj
          refine alloc_wp htj w1 w2 hdj ?_
          refine ihP listed (e.garb (.cells zv.cells tj (0, 0))) _ e.w.heap.size zv.cells hDN hs hunl hC hli hni hro hst ?_ (fun hd => by rw [put_getD hrs.1, if_pos ⟨hd, rfl⟩]) (Lone.garb hrel _) ?_ (hx.trans (Ext.garb e _)) (hrel.garb _) (by have := hd.put (noD_at hW ho) (.pointer (some ⟨e.w.heap.size, 0, none⟩)); rw [hdj] at this; exact this)
          · exact putV_sound (hrs.mono (Ext.garb e _)) (some dj) (.bld 0 _ .nil)
          · intro z hz _
            rw [hzj] at hz; cases hz
            exact w3 _
        · obtain ⟨x', hx', hxd, hro'⟩ : ∃ x', (addE ops i j)[k]? = some x' ∧ x'.dst = x.dst ∧ ∀ y ∈ x'.after.toList, Region.binds .any y = true → listed.getD y.on false = true := by
            by_cases hk2 : k = j
            · subst hk2
              rw [ho] at hxk; cases hxk
              refine ⟨_, hO, rfl, fun y hy hb => ?_⟩
              simp only [Array.toList_push, List.mem_append, List.mem_singleton] at hy
              rcases hy with g | g
              · exact hro y g hb
              · subst g
                cases hl : listed.getD i false with
                | true => rfl
                | false => exact absurd ⟨rfl, hl⟩ hkj
            · exact ⟨x, (addE_ne hk2).trans hxk, rfl, hro⟩
          rw [← addE_wpOp i j]
          refine step_ok hT hR hN hF hpan hDN hs hC hst hrs hrel hx' hni hro' ?_ ?_
          · intro hkN v' e' g1 g2 g3 g4
            refine ihN _ e' _ (fun n hn => by rw [set_get _ _ _ hksz, if_neg (by omega)]; exact hDN n hn) (by simp [hs]) hunl (closed_set listed k x' hksz hC hx' hro') g1 g4 (hx.trans g2) g3 ?_
            have := hd.put (noD_at hW hxk) v'
            rw [← hxd] at this; exact this
          · intro p p' e' g1 g2 g3 g4
            exact hP p p' e' a g1 (hx.trans g2) g3 g4 hd
      · intro l0 e a b cz hDN hs hu hC h0i h0j hjr hst hrs hp hl hcz hx hrel hd
        have hjs : j < l0.size := by omega
        refine ⟨fun hnil => (ready_any _ (by simp; omega) (by rw [← hsz']; omega) hnil).elim, fun k hk => ?_⟩
        obtain ⟨hk1, hk2, x, hxk, hro⟩ := ready_mem.mp hk
        have hksz : k < l0.size := by omega
        have hni' := false_of _ k (by simp; omega) hk2
        rw [set_get _ _ _ hjs] at hni'
        have hkj : k ≠ j := fun g => by rw [if_pos g] at hni'; cases hni'
        rw [if_neg hkj] at hni'
        have hunl : (unl (addE ops i j).size ((l0.setIfInBounds j true).setIfInBounds k true)).length = fuel := by
          have := unl_set (n := (addE ops i j).size) (listed := l0.setIfInBounds j true) (by simp; omega) (show k ∈ unl (addE ops i j).size (l0.setIfInBounds j true) by simp only [unl, List.mem_filter, List.mem_range, Bool.not_eq_true']; exact ⟨by omega, hk2⟩)
          omega
        have hxk' : (addE ops i j)[k]? = some x := (addE_ne hkj).trans hxk
        have hsC := set_comm l0 j k
        by_cases hki : k = i
        · subst hki
          rw [hq] at hxk; cases hxk
          have hro0 : ∀ y ∈ q.after.toList, Region.binds .any y = true → l0.getD y.on false = true := by
            intro y hy hb
            have h1 := hro y hy hb
            have h2 := back k q hq y hy hb
            rw [set_get _ _ _ hjs, if_neg (by omega)] at h1
            exact h1
          have hC1 := closed_set l0 k q hksz hC hQ' hro0
          have hro1 : ∀ y ∈ ({ o with after := o.after.push { on := k, ground := Ground.data } } : Oper).after.toList, Region.binds .any y = true → (l0.setIfInBounds k true).getD y.on false = true := by
            intro y hy hb
            rw [set_get _ _ _ hksz]
            simp only [Array.toList_push, List.mem_append, List.mem_singleton] at hy
            rcases hy with g | g
            · split
              · rfl
              · exact hjr y g hb
            · subst g; rw [if_pos rfl]
          have hC2 := closed_set (l0.setIfInBounds k true) j _ (by simp; omega) hC1 hO hro1
          have sD1 : ∀ n, (l0.setIfInBounds k true).getD n false = if n = k then true else l0.getD n false := fun n => set_get l0 k n hksz
          have sD2 : ∀ n, ((l0.setIfInBounds k true).setIfInBounds j true).getD n false = if n = j then true else (l0.setIfInBounds k true).getD n false := fun n => set_get _ j n (by simp; omega)
          have h1j : (l0.setIfInBounds k true).getD j false = false := by rw [sD1, if_neg (by omega)]; exact h0j
          have sI := st_write (st0 := e0.st) hR hN hF hC hQ' (by omega) h0i wbI hro0 (addE ops k j).size (by omega) (Nat.le_refl _)
          have sJ := st_write (st0 := e0.st) hR hN hF hC1 hO (by omega) h1j wbJ hro1 (addE ops k j).size (by omega) (Nat.le_refl _)
          have aI := stN_add (f := f) (st0 := e0.st) hR hC hQ' h0i sD1 (addE ops k j).size (Nat.le_refl _)
          have aJ := stN_add (f := f) (st0 := e0.st) hR hC1 hO h1j sD2 (addE ops k j).size (Nat.le_refl _)
          rw [if_pos ⟨by omega, ranI, wbI⟩] at aI
          rw [if_pos ⟨by omega, ranJ, wbJ⟩] at aJ
          have eJ : (f j).st = (f (k + 1)).st := sJ.symm.trans aI
          have eN1 := envN_add (m := m) (f := f) (env0 := env0) hR hC hQ' h0i sD1 (addE ops k j).size (Nat.le_refl _)
          have eN2 := envN_add (m := m) (f := f) (env0 := env0) hR hC1 hO h1j sD2 (addE ops k j).size (Nat.le_refl _)
          rw [if_pos (by omega)] at eN1 eN2
          have est : e.st = (f k).st := hst.trans sI
          unfold wpOp
          simp only [hq]
          rw [if_pos (by simp [Region.wanted, hgi])]
          left
          obtain ⟨inf, zv, w1, w2, w3⟩ := zero_cells (P := P) (e := e) hzi
          refine alloc_wp hti w1 w2 hdi ?_
          have onei' : ∀ v ∈ zi.cells, v.one = true := by simpa using onei
          have onej' : ∀ v ∈ zj.cells, v.one = true := by simpa using onej
          have hnew : ∀ o', e.st.ob e.st.n = some o' → False := fun o' ho' => by have := (hrel.live _ _ ho').1; omega
          have X1 := Ext.newOb e (.cells zi.cells) (.cells zv.cells ti (0, 0)) hnew
          have R1 : Rel W0 B0 (e.newOb (.cells zi.cells) (.cells zv.cells ti (0, 0))) := hrel.newOb _ _ (by
            intro cs hcs; cases hcs
            refine ⟨fun x hx => oneB_of (onei' x hx), zv.cells, ti, (0, 0), rfl, fun i _ _ => by simp, by have := (w3 e).2; omega, ?_, bldOK_of onei'⟩
            rw [(w3 e).2, List.take_of_length_le (by simp)]; exact (w3 e).1) (by intro es hes; cases hes)
          have L1 := hl.newOb hrel (.cells zi.cells) (.cells zv.cells ti (0, 0))
          obtain ⟨z1, z2⟩ := hcz zj hzj onej
          have hnew1 : ∀ o', (e.newOb (.cells zi.cells) (.cells zv.cells ti (0, 0))).st.ob (e.newOb (.cells zi.cells) (.cells zv.cells ti (0, 0))).st.n = some o' → False := fun o' ho' => by have := (R1.live _ _ ho').1; omega
          have X2 := Ext.adopt (e.newOb (.cells zi.cells) (.cells zv.cells ti (0, 0))) (.cells zj.cells) b hnew1
          have R2 := R1.adopt L1 (cs := zj.cells) (fun x hx => oneB_of (onej' x hx)) (fun i _ _ => by simp) (by omega) (by rw [z2, List.take_of_length_le (by simp)]; exact z1.mono X1) (bldOK_of onej')
          have := ihN ((l0.setIfInBounds k true).setIfInBounds j true) ((e.newOb (.cells zi.cells) (.cells zv.cells ti (0, 0))).adopt (.cells zj.cells) b) (a.put (some di) (.pointer (some ⟨e.w.heap.size, 0, none⟩)))
            (fun n hn => by rw [sD2, if_neg (by omega), sD1, if_neg (by omega)]; exact hDN n hn) (by simp; omega) (by rw [← hsC]; exact hunl) hC2 ?_ ?_ (hx.trans (X1.trans X2)) R2 (by have := hd.put (noD_at hW hq) (.pointer (some ⟨e.w.heap.size, 0, none⟩)); rw [hdi] at this; exact this)
          · rw [hsC]; exact this
          · rw [aJ, vj2, eJ, vi2, ← est]; rfl
          · have H1 := putV_sound (hrs.mono (X1.trans X2)) (some di) (v := .ptr e.st.n 0) (v' := .pointer (some ⟨e.w.heap.size, 0, none⟩)) (.ptr _ _ _ (by show e.st.n < e.st.n + 1 + 1; omega) (fun o ho => by simp [E.adopt, E.newOb, St.new]) .nil)
            rw [eN2, eN1]
            refine ⟨H1.1, fun t => ?_⟩
            have ht := H1.2 t
            show Rs _ [putV m (putV m _ q.dst (f k).v) o.dst (f j).v t] _
            rw [hdi, hdj]
            rw [putV_at]
            by_cases hc : dj < m ∧ t = dj
            · rw [if_pos hc]
              obtain ⟨hc1, rfl⟩ := hc
              rw [put_getD hrs.1, if_neg (fun g => hdne (by rw [hdi, hdj, g.2])), hp hc1]
              rw [vj1, eJ, vi2, ← est]
              exact .ptr _ _ _ (by show e.st.n + 1 < e.st.n + 1 + 1; omega) (fun o ho => by simp [E.adopt, E.newOb, St.new]) .nil
            · rw [if_neg hc]
              rw [putV_at] at ht ⊢
              rw [vi1, ← est]
              by_cases hc2 : di < m ∧ t = di
              · rw [if_pos hc2] at ht ⊢; exact ht
              · rw [if_neg hc2] at ht ⊢
                rw [putV_at, if_neg hc] at ht
                exact ht
        · obtain ⟨f1, f2, f3, f4⟩ := fact k x hki hkj hxk
          have hro0 : ∀ y ∈ x.after.toList, Region.binds .any y = true → l0.getD y.on false = true := by
            intro y hy hb
            have h1 := hro y hy hb
            rw [set_get _ _ _ hjs] at h1
            by_cases hyj : y.on = j
            · exfalso
              obtain ⟨y2, c1, c2, c3⟩ := (edge_iff x i).1 (f3 ((edge_iff x j).2 ⟨y, hy, hb, hyj⟩))
              have h2 := hro y2 c1 c2
              rw [set_get _ _ _ hjs, c3, if_neg (by omega), h0i] at h2
              cases h2
            · rw [if_neg hyj] at h1; exact h1
          obtain ⟨hstill, hlk⟩ : still P x = true ∧ ∀ t ∈ x.looksAt ops, some t ≠ o.dst := by
            rcases f4 with g | ⟨_, g⟩
            · exact g
            · have := Ready.ord hR hC hxk' hro0 g
              rw [h0i] at this; cases this
          have hcl := still_cls (mu := mu) hstill
          have hkN : k < N := by
            rcases Nat.lt_or_ge k N with g | g
            · exact g
            exfalso
            obtain ⟨q2, hq2, _⟩ := hpan (by omega)
            by_cases hkN2 : k = N
            · have hop := hq2.op
              rw [Nat.zero_add, ← hkN2, hxk'] at hop
              cases hop
              rcases hcl with g2 | g2
              · exact hq2.wr.1 g2
              · exact hq2.wr.2 g2
            · have hal := hq2.al
              rw [Nat.zero_add] at hal
              have := List.all_eq_true.1 hal k (List.mem_range.2 (by omega))
              rw [Bool.or_eq_true] at this
              rcases this with g2 | g2
              · have := Nat.le_of_ble_eq_true g2; omega
              · have := Ready.ord hR hC hxk' hro0 g2
                rw [hDN N (Nat.le_refl _)] at this; cases this
          have hlook : ∀ t, t ∈ x.looksAt (addE ops i j) → putV m (envN m (addE ops i j) f env0 (fun i => l0.getD i false) (addE ops i j).size) (some dj) (.bld 0) t = (f k).env t := fun t ht => by
            have h1 := look_same hR hN hF hC hxk' (by omega) hni' hro0 ht
            rw [addE_looks] at ht
            rw [putV_ne (by intro g; exact hlk t ht (by rw [hdj]; exact g.symm))]
            exact h1
          obtain ⟨o', ok⟩ := hF.ok k (by omega) (by omega)
          have : o' = x := by have := ok.op; rw [hxk'] at this; exact (Option.some.inj this).symm
          subst this
          have hw := wanted_of hrs ((gd_same hlook).trans ok.guard)
          have sD1 : ∀ n, (l0.setIfInBounds k true).getD n false = if n = k then true else l0.getD n false := fun n => set_get l0 k n hksz
          have henv' : envN m (addE ops i j) f env0 (fun n => (l0.setIfInBounds k true).getD n false) (addE ops i j).size = putV m (envN m (addE ops i j) f env0 (fun n => l0.getD n false) (addE ops i j).size) o'.dst (f k).v := by
            rw [envN_add hR hC hxk' hni' sD1 (addE ops i j).size (Nat.le_refl _), if_pos (by omega)]
          have hst' := stN_add (f := f) (st0 := e0.st) hR hC hxk' hni' sD1 (addE ops i j).size (Nat.le_refl _)
          have hnw : isWb P mu (addE ops i j) k = false := by
            rcases hcl with g | g <;> simp [isWb, hxk', g]
          have hdne2 : ∀ d, o'.dst = some d → d ≠ dj := fun d hd g => f2 (by rw [hd, hdj, g])
          have after : ∀ (v' : Value), Rs e [(f k).v] [v'] → wpAny P .any ops Q fuel ((l0.setIfInBounds j true).setIfInBounds k true) (a.put o'.dst v') e.w := by
            intro v' h4
            rw [hsC]
            refine ihP (l0.setIfInBounds k true) e _ b cz (fun n hn => by rw [sD1, if_neg (by omega)]; exact hDN n hn) (by simp; omega) (by rw [← hsC]; exact hunl) (closed_set l0 k o' hksz hC hxk' hro0) (by rw [sD1, if_neg (fun g => hki g.symm)]; exact h0i) (by rw [sD1, if_neg (fun g => hkj g.symm)]; exact h0j) (fun y hy hb => by rw [sD1]; split; rfl; exact hjr y hy hb) ?_ ?_ ?_ hl hcz hx hrel (hd.put (noD_at hW hxk) _)
            · rw [hst', if_neg (by rw [hnw]; simp)]; exact hst
            · rw [henv']
              have := putV_sound hrs o'.dst h4
              cases hdd : o'.dst with
              | none => rw [hdd] at this; exact this
              | some d =>
                rw [hdd] at this
                rw [putV_comm (fun g => hdne2 d hdd g)]
                exact this
            · intro hdm
              cases hdd : o'.dst with
              | none => exact hp hdm
              | some d => rw [put_getD hrs.1, if_neg (fun g => hdne2 d hdd g.2.symm)]; exact hp hdm
          rw [← addE_wpOp i j]
          unfold wpOp
          simp only [hxk']
          cases hran : (f k).ran with
          | false =>
            rw [hran] at hw
            rw [if_neg (by rw [hw]; simp)]
            obtain ⟨g1, g2⟩ := ok.skip hran
            exact after undef (by rw [g1]; exact .tup [] #[] .nil .nil)
          | true =>
            rw [hran] at hw
            rw [if_pos hw]
            left
            have same := opV_same (ops := addE ops i j) hlook
            have hrun : aop P mu T o' (putV m (envN m (addE ops i j) f env0 (fun i => l0.getD i false) (addE ops i j).size) (some dj) (.bld 0)) e.st kid = some (.ret (f k).v, e.st) := by
              rcases hcl with hc | hc
              · obtain ⟨g1, g2⟩ := ok.pure hran hc
                rw [aop_congr same, g2]; rfl
              · obtain ⟨g1, ag, c, p, g2, g3⟩ := ok.load hran hc
                have hli : IsL P mu (addE ops i j) f k ag c p := ⟨o', hxk', hc, g2⟩
                have hv := st_load (st0 := e0.st) hR hN hF hC hDN hxk' hkN hni' hran hro0 hli g3
                rw [← hst] at hv
                rw [aop_congr same]
                unfold loadOf at g2
                unfold aop
                cases hop : o'.op with
                | load t ad =>
                  rw [hop] at g2
                  simp only at g2 ⊢
                  by_cases hk : known P t = true
                  · rw [if_pos hk] at g2 ⊢
                    cases hq : opV (f k).env ad with
                    | none => rw [hq] at g2; cases g2
                    | some pv =>
                      rw [hq] at g2
                      simp only [Option.some.injEq, Prod.mk.injEq] at g2
                      obtain ⟨r1, r2, r3⟩ := g2
                      subst r3
                      show A.load (isAg P t) (P.cellsOf t) pv e.st kid = _
                      rw [r1, r2, ldv_load hv]; rfl
                  · rw [if_neg hk] at g2; cases g2
                | _ => rw [hop] at g2; cases g2
            exact still_sound hstill hrun hrel hrs after
  refine wp_region_any hm ?_
  have hrep : ∀ i, (Array.replicate ops.size false).getD i false = false := by
    intro i
    by_cases hi : i < ops.size
    · simp [Array.getD_eq_getD_getElem?, hi]
    · simp [Array.getD_eq_getD_getElem?, hi]
  have hfun : (fun i => (Array.replicate ops.size false).getD i false) = fun _ => false := funext hrep
  have henv0 : ∀ f n, envN m (addE ops i j) f env0 (fun _ => false) n = env0 := by
    intro f n; induction n with
    | zero => rfl
    | succ n ih => simp only [envN, ih]; simp
  have hst0 : ∀ f n, stN P mu (addE ops i j) f e0.st (fun _ => false) n = e0.st := by
    intro f n; induction n with
    | zero => rfl
    | succ n ih => simp only [stN, ih]; simp
  have start : ∀ (N : Nat) (hN : N ≤ (addE ops i j).size) (K' : Env → St → Res) (f : Nat → TI) (hF : Tr P mu T m (addE ops i j) B' K' r N 0 env0 e0.st [] [] f) (hend : N = (addE ops i j).size → K' = K) (hpan : N < (addE ops i j).size → ∃ o, Pan P mu T m (addE ops i j) B' r N 0 env0 e0.st [] [] f o ∧ K' = panK P mu T o) (hjN : j < N), wpAny P .any ops Q ops.size (Array.replicate ops.size false) a0 e0.drew.w := by
    intro N hN K' f hF hend hpan hjN
    refine (key N hN K' f hF hend hpan hjN ops.size).1 (Array.replicate ops.size false) e0.drew a0 (fun n _ => hrep n) (by simp [hsz']) ?_ ?_ ?_ ?_ (Ext.drew e0) hr.drew hI
    · have : unl (addE ops i j).size (Array.replicate ops.size false) = List.range ops.size := by
        unfold unl
        rw [hsz']
        apply List.filter_eq_self.mpr
        intro i hi
        have hi' : i < ops.size := by simpa using hi
        simp [Array.getD_eq_getD_getElem?, hi']
      rw [this, List.length_range]
    · intro j q hq hj; have hj' := hrep j; simp only at hj; rw [hj'] at hj; cases hj
    · rw [hfun, hst0]; rfl
    · rw [hfun, henv0]; exact he0.mono (Ext.drew e0)
  rcases htr with ⟨f, hF⟩ | ⟨k, x, f, hk, hp⟩
  · exact start (addE ops i j).size (Nat.le_refl _) K f hF (fun _ => rfl) (fun h => absurd h (Nat.lt_irrefl _)) (by omega)
  · refine start k (Nat.le_of_lt hk) _ f hp.tr (fun h => by omega) (fun _ => ⟨x, hp, rfl⟩) ?_
    -- what panics stands behind both
    have hop := hp.op
    rw [Nat.zero_add] at hop
    have noal : ∀ (x' : Oper) (t : TypeId), (addE ops i j)[k]? = some x' → allocT P x' = some t → False := by
      intro x' t hx' ht
      rw [hop] at hx'; cases hx'
      have hfin := hp.tr.fin
      rw [Nat.zero_add] at hfin
      obtain ⟨z, _, _, h3⟩ := alloc_ret (T := T) (mu := mu) ht hfin
      obtain ⟨p, st', h4⟩ := hp.pan
      rw [h4] at h3; cases h3
    have hki : k ≠ i := by rintro rfl; exact noal _ _ hQ' hti
    have hkj : k ≠ j := by rintro rfl; exact noal _ _ hO htj
    obtain ⟨_, _, _, f4⟩ := fact k x hki hkj (by rw [← addE_ne hkj]; exact hop)
    rcases f4 with ⟨g, _⟩ | ⟨g, _⟩
    · rcases still_cls (mu := mu) g with g2 | g2
      · exact absurd g2 hp.wr.1
      · exact absurd g2 hp.wr.2
    · exact g
end Go.Ab
