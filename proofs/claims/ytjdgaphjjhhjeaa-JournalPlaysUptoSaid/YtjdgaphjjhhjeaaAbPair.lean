import Derived.Test.YtjdgaphjjhhjeaaAbDrawmerged0
/- Regions that draw their order, with two allocations of which either may be the first. -/
namespace Go.Ab
open Go.RowKit
set_option linter.unusedVariables false
set_option linter.unusedSimpArgs false
variable {P : Program} {mu : Nat → Bool} {T : Tbl} {ops : Array Oper} {B : List Nat}
/-- It reads, and leaves the world alone. -/
def still (P : Program) (o : Oper) : Bool := match o.op with | .move _ | .load .. | .fieldAddr .. => true | .indexAddr t _ _ => (sle P t).isSome | _ => false
def hasEdge (o : Oper) (i : Nat) : Bool := o.after.toList.any fun x => Region.binds .any x && x.on == i
def allocT (P : Program) (o : Oper) : Option TypeId := match o.op with
  | .alloc t => if o.guard.isNone && o.dst.isSome && !isBld P t then some t else none
  | _ => none
theorem allocT_some {o : Oper} {t : TypeId} (h : allocT P o = some t) : o.op = .alloc t ∧ o.guard = none ∧ (∃ d, o.dst = some d) ∧ isBld P t = false := by
  unfold allocT at h
  split at h
  · rename_i t' ht
    split at h
    · rename_i hc
      cases h
      simp only [Bool.and_eq_true, Bool.not_eq_true', Option.isNone_iff_eq_none] at hc
      exact ⟨ht, hc.1.1, Option.isSome_iff_exists.1 hc.1.2, hc.2⟩
    · cases h
  · cases h
/-- A block that nobody knows. -/
def E.garb (e : E) (x : Obj) : E := { e with w := { e.w with heap := e.w.heap.push x } }
theorem Ext.garb (e : E) (x : Obj) : Ext e (e.garb x) :=
  ⟨Nat.le_refl _, Nat.le_refl _, fun _ _ => rfl, fun _ _ o h => ⟨o, h⟩, fun _ _ => rfl, fun _ _ _ h => h, fun _ => Nat.le_refl _, fun b c ty fz hb => ⟨c, fz, push_old hb, rfl, fun _ _ => rfl⟩⟩
theorem Rel.garb {W0 : World} {B : Nat} {e : E} (h : Rel W0 B e) (x : Obj) : Rel W0 B (e.garb x) := by
  have X := Ext.garb e x
  refine ⟨⟨h.below.os, h.below.tape, h.below.output, by have := h.below.size; simp only [E.garb, Array.size_push]; omega, fun k hk => ?_⟩, h.hB, ?_, ?_, h.live, h.inj, h.tkn, ?_, h.tinj, h.tob, ?_, ?_⟩
  · have := h.hB; have := h.below.size
    simp only [E.garb]; rw [Array.getElem?_push, if_neg (by omega)]; exact h.below.block k hk
  · intro id cs ho
    obtain ⟨a, b, c, ty, fz, d, f, g, k, kb⟩ := h.cells id cs ho
    exact ⟨a, b, c, ty, fz, push_old d, f, g, k.mono X, kb⟩
  · intro id es ho
    obtain ⟨a, ents, clock, b, c, d⟩ := h.maps id es ho
    exact ⟨a, ents, clock, push_old b, c.mono X, d.1.mono X, d.2⟩
  · intro t s b k ht hτ
    obtain ⟨a, b', c, ty, fz, d, f⟩ := h.toks t s b k ht hτ
    exact ⟨a, b', c, ty, fz, push_old d, f⟩
  · intro b c ty fz hb
    by_cases hbs : b < e.w.heap.size
    · simp only [E.garb] at hb ⊢; rw [Array.getElem?_push, if_neg (by omega)] at hb; exact h.frs b c ty fz hb
    · have : e.fr b = 0 := h.frn b (by omega)
      show e.fr b ≤ _; omega
  · intro b hb
    simp only [E.garb, Array.size_push] at hb
    exact h.frn b (by omega)
/-- .. and what is told of it. -/
structure Lone (B : Nat) (e : E) (b : Nat) (x : Obj) : Prop where
  at_ : e.w.heap[b]? = some x
  hB : B ≤ b
  fr : e.fr b = 0
  ob : ∀ id o, e.st.ob id = some o → e.σ id ≠ b
  tk : ∀ t s b' k, e.st.tk t = some s → e.τ t = some (b', k) → b' ≠ b
theorem Rel.lt {W0 : World} {B : Nat} {e : E} (h : Rel W0 B e) : ∀ id o', e.st.ob id = some o' → e.σ id < e.w.heap.size := by
  intro id o' ho'
  cases o' with
  | cells cs => obtain ⟨_, _, c, ty, fz, d, _⟩ := h.cells id cs ho'; exact (Array.getElem?_eq_some_iff.mp d).1
  | map es => obtain ⟨_, ents, clock, d, _⟩ := h.maps id es ho'; exact (Array.getElem?_eq_some_iff.mp d).1
theorem Lone.garb {W0 : World} {B : Nat} {e : E} (h : Rel W0 B e) (x : Obj) : Lone B (e.garb x) e.w.heap.size x := by
  refine ⟨by show (e.w.heap.push x)[e.w.heap.size]? = some x; rw [Array.getElem?_push, if_pos rfl], Nat.le_trans h.hB h.below.size, h.frn _ (Nat.le_refl _), fun id o ho => ?_, fun t s b' k ht hτ => ?_⟩
  · have := h.lt id o ho; show e.σ id ≠ _; omega
  · obtain ⟨_, _, c, ty, fz, d, _⟩ := h.toks t s b' k ht hτ
    have := (Array.getElem?_eq_some_iff.mp d).1
    omega
theorem Lone.newOb {W0 : World} {B : Nat} {e : E} {b : Nat} {x : Obj} (h : Rel W0 B e) (l : Lone B e b x) (o : Ob) (y : Obj) : Lone B (e.newOb o y) b x := by
  have hb := (Array.getElem?_eq_some_iff.mp l.at_).1
  refine ⟨push_old l.at_, l.hB, l.fr, fun id o' ho => ?_, l.tk⟩
  simp only [E.newOb, St.new] at ho ⊢
  by_cases hi : id = e.st.n
  · rw [if_pos hi]; omega
  · rw [if_neg hi] at ho ⊢; exact l.ob id o' ho
/-- It becomes an object. -/
def E.adopt (e : E) (o : Ob) (b : Nat) : E := { e with st := e.st.new o, σ := fun i => if i = e.st.n then b else e.σ i }
theorem Ext.adopt (e : E) (o : Ob) (b : Nat) (hn : ∀ o', e.st.ob e.st.n = some o' → False) : Ext e (e.adopt o b) := by
  refine ⟨Nat.le_succ _, Nat.le_refl _, fun id hi => ?_, fun id hi o' ho' => ?_, fun _ _ => rfl, fun _ _ _ h => h, fun _ => Nat.le_refl _, fun b c ty fz hb => ⟨c, fz, hb, rfl, fun _ _ => rfl⟩⟩
  · simp only [E.adopt]; rw [if_neg (by omega)]
  · simp only [E.adopt, St.new] at ho'; rw [if_neg (by omega)] at ho'; exact ⟨o', ho'⟩
theorem Rel.adopt {W0 : World} {B : Nat} {e : E} (h : Rel W0 B e) {b : Nat} {cs : List V} {c : Array Value} {ty : TypeId} {fz : Nat × Nat} (l : Lone B e b (.cells c ty fz)) (h1 : ∀ v ∈ cs, v.oneB = true) (h2 : unfz c fz 0) (h3 : cs.length ≤ c.size) (h4 : Rs e cs (c.toList.take cs.length)) (h5 : BldOK b cs c ty) : Rel W0 B (e.adopt (.cells cs) b) := by
  have hnew : ∀ o', e.st.ob e.st.n = some o' → False := fun o' ho' => by have := (h.live _ _ ho').1; omega
  have X := Ext.adopt e (.cells cs) b hnew
  have hobj : ∀ id o', (e.adopt (.cells cs) b).st.ob id = some o' → (id = e.st.n ∧ o' = .cells cs) ∨ (id ≠ e.st.n ∧ e.st.ob id = some o') := by
    intro id o' ho'
    simp only [E.adopt, St.new] at ho'
    by_cases hi : id = e.st.n
    · rw [if_pos hi] at ho'; exact .inl ⟨hi, (Option.some.inj ho').symm⟩
    · rw [if_neg hi] at ho'; exact .inr ⟨hi, ho'⟩
  have hσn : (e.adopt (.cells cs) b).σ e.st.n = b := by simp [E.adopt]
  have hσ : ∀ id, id ≠ e.st.n → (e.adopt (.cells cs) b).σ id = e.σ id := fun id hi => by simp [E.adopt, hi]
  refine ⟨h.below, h.hB, ?_, ?_, ?_, ?_, h.tkn, h.toks, h.tinj, ?_, h.frs, h.frn⟩
  · intro id cs' ho
    rcases hobj id _ ho with ⟨rfl, he⟩ | ⟨hi, ho'⟩
    · cases he; rw [hσn]; exact ⟨l.hB, h1, c, ty, fz, l.at_, h2, h3, h4.mono X, h5⟩
    · obtain ⟨a, b, c, ty, fz, d, f, g, k, kb⟩ := h.cells id cs' ho'
      rw [hσ id hi]
      exact ⟨a, b, c, ty, fz, d, f, g, k.mono X, kb⟩
  · intro id es ho
    rcases hobj id _ ho with ⟨rfl, he⟩ | ⟨hi, ho'⟩
    · cases he
    · obtain ⟨a, ents, clock, b, c, d⟩ := h.maps id es ho'
      rw [hσ id hi]
      exact ⟨a, ents, clock, b, c.mono X, d.1.mono X, d.2⟩
  · intro id o' ho
    rcases hobj id _ ho with ⟨rfl, he⟩ | ⟨hi, ho'⟩
    · rw [hσn]; exact ⟨Nat.lt_succ_self _, l.fr⟩
    · rw [hσ id hi]; exact ⟨Nat.lt_succ_of_lt (h.live _ _ ho').1, (h.live _ _ ho').2⟩
  · intro i j o1 o2 h1 h2 hs
    rcases hobj i _ h1 with ⟨rfl, _⟩ | ⟨hi, h1'⟩ <;> rcases hobj j _ h2 with ⟨rfl, _⟩ | ⟨hj, h2'⟩
    · rfl
    · rw [hσn, hσ j hj] at hs; exact absurd hs.symm (l.ob j _ h2')
    · rw [hσn, hσ i hi] at hs; exact absurd hs (l.ob i _ h1')
    · rw [hσ i hi, hσ j hj] at hs; exact h.inj i j _ _ h1' h2' hs
  · intro t s b' k id o' ht hτ ho
    rcases hobj id _ ho with ⟨rfl, _⟩ | ⟨hi, ho'⟩
    · rw [hσn]; exact fun g => l.tk t s b' k ht hτ g.symm
    · rw [hσ id hi]; exact h.tob t s b' k id o' ht hτ ho'
/-! what stands still -/
theorem wp_pure {o : Oper} {a : Act} {e : E} {next : Act → World → Prop} {Q : Exit → Act → World → Prop} {s : Sem Value} {v' : Value} (hop : execOp a.eval o = (do Pure.pure (.value (← s)))) (h : s.run P e.w = .ok v' e.w)
    (hn : next (a.put o.dst v') e.w) : o.wp P a e.w next Q := by
  unfold Oper.wp
  rw [hop]
  simp only [Sem.run_bind, h, Result.andThen, Sem.run_pure]
  exact hn
theorem faddr_pure {e : E} {K : V → St → Res} {r : Out × St} {s : TypeId} {f : Nat} {fd : Field} {a : V} {a' : Value} (hf : fld P s f = some fd) (hi : ∃ i, P.info? fd.type = some i) (h0 : P.cellsOf fd.type ≠ 0)
    (h : A.faddr fd.offset a (fun v => K v e.st) = some r) (ha : Rs e [a] [a']) : ∃ v v', K v e.st = some r ∧ (Instr.fieldAt s a' f).run P e.w = .ok v' e.w ∧ Rs e [v] [v'] := by
  unfold fld at hf
  split at hf
  · rename_i fs hs
    obtain ⟨i, hi⟩ := hi
    rw [cellsOf_eq hi] at h0
    unfold A.faddr at h
    split at h
    · rename_i id o
      cases ha with | ptr id off a hn hl _ =>
      refine ⟨_, .pointer (some (a.add fd.offset)), h, by simp [Instr.fieldAt, run_under hs, hf, Instr.sureAddr, fieldPlace, sizeOf_run hi, h0], .ptr _ _ _ hn (fun x hx => ?_) .nil⟩
      rw [hl x hx, add_plain]
    · rename_i cs
      split at h
      · rename_i hle
        cases ha with | lptr cs b o c ty fz hb hf' ho hc _ =>
        refine ⟨_, .pointer (some ⟨b, o + fd.offset, none⟩), h, by simp [Instr.fieldAt, run_under hs, hf, Instr.sureAddr, fieldPlace, sizeOf_run hi, h0, add_plain], .lptr _ b (o + fd.offset) c ty fz hb (by simp; omega) (fun v hv => ho v (List.mem_of_mem_drop hv)) ?_ .nil⟩
        have := hc.drop fd.offset
        rw [List.drop_take, List.drop_drop] at this
        simpa using this
      · cases h
    · cases h
  · cases hf
theorem iaddr_pure {e : E} {K : V → St → Res} {r : Out × St} {t x0 : TypeId} {x i : V} {x' i' : Value} (hs : sle P t = some x0) (hi : ∃ i, P.info? x0 = some i)
    (h : A.iaddr (P.cellsOf x0) x i (fun v => K v e.st) = some r) (hx : Rs e [x] [x']) (hix : Rs e [i] [i']) : ∃ v v', K v e.st = some r ∧ (Instr.indexAt t x' i').run P e.w = .ok v' e.w ∧ Rs e [v] [v'] := by
  obtain ⟨inf, hi⟩ := hi
  rw [cellsOf_eq hi] at h
  have hu := run_under (P := P) (sle_some hs) e.w
  unfold A.iaddr at h
  split at h
  · rename_i k n
    cases hix with | int _ _ _ =>
    split at h
    · rename_i h0
      split at h
      · rename_i id off len sz'
        split at h
        · rename_i hh
          obtain ⟨h1, rfl⟩ := hh
          cases hx with | sl _ _ _ _ cap a hn hcap hl _ =>
          refine ⟨_, .pointer (some (a.add (n.toNat * inf.size))), h, ?_, .ptr _ _ _ hn (fun o ho => ?_) .nil⟩
          · simp [Instr.indexAt, asIntOf, hu, h0, h1, sizeOf_run hi]
          · obtain ⟨g, _⟩ := hl o ho (by omega)
            rw [g, add_plain]
        · cases h
      · rename_i l tk0
        split at h
        · rename_i v hv
          split at h
          · rename_i hvs
            have hn' := (List.getElem?_eq_some_iff.mp hv).1
            cases hx with
            | lst0 _ _ _ => simp at hn'
            | lste _ _ _ _ => simp at hn'
            | lst _ _ len cap b o sz c ty2 fz hlen hcap hb hsz ho hf hc hx1 ht1 _ =>
              have hszv : v.cells.length = sz := hsz v (List.mem_of_getElem? hv)
              have : sz = inf.size := by omega
              subst this
              obtain ⟨g1, g2⟩ := lst_elem hlen hsz hc hv
              have h1 : n < (len : Int) := by omega
              refine ⟨_, .pointer (some ⟨b, o + n.toNat * inf.size, none⟩), h, ?_, .lptr _ b _ c ty2 fz hb (by omega) (fun y hy => ho y ?_) (by rw [hszv]; exact g1) .nil⟩
              · simp [Instr.indexAt, asIntOf, hu, h0, h1, sizeOf_run hi, add_plain]
              · exact List.mem_flatMap.mpr ⟨v, List.mem_of_getElem? hv, hy⟩
          · cases h
        · cases h
      · cases h
    · cases h
  · cases h
theorem still_sound {W0 : World} {B : Nat} {e : E} {m : Nat} {env : Env} {a : Act} {o : Oper} {v : V} {st' : St} {next : Act → World → Prop} {Q : Exit → Act → World → Prop} (hs : still P o = true) (h : aop P mu T o env e.st kid = some (.ret v, st')) (hr : Rel W0 B e) (he : EnvR m e env a.tmps)
    (hn : ∀ v', Rs e [v] [v'] → next (a.put o.dst v') e.w) : o.wp P a e.w next Q := by
  unfold still at hs
  unfold aop at h
  have fin : ∀ {v1 : V} {v' : Value}, kid v1 e.st = some (.ret v, st') → Rs e [v1] [v'] → Rs e [v] [v'] := by
    intro v1 v' hk h1
    unfold kid at hk
    simp only [Option.some.injEq, Prod.mk.injEq, Out.ret.injEq] at hk
    rw [← hk.1]; exact h1
  cases hop : o.op <;> rw [hop] at hs <;> simp only at hs <;> (try (cases hs; done))
  case move x =>
    rw [hop] at h
    obtain ⟨v1, h1, h2⟩ := ob_some h
    exact wp_pure (s := Pure.pure (a.eval x)) (by simp [execOp, hop]) rfl (hn _ (fin h2 (opV_sound he h1)))
  case load t x =>
    rw [hop] at h
    obtain ⟨hk, h⟩ := if_some h
    obtain ⟨p, h1, h⟩ := ob_some h
    obtain ⟨v1, v', g1, g2, g3⟩ := load_pure (P := P) hk h hr (opV_sound he h1)
    exact wp_pure (by simp only [execOp, hop]) g2 (hn _ (fin g1 g3))
  case fieldAddr s x f =>
    rw [hop] at h
    simp only at h
    split at h
    · rename_i fd hf
      obtain ⟨hk, h⟩ := if_some h
      simp only [Bool.and_eq_true, bne_iff_ne] at hk
      obtain ⟨v0, h1, h⟩ := ob_some h
      obtain ⟨v1, v', g1, g2, g3⟩ := faddr_pure (P := P) hf (known_info hk.1) hk.2 h (opV_sound he h1)
      exact wp_pure (by simp only [execOp, hop]) g2 (hn _ (fin g1 g3))
    · cases h
  case indexAddr t x i =>
    rw [hop] at h
    obtain ⟨va, h1, h⟩ := ob_some h
    obtain ⟨vb, h2, h⟩ := ob_some h
    obtain ⟨x0, hx0⟩ := Option.isSome_iff_exists.1 hs
    rw [hx0] at h
    simp only at h
    obtain ⟨hk, h⟩ := if_some h
    obtain ⟨v1, v', g1, g2, g3⟩ := iaddr_pure (P := P) hx0 (known_info hk) h (opV_sound he h1) (opV_sound he h2)
    exact wp_pure (by simp only [execOp, hop]) g2 (hn _ (fin g1 g3))
/-- One step of what is ready. -/
theorem step_ok {m : Nat} (hT : SimT P T) (hR : Reg P mu ops B) {K' : Env → St → Res} {f : Nat → TI} {r : Out × St} {env0 : Env} {st0 : St} {N : Nat} (hN : N ≤ ops.size) (hF : Tr P mu T m ops B K' r N 0 env0 st0 [] [] f)
    (hpan : N < ops.size → ∃ o, Pan P mu T m ops B r N 0 env0 st0 [] [] f o ∧ K' = panK P mu T o) {W0 : World} {B0 : Nat} {Q : Exit → Act → World → Prop} {listed : Array Bool} {e : E} {a : Act} (hDN : ∀ n, N ≤ n → listed.getD n false = false) (hs : listed.size = ops.size)
    (hC : Closed ops (fun i => listed.getD i false)) (hst : e.st = stN P mu ops f st0 (fun i => listed.getD i false) ops.size) (hrs : EnvR m e (envN m ops f env0 (fun i => listed.getD i false) ops.size) a.tmps) (hrel : Rel W0 B0 e)
    {i : Nat} {o : Oper} (ho : ops[i]? = some o) (hni : listed.getD i false = false) (hro : ∀ x ∈ o.after.toList, Region.binds .any x = true → listed.getD x.on false = true) {cont : Act → World → Prop}
    (hcont : i < N → ∀ (v' : Value) (e' : E), e'.st = stN P mu ops f st0 (fun n => (listed.setIfInBounds i true).getD n false) ops.size → Ext e e' → Rel W0 B0 e' → EnvR m e' (envN m ops f env0 (fun n => (listed.setIfInBounds i true).getD n false) ops.size) (a.put o.dst v').tmps → cont (a.put o.dst v') e'.w)
    (hP : ∀ p p' e', r = (.panic p, e'.st) → Ext e e' → Rel W0 B0 e' → Rs e' [p] [p'] → Q (.panic [{ v := p', recovered := false }]) a e'.w) : wpOp P ops Q i cont a e.w := by
  have hi1 : i < ops.size := (Array.getElem?_eq_some_iff.mp ho).1
  have hsz : i < listed.size := by omega
  have hiN : i ≤ N := by
    rcases Nat.lt_or_ge N i with g | g
    · obtain ⟨q, hq, _⟩ := hpan (by omega)
      have hal := hq.al
      rw [Nat.zero_add] at hal
      have := List.all_eq_true.1 hal i (List.mem_range.2 hi1)
      rw [Bool.or_eq_true] at this
      rcases this with g2 | g2
      · have := Nat.le_of_ble_eq_true g2; omega
      · have := Ready.ord hR hC ho hro g2
        rw [hDN N (Nat.le_refl _)] at this; cases this
    · exact g
  have hlook : ∀ t, t ∈ o.looksAt ops → envN m ops f env0 (fun i => listed.getD i false) ops.size t = (f i).env t := fun t ht => look_same hR hN hF hC ho hiN hni hro ht
  rcases Nat.lt_or_ge i N with hiN' | hge
  case inr =>
    have hiN2 : i = N := by omega
    subst hiN2
    obtain ⟨q, hq, hKq⟩ := hpan hi1
    have hop := hq.op
    rw [Nat.zero_add, ho] at hop
    cases hop
    have hgu := hq.guard
    rw [Nat.zero_add] at hgu
    have hw := wanted_of hrs ((gd_same hlook).trans hgu)
    unfold wpOp
    simp only [ho]
    rw [if_pos hw]
    left
    have same := opV_same (ops := ops) hlook
    have hwb : isWb P mu ops i = true := by simp [isWb, ho, hq.wr.1, hq.wr.2]
    have hs0 := st_write (st0 := st0) hR hN hF hC ho hiN hni hwb hro ops.size (by omega) (Nat.le_refl _)
    have hfin := hF.fin
    rw [Nat.zero_add, hKq] at hfin
    have hrun : aop P mu T o (envN m ops f env0 (fun i => listed.getD i false) ops.size) e.st kid = some r := by
      rw [aop_congr same, hst, hs0]; exact hfin
    obtain ⟨p0, st0', hrp⟩ := hq.pan
    refine aop_sound hT hrun hrel hrs ?_ ?_
    · intro v v' e' h1 h2 h3 h4
      unfold kid at h1
      rw [hrp] at h1
      cases h1
    · intro p p' e' h1 h2 h3 h4
      exact hP p p' e' h1 h2 h3 h4
  obtain ⟨o', ok⟩ := hF.ok i (by omega) (by omega)
  have : o' = o := by have := ok.op; rw [ho] at this; exact (Option.some.inj this).symm
  subst this
  have hw := wanted_of hrs ((gd_same hlook).trans ok.guard)
  have hD' : ∀ n, (listed.setIfInBounds i true).getD n false = if n = i then true else listed.getD n false := fun n => getD_set _ _ _ _ hsz
  have henv' : envN m ops f env0 (fun n => (listed.setIfInBounds i true).getD n false) ops.size = putV m (envN m ops f env0 (fun n => listed.getD n false) ops.size) o'.dst (f i).v := by
    rw [envN_add hR hC ho hni hD' ops.size (Nat.le_refl _), if_pos hi1]
  have hst' := stN_add (f := f) (st0 := st0) hR hC ho hni hD' ops.size (Nat.le_refl _)
  have after : ∀ (v' : Value) (e' : E), e'.st = stN P mu ops f st0 (fun n => (listed.setIfInBounds i true).getD n false) ops.size → Ext e e' → Rel W0 B0 e' → Rs e' [(f i).v] [v'] → cont (a.put o'.dst v') e'.w := fun v' e' h1 h2 h3 h4 =>
    hcont hiN' v' e' h1 h2 h3 (by rw [henv']; exact putV_sound (hrs.mono h2) o'.dst h4)
  unfold wpOp
  simp only [ho]
  cases hran : (f i).ran with
  | false =>
    rw [hran] at hw
    rw [if_neg (by rw [hw]; simp)]
    obtain ⟨g1, g2⟩ := ok.skip hran
    refine after undef e ?_ (Ext.refl e) hrel (by rw [g1]; exact .tup [] #[] .nil .nil)
    rw [hst', if_neg (by rw [hran]; simp)]; exact hst
  | true =>
    rw [hran] at hw
    rw [if_pos hw]
    left
    have same := opV_same (ops := ops) hlook
    rcases cls_le (P := P) (mu := mu) o' with hc | hc | hc
    · obtain ⟨g1, g2⟩ := ok.pure hran hc
      have hnw : isWb P mu ops i = false := by simp [isWb, ho, hc]
      have hrun : aop P mu T o' (envN m ops f env0 (fun i => listed.getD i false) ops.size) e.st kid = some (.ret (f i).v, e.st) := by
        rw [aop_congr same, g2]; rfl
      refine aop_sound hT hrun hrel hrs ?_ ?_
      · intro v v' e' h1 h2 h3 h4
        unfold kid at h1
        simp only [Option.some.injEq, Prod.mk.injEq, Out.ret.injEq] at h1
        refine after v' e' ?_ h2 h3 (by rw [← h1.1]; exact h4)
        rw [hst', if_neg (by rw [hnw]; simp), h1.2]; exact hst
      · intro p p' e' h1; cases h1
    · obtain ⟨g1, ag, c, p, g2, g3⟩ := ok.load hran hc
      have hnw : isWb P mu ops i = false := by simp [isWb, ho, hc]
      have hl : IsL P mu ops f i ag c p := ⟨o', ho, hc, g2⟩
      have hv := st_load (st0 := st0) hR hN hF hC hDN ho hiN' hni hran hro hl g3
      rw [← hst] at hv
      have hrun : aop P mu T o' (envN m ops f env0 (fun i => listed.getD i false) ops.size) e.st kid = some (.ret (f i).v, e.st) := by
        rw [aop_congr same]
        unfold loadOf at g2
        unfold aop
        cases hop : o'.op with
        | load t ad =>
          rw [hop] at g2
          simp only at g2 ⊢
          by_cases hk : known P t = true
          · rw [if_pos hk] at g2 ⊢
            cases hq : opV (f i).env ad with
            | none => rw [hq] at g2; cases g2
            | some pv =>
              rw [hq] at g2
              simp only [Option.some.injEq, Prod.mk.injEq] at g2
              obtain ⟨r1, r2, r3⟩ := g2
              subst r3
              show A.load (isAg P t) (P.cellsOf t) pv e.st kid = _
              rw [r1, r2, ldv_load hv]; rfl
          · rw [if_neg hk] at g2; cases g2
        | _ => rw [hop] at g2; cases g2
      refine aop_sound hT hrun hrel hrs ?_ ?_
      · intro v v' e' h1 h2 h3 h4
        unfold kid at h1
        simp only [Option.some.injEq, Prod.mk.injEq, Out.ret.injEq] at h1
        refine after v' e' ?_ h2 h3 (by rw [← h1.1]; exact h4)
        rw [hst', if_neg (by rw [hnw]; simp), h1.2]; exact hst
      · intro p p' e' h1; cases h1
    · have hwb : isWb P mu ops i = true := by simp [isWb, ho, hc]
      have g1 := ok.write hran (by omega) (by omega)
      have hs0 := st_write (st0 := st0) hR hN hF hC ho (by omega) hni hwb hro ops.size (by omega) (Nat.le_refl _)
      have hrun : aop P mu T o' (envN m ops f env0 (fun i => listed.getD i false) ops.size) e.st kid = some (.ret (f i).v, (f (i + 1)).st) := by
        rw [aop_congr same, hst, hs0]; exact g1
      refine aop_sound hT hrun hrel hrs ?_ ?_
      · intro v v' e' h1 h2 h3 h4
        unfold kid at h1
        simp only [Option.some.injEq, Prod.mk.injEq, Out.ret.injEq] at h1
        refine after v' e' ?_ h2 h3 (by rw [← h1.1]; exact h4)
        rw [hst', if_pos ⟨hi1, hran, hwb⟩, h1.2]
      · intro p p' e' h1; cases h1
/-- An edge more. -/
def addE (ops : Array Oper) (i j : Nat) : Array Oper := ops.modify j fun o => { o with after := o.after.push { on := i, ground := Ground.data } }
def pairOK (P : Program) (ops : Array Oper) (B : List Nat) (i j : Nat) : Bool :=
  match ops[i]?, ops[j]? with
  | some q, some o => (allocT P q).isSome && (allocT P o).isSome && Nat.blt i j && q.dst != o.dst &&
    (List.range ops.size).all fun k => Nat.beq k i || Nat.beq k j || match ops[k]? with
      | none => false
      | some x => x.dst != q.dst && x.dst != o.dst && (!hasEdge x j || hasEdge x i) && ((still P x && !(x.looksAt ops).any (fun t => some t == o.dst)) || (Nat.blt j k && ord B i k))
  | _, _ => false
def findPair (P : Program) (mu : Nat → Bool) (ops : Array Oper) (B : List Nat) : Option (Nat × Nat) :=
  (List.range ops.size).findSome? fun j => (List.range j).findSome? fun i => match ops[i]?, ops[j]? with
    | some q, some o => if cls P mu o == 2 && cls P mu q == 2 && !ord B i j then some (i, j) else none
    | _, _ => none
def areg2 (P : Program) (mu : Nat → Bool) (T : Tbl) (m : Nat) (ops : Array Oper) (env : Env) (st : St) (K : Env → St → Res) : Res :=
  if regOk P mu ops (befs ops.toList []) then aregL P mu T m ops (befs ops.toList []) K (List.range ops.size) env st [] []
  else match findPair P mu ops (befs ops.toList []) with
    | some (i, j) => if regOk P mu (addE ops i j) (befs (addE ops i j).toList []) && pairOK P ops (befs (addE ops i j).toList []) i j then aregL P mu T m (addE ops i j) (befs (addE ops i j).toList []) K (List.range (addE ops i j).size) env st [] [] else none
    | none => none
theorem alloc_ret {o : Oper} {t : TypeId} (h : allocT P o = some t) {env : Env} {st : St} {r : Out × St} (hr : aop P mu T o env st kid = some r) : ∃ z, zeroV P t = some z ∧ z.cells.all V.one = true ∧ r = (.ret (.ptr st.n 0), st.new (.cells z.cells)) := by
  obtain ⟨h1, h2, h3, h4⟩ := allocT_some h
  unfold aop at hr
  rw [h1] at hr
  simp only at hr
  obtain ⟨z, hz, hr⟩ := ob_some hr
  rw [h4] at hr
  simp only [_root_.cond_false] at hr
  unfold A.box at hr
  split at hr
  · rename_i ho
    unfold kid at hr
    exact ⟨z, hz, ho, (Option.some.inj hr).symm⟩
  · cases hr
theorem addE_ne {i j k : Nat} (h : k ≠ j) : (addE ops i j)[k]? = ops[k]? := by
  unfold addE; rw [Array.getElem?_modify, if_neg (fun g => h g.symm)]
theorem addE_at {i j : Nat} {o : Oper} (h : ops[j]? = some o) : (addE ops i j)[j]? = some { o with after := o.after.push { on := i, ground := Ground.data } } := by
  unfold addE; rw [Array.getElem?_modify, if_pos rfl, h]; rfl
theorem addE_size (i j : Nat) : (addE ops i j).size = ops.size := by unfold addE; simp
theorem addE_dst (i j k : Nat) : ((addE ops i j)[k]?).bind (·.dst) = (ops[k]?).bind (·.dst) := by
  by_cases h : k = j
  · subst h
    cases ho : ops[k]? with
    | none =>
      have : (addE ops i k)[k]? = none := by unfold addE; rw [Array.getElem?_modify, if_pos rfl, ho]; rfl
      rw [this]
    | some o => rw [addE_at ho]; rfl
  · rw [addE_ne h]
theorem addE_yielded (i j : Nat) (tmps : Array Value) : yielded (addE ops i j) tmps = yielded ops tmps := by
  funext k
  unfold yielded
  rw [addE_dst]
theorem addE_wpOp (i j : Nat) (Q : Exit → Act → World → Prop) (k : Nat) (K : Act → World → Prop) (a : Act) (w : World) : wpOp P (addE ops i j) Q k K a w = wpOp P ops Q k K a w := by
  unfold wpOp
  rw [addE_yielded]
  by_cases h : k = j
  · subst h
    cases ho : ops[k]? with
    | none =>
      have : (addE ops i k)[k]? = none := by unfold addE; rw [Array.getElem?_modify, if_pos rfl, ho]; rfl
      rw [this]
    | some o => rw [addE_at ho]; rfl
  · rw [addE_ne h]
theorem addE_looks (i j : Nat) (x : Oper) : x.looksAt (addE ops i j) = x.looksAt ops := by
  unfold Oper.looksAt
  cases x.guard with
  | none => rfl
  | some g => obtain ⟨k, w⟩ := g; simp only; rw [addE_dst]
theorem set_comm (l : Array Bool) (i j : Nat) : (l.setIfInBounds i true).setIfInBounds j true = (l.setIfInBounds j true).setIfInBounds i true := by
  apply Array.ext_getElem?
  intro k
  simp only [Array.getElem?_setIfInBounds, Array.size_setIfInBounds]
  by_cases h1 : j = k <;> by_cases h2 : i = k <;> simp [h1, h2]
theorem wp_run {o : Oper} {a : Act} {w w' : World} {next : Act → World → Prop} {Q : Exit → Act → World → Prop} {s : Sem Value} {v' : Value} (hop : execOp a.eval o = (do Pure.pure (.value (← s)))) (h : s.run P w = .ok v' w')
    (hn : next (a.put o.dst v') w') : o.wp P a w next Q := by
  unfold Oper.wp
  rw [hop]
  simp only [Sem.run_bind, h, Result.andThen, Sem.run_pure]
  exact hn
theorem alloc_run {t : TypeId} {i : TypeInfo} {z : Value} (hi : P.info? t = some i) (hz : i.zero = some z) (old : Value) (w : World) : (Instr.alloc t true old).run P w = .ok (.pointer (some ⟨w.heap.size, 0, none⟩)) { w with heap := w.heap.push (.cells z.cells t (0, 0)) } := by
  simp [Instr.alloc, zeroValue, typeInfo, hi, hz, newVar, newRow]
theorem alloc_wp {o : Oper} {t : TypeId} (h : allocT P o = some t) {i : TypeInfo} {z : Value} (hi : P.info? t = some i) (hz : i.zero = some z) {d : Nat} (hd : o.dst = some d) {a : Act} {w : World} {next : Act → World → Prop} {Q : Exit → Act → World → Prop}
    (hn : next (a.put (some d) (.pointer (some ⟨w.heap.size, 0, none⟩))) { w with heap := w.heap.push (.cells z.cells t (0, 0)) }) : o.wp P a w next Q := by
  obtain ⟨h1, h2, h3, h4⟩ := allocT_some h
  exact wp_run (by simp [execOp, h1]; rfl) (alloc_run hi hz _ w) (by rw [hd]; exact hn)
theorem put_getD {a : Act} {m d t : Nat} (hs : a.tmps.size = m) (v : Value) : (a.put (some d) v).tmps.getD t undef = if d < m ∧ t = d then v else a.tmps.getD t undef := by
  simp only [Act.put, Array.getD_eq_getD_getElem?, Array.getElem?_setIfInBounds, hs]
  by_cases h : d = t
  · subst h
    by_cases h2 : d < m
    · simp [h2]
    · simp [h2, hs]
  · rw [if_neg h, if_neg (fun g => h g.2.symm)]
theorem alloc_cls {mu : Nat → Bool} {o : Oper} {t : TypeId} (h : allocT P o = some t) : cls P mu o = 2 := by
  obtain ⟨h1, _⟩ := allocT_some h
  unfold cls; rw [h1]
theorem still_cls {mu : Nat → Bool} {o : Oper} (h : still P o = true) : cls P mu o = 0 ∨ cls P mu o = 1 := by
  unfold still at h
  unfold cls
  cases hop : o.op <;> rw [hop] at h <;> simp at h ⊢
theorem zero_cells {e : E} {t : TypeId} {z : V} (hz : zeroV P t = some z) : ∃ i zv, P.info? t = some i ∧ i.zero = some zv ∧ ∀ e : E, Rs e z.cells zv.cells.toList ∧ z.cells.length = zv.cells.size := by
  obtain ⟨i, zv, hi, hiz, hc⟩ := zeroV_some hz
  refine ⟨i, zv, hi, hiz, fun e => ?_⟩
  have := (constV_sound e hc).cells
  exact ⟨this, by simpa using this.length⟩
end Go.Ab
