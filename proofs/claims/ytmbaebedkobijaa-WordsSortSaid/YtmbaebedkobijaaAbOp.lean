import Derived.Test.YtmbaebedkobijaaAbV
/- The abstract operations. -/
namespace Go.Ab
open Go.RowKit
set_option linter.unusedVariables false
set_option linter.unusedSimpArgs false

inductive Out where
  | ret (v : V)
  | panic (v : V)
abbrev Res := Option (Out × St)

def St.new (st : St) (o : Ob) : St := { st with ob := fun i => if i = st.n then some o else st.ob i, n := st.n + 1 }
def St.put (st : St) (id : Nat) (o : Ob) : St := { st with ob := fun i => if i = id then some o else st.ob i }
def St.del (st : St) (id : Nat) : St := { st with ob := fun i => if i = id then none else st.ob i }
def St.newTk (st : St) (s : Nat) : St := { st with tk := fun i => if i = st.nt then some s else st.tk i, nt := st.nt + 1 }
def St.delTk (st : St) (t : Nat) : St := { st with tk := fun i => if i = t then none else st.tk i }

def constC : Value → Option V
  | .int k n => some (.int k n)
  | .bool b => some (.bool b)
  | .string s => some (.str s.data.toList)
  | .pointer none => some .ptr0
  | .slice none 0 0 => some (.lst [] 1)
  | .map none => some .map0
  | .nilFunc => some .fn0
  | .nilIface => some .if0
  | _ => none
def constL : List Value → Option (List V)
  | [] => some []
  | v :: vs => match constC v, constL vs with
    | some x, some xs => some (x :: xs)
    | _, _ => none
def constV : Value → Option V
  | .agg A => match constL A.toList with
    | some l => some (.agg l)
    | none => none
  | v => constC v

theorem constC_sound (e : E) {v : Value} {x : V} (h : constC v = some x) : Rs e [x] [v] ∧ x.one = true := by
  unfold constC at h
  split at h <;> cases h <;> refine ⟨?_, rfl⟩
  · exact .int _ _ .nil
  · exact .bool _ .nil
  · exact .str _ .nil
  · exact .ptr0 .nil
  · exact .lst0 1 (by omega) .nil
  · exact .map0 .nil
  · exact .fn0 .nil
  · exact .if0 .nil

theorem constL_sound (e : E) : ∀ {vs : List Value} {xs : List V}, constL vs = some xs → Rs e xs vs ∧ ∀ x ∈ xs, x.one = true
  | [], xs, h => by cases h; exact ⟨.nil, by simp⟩
  | v :: vs, xs, h => by
    unfold constL at h
    split at h
    · rename_i x ys h1 h2
      cases h
      obtain ⟨a, b⟩ := constC_sound e h1
      obtain ⟨c, d⟩ := constL_sound e h2
      exact ⟨Rs.cons a c, by intro y hy; rcases List.mem_cons.mp hy with q | q; exact q ▸ b; exact d y q⟩
    · cases h

theorem constV_sound (e : E) {v : Value} {x : V} (h : constV v = some x) : Rs e [x] [v] := by
  unfold constV at h
  split at h
  · split at h
    · rename_i l hl
      cases h
      obtain ⟨a, b⟩ := constL_sound e hl
      exact .agg _ _ b a .nil
    · cases h
  · exact (constC_sound e h).1

/-- The slots' values. -/
abbrev Env := Nat → V
/-- They are the frame's, of so many slots. -/
def EnvR (m : Nat) (e : E) (env : Env) (tmps : Array Value) : Prop := tmps.size = m ∧ ∀ t, Rs e [env t] [tmps.getD t undef]
theorem EnvR.mono {m : Nat} {e e' : E} {env : Env} {tmps : Array Value} (h : EnvR m e env tmps) (x : Ext e e') : EnvR m e' env tmps := ⟨h.1, fun t => (h.2 t).mono x⟩

def opV (env : Env) : Operand → Option V
  | .tmp t => some (env t)
  | .const v => constV v
  | .func f => some (.fn f [] [])
  | .global _ => none

theorem opV_sound {m : Nat} {e : E} {env : Env} {a : Act} {x : Operand} {v : V} (h : EnvR m e env a.tmps) (hv : opV env x = some v) : Rs e [v] [a.eval x] := by
  cases x with
  | tmp t =>
    simp only [opV, Option.some.injEq] at hv
    subst hv
    exact h.2 t
  | const v0 => exact constV_sound e hv
  | global g => cases hv
  | func f => simp only [opV, Option.some.injEq] at hv; subst hv; exact .fn f [] [] #[] #[] .nil .nil .nil

def opsV (env : Env) : List Operand → Option (List V)
  | [] => some []
  | x :: xs => match opV env x, opsV env xs with
    | some v, some vs => some (v :: vs)
    | _, _ => none

theorem opsV_sound {m : Nat} {e : E} {env : Env} {a : Act} (h : EnvR m e env a.tmps) : ∀ {xs : List Operand} {vs : List V}, opsV env xs = some vs → Rs e vs (xs.map a.eval)
  | [], vs, hv => by cases hv; exact .nil
  | x :: xs, vs, hv => by
    unfold opsV at hv
    split at hv
    · rename_i v ys h1 h2
      cases hv
      exact Rs.cons (opV_sound h h1) (opsV_sound h h2)
    · cases hv

/-- An operand's value, then. -/
def ob (o : Option V) (k : V → Res) : Res := match o with | some v => k v | none => none
def obs (o : Option (List V)) (k : List V → Res) : Res := match o with | some v => k v | none => none
theorem ob_some {o : Option V} {k : V → Res} {r : Out × St} (h : ob o k = some r) : ∃ v, o = some v ∧ k v = some r := by
  cases o with
  | none => cases h
  | some v => exact ⟨v, rfl, h⟩
theorem obs_some {o : Option (List V)} {k : List V → Res} {r : Out × St} (h : obs o k = some r) : ∃ v, o = some v ∧ k v = some r := by
  cases o with
  | none => cases h
  | some v => exact ⟨v, rfl, h⟩

/-- An operation that comes to a value. -/
def Step (P : Program) (W0 : World) (B : Nat) (e : E) (s : Sem Value) (K : V → St → Res) (r : Out × St) : Prop :=
  ∃ v v' e', K v e'.st = some r ∧ s.run P e.w = .ok v' e'.w ∧ Ext e e' ∧ Rel W0 B e' ∧ Rs e' [v] [v']

theorem Step.pure {P : Program} {W0 : World} {B : Nat} {e : E} {s : Sem Value} {K : V → St → Res} {r : Out × St} {v : V} {v' : Value} (hr : Rel W0 B e) (hk : K v e.st = some r) (hs : s.run P e.w = .ok v' e.w) (hv : Rs e [v] [v']) : Step P W0 B e s K r :=
  ⟨v, v', e, hk, hs, Ext.refl e, hr, hv⟩

/-- A draw. -/
def E.drew (e : E) : E := { e with w := { e.w with drawn := e.w.drawn + 1 } }
theorem Ext.drew (e : E) : Ext e e.drew := ⟨Nat.le_refl _, Nat.le_refl _, fun _ _ => rfl, fun _ _ o h => ⟨o, h⟩, fun _ _ => rfl, fun _ _ _ h => h, fun _ => Nat.le_refl _, fun _ c _ fz h => ⟨c, fz, h, rfl, fun _ _ => rfl⟩⟩
theorem Rel.drew {W0 : World} {B : Nat} {e : E} (h : Rel W0 B e) : Rel W0 B e.drew :=
  ⟨⟨h.below.os, h.below.tape, h.below.output, h.below.size, h.below.block⟩, h.hB,
   fun id cs ho => by obtain ⟨a, b, c, ty, fz, d, f, g, k, kb⟩ := h.cells id cs ho; exact ⟨a, b, c, ty, fz, d, f, g, k.mono (Ext.drew e), kb⟩,
   fun id es ho => by obtain ⟨a, ents, clock, b, c, d⟩ := h.maps id es ho; exact ⟨a, ents, clock, b, c.mono (Ext.drew e), d.mono (Ext.drew e)⟩,
   h.live, h.inj, h.tkn, h.toks, h.tinj, h.tob, h.frs, h.frn⟩

/-- A new object of cells. -/
def E.newOb (e : E) (o : Ob) (x : Obj) : E :=
  { e with st := e.st.new o, w := { e.w with heap := e.w.heap.push x }, σ := fun i => if i = e.st.n then e.w.heap.size else e.σ i }
theorem push_old {h : Array Obj} {x : Obj} {b : Nat} {y : Obj} (hb : h[b]? = some y) : (h.push x)[b]? = some y := by
  have : b < h.size := (Array.getElem?_eq_some_iff.mp hb).1
  rw [Array.getElem?_push, if_neg (by omega)]; exact hb
theorem Ext.newOb (e : E) (o : Ob) (x : Obj) (hn : ∀ o', e.st.ob e.st.n = some o' → False) : Ext e (e.newOb o x) := by
  refine ⟨Nat.le_succ _, Nat.le_refl _, fun id hi => ?_, fun id hi o' ho' => ?_, fun _ _ => rfl, fun _ _ _ h => h, fun _ => Nat.le_refl _, fun b c ty fz hb => ⟨c, fz, push_old hb, rfl, fun _ _ => rfl⟩⟩
  · simp only [E.newOb]; rw [if_neg (by omega)]
  · simp only [E.newOb, St.new] at ho'; rw [if_neg (by omega)] at ho'; exact ⟨o', ho'⟩

theorem Rel.newOb {W0 : World} {B : Nat} {e : E} (h : Rel W0 B e) (o : Ob) (x : Obj)
    (hc : ∀ cs, o = .cells cs → (∀ v ∈ cs, v.oneB = true) ∧ ∃ c ty fz, x = .cells c ty fz ∧ unfz c fz 0 ∧ cs.length ≤ c.size ∧ Rs e cs (c.toList.take cs.length) ∧ BldOK e.w.heap.size cs c ty)
    (hm : ∀ es, o = .map es → ∃ ents clock, x = .map ents clock ∧ Rs e (es.map (·.1)) (ents.toList.map (·.key)) ∧ Rs e (es.map (·.2)) (ents.toList.map (·.val))) : Rel W0 B (e.newOb o x) := by
  have hsz := h.below.size
  have hBs : B ≤ e.w.heap.size := Nat.le_trans h.hB hsz
  have hnew : ∀ o', e.st.ob e.st.n = some o' → False := fun o' ho' => by have := (h.live _ _ ho').1; omega
  have X := Ext.newOb e o x hnew
  have hlt : ∀ id o', e.st.ob id = some o' → e.σ id < e.w.heap.size := by
    intro id o' ho'
    cases o' with
    | cells cs => obtain ⟨_, _, c, ty, fz, d, _⟩ := h.cells id cs ho'; exact (Array.getElem?_eq_some_iff.mp d).1
    | map es => obtain ⟨_, ents, clock, d, _⟩ := h.maps id es ho'; exact (Array.getElem?_eq_some_iff.mp d).1
  have hobj : ∀ id o', (e.newOb o x).st.ob id = some o' → (id = e.st.n ∧ o' = o) ∨ (id ≠ e.st.n ∧ e.st.ob id = some o') := by
    intro id o' ho'
    simp only [E.newOb, St.new] at ho'
    by_cases hi : id = e.st.n
    · rw [if_pos hi] at ho'; exact .inl ⟨hi, (Option.some.inj ho').symm⟩
    · rw [if_neg hi] at ho'; exact .inr ⟨hi, ho'⟩
  have hσn : (e.newOb o x).σ e.st.n = e.w.heap.size := by simp [E.newOb]
  have hσ : ∀ id, id ≠ e.st.n → (e.newOb o x).σ id = e.σ id := fun id hi => by simp [E.newOb, hi]
  have hpush : (e.newOb o x).w.heap[e.w.heap.size]? = some x := by show (e.w.heap.push x)[e.w.heap.size]? = some x; rw [Array.getElem?_push, if_pos rfl]
  refine ⟨⟨h.below.os, h.below.tape, h.below.output, by simp only [E.newOb, Array.size_push]; omega, fun k hk => ?_⟩, h.hB, ?_, ?_, ?_, ?_, h.tkn, ?_, h.tinj, ?_, ?_, ?_⟩
  · simp only [E.newOb]; rw [Array.getElem?_push, if_neg (by omega)]; exact h.below.block k hk
  · intro id cs ho
    rcases hobj id _ ho with ⟨rfl, he⟩ | ⟨hi, ho'⟩
    · obtain ⟨g1, c, ty, fz, rfl, g0, g2, g3, g4⟩ := hc cs he.symm
      rw [hσn]
      exact ⟨hBs, g1, c, ty, fz, hpush, g0, g2, g3.mono X, g4⟩
    · obtain ⟨a, b, c, ty, fz, d, f, g, k, kb⟩ := h.cells id cs ho'
      rw [hσ id hi]
      exact ⟨a, b, c, ty, fz, push_old d, f, g, k.mono X, kb⟩
  · intro id es ho
    rcases hobj id _ ho with ⟨rfl, he⟩ | ⟨hi, ho'⟩
    · obtain ⟨ents, clock, rfl, g2, g3⟩ := hm es he.symm
      rw [hσn]
      exact ⟨hBs, ents, clock, hpush, g2.mono X, g3.mono X⟩
    · obtain ⟨a, ents, clock, b, c, d⟩ := h.maps id es ho'
      rw [hσ id hi]
      exact ⟨a, ents, clock, push_old b, c.mono X, d.mono X⟩
  · intro id o' ho
    rcases hobj id _ ho with ⟨rfl, he⟩ | ⟨hi, ho'⟩
    · rw [hσn]; exact ⟨Nat.lt_succ_self _, h.frn _ (Nat.le_refl _)⟩
    · rw [hσ id hi]; exact ⟨Nat.lt_succ_of_lt (h.live _ _ ho').1, (h.live _ _ ho').2⟩
  · intro i j o1 o2 h1 h2 hs
    rcases hobj i _ h1 with ⟨rfl, _⟩ | ⟨hi, h1'⟩ <;> rcases hobj j _ h2 with ⟨rfl, _⟩ | ⟨hj, h2'⟩
    · rfl
    · rw [hσn, hσ j hj] at hs; have := hlt j _ h2'; omega
    · rw [hσn, hσ i hi] at hs; have := hlt i _ h1'; omega
    · rw [hσ i hi, hσ j hj] at hs; exact h.inj i j _ _ h1' h2' hs
  · intro t s b k ht hτ
    obtain ⟨a, b', c, ty, fz, d, f⟩ := h.toks t s b k ht hτ
    exact ⟨a, b', c, ty, fz, push_old d, f⟩
  · intro t s b k id o' ht hτ ho
    rcases hobj id _ ho with ⟨rfl, _⟩ | ⟨hi, ho'⟩
    · rw [hσn]
      obtain ⟨_, _, c, ty, fz, d, _⟩ := h.toks t s b k ht hτ
      have := (Array.getElem?_eq_some_iff.mp d).1
      omega
    · rw [hσ id hi]; exact h.tob t s b k id o' ht hτ ho'
  · intro b c ty fz hb
    by_cases hbs : b < e.w.heap.size
    · simp only [E.newOb] at hb ⊢; rw [Array.getElem?_push, if_neg (by omega)] at hb; exact h.frs b c ty fz hb
    · have : e.fr b = 0 := h.frn b (by omega)
      show e.fr b ≤ _; omega
  · intro b hb
    simp only [E.newOb, Array.size_push] at hb
    exact h.frn b (by omega)

/-- A block that does not turn any more is laid. -/
def E.lay (e : E) (x : Obj) (n : Nat) : E := { e with w := { e.w with heap := e.w.heap.push x }, fr := fun b => if b = e.w.heap.size then n else e.fr b }
theorem Ext.lay (e : E) (x : Obj) (n : Nat) (h0 : e.fr e.w.heap.size = 0) : Ext e (e.lay x n) := by
  refine ⟨Nat.le_refl _, Nat.le_refl _, fun _ _ => rfl, fun _ _ o h => ⟨o, h⟩, fun _ _ => rfl, fun _ _ _ h => h, fun b => ?_, fun b c ty fz hb => ⟨c, fz, push_old hb, rfl, fun _ _ => rfl⟩⟩
  simp only [E.lay]; split
  · rename_i hb; rw [hb, h0]; exact Nat.zero_le _
  · exact Nat.le_refl _
theorem Rel.lay {W0 : World} {B : Nat} {e : E} (h : Rel W0 B e) (c : Array Value) (ty : TypeId) (fz : Nat × Nat) (n : Nat) (hn : n ≤ c.size) : Rel W0 B (e.lay (.cells c ty fz) n) := by
  have hsz := h.below.size
  have h0 := h.frn e.w.heap.size (Nat.le_refl _)
  have X := Ext.lay e (.cells c ty fz) n h0
  have hfr : ∀ b, b < e.w.heap.size → (e.lay (.cells c ty fz) n).fr b = e.fr b := fun b hb => by simp only [E.lay]; rw [if_neg (by omega)]
  have hlt : ∀ id o', e.st.ob id = some o' → e.σ id < e.w.heap.size := by
    intro id o' ho'
    cases o' with
    | cells cs => obtain ⟨_, _, c, ty, fz, d, _⟩ := h.cells id cs ho'; exact (Array.getElem?_eq_some_iff.mp d).1
    | map es => obtain ⟨_, ents, clock, d, _⟩ := h.maps id es ho'; exact (Array.getElem?_eq_some_iff.mp d).1
  refine ⟨⟨h.below.os, h.below.tape, h.below.output, by simp only [E.lay, Array.size_push]; omega, fun k hk => ?_⟩, h.hB, ?_, ?_, ?_, h.inj, h.tkn, ?_, h.tinj, h.tob, ?_, ?_⟩
  · have := h.hB
    simp only [E.lay]; rw [Array.getElem?_push, if_neg (by omega)]; exact h.below.block k hk
  · intro id cs ho
    obtain ⟨a, b, c, ty, fz, d, f, g, k, kb⟩ := h.cells id cs ho
    exact ⟨a, b, c, ty, fz, push_old d, f, g, k.mono X, kb⟩
  · intro id es ho
    obtain ⟨a, ents, clock, b, c, d⟩ := h.maps id es ho
    exact ⟨a, ents, clock, push_old b, c.mono X, d.mono X⟩
  · intro id o' ho
    refine ⟨(h.live _ _ ho).1, ?_⟩
    rw [show (e.lay (.cells c ty fz) n).σ id = e.σ id from rfl, hfr _ (hlt id o' ho)]
    exact (h.live _ _ ho).2
  · intro t s b k ht hτ
    obtain ⟨a, b', c, ty, fz, d, f⟩ := h.toks t s b k ht hτ
    have := (Array.getElem?_eq_some_iff.mp d).1
    exact ⟨a, (hfr b this).trans b', c, ty, fz, push_old d, f⟩
  · intro b c' ty' fz' hb
    by_cases hbs : b < e.w.heap.size
    · rw [hfr b hbs]
      simp only [E.lay] at hb; rw [Array.getElem?_push, if_neg (by omega)] at hb; exact h.frs b c' ty' fz' hb
    · simp only [E.lay] at hb ⊢
      rw [Array.getElem?_push] at hb
      split at hb
      · rename_i e1; cases hb; rw [if_pos e1]; exact hn
      · rename_i e1; rw [Array.getElem?_eq_none (by omega)] at hb; cases hb
  · intro b hb
    simp only [E.lay, Array.size_push] at hb ⊢
    rw [if_neg (by omega)]; exact h.frn b (by omega)
end Go.Ab
