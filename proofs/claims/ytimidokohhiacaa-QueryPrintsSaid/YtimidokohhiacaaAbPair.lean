import Derived.Test.YtimidokohhiacaaAbDrawmerged0
/- Regions that draw their order, with two allocations of which either may be the first. -/
namespace Go.Ab
open Go.RowKit
set_option linter.unusedVariables false
set_option linter.unusedSimpArgs false
variable {P : Program} {mu : Nat → Bool} {T : Tbl} {ops : Array Oper} {B : List Nat}
/-- It reads, and leaves the world alone. -/
def still (P : Program) (o : Oper) : Bool := match o.op with | .move _ | .load .. | .fieldAddr .. => true | .indexAddr t _ _ => (sle P t).isSome | _ => false
def hasEdge (o : Oper) (i : Nat) : Bool := o.after.toList.any fun x => Region.binds .any x && x.on == i
def allocT (P : Program) (o : Oper) : Option TypeId := match o.op with
  | .alloc t => if o.guard.isNone && o.dst.isSome && !isBld P t then some t else none
  | _ => none
/-- A block that nobody knows. -/
def E.garb (e : E) (x : Obj) : E := { e with w := { e.w with heap := e.w.heap.push x } }
theorem Ext.garb (e : E) (x : Obj) : Ext e (e.garb x) :=
  ⟨Nat.le_refl _, Nat.le_refl _, fun _ _ => rfl, fun _ _ o h => ⟨o, h⟩, fun _ _ => rfl, fun _ _ _ h => h, fun _ => Nat.le_refl _, fun b c ty fz hb => ⟨c, fz, push_old hb, rfl, fun _ _ => rfl⟩⟩
theorem Rel.garb {W0 : World} {B : Nat} {e : E} (h : Rel W0 B e) (x : Obj) : Rel W0 B (e.garb x) := by
  have X := Ext.garb e x
  refine ⟨⟨h.below.os, h.below.tape, h.below.output, by have := h.below.size; simp only [E.garb, Array.size_push]; omega, fun k hk => ?_⟩, h.hB, ?_, ?_, h.live, h.inj, h.tkn, ?_, h.tinj, h.tob, ?_, ?_⟩
  · have := h.hB; have := h.below.size
    simp only [E.garb]; rw [Array.getElem?_push, if_neg (by omega)]; exact h.below.block k hk
  · intro id cs ho
    obtain ⟨a, b, c, ty, fz, d, f, g, k, kb⟩ := h.cells id cs ho
    exact ⟨a, b, c, ty, fz, push_old d, f, g, k.mono X, kb⟩
  · intro id es ho
    obtain ⟨a, ents, clock, b, c, d⟩ := h.maps id es ho
    exact ⟨a, ents, clock, push_old b, c.mono X, d.1.mono X, d.2⟩
  · intro t s b k ht hτ
    obtain ⟨a, b', c, ty, fz, d, f⟩ := h.toks t s b k ht hτ
    exact ⟨a, b', c, ty, fz, push_old d, f⟩
  · intro b c ty fz hb
    by_cases hbs : b < e.w.heap.size
    · simp only [E.garb] at hb ⊢; rw [Array.getElem?_push, if_neg (by omega)] at hb; exact h.frs b c ty fz hb
    · have : e.fr b = 0 := h.frn b (by omega)
      show e.fr b ≤ _; omega
  · intro b hb
    simp only [E.garb, Array.size_push] at hb
    exact h.frn b (by omega)
/-- .. and what is told of it. -/
structure Lone (B : Nat) (e : E) (b : Nat) (x : Obj) : Prop where
  at_ : e.w.heap[b]? = some x
  hB : B ≤ b
  fr : e.fr b = 0
  ob : ∀ id o, e.st.ob id = some o → e.σ id ≠ b
  tk : ∀ t s b' k, e.st.tk t = some s → e.τ t = some (b', k) → b' ≠ b
theorem Rel.lt {W0 : World} {B : Nat} {e : E} (h : Rel W0 B e) : ∀ id o', e.st.ob id = some o' → e.σ id < e.w.heap.size := by
  intro id o' ho'
  cases o' with
  | cells cs => obtain ⟨_, _, c, ty, fz, d, _⟩ := h.cells id cs ho'; exact (Array.getElem?_eq_some_iff.mp d).1
  | map es => obtain ⟨_, ents, clock, d, _⟩ := h.maps id es ho'; exact (Array.getElem?_eq_some_iff.mp d).1
theorem Lone.garb {W0 : World} {B : Nat} {e : E} (h : Rel W0 B e) (x : Obj) : Lone B (e.garb x) e.w.heap.size x := by
  refine ⟨by show (e.w.heap.push x)[e.w.heap.size]? = some x; rw [Array.getElem?_push, if_pos rfl], Nat.le_trans h.hB h.below.size, h.frn _ (Nat.le_refl _), fun id o ho => ?_, fun t s b' k ht hτ => ?_⟩
  · have := h.lt id o ho; show e.σ id ≠ _; omega
  · obtain ⟨_, _, c, ty, fz, d, _⟩ := h.toks t s b' k ht hτ
    have := (Array.getElem?_eq_some_iff.mp d).1
    omega
theorem Lone.newOb {W0 : World} {B : Nat} {e : E} {b : Nat} {x : Obj} (h : Rel W0 B e) (l : Lone B e b x) (o : Ob) (y : Obj) : Lone B (e.newOb o y) b x := by
  have hb := (Array.getElem?_eq_some_iff.mp l.at_).1
  refine ⟨push_old l.at_, l.hB, l.fr, fun id o' ho => ?_, l.tk⟩
  simp only [E.newOb, St.new] at ho ⊢
  by_cases hi : id = e.st.n
  · rw [if_pos hi]; omega
  · rw [if_neg hi] at ho ⊢; exact l.ob id o' ho
/-- It becomes an object. -/
def E.adopt (e : E) (o : Ob) (b : Nat) : E := { e with st := e.st.new o, σ := fun i => if i = e.st.n then b else e.σ i }
theorem Ext.adopt (e : E) (o : Ob) (b : Nat) (hn : ∀ o', e.st.ob e.st.n = some o' → False) : Ext e (e.adopt o b) := by
  refine ⟨Nat.le_succ _, Nat.le_refl _, fun id hi => ?_, fun id hi o' ho' => ?_, fun _ _ => rfl, fun _ _ _ h => h, fun _ => Nat.le_refl _, fun b c ty fz hb => ⟨c, fz, hb, rfl, fun _ _ => rfl⟩⟩
  · simp only [E.adopt]; rw [if_neg (by omega)]
  · simp only [E.adopt, St.new] at ho'; rw [if_neg (by omega)] at ho'; exact ⟨o', ho'⟩
theorem Rel.adopt {W0 : World} {B : Nat} {e : E} (h : Rel W0 B e) {b : Nat} {cs : List V} {c : Array Value} {ty : TypeId} {fz : Nat × Nat} (l : Lone B e b (.cells c ty fz)) (h1 : ∀ v ∈ cs, v.oneB = true) (h2 : unfz c fz 0) (h3 : cs.length ≤ c.size) (h4 : Rs e cs (c.toList.take cs.length)) (h5 : BldOK b cs c ty) : Rel W0 B (e.adopt (.cells cs) b) := by
  have hnew : ∀ o', e.st.ob e.st.n = some o' → False := fun o' ho' => by have := (h.live _ _ ho').1; omega
  have X := Ext.adopt e (.cells cs) b hnew
  have hobj : ∀ id o', (e.adopt (.cells cs) b).st.ob id = some o' → (id = e.st.n ∧ o' = .cells cs) ∨ (id ≠ e.st.n ∧ e.st.ob id = some o') := by
    intro id o' ho'
    simp only [E.adopt, St.new] at ho'
    by_cases hi : id = e.st.n
    · rw [if_pos hi] at ho'; exact .inl ⟨hi, (Option.some.inj ho').symm⟩
    · rw [if_neg hi] at ho'; exact .inr ⟨hi, ho'⟩
  have hσn : (e.adopt (.cells cs) b).σ e.st.n = b := by simp [E.adopt]
  have hσ : ∀ id, id ≠ e.st.n → (e.adopt (.cells cs) b).σ id = e.σ id := fun id hi => by simp [E.adopt, hi]
  refine ⟨h.below, h.hB, ?_, ?_, ?_, ?_, h.tkn, h.toks, h.tinj, ?_, h.frs, h.frn⟩
  · intro id cs' ho
    rcases hobj id _ ho with ⟨rfl, he⟩ | ⟨hi, ho'⟩
    · cases he; rw [hσn]; exact ⟨l.hB, h1, c, ty, fz, l.at_, h2, h3, h4.mono X, h5⟩
    · obtain ⟨a, b, c, ty, fz, d, f, g, k, kb⟩ := h.cells id cs' ho'
      rw [hσ id hi]
      exact ⟨a, b, c, ty, fz, d, f, g, k.mono X, kb⟩
  · intro id es ho
    rcases hobj id _ ho with ⟨rfl, he⟩ | ⟨hi, ho'⟩
    · cases he
    · obtain ⟨a, ents, clock, b, c, d⟩ := h.maps id es ho'
      rw [hσ id hi]
      exact ⟨a, ents, clock, b, c.mono X, d.1.mono X, d.2⟩
  · intro id o' ho
    rcases hobj id _ ho with ⟨rfl, he⟩ | ⟨hi, ho'⟩
    · rw [hσn]; exact ⟨Nat.lt_succ_self _, l.fr⟩
    · rw [hσ id hi]; exact ⟨Nat.lt_succ_of_lt (h.live _ _ ho').1, (h.live _ _ ho').2⟩
  · intro i j o1 o2 h1 h2 hs
    rcases hobj i _ h1 with ⟨rfl, _⟩ | ⟨hi, h1'⟩ <;> rcases hobj j _ h2 with ⟨rfl, _⟩ | ⟨hj, h2'⟩
    · rfl
    · rw [hσn, hσ j hj] at hs; exact absurd hs.symm (l.ob j _ h2')
    · rw [hσn, hσ i hi] at hs; exact absurd hs (l.ob i _ h1')
    · rw [hσ i hi, hσ j hj] at hs; exact h.inj i j _ _ h1' h2' hs
  · intro t s b' k id o' ht hτ ho
    rcases hobj id _ ho with ⟨rfl, _⟩ | ⟨hi, ho'⟩
    · rw [hσn]; exact fun g => l.tk t s b' k ht hτ g.symm
    · rw [hσ id hi]; exact h.tob t s b' k id o' ht hτ ho'
/-! what stands still -/
/-- An edge more. -/
def addE (ops : Array Oper) (i j : Nat) : Array Oper := ops.modify j fun o => { o with after := o.after.push { on := i, ground := Ground.data } }
def pairOK (P : Program) (ops : Array Oper) (B : List Nat) (i j : Nat) : Bool :=
  match ops[i]?, ops[j]? with
  | some q, some o => (allocT P q).isSome && (allocT P o).isSome && Nat.blt i j && q.dst != o.dst &&
    (List.range ops.size).all fun k => Nat.beq k i || Nat.beq k j || match ops[k]? with
      | none => false
      | some x => x.dst != q.dst && x.dst != o.dst && (!hasEdge x j || hasEdge x i) && ((still P x && !(x.looksAt ops).any (fun t => some t == o.dst)) || (Nat.blt j k && ord B i k))
  | _, _ => false
def findPair (P : Program) (mu : Nat → Bool) (ops : Array Oper) (B : List Nat) : Option (Nat × Nat) :=
  (List.range ops.size).findSome? fun j => (List.range j).findSome? fun i => match ops[i]?, ops[j]? with
    | some q, some o => if cls P mu o == 2 && cls P mu q == 2 && !ord B i j then some (i, j) else none
    | _, _ => none
def areg2 (P : Program) (mu : Nat → Bool) (T : Tbl) (m : Nat) (ops : Array Oper) (env : Env) (st : St) (K : Env → St → Res) : Res :=
  if regOk P mu ops (befs ops.toList []) then aregL P mu T m ops (befs ops.toList []) K (List.range ops.size) env st [] []
  else match findPair P mu ops (befs ops.toList []) with
    | some (i, j) => if regOk P mu (addE ops i j) (befs (addE ops i j).toList []) && pairOK P ops (befs (addE ops i j).toList []) i j then aregL P mu T m (addE ops i j) (befs (addE ops i j).toList []) K (List.range (addE ops i j).size) env st [] [] else none
    | none => none
end Go.Ab
