import Derived.Test.YtjdgaphjjhhjeaaAbV
import Derived.Lib.Strings
import Derived.Laws.Append
import Derived.Lib.ConvBytes
import Derived.Laws.BytesString
import Derived.Great.BuildSlice
import Derived.Laws.MakeOwn
import Derived.Laws.Build
import Derived.Lib.UnsafeStr
import Derived.Laws.StructEq
/- The abstract operations. -/
namespace Go.Ab
open Go.RowKit
set_option linter.unusedVariables false
set_option linter.unusedSimpArgs false

inductive Out where
  | ret (v : V)
  | panic (v : V)
abbrev Res := Option (Out × St)

def St.new (st : St) (o : Ob) : St := { st with ob := fun i => if i = st.n then some o else st.ob i, n := st.n + 1 }
def St.put (st : St) (id : Nat) (o : Ob) : St := { st with ob := fun i => if i = id then some o else st.ob i }
def St.del (st : St) (id : Nat) : St := { st with ob := fun i => if i = id then none else st.ob i }
def St.newTk (st : St) (s : Nat) : St := { st with tk := fun i => if i = st.nt then some s else st.tk i, nt := st.nt + 1 }
def St.delTk (st : St) (t : Nat) : St := { st with tk := fun i => if i = t then none else st.tk i }

def constC : Value → Option V
  | .int k n => some (.int k n)
  | .bool b => some (.bool b)
  | .string s => some (.str s.data.toList)
  | .pointer none => some .ptr0
  | .slice none 0 0 => some (.lst [] 1)
  | .map none => some .map0
  | .nilFunc => some .fn0
  | .nilIface => some .if0
  | _ => none
def constL : List Value → Option (List V)
  | [] => some []
  | v :: vs => match constC v, constL vs with
    | some x, some xs => some (x :: xs)
    | _, _ => none
def constV : Value → Option V
  | .agg A => match constL A.toList with
    | some l => some (.agg l)
    | none => none
  | v => constC v

theorem constC_sound (e : E) {v : Value} {x : V} (h : constC v = some x) : Rs e [x] [v] ∧ x.one = true := by
  unfold constC at h
  split at h <;> cases h <;> refine ⟨?_, rfl⟩
  · exact .int _ _ .nil
  · exact .bool _ .nil
  · exact .str _ .nil
  · exact .ptr0 .nil
  · exact .lst0 1 (by omega) .nil
  · exact .map0 .nil
  · exact .fn0 .nil
  · exact .if0 .nil

theorem constL_sound (e : E) : ∀ {vs : List Value} {xs : List V}, constL vs = some xs → Rs e xs vs ∧ ∀ x ∈ xs, x.one = true
  | [], xs, h => by cases h; exact ⟨.nil, by simp⟩
  | v :: vs, xs, h => by
    unfold constL at h
    split at h
    · rename_i x ys h1 h2
      cases h
      obtain ⟨a, b⟩ := constC_sound e h1
      obtain ⟨c, d⟩ := constL_sound e h2
      exact ⟨Rs.cons a c, by intro y hy; rcases List.mem_cons.mp hy with q | q; exact q ▸ b; exact d y q⟩
    · cases h

theorem constV_sound (e : E) {v : Value} {x : V} (h : constV v = some x) : Rs e [x] [v] := by
  unfold constV at h
  split at h
  · split at h
    · rename_i l hl
      cases h
      obtain ⟨a, b⟩ := constL_sound e hl
      exact .agg _ _ b a .nil
    · cases h
  · exact (constC_sound e h).1

/-- The slots' values. -/
abbrev Env := Nat → V
/-- They are the frame's, of so many slots. -/
def EnvR (m : Nat) (e : E) (env : Env) (tmps : Array Value) : Prop := tmps.size = m ∧ ∀ t, Rs e [env t] [tmps.getD t undef]
theorem EnvR.mono {m : Nat} {e e' : E} {env : Env} {tmps : Array Value} (h : EnvR m e env tmps) (x : Ext e e') : EnvR m e' env tmps := ⟨h.1, fun t => (h.2 t).mono x⟩

def opV (env : Env) : Operand → Option V
  | .tmp t => some (env t)
  | .const v => constV v
  | .func f => some (.fn f [] [])
  | .global _ => none

theorem opV_sound {m : Nat} {e : E} {env : Env} {a : Act} {x : Operand} {v : V} (h : EnvR m e env a.tmps) (hv : opV env x = some v) : Rs e [v] [a.eval x] := by
  cases x with
  | tmp t =>
    simp only [opV, Option.some.injEq] at hv
    subst hv
    exact h.2 t
  | const v0 => exact constV_sound e hv
  | global g => cases hv
  | func f => simp only [opV, Option.some.injEq] at hv; subst hv; exact .fn f [] [] #[] #[] .nil .nil .nil

def opsV (env : Env) : List Operand → Option (List V)
  | [] => some []
  | x :: xs => match opV env x, opsV env xs with
    | some v, some vs => some (v :: vs)
    | _, _ => none

theorem opsV_sound {m : Nat} {e : E} {env : Env} {a : Act} (h : EnvR m e env a.tmps) : ∀ {xs : List Operand} {vs : List V}, opsV env xs = some vs → Rs e vs (xs.map a.eval)
  | [], vs, hv => by cases hv; exact .nil
  | x :: xs, vs, hv => by
    unfold opsV at hv
    split at hv
    · rename_i v ys h1 h2
      cases hv
      exact Rs.cons (opV_sound h h1) (opsV_sound h h2)
    · cases hv

/-- An operand's value, then. -/
def ob (o : Option V) (k : V → Res) : Res := match o with | some v => k v | none => none
def obs (o : Option (List V)) (k : List V → Res) : Res := match o with | some v => k v | none => none
theorem ob_some {o : Option V} {k : V → Res} {r : Out × St} (h : ob o k = some r) : ∃ v, o = some v ∧ k v = some r := by
  cases o with
  | none => cases h
  | some v => exact ⟨v, rfl, h⟩
theorem obs_some {o : Option (List V)} {k : List V → Res} {r : Out × St} (h : obs o k = some r) : ∃ v, o = some v ∧ k v = some r := by
  cases o with
  | none => cases h
  | some v => exact ⟨v, rfl, h⟩

/-- An operation that comes to a value. -/
def Step (P : Program) (W0 : World) (B : Nat) (e : E) (s : Sem Value) (K : V → St → Res) (r : Out × St) : Prop :=
  ∃ v v' e', K v e'.st = some r ∧ s.run P e.w = .ok v' e'.w ∧ Ext e e' ∧ Rel W0 B e' ∧ Rs e' [v] [v']

theorem Step.pure {P : Program} {W0 : World} {B : Nat} {e : E} {s : Sem Value} {K : V → St → Res} {r : Out × St} {v : V} {v' : Value} (hr : Rel W0 B e) (hk : K v e.st = some r) (hs : s.run P e.w = .ok v' e.w) (hv : Rs e [v] [v']) : Step P W0 B e s K r :=
  ⟨v, v', e, hk, hs, Ext.refl e, hr, hv⟩

/-- A draw. -/
def E.drew (e : E) : E := { e with w := { e.w with drawn := e.w.drawn + 1 } }
theorem Ext.drew (e : E) : Ext e e.drew := ⟨Nat.le_refl _, Nat.le_refl _, fun _ _ => rfl, fun _ _ o h => ⟨o, h⟩, fun _ _ => rfl, fun _ _ _ h => h, fun _ => Nat.le_refl _, fun _ c _ fz h => ⟨c, fz, h, rfl, fun _ _ => rfl⟩⟩
theorem Rel.drew {W0 : World} {B : Nat} {e : E} (h : Rel W0 B e) : Rel W0 B e.drew :=
  ⟨⟨h.below.os, h.below.tape, h.below.output, h.below.size, h.below.block⟩, h.hB,
   fun id cs ho => by obtain ⟨a, b, c, ty, fz, d, f, g, k, kb⟩ := h.cells id cs ho; exact ⟨a, b, c, ty, fz, d, f, g, k.mono (Ext.drew e), kb⟩,
   fun id es ho => by obtain ⟨a, ents, clock, b, c, d⟩ := h.maps id es ho; exact ⟨a, ents, clock, b, c.mono (Ext.drew e), d.1.mono (Ext.drew e), d.2⟩,
   h.live, h.inj, h.tkn, h.toks, h.tinj, h.tob, h.frs, h.frn⟩

/-- A new object of cells. -/
def E.newOb (e : E) (o : Ob) (x : Obj) : E :=
  { e with st := e.st.new o, w := { e.w with heap := e.w.heap.push x }, σ := fun i => if i = e.st.n then e.w.heap.size else e.σ i }
theorem push_old {h : Array Obj} {x : Obj} {b : Nat} {y : Obj} (hb : h[b]? = some y) : (h.push x)[b]? = some y := by
  have : b < h.size := (Array.getElem?_eq_some_iff.mp hb).1
  rw [Array.getElem?_push, if_neg (by omega)]; exact hb
theorem Ext.newOb (e : E) (o : Ob) (x : Obj) (hn : ∀ o', e.st.ob e.st.n = some o' → False) : Ext e (e.newOb o x) := by
  refine ⟨Nat.le_succ _, Nat.le_refl _, fun id hi => ?_, fun id hi o' ho' => ?_, fun _ _ => rfl, fun _ _ _ h => h, fun _ => Nat.le_refl _, fun b c ty fz hb => ⟨c, fz, push_old hb, rfl, fun _ _ => rfl⟩⟩
  · simp only [E.newOb]; rw [if_neg (by omega)]
  · simp only [E.newOb, St.new] at ho'; rw [if_neg (by omega)] at ho'; exact ⟨o', ho'⟩

theorem Rel.newOb {W0 : World} {B : Nat} {e : E} (h : Rel W0 B e) (o : Ob) (x : Obj)
    (hc : ∀ cs, o = .cells cs → (∀ v ∈ cs, v.oneB = true) ∧ ∃ c ty fz, x = .cells c ty fz ∧ unfz c fz 0 ∧ cs.length ≤ c.size ∧ Rs e cs (c.toList.take cs.length) ∧ BldOK e.w.heap.size cs c ty)
    (hm : ∀ es, o = .map es → ∃ ents clock, x = .map ents clock ∧ Rs e (es.map (·.1)) (ents.toList.map (·.key)) ∧ Rs e (es.map (·.2)) (ents.toList.map (·.val)) ∧ Go.MapKept.Stamped ents clock) : Rel W0 B (e.newOb o x) := by
  have hsz := h.below.size
  have hBs : B ≤ e.w.heap.size := Nat.le_trans h.hB hsz
  have hnew : ∀ o', e.st.ob e.st.n = some o' → False := fun o' ho' => by have := (h.live _ _ ho').1; omega
  have X := Ext.newOb e o x hnew
  have hlt : ∀ id o', e.st.ob id = some o' → e.σ id < e.w.heap.size := by
    intro id o' ho'
    cases o' with
    | cells cs => obtain ⟨_, _, c, ty, fz, d, _⟩ := h.cells id cs ho'; exact (Array.getElem?_eq_some_iff.mp d).1
    | map es => obtain ⟨_, ents, clock, d, _⟩ := h.maps id es ho'; exact (Array.getElem?_eq_some_iff.mp d).1
  have hobj : ∀ id o', (e.newOb o x).st.ob id = some o' → (id = e.st.n ∧ o' = o) ∨ (id ≠ e.st.n ∧ e.st.ob id = some o') := by
    intro id o' ho'
    simp only [E.newOb, St.new] at ho'
    by_cases hi : id = e.st.n
    · rw [if_pos hi] at ho'; exact .inl ⟨hi, (Option.some.inj ho').symm⟩
    · rw [if_neg hi] at ho'; exact .inr ⟨hi, ho'⟩
  have hσn : (e.newOb o x).σ e.st.n = e.w.heap.size := by simp [E.newOb]
  have hσ : ∀ id, id ≠ e.st.n → (e.newOb o x).σ id = e.σ id := fun id hi => by simp [E.newOb, hi]
  have hpush : (e.newOb o x).w.heap[e.w.heap.size]? = some x := by show (e.w.heap.push x)[e.w.heap.size]? = some x; rw [Array.getElem?_push, if_pos rfl]
  refine ⟨⟨h.below.os, h.below.tape, h.below.output, by simp only [E.newOb, Array.size_push]; omega, fun k hk => ?_⟩, h.hB, ?_, ?_, ?_, ?_, h.tkn, ?_, h.tinj, ?_, ?_, ?_⟩
  · simp only [E.newOb]; rw [Array.getElem?_push, if_neg (by omega)]; exact h.below.block k hk
  · intro id cs ho
    rcases hobj id _ ho with ⟨rfl, he⟩ | ⟨hi, ho'⟩
    · obtain ⟨g1, c, ty, fz, rfl, g0, g2, g3, g4⟩ := hc cs he.symm
      rw [hσn]
      exact ⟨hBs, g1, c, ty, fz, hpush, g0, g2, g3.mono X, g4⟩
    · obtain ⟨a, b, c, ty, fz, d, f, g, k, kb⟩ := h.cells id cs ho'
      rw [hσ id hi]
      exact ⟨a, b, c, ty, fz, push_old d, f, g, k.mono X, kb⟩
  · intro id es ho
    rcases hobj id _ ho with ⟨rfl, he⟩ | ⟨hi, ho'⟩
    · obtain ⟨ents, clock, rfl, g2, g3⟩ := hm es he.symm
      rw [hσn]
      exact ⟨hBs, ents, clock, hpush, g2.mono X, g3.1.mono X, g3.2⟩
    · obtain ⟨a, ents, clock, b, c, d⟩ := h.maps id es ho'
      rw [hσ id hi]
      exact ⟨a, ents, clock, push_old b, c.mono X, d.1.mono X, d.2⟩
  · intro id o' ho
    rcases hobj id _ ho with ⟨rfl, he⟩ | ⟨hi, ho'⟩
    · rw [hσn]; exact ⟨Nat.lt_succ_self _, h.frn _ (Nat.le_refl _)⟩
    · rw [hσ id hi]; exact ⟨Nat.lt_succ_of_lt (h.live _ _ ho').1, (h.live _ _ ho').2⟩
  · intro i j o1 o2 h1 h2 hs
    rcases hobj i _ h1 with ⟨rfl, _⟩ | ⟨hi, h1'⟩ <;> rcases hobj j _ h2 with ⟨rfl, _⟩ | ⟨hj, h2'⟩
    · rfl
    · rw [hσn, hσ j hj] at hs; have := hlt j _ h2'; omega
    · rw [hσn, hσ i hi] at hs; have := hlt i _ h1'; omega
    · rw [hσ i hi, hσ j hj] at hs; exact h.inj i j _ _ h1' h2' hs
  · intro t s b k ht hτ
    obtain ⟨a, b', c, ty, fz, d, f⟩ := h.toks t s b k ht hτ
    exact ⟨a, b', c, ty, fz, push_old d, f⟩
  · intro t s b k id o' ht hτ ho
    rcases hobj id _ ho with ⟨rfl, _⟩ | ⟨hi, ho'⟩
    · rw [hσn]
      obtain ⟨_, _, c, ty, fz, d, _⟩ := h.toks t s b k ht hτ
      have := (Array.getElem?_eq_some_iff.mp d).1
      omega
    · rw [hσ id hi]; exact h.tob t s b k id o' ht hτ ho'
  · intro b c ty fz hb
    by_cases hbs : b < e.w.heap.size
    · simp only [E.newOb] at hb ⊢; rw [Array.getElem?_push, if_neg (by omega)] at hb; exact h.frs b c ty fz hb
    · have : e.fr b = 0 := h.frn b (by omega)
      show e.fr b ≤ _; omega
  · intro b hb
    simp only [E.newOb, Array.size_push] at hb
    exact h.frn b (by omega)

/-- A block that does not turn any more is laid. -/
def E.lay (e : E) (x : Obj) (n : Nat) : E := { e with w := { e.w with heap := e.w.heap.push x }, fr := fun b => if b = e.w.heap.size then n else e.fr b }
theorem Ext.lay (e : E) (x : Obj) (n : Nat) (h0 : e.fr e.w.heap.size = 0) : Ext e (e.lay x n) := by
  refine ⟨Nat.le_refl _, Nat.le_refl _, fun _ _ => rfl, fun _ _ o h => ⟨o, h⟩, fun _ _ => rfl, fun _ _ _ h => h, fun b => ?_, fun b c ty fz hb => ⟨c, fz, push_old hb, rfl, fun _ _ => rfl⟩⟩
  simp only [E.lay]; split
  · rename_i hb; rw [hb, h0]; exact Nat.zero_le _
  · exact Nat.le_refl _
theorem Rel.lay {W0 : World} {B : Nat} {e : E} (h : Rel W0 B e) (c : Array Value) (ty : TypeId) (fz : Nat × Nat) (n : Nat) (hn : n ≤ c.size) : Rel W0 B (e.lay (.cells c ty fz) n) := by
  have hsz := h.below.size
  have h0 := h.frn e.w.heap.size (Nat.le_refl _)
  have X := Ext.lay e (.cells c ty fz) n h0
  have hfr : ∀ b, b < e.w.heap.size → (e.lay (.cells c ty fz) n).fr b = e.fr b := fun b hb => by simp only [E.lay]; rw [if_neg (by omega)]
  have hlt : ∀ id o', e.st.ob id = some o' → e.σ id < e.w.heap.size := by
    intro id o' ho'
    cases o' with
    | cells cs => obtain ⟨_, _, c, ty, fz, d, _⟩ := h.cells id cs ho'; exact (Array.getElem?_eq_some_iff.mp d).1
    | map es => obtain ⟨_, ents, clock, d, _⟩ := h.maps id es ho'; exact (Array.getElem?_eq_some_iff.mp d).1
  refine ⟨⟨h.below.os, h.below.tape, h.below.output, by simp only [E.lay, Array.size_push]; omega, fun k hk => ?_⟩, h.hB, ?_, ?_, ?_, h.inj, h.tkn, ?_, h.tinj, h.tob, ?_, ?_⟩
  · have := h.hB
    simp only [E.lay]; rw [Array.getElem?_push, if_neg (by omega)]; exact h.below.block k hk
  · intro id cs ho
    obtain ⟨a, b, c, ty, fz, d, f, g, k, kb⟩ := h.cells id cs ho
    exact ⟨a, b, c, ty, fz, push_old d, f, g, k.mono X, kb⟩
  · intro id es ho
    obtain ⟨a, ents, clock, b, c, d⟩ := h.maps id es ho
    exact ⟨a, ents, clock, push_old b, c.mono X, d.1.mono X, d.2⟩
  · intro id o' ho
    refine ⟨(h.live _ _ ho).1, ?_⟩
    rw [show (e.lay (.cells c ty fz) n).σ id = e.σ id from rfl, hfr _ (hlt id o' ho)]
    exact (h.live _ _ ho).2
  · intro t s b k ht hτ
    obtain ⟨a, b', c, ty, fz, d, f⟩ := h.toks t s b k ht hτ
    have := (Array.getElem?_eq_some_iff.mp d).1
    exact ⟨a, (hfr b this).trans b', c, ty, fz, push_old d, f⟩
  · intro b c' ty' fz' hb
    by_cases hbs : b < e.w.heap.size
    · rw [hfr b hbs]
      simp only [E.lay] at hb; rw [Array.getElem?_push, if_neg (by omega)] at hb; exact h.frs b c' ty' fz' hb
    · simp only [E.lay] at hb ⊢
      rw [Array.getElem?_push] at hb
      split at hb
      · rename_i e1; cases hb; rw [if_pos e1]; exact hn
      · rename_i e1; rw [Array.getElem?_eq_none (by omega)] at hb; cases hb
  · intro b hb
    simp only [E.lay, Array.size_push] at hb ⊢
    rw [if_neg (by omega)]; exact h.frn b (by omega)
end Go.Ab

/- Operations that only compute, or read. -/
namespace Go.Ab
open Go.RowKit
set_option linter.unusedVariables false
set_option linter.unusedSimpArgs false

/-- A type's class: 1 bool, 2 an integer, 3 string, 4 a pointer, 5 a slice, 6 a map, 7 a function, 10 an interface. -/
def tk (P : Program) (t : TypeId) : Nat :=
  match P.underlying t with
  | some .bool => 1
  | some (.int _) => 2
  | some .string => 3
  | some (.pointer _) => 4
  | some (.slice _) => 5
  | some (.map _ _) => 6
  | some (.func _ _ _) => 7
  | some (.struct _) => 8
  | some (.array _ _) => 9
  | some (.interface _) => 10
  | _ => 0
def isAg (P : Program) (t : TypeId) : Bool := match P.underlying t with | some (.struct _) | some (.array _ _) => true | _ => false

theorem tk_pointer {P : Program} {t : TypeId} (h : tk P t = 4) : ∃ d, P.underlying t = some (.pointer d) := by
  unfold tk at h; split at h <;> first | omega | exact ⟨_, ‹_›⟩
theorem tk_bool {P : Program} {t : TypeId} (h : tk P t = 1) : P.underlying t = some .bool := by
  unfold tk at h; split at h <;> first | omega | assumption
theorem tk_string {P : Program} {t : TypeId} (h : tk P t = 3) : P.underlying t = some .string := by
  unfold tk at h; split at h <;> first | omega | assumption
theorem tk_slice {P : Program} {t : TypeId} (h : tk P t = 5) : ∃ d, P.underlying t = some (.slice d) := by
  unfold tk at h; split at h <;> first | omega | exact ⟨_, ‹_›⟩
theorem tk_interface {P : Program} {t : TypeId} (h : tk P t = 10) : ∃ d, P.underlying t = some (.interface d) := by
  unfold tk at h; split at h <;> first | omega | exact ⟨_, ‹_›⟩
theorem tk_map {P : Program} {t : TypeId} (h : tk P t = 6) : ∃ d e, P.underlying t = some (.map d e) := by
  unfold tk at h; split at h <;> first | omega | exact ⟨_, _, ‹_›⟩
theorem tk_func {P : Program} {t : TypeId} (h : tk P t = 7) : ∃ a b c, P.underlying t = some (.func a b c) := by
  unfold tk at h; split at h <;> first | omega | exact ⟨_, _, _, ‹_›⟩

theorem run_under {P : Program} {t : TypeId} {d : TypeDesc} (h : P.underlying t = some d) (w : World) : (underlying t).run P w = .ok d w := by
  simp [underlying, h]

def A.bin (op : BinOp) (a b : V) (K : V → Res) : Res :=
  match a, b with
  | .int k x, .int k' y =>
    match op with
    | .add => if k = k' then K (.int k (k.wrap (x + y))) else none
    | .sub => if k = k' then K (.int k (k.wrap (x - y))) else none
    | .mul => if k = k' then K (.int k (k.wrap (x * y))) else none
    | .quo => if k = k' then (if y = 0 then none else K (.int k (k.wrap (x.tdiv y)))) else none
    | .rem => if k = k' then (if y = 0 then none else K (.int k (x.tmod y))) else none
    | .and => if k = k' then K (.int k (k.wrap (BitVec.ofInt k.bits x &&& BitVec.ofInt k.bits y).toNat)) else none
    | .or => if k = k' then K (.int k (k.wrap (BitVec.ofInt k.bits x ||| BitVec.ofInt k.bits y).toNat)) else none
    | .xor => if k = k' then K (.int k (k.wrap (BitVec.ofInt k.bits x ^^^ BitVec.ofInt k.bits y).toNat)) else none
    | .shl => if y < 0 then none else K (.int k (k.wrap (x * 2 ^ (min y.toNat k.bits))))
    | .shr => if y < 0 then none else K (.int k (x.fdiv (2 ^ (min y.toNat k.bits))))
    | .lss => if k = k' then K (.bool (decide (x < y))) else none
    | .leq => if k = k' then K (.bool (decide (x ≤ y))) else none
    | .gtr => if k = k' then K (.bool (decide (x > y))) else none
    | .geq => if k = k' then K (.bool (decide (x ≥ y))) else none
    | _ => none
  | .str s, .str t =>
    match op with
    | .add => if s.length + t.length ≤ 4611686018427387904 then K (.str (s ++ t)) else none
    | .lss => K (.bool (Op.bytesLess s t))
    | .leq => K (.bool (Op.bytesLess s t || s == t))
    | .gtr => K (.bool !(Op.bytesLess s t || s == t))
    | .geq => K (.bool !(Op.bytesLess s t))
    | _ => none
  | _, _ => none

theorem Step.int {P : Program} {W0 : World} {B : Nat} {e : E} {s : Sem Value} {K : V → St → Res} {r : Out × St} {k : IntKind} {n : Int} (hr : Rel W0 B e) (hk : K (.int k n) e.st = some r) (hs : s.run P e.w = .ok (.int k n) e.w) : Step P W0 B e s K r :=
  Step.pure hr hk hs (.int _ _ .nil)
theorem Step.bool {P : Program} {W0 : World} {B : Nat} {e : E} {s : Sem Value} {K : V → St → Res} {r : Out × St} {b : Bool} (hr : Rel W0 B e) (hk : K (.bool b) e.st = some r) (hs : s.run P e.w = .ok (.bool b) e.w) : Step P W0 B e s K r :=
  Step.pure hr hk hs (.bool _ .nil)
theorem Step.str {P : Program} {W0 : World} {B : Nat} {e : E} {s : Sem Value} {K : V → St → Res} {r : Out × St} {l : List UInt8} (hr : Rel W0 B e) (hk : K (.str l) e.st = some r) (hs : s.run P e.w = .ok (.string ⟨l.toArray⟩) e.w) : Step P W0 B e s K r :=
  Step.pure hr hk hs (.str _ .nil)

theorem bin_sound {P : Program} {W0 : World} {B : Nat} {e : E} {K : V → St → Res} {r : Out × St} {op : BinOp} {t : TypeId} {x y : Operand} {a b : V} {a' b' : Value} (hop : op ≠ .eql ∧ op ≠ .neq)
    (h : A.bin op a b (fun v => K v e.st) = some r) (hr : Rel W0 B e) (ha : Rs e [a] [a']) (hb : Rs e [b] [b']) : Step P W0 B e (do eqGuard op t x y a' b'; binOp op t a' b') K r := by
  have hg : ∀ a' b', eqGuard op t x y a' b' = Pure.pure () := by
    intro a' b'
    unfold eqGuard
    cases op <;> simp_all
  rw [hg]
  simp only [pure_bind]
  unfold A.bin at h
  split at h
  · rename_i k x1 k' y1
    cases ha with | int _ _ _ =>
    cases hb with | int _ _ _ =>
    split at h <;> (try cases h)
    all_goals first
      | (split at h
         · rename_i hk; subst hk
           first
             | exact Step.int hr h (by simp [binOp, Op.intArith, Op.intBits])
             | exact Step.bool hr h (by simp [binOp, Op.intCmp])
             | (split at h
                · cases h
                · rename_i hy
                  exact Step.int hr h (by simp [binOp, Op.intDiv, hy]))
         · cases h)
      | (split at h
         · cases h
         · rename_i hy
           exact Step.int hr h (by simp [binOp, Op.shift, hy]))
  · rename_i s1 t1
    cases ha with | str _ _ =>
    cases hb with | str _ _ =>
    split at h <;> (try cases h)
    all_goals first
      | exact Step.bool hr h (by simp [binOp, Op.stringOp, Lib.toList_data])
      | (split at h
         · rename_i hl
           have hl' : ¬ (IntKind.i64.max < (s1.length : Int) + (t1.length : Int)) := by simp [IntKind.max, IntKind.signed, IntKind.bits]; omega
           have happ : ((⟨s1.toArray⟩ : ByteArray) ++ ⟨t1.toArray⟩) = ⟨(s1 ++ t1).toArray⟩ := by apply ByteArray.ext; simp
           have e1 : (⟨s1.toArray⟩ : ByteArray).size = s1.length := by simp [ByteArray.size]
           have e2 : (⟨t1.toArray⟩ : ByteArray).size = t1.length := by simp [ByteArray.size]
           refine Step.str hr h ?_
           simp only [binOp, Op.stringOp, e1, e2, happ, Int.natCast_add, gt_iff_lt]
           rw [if_neg hl']; rfl
         · cases h)
  · cases h

/-- '==', '!=' at a type of a class. -/
def A.eql (ty : Nat) (neg : Bool) (a b : V) (K : V → Res) : Res :=
  match a, b with
  | .int k x, .int k' y => if k = k' then K (.bool (if neg then x != y else x == y)) else none
  | .str s, .str t => K (.bool (if neg then s != t else s == t))
  | .bool s, .bool t => if ty = 1 then K (.bool (if neg then s != t else s == t)) else none
  | .ptr0, .ptr0 => if ty = 4 then K (.bool !neg) else none
  | .ptr0, .ptr _ _ | .ptr _ _, .ptr0 => if ty = 4 then K (.bool neg) else none
  | .map0, .map0 => if ty = 6 then K (.bool !neg) else none
  | .map0, .map _ | .map _, .map0 => if ty = 6 then K (.bool neg) else none
  | .lst [] 1, .lst [] 1 => if ty = 5 then K (.bool !neg) else none
  | .lst (_ :: _) _, .lst [] 1 => if ty = 5 then K (.bool neg) else none
  | .sl _ _ _ _, .lst [] 1 => if ty = 5 then K (.bool neg) else none
  | .fn0, .fn0 => if ty = 7 then K (.bool !neg) else none
  | .fn0, .fn _ _ _ | .fn _ _ _, .fn0 => if ty = 7 then K (.bool neg) else none
  | .iface _ _, .if0 => if ty = 10 then K (.bool neg) else none
  | _, _ => none

theorem guard_eq {P : Program} (neg : Bool) {t : TypeId} {x y : Operand} {a b : Value} {w : World} (h1 : a ≠ .nilIface) (h2 : ∀ A, a ≠ .agg A) : (eqGuard (if neg then .neq else .eql) t x y a b).run P w = .ok () w := by
  cases neg <;> cases a <;> first | rfl | exact absurd rfl h1 | exact absurd rfl (h2 _)

theorem equal_lift {P : Program} {t : TypeId} {a b : Value} {w : World} {r : Bool} (h : ∀ d, (Op.equalIn (d + 1) t a b).run P w = .ok r w) : (Op.equal t a b).run P w = .ok r w := h 9999
def eqDo (neg : Bool) (t : TypeId) (a b : Value) : Sem Value := do
  let q ← Op.equal t a b
  Pure.pure (.bool (if neg then !q else q))
theorem eq_run {P : Program} (neg : Bool) {t : TypeId} {x y : Operand} (a b : Value) {w : World} {r : Bool} (h1 : a ≠ .nilIface) (h2 : ∀ A, a ≠ .agg A) (h : ∀ d, (Op.equalIn (d + 1) t a b).run P w = .ok r w)
    (hb : ∀ neg : Bool, binOp (if neg then .neq else .eql) t a b = eqDo neg t a b) :
    (do eqGuard (if neg then .neq else .eql) t x y a b; binOp (if neg then .neq else .eql) t a b : Sem Value).run P w = .ok (.bool (if neg then !r else r)) w := by
  simp only [Sem.run_bind]
  rw [guard_eq neg h1 h2, hb]
  simp [Result.andThen, eqDo, equal_lift h]

theorem eql_sound {P : Program} {W0 : World} {B : Nat} {e : E} {K : V → St → Res} {r : Out × St} {t : TypeId} {x y : Operand} {a b : V} {a' b' : Value} (neg : Bool)
    (h : A.eql (tk P t) neg a b (fun v => K v e.st) = some r) (hr : Rel W0 B e) (ha : Rs e [a] [a']) (hb : Rs e [b] [b']) : Step P W0 B e (do eqGuard (if neg then .neq else .eql) t x y a' b'; binOp (if neg then .neq else .eql) t a' b') K r := by
  unfold A.eql at h
  split at h
  · cases ha with | int _ _ _ =>
    cases hb with | int _ _ _ =>
    split at h
    · rename_i hk; subst hk
      exact Step.bool hr h (by simp only [Sem.run_bind]; rw [guard_eq neg (by intro h; cases h) (by intro A h; cases h)]; cases neg <;> simp [binOp, Op.intCmp])
    · cases h
  · rename_i s1 t1
    cases ha with | str _ _ =>
    cases hb with | str _ _ =>
    exact Step.bool hr h (by simp only [Sem.run_bind]; rw [guard_eq neg (by intro h; cases h) (by intro A h; cases h)]; cases neg <;> simp [binOp, Op.stringOp, Lib.toList_data, bne])
  · rename_i s u
    cases ha with | bool _ _ =>
    cases hb with | bool _ _ =>
    split at h
    · rename_i hk
      skip
      have q := fun x y => eq_run (P := P) neg (t := t) (x := x) (y := y) (w := e.w) (r := (s == u)) (.bool s) (.bool u) (by intro h; cases h) (by intro A h; cases h) (fun d => by simp only [Op.equalIn, Sem.run_bind, run_under (tk_bool hk), Result.andThen]; rfl) (fun neg => by cases neg <;> rfl)
      exact Step.bool hr (b := if neg then !(s == u) else (s == u)) (by cases neg <;> exact h) (q x y)
    · cases h
  · cases ha with | ptr0 _ =>
    cases hb with | ptr0 _ =>
    split at h
    · rename_i hk
      obtain ⟨d0, hd⟩ := tk_pointer hk
      have q := fun x y => eq_run (P := P) neg (t := t) (x := x) (y := y) (w := e.w) (r := true) (.pointer none) (.pointer none) (by intro h; cases h) (by intro A h; cases h) (fun d => by simp only [Op.equalIn, Sem.run_bind, run_under hd, Result.andThen]; rfl) (fun neg => by cases neg <;> rfl)
      exact Step.bool hr (b := if neg then !true else true) (by cases neg <;> exact h) (q x y)
    · cases h
  · cases ha with | ptr0 _ =>
    cases hb with | ptr _ _ a2 _ _ _ =>
    split at h
    · rename_i hk
      obtain ⟨d0, hd⟩ := tk_pointer hk
      have q := fun x y => eq_run (P := P) neg (t := t) (x := x) (y := y) (w := e.w) (r := false) (.pointer none) (.pointer (some a2)) (by intro h; cases h) (by intro A h; cases h) (fun d => by simp only [Op.equalIn, Sem.run_bind, run_under hd, Result.andThen]; rfl) (fun neg => by cases neg <;> rfl)
      exact Step.bool hr (b := if neg then !false else false) (by cases neg <;> exact h) (q x y)
    · cases h
  · cases ha with | ptr _ _ a2 _ _ _ =>
    cases hb with | ptr0 _ =>
    split at h
    · rename_i hk
      obtain ⟨d0, hd⟩ := tk_pointer hk
      have q := fun x y => eq_run (P := P) neg (t := t) (x := x) (y := y) (w := e.w) (r := false) (.pointer (some a2)) (.pointer none) (by intro h; cases h) (by intro A h; cases h) (fun d => by simp only [Op.equalIn, Sem.run_bind, run_under hd, Result.andThen]; rfl) (fun neg => by cases neg <;> rfl)
      exact Step.bool hr (b := if neg then !false else false) (by cases neg <;> exact h) (q x y)
    · cases h
  · cases ha with | map0 _ =>
    cases hb with | map0 _ =>
    split at h
    · rename_i hk
      obtain ⟨d0, d1, hd⟩ := tk_map hk
      have q := fun x y => eq_run (P := P) neg (t := t) (x := x) (y := y) (w := e.w) (r := true) (.map none) (.map none) (by intro h; cases h) (by intro A h; cases h) (fun d => by simp only [Op.equalIn, Sem.run_bind, run_under hd, Result.andThen]; rfl) (fun neg => by cases neg <;> rfl)
      exact Step.bool hr (b := if neg then !true else true) (by cases neg <;> exact h) (q x y)
    · cases h
  · cases ha with | map0 _ =>
    cases hb with | map _ a2 _ _ _ =>
    split at h
    · rename_i hk
      obtain ⟨d0, d1, hd⟩ := tk_map hk
      have q := fun x y => eq_run (P := P) neg (t := t) (x := x) (y := y) (w := e.w) (r := false) (.map none) (.map (some a2)) (by intro h; cases h) (by intro A h; cases h) (fun d => by simp only [Op.equalIn, Sem.run_bind, run_under hd, Result.andThen]; rfl) (fun neg => by cases neg <;> rfl)
      exact Step.bool hr (b := if neg then !false else false) (by cases neg <;> exact h) (q x y)
    · cases h
  · cases ha with | map _ a2 _ _ _ =>
    cases hb with | map0 _ =>
    split at h
    · rename_i hk
      obtain ⟨d0, d1, hd⟩ := tk_map hk
      have q := fun x y => eq_run (P := P) neg (t := t) (x := x) (y := y) (w := e.w) (r := false) (.map (some a2)) (.map none) (by intro h; cases h) (by intro A h; cases h) (fun d => by simp only [Op.equalIn, Sem.run_bind, run_under hd, Result.andThen]; rfl) (fun neg => by cases neg <;> rfl)
      exact Step.bool hr (b := if neg then !false else false) (by cases neg <;> exact h) (q x y)
    · cases h
  · have ea : a' = .slice none 0 0 := by cases ha with | lst0 _ _ _ => rfl | lste _ _ ht _ => exact (ht.1 rfl).elim | lst _ _ _ _ _ _ _ _ _ _ _ _ _ _ _ _ _ hx _ _ => exact (hx.1 rfl).elim
    have eb : b' = .slice none 0 0 := by cases hb with | lst0 _ _ _ => rfl | lste _ _ ht _ => exact (ht.1 rfl).elim | lst _ _ _ _ _ _ _ _ _ _ _ _ _ _ _ _ _ hx _ _ => exact (hx.1 rfl).elim
    subst ea; subst eb
    split at h
    · rename_i hk
      obtain ⟨d0, hd⟩ := tk_slice hk
      have q := fun x y => eq_run (P := P) neg (t := t) (x := x) (y := y) (w := e.w) (r := true) (.slice none 0 0) (.slice none 0 0) (by intro h; cases h) (by intro A h; cases h) (fun d => by simp only [Op.equalIn, Sem.run_bind, run_under hd, Result.andThen]; rfl) (fun neg => by cases neg <;> rfl)
      exact Step.bool hr (b := if neg then !true else true) (by cases neg <;> exact h) (q x y)
    · cases h
  · have ea : ∃ ad n c, a' = .slice (some ad) n c := by cases ha with | lst _ _ _ _ _ _ _ _ _ _ _ _ _ _ _ _ _ _ _ _ => exact ⟨_, _, _, rfl⟩
    have eb : b' = .slice none 0 0 := by cases hb with | lst0 _ _ _ => rfl | lste _ _ ht _ => exact (ht.1 rfl).elim | lst _ _ _ _ _ _ _ _ _ _ _ _ _ _ _ _ _ hx _ _ => exact (hx.1 rfl).elim
    obtain ⟨ad, n0, c0, rfl⟩ := ea; subst eb
    split at h
    · rename_i hk
      obtain ⟨d0, hd⟩ := tk_slice hk
      have q := fun x y => eq_run (P := P) neg (t := t) (x := x) (y := y) (w := e.w) (r := false) (.slice (some ad) n0 c0) (.slice none 0 0) (by intro h; cases h) (by intro A h; cases h) (fun d => by simp only [Op.equalIn, Sem.run_bind, run_under hd, Result.andThen]; rfl) (fun neg => by cases neg <;> rfl)
      exact Step.bool hr (b := if neg then !false else false) (by cases neg <;> exact h) (q x y)
    · cases h
  · have ea : ∃ ad n c, a' = .slice (some ad) n c := by cases ha with | sl _ _ _ _ _ _ _ _ _ _ => exact ⟨_, _, _, rfl⟩
    have eb : b' = .slice none 0 0 := by cases hb with | lst0 _ _ _ => rfl | lste _ _ ht _ => exact (ht.1 rfl).elim | lst _ _ _ _ _ _ _ _ _ _ _ _ _ _ _ _ _ hx _ _ => exact (hx.1 rfl).elim
    obtain ⟨ad, n0, c0, rfl⟩ := ea; subst eb
    split at h
    · rename_i hk
      obtain ⟨d0, hd⟩ := tk_slice hk
      have q := fun x y => eq_run (P := P) neg (t := t) (x := x) (y := y) (w := e.w) (r := false) (.slice (some ad) n0 c0) (.slice none 0 0) (by intro h; cases h) (by intro A h; cases h) (fun d => by simp only [Op.equalIn, Sem.run_bind, run_under hd, Result.andThen]; rfl) (fun neg => by cases neg <;> rfl)
      exact Step.bool hr (b := if neg then !false else false) (by cases neg <;> exact h) (q x y)
    · cases h
  · cases ha with | fn0 _ =>
    cases hb with | fn0 _ =>
    split at h
    · rename_i hk
      obtain ⟨d0, d1, d2, hd⟩ := tk_func hk
      have q := fun x y => eq_run (P := P) neg (t := t) (x := x) (y := y) (w := e.w) (r := true) .nilFunc .nilFunc (by intro h; cases h) (by intro A h; cases h) (fun d => by simp only [Op.equalIn, Sem.run_bind, run_under hd, Result.andThen]; rfl) (fun neg => by cases neg <;> rfl)
      exact Step.bool hr (b := if neg then !true else true) (by cases neg <;> exact h) (q x y)
    · cases h
  · rename_i f0 _ _
    cases ha with | fn0 _ =>
    cases hb with | fn _ _ _ F0 C0 _ _ _ =>
    split at h
    · rename_i hk
      obtain ⟨d0, d1, d2, hd⟩ := tk_func hk
      have q := fun x y => eq_run (P := P) neg (t := t) (x := x) (y := y) (w := e.w) (r := false) .nilFunc (.func (.func f0) F0 C0) (by intro h; cases h) (by intro A h; cases h) (fun d => by simp only [Op.equalIn, Sem.run_bind, run_under hd, Result.andThen]; rfl) (fun neg => by cases neg <;> rfl)
      exact Step.bool hr (b := if neg then !false else false) (by cases neg <;> exact h) (q x y)
    · cases h
  · rename_i f0 _ _
    cases ha with | fn _ _ _ F0 C0 _ _ _ =>
    cases hb with | fn0 _ =>
    split at h
    · rename_i hk
      obtain ⟨d0, d1, d2, hd⟩ := tk_func hk
      have q := fun x y => eq_run (P := P) neg (t := t) (x := x) (y := y) (w := e.w) (r := false) (.func (.func f0) F0 C0) .nilFunc (by intro h; cases h) (by intro A h; cases h) (fun d => by simp only [Op.equalIn, Sem.run_bind, run_under hd, Result.andThen]; rfl) (fun neg => by cases neg <;> rfl)
      exact Step.bool hr (b := if neg then !false else false) (by cases neg <;> exact h) (q x y)
    · cases h
  · rename_i t0 v0
    cases ha with | iface _ _ v1 _ _ =>
    cases hb with | if0 _ =>
    split at h
    · rename_i hk
      obtain ⟨d0, hd⟩ := tk_interface hk
      have q := fun x y => eq_run (P := P) neg (t := t) (x := x) (y := y) (w := e.w) (r := false) (.iface t0 v1) .nilIface (by intro h; cases h) (by intro A h; cases h) (fun d => by simp only [Op.equalIn, Sem.run_bind, run_under hd, Result.andThen]; rfl) (fun neg => by cases neg <;> rfl)
      exact Step.bool hr (b := if neg then !false else false) (by cases neg <;> exact h) (q x y)
    · cases h
  · cases h

def A.un (op : UnOp) (a : V) (K : V → Res) : Res :=
  match op, a with
  | .not, .bool b => K (.bool !b)
  | .neg, .int k n => K (.int k (k.wrap (0 - n)))
  | .xor, .int k n => K (.int k (k.wrap (BitVec.ofInt k.bits (if k.signed then -1 else k.max) ^^^ BitVec.ofInt k.bits n).toNat))
  | _, _ => none
theorem un_sound {P : Program} {W0 : World} {B : Nat} {e : E} {K : V → St → Res} {r : Out × St} {op : UnOp} {a : V} {a' : Value}
    (h : A.un op a (fun v => K v e.st) = some r) (hr : Rel W0 B e) (ha : Rs e [a] [a']) : Step P W0 B e (Op.unary op a') K r := by
  unfold A.un at h
  split at h
  · cases ha with | bool _ _ => exact Step.bool hr h (by simp [Op.unary])
  · cases ha with | int _ _ _ => exact Step.int hr h (by simp [Op.unary, Op.intArith])
  · cases ha with | int _ _ _ => exact Step.int hr h (by simp [Op.unary, Op.intBits])
  · cases h

def A.pick (c a b : V) (K : V → Res) : Res := match c with | .bool t => K (if t then a else b) | _ => none
theorem pick_sound {P : Program} {W0 : World} {B : Nat} {e : E} {K : V → St → Res} {r : Out × St} {c a b : V} {c' a' b' : Value}
    (h : A.pick c a b (fun v => K v e.st) = some r) (hr : Rel W0 B e) (hc : Rs e [c] [c']) (ha : Rs e [a] [a']) (hb : Rs e [b] [b']) : Step P W0 B e (do Pure.pure (if ← asBool c' then a' else b')) K r := by
  unfold A.pick at h
  split at h
  · rename_i t
    cases hc with | bool _ _ =>
    exact Step.pure hr h (v' := if t then a' else b') (by simp [asBool]) (by cases t <;> assumption)
  · cases h

def A.ext (a : V) (i : Nat) (K : V → Res) : Res := match a with | .tup vs => (match vs[i]? with | some v => K v | none => none) | _ => none
theorem ext_sound {P : Program} {W0 : World} {B : Nat} {e : E} {K : V → St → Res} {r : Out × St} {a : V} {a' : Value} {i : Nat}
    (h : A.ext a i (fun v => K v e.st) = some r) (hr : Rel W0 B e) (ha : Rs e [a] [a']) : Step P W0 B e (Instr.extract a' i) K r := by
  unfold A.ext at h
  split at h
  · split at h
    · rename_i v hv
      cases ha with | tup vs A h1 _ =>
      obtain ⟨w, hw, hrs⟩ := h1.get i hv
      have : A[i]? = some w := by simpa using hw
      exact Step.pure hr h (by simp [Instr.extract, this]) hrs
    · cases h
  · cases h

/-- A part of a struct or an array. -/
def Apart (ag : Bool) (n off : Nat) (cs : List V) (K : V → Res) : Res :=
  if ag then (if off + n ≤ cs.length then K (.agg ((cs.drop off).take n)) else none) else (match cs[off]? with | some v => K v | none => none)
theorem isAgg_run (P : Program) (t : TypeId) (w : World) (h : ∃ d, P.underlying t = some d) : (isAgg t).run P w = .ok (isAg P t) w := by
  obtain ⟨d, hd⟩ := h
  simp only [isAgg, Sem.run_bind, run_under hd, Result.andThen, isAg, hd]
  cases d <;> simp
theorem sizeOf_run {P : Program} {t : TypeId} {i : TypeInfo} (h : P.info? t = some i) (w : World) : (Go.sizeOf t).run P w = .ok i.size w := by
  simp [Go.sizeOf, typeInfo, h]
theorem info_of_under {P : Program} {t : TypeId} {d : TypeDesc} (h : P.underlying t = some d) : ∃ i, P.info? t = some i := by
  unfold Program.underlying at h
  split at h
  · exact ⟨_, ‹_›⟩
  · exact ⟨_, ‹_›⟩
  · cases h
theorem cellsOf_eq {P : Program} {t : TypeId} {i : TypeInfo} (h : P.info? t = some i) : P.cellsOf t = i.size := by
  simp [Program.cellsOf, h]
/-- Is there such a type? -/
def known (P : Program) (t : TypeId) : Bool := (P.underlying t).isSome
theorem known_under {P : Program} {t : TypeId} (h : known P t = true) : ∃ d, P.underlying t = some d := Option.isSome_iff_exists.mp h

theorem part_sound {P : Program} {W0 : World} {B : Nat} {e : E} {K : V → St → Res} {r : Out × St} {t : TypeId} {off : Nat} {cs : List V} {A : Array Value} (hk : known P t = true)
    (h : Apart (isAg P t) (P.cellsOf t) off cs (fun v => K v e.st) = some r) (hr : Rel W0 B e) (ho : ∀ v ∈ cs, v.one = true) (ha : Rs e cs A.toList) : Step P W0 B e (Go.part t A off) K r := by
  obtain ⟨d, hd⟩ := known_under hk
  obtain ⟨i, hi⟩ := info_of_under hd
  unfold Apart at h
  have hrun := isAgg_run P t e.w ⟨d, hd⟩
  split at h
  · rename_i hag
    rw [hag] at hrun
    split at h
    · rename_i hle
      rw [cellsOf_eq hi] at h hle
      refine Step.pure hr h (v' := .agg (A.extract off (off + i.size))) (by simp [Go.part, hrun, sizeOf_run hi]) (.agg _ _ (fun v hv => ho v (List.mem_of_mem_drop (List.mem_of_mem_take hv))) ?_ .nil)
      have := (ha.drop off).take i.size
      rw [show (A.extract off (off + i.size)).toList = (A.toList.drop off).take i.size from by
        simp [List.extract_eq_take_drop]]
      exact this
    · cases h
  · rename_i hag
    have hag' : isAg P t = false := by simpa using hag
    rw [hag'] at hrun
    split at h
    · rename_i v hv
      obtain ⟨w, hw, hrs⟩ := ha.get off hv
      have : A[off]? = some w := by simpa using hw
      exact Step.pure hr h (by simp [Go.part, hrun, this]) hrs
    · cases h

/-- A field of a struct's value. -/
def fld (P : Program) (s : TypeId) (f : Nat) : Option Field := match P.underlying s with | some (.struct fs) => fs[f]? | _ => none
def A.field (ag : Bool) (n off : Nat) (a : V) (K : V → Res) : Res := match a with | .agg cs => Apart ag n off cs K | _ => none
theorem field_sound {P : Program} {W0 : World} {B : Nat} {e : E} {K : V → St → Res} {r : Out × St} {s : TypeId} {f : Nat} {fd : Field} {a : V} {a' : Value} (hf : fld P s f = some fd) (hk : known P fd.type = true)
    (h : A.field (isAg P fd.type) (P.cellsOf fd.type) fd.offset a (fun v => K v e.st) = some r) (hr : Rel W0 B e) (ha : Rs e [a] [a']) : Step P W0 B e (Instr.field s a' f) K r := by
  unfold A.field at h
  split at h
  · cases ha with | agg cs A ho h1 _ =>
    unfold fld at hf
    split at hf
    · rename_i fs hs
      obtain ⟨v, v', e', g1, g2, g3, g4, g5⟩ := part_sound (P := P) hk h hr ho h1
      exact ⟨v, v', e', g1, by simp [Instr.field, run_under hs, hf, asAgg, g2], g3, g4, g5⟩
    · cases hf
  · cases h

def A.nilc (a : V) (K : V → Res) : Res := match a with | .ptr _ _ | .lptr _ => K a | _ => none

/-- A field's place. -/
def A.faddr (off : Nat) (a : V) (K : V → Res) : Res := match a with | .ptr id o => K (.ptr id (o + off)) | .lptr cs => if off ≤ cs.length then K (.lptr (cs.drop off)) else none | _ => none
theorem add_plain (b o n : Nat) : (⟨b, o, none⟩ : Addr).add n = ⟨b, o + n, none⟩ := by
  unfold Addr.add; split
  · rename_i h; subst h; rfl
  · rfl
theorem faddr_sound {P : Program} {W0 : World} {B : Nat} {e : E} {K : V → St → Res} {r : Out × St} {s : TypeId} {f : Nat} {fd : Field} {a : V} {a' : Value} (hf : fld P s f = some fd) (hi : ∃ i, P.info? fd.type = some i) (h0 : P.cellsOf fd.type ≠ 0)
    (h : A.faddr fd.offset a (fun v => K v e.st) = some r) (hr : Rel W0 B e) (ha : Rs e [a] [a']) : Step P W0 B e (Instr.fieldAt s a' f) K r := by
  unfold fld at hf
  split at hf
  · rename_i fs hs
    obtain ⟨i, hi⟩ := hi
    rw [cellsOf_eq hi] at h0
    unfold A.faddr at h
    split at h
    · rename_i id o
      cases ha with | ptr id off a hn hl _ =>
      refine Step.pure hr h (v' := .pointer (some (a.add fd.offset))) (by simp [Instr.fieldAt, run_under hs, hf, Instr.sureAddr, fieldPlace, sizeOf_run hi, h0]) (.ptr _ _ _ hn (fun x hx => ?_) .nil)
      rw [hl x hx, add_plain]
    · rename_i cs
      split at h
      · rename_i hle
        cases ha with | lptr cs b o c ty fz hb hf' ho hc _ =>
        refine Step.pure hr h (v' := .pointer (some ⟨b, o + fd.offset, none⟩)) (by simp [Instr.fieldAt, run_under hs, hf, Instr.sureAddr, fieldPlace, sizeOf_run hi, h0, add_plain]) (.lptr _ b (o + fd.offset) c ty fz hb (by simp; omega) (fun v hv => ho v (List.mem_of_mem_drop hv)) ?_ .nil)
        have := hc.drop fd.offset
        rw [List.drop_take, List.drop_drop] at this
        simpa using this
      · cases h
    · cases h
  · cases hf
end Go.Ab

/- Objects: made, read, written. -/
namespace Go.Ab
open Go.RowKit
set_option linter.unusedVariables false
set_option linter.unusedSimpArgs false

theorem St.new_ob (st : St) (o : Ob) (i : Nat) : (st.new o).ob i = if i = st.n then some o else st.ob i := rfl
theorem St.put_ob (st : St) (id : Nat) (o : Ob) (i : Nat) : (st.put id o).ob i = if i = id then some o else st.ob i := rfl

def A.box (v : V) (st : St) (K : V → St → Res) : Res := if v.cells.all V.one then K (.ptr st.n 0) (st.new (.cells v.cells)) else none
theorem newVar_sound {P : Program} {W0 : World} {B : Nat} {e : E} {K : V → St → Res} {r : Out × St} {t : TypeId} {v : V} {v' : Value}
    (h : A.box v e.st K = some r) (hr : Rel W0 B e) (hv : Rs e [v] [v']) : Step P W0 B e (do Pure.pure (.pointer (some (← newVar t v')))) K r := by
  unfold A.box at h
  split at h
  · rename_i ho
    have ho' : ∀ x ∈ v.cells, x.one = true := by simpa using ho
    have hc := hv.cells
    have hl : v.cells.length = v'.cells.size := by simpa using hc.length
    have hnew : ∀ o', e.st.ob e.st.n = some o' → False := fun o' ho' => by have := (hr.live _ _ ho').1; omega
    refine ⟨_, .pointer (some ⟨e.w.heap.size, 0, none⟩), e.newOb (.cells v.cells) (.cells v'.cells t (0, 0)), h, ?_, Ext.newOb e _ _ hnew, hr.newOb _ _ ?_ ?_, ?_⟩
    · simp [newVar, newRow, E.newOb]
    · intro cs hcs; cases hcs
      refine ⟨fun x hx => oneB_of (ho' x hx), v'.cells, t, (0, 0), rfl, fun i _ _ => by simp, by omega, ?_, bldOK_of ho'⟩
      rw [hl, List.take_of_length_le (by simp)]; exact hc
    · intro es hes; cases hes
    · exact .ptr _ _ _ (Nat.lt_succ_self _) (fun o ho => by simp [E.newOb]) .nil
  · cases h
theorem box_sound {P : Program} {W0 : World} {B : Nat} {e : E} {K : V → St → Res} {r : Out × St} {t : TypeId} {v : V} {v' : Value}
    (h : A.box v e.st K = some r) (hr : Rel W0 B e) (hv : Rs e [v] [v']) : Step P W0 B e (Instr.box t v') K r := newVar_sound h hr hv

def zeroV (P : Program) (t : TypeId) : Option V := match P.info? t with | some i => (match i.zero with | some z => constV z | none => none) | none => none
theorem zeroV_some {P : Program} {t : TypeId} {v : V} (h : zeroV P t = some v) : ∃ i z, P.info? t = some i ∧ i.zero = some z ∧ constV z = some v := by
  unfold zeroV at h
  split at h
  · split at h
    · exact ⟨_, _, ‹_›, ‹_›, h⟩
    · cases h
  · cases h
theorem alloc_sound {P : Program} {W0 : World} {B : Nat} {e : E} {K : V → St → Res} {r : Out × St} {t : TypeId} {v : V} {old : Value} (hz : zeroV P t = some v)
    (h : A.box v e.st K = some r) (hr : Rel W0 B e) : Step P W0 B e (Instr.alloc t true old) K r := by
  obtain ⟨i, z, hi, hiz, hc⟩ := zeroV_some hz
  obtain ⟨v1, v2, e', g1, g2, g3, g4, g5⟩ := newVar_sound (P := P) (t := t) h hr (constV_sound e hc)
  exact ⟨v1, v2, e', g1, by simpa [Instr.alloc, zeroValue, typeInfo, hi, hiz] using g2, g3, g4, g5⟩

/-- Cells of a block, one behind the other. -/
theorem cell_of {w : World} {b : Nat} {c : Array Value} {ty : TypeId} {fz : Nat × Nat} (hb : w.heap[b]? = some (.cells c ty fz)) (o : Nat) : w.cell? ⟨b, o, none⟩ = c[o]? := by
  simp [World.cell?, hb]
theorem loadCells_run {P : Program} {w : World} {b o n : Nat} {c : Array Value} {ty : TypeId} {fz : Nat × Nat} (hb : w.heap[b]? = some (.cells c ty fz)) (hn : o + n ≤ c.size) :
    (loadCells ⟨b, o, none⟩ n).run P w = .ok ((c.toList.drop o).take n).toArray w := by
  have hl : ((c.toList.drop o).take n).length = n := by simp; omega
  have := run_loadCells_list (P := P) (w := w) ⟨b, o, none⟩ ((c.toList.drop o).take n) (fun j v hj => by
    rw [add_plain, cell_of hb]
    rw [List.getElem?_take] at hj
    split at hj
    · simpa using hj
    · cases hj)
  rw [hl] at this; exact this

def A.load (ag : Bool) (n : Nat) (p : V) (st : St) (K : V → St → Res) : Res :=
  match p with
  | .ptr id off => (match st.ob id with | some (.cells cs) => cond (ag && !cs.all V.one) none (Apart ag n off cs (fun v => K v st)) | _ => none)
  | .lptr cs => Apart ag n 0 cs (fun v => K v st)
  | _ => none

/-- A variable is read out of cells. -/
theorem loadVar_part {P : Program} {e : E} {t : TypeId} {off b o : Nat} {cs : List V} {c : Array Value} {ty : TypeId} {fz : Nat × Nat} {K : V → Res} {r : Out × St} (hk : known P t = true) (h : Apart (isAg P t) (P.cellsOf t) off cs K = some r)
    (hb : e.w.heap[b]? = some (.cells c ty fz)) (ho : isAg P t = true → ∀ v ∈ cs, v.one = true) (hle : o + cs.length ≤ c.size) (hc : Rs e cs ((c.toList.drop o).take cs.length)) :
    ∃ v v', K v = some r ∧ (loadVar t ⟨b, o + off, none⟩).run P e.w = .ok v' e.w ∧ Rs e [v] [v'] := by
  obtain ⟨d, hd⟩ := known_under hk
  obtain ⟨i, hi⟩ := info_of_under hd
  have hrun := isAgg_run P t e.w ⟨d, hd⟩
  unfold Apart at h
  split at h
  · rename_i hag
    rw [hag] at hrun
    split at h
    · rename_i hl
      rw [cellsOf_eq hi] at h hl
      refine ⟨_, .agg ((c.toList.drop (o + off)).take i.size).toArray, h, ?_, .agg _ _ (fun v hv => ho (by assumption) v (List.mem_of_mem_drop (List.mem_of_mem_take hv))) ?_ .nil⟩
      · simp [loadVar, hrun, sizeOf_run hi, loadCells_run (P := P) (n := i.size) hb (show o + off + i.size ≤ c.size by omega)]
      · have := (hc.drop off).take i.size
        rw [List.drop_take, List.drop_drop, List.take_take, Nat.min_eq_left (by omega)] at this
        exact this
    · cases h
  · rename_i hag
    have hag' : isAg P t = false := by simpa using hag
    rw [hag'] at hrun
    split at h
    · rename_i v hv
      obtain ⟨w, hw, hrs⟩ := hc.get off hv
      refine ⟨v, w, h, ?_, hrs⟩
      have hlt : off < cs.length := (List.getElem?_eq_some_iff.mp hv).1
      have : c[o + off]? = some w := by
        rw [List.getElem?_take, if_pos hlt, List.getElem?_drop] at hw
        simpa using hw
      simp [loadVar, hrun, cell_of hb, this]
    · cases h

theorem load_pure {P : Program} {W0 : World} {B : Nat} {e : E} {K : V → St → Res} {r : Out × St} {t : TypeId} {p : V} {p' : Value} (hk : known P t = true)
    (h : A.load (isAg P t) (P.cellsOf t) p e.st K = some r) (hr : Rel W0 B e) (hp : Rs e [p] [p']) : ∃ v v', K v e.st = some r ∧ (Instr.loadAt t p').run P e.w = .ok v' e.w ∧ Rs e [v] [v'] := by
  unfold A.load at h
  split at h
  · rename_i id off
    split at h
    · rename_i cs hcs
      cases hp with | ptr _ _ a hn hl _ =>
      obtain ⟨_, ho, c, ty, fz, hb, _, hle, hc, _⟩ := hr.cells id cs hcs
      have hag : isAg P t = true → ∀ v ∈ cs, v.one = true := by
        intro ha
        rw [ha] at h
        cases hall : cs.all V.one with
        | true => simpa using hall
        | false => rw [hall] at h; cases h
      have h : Apart (isAg P t) (P.cellsOf t) off cs (fun v => K v e.st) = some r := by
        cases hcn : (isAg P t && !cs.all V.one) with
        | true => rw [hcn] at h; cases h
        | false => rw [hcn] at h; exact h
      obtain ⟨v, v', g1, g2, g3⟩ := loadVar_part (P := P) (o := 0) hk h hb hag (by omega) (by simpa using hc)
      have ha := hl _ hcs
      subst ha
      rw [Nat.zero_add] at g2
      exact ⟨v, v', g1, by simp [Instr.loadAt, Instr.sureAddr, g2], g3⟩
    · cases h
  · rename_i cs
    cases hp with | lptr _ b o c ty fz hb hf ho hc _ =>
    have := hr.frs b c ty fz hb
    obtain ⟨v, v', g1, g2, g3⟩ := loadVar_part (P := P) hk h hb (fun _ => ho) (by omega) hc
    exact ⟨v, v', g1, by simp [Instr.loadAt, Instr.sureAddr]; simpa using g2, g3⟩
  · cases h

theorem load_sound {P : Program} {W0 : World} {B : Nat} {e : E} {K : V → St → Res} {r : Out × St} {t : TypeId} {p : V} {p' : Value} (hk : known P t = true)
    (h : A.load (isAg P t) (P.cellsOf t) p e.st K = some r) (hr : Rel W0 B e) (hp : Rs e [p] [p']) : Step P W0 B e (Instr.loadAt t p') K r := by
  obtain ⟨v, v', g1, g2, g3⟩ := load_pure (P := P) hk h hr hp
  exact Step.pure hr g1 g2 g3

/-- A run of cells is written. -/
def putL {α : Type} : List α → Nat → List α → List α
  | cs, _, [] => cs
  | cs, o, v :: vs => putL (cs.set o v) (o + 1) vs
theorem putL_length {α : Type} : ∀ (vs cs : List α) (o : Nat), (putL cs o vs).length = cs.length
  | [], cs, o => rfl
  | v :: vs, cs, o => by simp [putL, putL_length vs]
theorem putL_take {α : Type} : ∀ (vs cs : List α) (o n : Nat), (putL cs o vs).take n = putL (cs.take n) o vs
  | [], cs, o, n => rfl
  | v :: vs, cs, o, n => by simp [putL, putL_take vs, List.take_set]
theorem putL_get {α : Type} : ∀ (vs cs : List α) (o i : Nat), i < o → (putL cs o vs)[i]? = cs[i]?
  | [], cs, o, i, _ => rfl
  | v :: vs, cs, o, i, h => by
    simp only [putL]
    rw [putL_get vs _ _ _ (by omega), List.getElem?_set_ne (by omega)]
theorem putL_eq {α : Type} : ∀ (vs cs : List α) (o : Nat), o + vs.length ≤ cs.length → putL cs o vs = cs.take o ++ vs ++ cs.drop (o + vs.length)
  | [], cs, o, h => by simp [putL]
  | v :: vs, cs, o, h => by
    simp only [List.length_cons] at h
    rw [putL, putL_eq vs _ _ (by simp; omega)]
    apply List.ext_getElem?
    intro i
    simp only [List.getElem?_append, List.length_append, List.length_take, List.length_set, List.length_cons, List.getElem?_take, List.getElem?_drop, List.getElem?_set]
    by_cases h1 : i < o
    · have h2 : i < min (o + 1) cs.length := by omega
      have h3 : i < min o cs.length := by omega
      have h4 : i < min (o + 1) cs.length + vs.length := by omega
      have h5 : i < min o cs.length + (vs.length + 1) := by omega
      simp [h2, h3, h4, h5, h1, show i < o + 1 by omega, show ¬ o = i by omega]
    · by_cases h2 : i = o
      · subst h2
        have h3 : i < min (i + 1) cs.length := by omega
        have h4 : ¬ i < min i cs.length := by omega
        have h5 : i < min (i + 1) cs.length + vs.length := by omega
        have h6 : i < min i cs.length + (vs.length + 1) := by omega
        simp [h3, h4, h5, h6, show i < cs.length by omega, show i - min i cs.length = 0 by omega]
      · have h3 : ¬ i < min (o + 1) cs.length := by omega
        have h4 : ¬ i < min o cs.length := by omega
        have h5 : (i < min (o + 1) cs.length + vs.length) = (i < min o cs.length + (vs.length + 1)) := by
          apply propext; omega
        have h6 : i - min o cs.length = (i - min (o + 1) cs.length) + 1 := by omega
        have h7 : ¬ o = o + 1 + vs.length + (i - (min (o + 1) cs.length + vs.length)) := by omega
        simp only [h3, h4, h5, h6, h7, if_false, List.getElem?_cons_succ]
        rw [show o + 1 + vs.length + (i - (min (o + 1) cs.length + vs.length)) = o + (vs.length + 1) + (i - (min o cs.length + (vs.length + 1))) by omega]
theorem Rs.putL {e : E} : ∀ {vs : List V} {ws : List Value} {cs : List V} {ds : List Value} (o : Nat), Rs e cs ds → Rs e vs ws → Rs e (putL cs o vs) (Go.Ab.putL ds o ws)
  | [], [], _, _, _, h, _ => h
  | [], _ :: _, _, _, _, _, k => by cases k
  | _ :: _, [], _, _, _, _, k => by cases k
  | v :: vs, w :: ws, cs, ds, o, h, k => Rs.putL (o + 1) (h.set o k.both.1) k.both.2
theorem putL_mem {α : Type} : ∀ (vs cs : List α) (o : Nat) (x : α), x ∈ putL cs o vs → x ∈ cs ∨ x ∈ vs
  | [], cs, o, x, h => .inl h
  | v :: vs, cs, o, x, h => by
    rcases putL_mem vs _ _ x h with g | g
    · rcases List.mem_or_eq_of_mem_set g with q | q
      · exact .inl q
      · exact .inr (by simp [q])
    · exact .inr (List.mem_cons_of_mem _ g)

def putA : Array Value → Nat → List Value → Array Value
  | c, _, [] => c
  | c, o, v :: vs => putA (c.setIfInBounds o v) (o + 1) vs
theorem putA_list : ∀ (vs : List Value) (c : Array Value) (o : Nat), (putA c o vs).toList = putL c.toList o vs
  | [], c, o => rfl
  | v :: vs, c, o => by simp [putA, putL, putA_list vs]
theorem putA_size (vs : List Value) (c : Array Value) (o : Nat) : (putA c o vs).size = c.size := by
  rw [← Array.length_toList, putA_list, putL_length, Array.length_toList]
/-- The heap where cells of a block are written. -/
def setBlk (w : World) (b : Nat) (x : Obj) : World := { w with heap := w.heap.setIfInBounds b x }
theorem storeCells_run {P : Program} : ∀ (vs : List Value) (w : World) (b o i : Nat) (c : Array Value) (ty : TypeId) (fz : Nat × Nat), w.heap[b]? = some (.cells c ty fz) → unfz c fz (o + i) → o + i + vs.length ≤ c.size → (∀ v ∈ vs, v.oneCell' = true) →
    (storeCells ⟨b, o, none⟩ vs i).run P w = .ok () (setBlk w b (.cells (putA c (o + i) vs) ty fz))
  | [], w, b, o, i, c, ty, fz, hb, hu, hl, hv => by
    have : setBlk w b (.cells c ty fz) = w := by
      obtain ⟨h1, h2⟩ := Array.getElem?_eq_some_iff.mp hb
      simp only [setBlk]
      congr 1
      apply Array.ext
      · simp
      · intro j h3 h4
        by_cases hj : b = j
        · subst hj; rw [Array.getElem_setIfInBounds_self]; exact h2.symm
        · rw [Array.getElem_setIfInBounds_ne _ hj]
    simp [storeCells, putA, this]
  | v :: vs, w, b, o, i, c, ty, fz, hb, hu, hl, hv => by
    simp only [List.length_cons] at hl
    have hcell : w.cell? ⟨b, o + i, none⟩ = some c[o + i] := by rw [cell_of hb]; exact Array.getElem?_eq_getElem (by omega)
    have hfz : w.frozen? ⟨b, o + i, none⟩ = false := by
      simp only [World.frozen?, hb]
      have := hu (o + i) (Nat.le_refl _) (by omega)
      simpa using this
    have hst : (store ((⟨b, o, none⟩ : Addr).add i) v).run P w = .ok () (w.setCell ⟨b, o + i, none⟩ v) := by
      rw [add_plain, run_store P w _ v _ (hv v (by simp)), hcell]
      simp only [hfz]; rfl
    have hset : w.setCell ⟨b, o + i, none⟩ v = setBlk w b (.cells (c.setIfInBounds (o + i) v) ty fz) := by
      obtain ⟨h1, h2⟩ := Array.getElem?_eq_some_iff.mp hb
      simp only [World.setCell, setBlk]
      congr 1
      apply Array.ext
      · simp
      · intro j h3 h4
        by_cases hj : b = j
        · subst hj; simp [Array.getElem_modify, h2]
        · rw [Array.getElem_setIfInBounds_ne (by simpa using h3) hj]; simp [Array.getElem_modify, hj]
    have hb2 : (setBlk w b (.cells (c.setIfInBounds (o + i) v) ty fz)).heap[b]? = some (.cells (c.setIfInBounds (o + i) v) ty fz) := by
      have h1 := (Array.getElem?_eq_some_iff.mp hb).1
      simp [setBlk, h1]
    have ih := storeCells_run (P := P) vs (setBlk w b (.cells (c.setIfInBounds (o + i) v) ty fz)) b o (i + 1) (c.setIfInBounds (o + i) v) ty fz hb2 (fun j h1 h2 => hu j (by omega) (by simpa using h2)) (by simp; omega) (fun x hx => hv x (List.mem_cons_of_mem _ hx))
    simp only [storeCells, Sem.run_bind, hst, hset, Result.andThen, ih]
    simp [setBlk, putA, Nat.add_assoc]

/-- An object is other, and its block. -/
def E.upd (e : E) (id : Nat) (o : Ob) (x : Obj) : E := { e with st := e.st.put id o, w := setBlk e.w (e.σ id) x }
theorem setBlk_here {w : World} {b : Nat} {x y : Obj} (h : w.heap[b]? = some y) : (setBlk w b x).heap[b]? = some x := by
  have := (Array.getElem?_eq_some_iff.mp h).1
  simp [setBlk, this]
theorem setBlk_other {w : World} {b k : Nat} {x : Obj} (h : k ≠ b) : (setBlk w b x).heap[k]? = w.heap[k]? := by
  simp only [setBlk]; rw [Array.getElem?_setIfInBounds_ne (Ne.symm h)]
theorem setBlk_size (w : World) (b : Nat) (x : Obj) : (setBlk w b x).heap.size = w.heap.size := by simp [setBlk]

theorem Ext.upd {e : E} {id : Nat} {o : Ob} {x y : Obj} (hl : ∃ o', e.st.ob id = some o') (hy : e.w.heap[e.σ id]? = some y) (h0 : e.fr (e.σ id) = 0)
    (hs : ∀ c ty fz, y = .cells c ty fz → ∃ c' fz', x = .cells c' ty fz' ∧ c'.size = c.size) : Ext e (e.upd id o x) := by
  refine ⟨Nat.le_refl _, Nat.le_refl _, fun _ _ => rfl, fun i hi o' ho' => ?_, fun _ _ => rfl, fun _ _ _ h => h, fun _ => Nat.le_refl _, fun b c ty fz hb => ?_⟩
  · simp only [E.upd, St.put] at ho'
    split at ho'
    · rename_i hi'; subst hi'; exact hl
    · exact ⟨o', ho'⟩
  · by_cases hbe : b = e.σ id
    · subst hbe
      rw [hy] at hb
      obtain ⟨c', fz', hx, hsz⟩ := hs c ty fz (Option.some.inj hb)
      refine ⟨c', fz', ?_, hsz, fun i hi => by rw [h0] at hi; omega⟩
      simp only [E.upd]; rw [setBlk_here hy, hx]
    · exact ⟨c, fz, by simp only [E.upd]; rw [setBlk_other hbe]; exact hb, rfl, fun _ _ => rfl⟩

theorem Rel.upd {W0 : World} {B : Nat} {e : E} (h : Rel W0 B e) {id : Nat} {o : Ob} {x y : Obj} (hl : ∃ o', e.st.ob id = some o') (hy : e.w.heap[e.σ id]? = some y)
    (hs : ∀ c ty fz, y = .cells c ty fz → ∃ c' fz', x = .cells c' ty fz' ∧ c'.size = c.size) (hB : B ≤ e.σ id)
    (hc : ∀ cs, o = .cells cs → (∀ v ∈ cs, v.oneB = true) ∧ ∃ c ty fz, x = .cells c ty fz ∧ unfz c fz 0 ∧ cs.length ≤ c.size ∧ Rs e cs (c.toList.take cs.length) ∧ BldOK (e.σ id) cs c ty)
    (hm : ∀ es, o = .map es → ∃ ents clock, x = .map ents clock ∧ Rs e (es.map (·.1)) (ents.toList.map (·.key)) ∧ Rs e (es.map (·.2)) (ents.toList.map (·.val)) ∧ Go.MapKept.Stamped ents clock) : Rel W0 B (e.upd id o x) := by
  obtain ⟨o0, ho0⟩ := hl
  have h0 := (h.live id o0 ho0).2
  have X : Ext e (e.upd id o x) := Ext.upd ⟨o0, ho0⟩ hy h0 hs
  have hobj : ∀ j o', (e.upd id o x).st.ob j = some o' → (j = id ∧ o' = o) ∨ (j ≠ id ∧ e.st.ob j = some o') := by
    intro j o' ho'
    simp only [E.upd, St.put] at ho'
    by_cases hj : j = id
    · rw [if_pos hj] at ho'; exact .inl ⟨hj, (Option.some.inj ho').symm⟩
    · rw [if_neg hj] at ho'; exact .inr ⟨hj, ho'⟩
  have hoth : ∀ j o', j ≠ id → e.st.ob j = some o' → e.σ j ≠ e.σ id := fun j o' hj ho' he => hj (h.inj j id o' o0 ho' ho0 he)
  refine ⟨⟨h.below.os, h.below.tape, h.below.output, by simp only [E.upd, setBlk_size]; exact h.below.size, fun k hk => ?_⟩, h.hB, ?_, ?_, ?_, ?_, h.tkn, ?_, h.tinj, ?_, ?_, ?_⟩
  · simp only [E.upd]; rw [setBlk_other (by omega)]; exact h.below.block k hk
  · intro j cs ho
    rcases hobj j _ ho with ⟨rfl, he⟩ | ⟨hj, ho'⟩
    · obtain ⟨g1, c, ty, fz, rfl, g2, g3, g4, g5⟩ := hc cs he.symm
      exact ⟨hB, g1, c, ty, fz, setBlk_here hy, g2, g3, g4.mono X, g5⟩
    · obtain ⟨a, b, c, ty, fz, d, f, g, k, kb⟩ := h.cells j cs ho'
      exact ⟨a, b, c, ty, fz, (setBlk_other (hoth j _ hj ho')).trans d, f, g, k.mono X, kb⟩
  · intro j es ho
    rcases hobj j _ ho with ⟨rfl, he⟩ | ⟨hj, ho'⟩
    · obtain ⟨ents, clock, rfl, g2, g3⟩ := hm es he.symm
      exact ⟨hB, ents, clock, setBlk_here hy, g2.mono X, g3.1.mono X, g3.2⟩
    · obtain ⟨a, ents, clock, b, c, d⟩ := h.maps j es ho'
      exact ⟨a, ents, clock, (setBlk_other (hoth j _ hj ho')).trans b, c.mono X, d.1.mono X, d.2⟩
  · intro j o' ho
    rcases hobj j _ ho with ⟨rfl, he⟩ | ⟨hj, ho'⟩
    · exact h.live j o0 ho0
    · exact h.live j _ ho'
  · intro i j o1 o2 h1 h2 hs
    have q : ∀ k o', (e.upd id o x).st.ob k = some o' → ∃ o2, e.st.ob k = some o2 := by
      intro k o' ho'
      rcases hobj k _ ho' with ⟨rfl, _⟩ | ⟨_, g⟩
      · exact ⟨o0, ho0⟩
      · exact ⟨o', g⟩
    obtain ⟨p1, q1⟩ := q i o1 h1
    obtain ⟨p2, q2⟩ := q j o2 h2
    exact h.inj i j p1 p2 q1 q2 hs
  · intro t s b k ht hτ
    obtain ⟨a, b', c, ty, fz, d, f⟩ := h.toks t s b k ht hτ
    exact ⟨a, b', c, ty, fz, (setBlk_other (Ne.symm (h.tob t s b k id o0 ht hτ ho0))).trans d, f⟩
  · intro t s b k j o' ht hτ ho
    rcases hobj j _ ho with ⟨rfl, _⟩ | ⟨hj, ho'⟩
    · exact h.tob t s b k j o0 ht hτ ho0
    · exact h.tob t s b k j o' ht hτ ho'
  · intro b c ty fz hb
    by_cases hbe : b = e.σ id
    · subst hbe; show e.fr _ ≤ _; omega
    · simp only [E.upd] at hb; rw [setBlk_other hbe] at hb; exact h.frs b c ty fz hb
  · intro b hb
    simp only [E.upd, setBlk_size] at hb
    exact h.frn b hb

def A.store (n : Nat) (p v : V) (st : St) (K : St → Res) : Res :=
  match p with
  | .ptr id off => (match st.ob id with
    | some (.cells cs) => if v.cells.length = n ∧ off + n ≤ cs.length ∧ v.cells.all V.one then K (st.put id (.cells (putL cs off v.cells))) else none
    | _ => none)
  | _ => none

/-- An operation without a value. -/
def StepU (P : Program) (W0 : World) (B : Nat) (e : E) (s : Sem Unit) (K : St → Res) (r : Out × St) : Prop :=
  ∃ e', K e'.st = some r ∧ s.run P e.w = .ok () e'.w ∧ Ext e e' ∧ Rel W0 B e'

theorem putA_head : ∀ (vs : List Value) (c : Array Value) (o : Nat), 0 < o → (putA c o vs)[0]? = c[0]?
  | [], c, o, _ => rfl
  | v :: vs, c, o, h => by
    unfold putA
    rw [putA_head vs _ (o + 1) (by omega), Array.getElem?_setIfInBounds, if_neg (by omega)]
theorem bldOK_put {b off : Nat} {cs vs : List V} {c : Array Value} {ty : TypeId} {ws : List Value} (h : BldOK b cs c ty) (hv : ∀ x ∈ vs, x.one = true) (hl : vs.length = ws.length) : BldOK b (putL cs off vs) (putA c off ws) ty := by
  intro k x hx
  have h0 : (putL cs off vs)[0]? = some (.bld k) := by rw [hx]; rfl
  have old : (∃ y, cs = .bld k :: y) → 0 < off ∨ ws = [] → ty = k ∧ (putA c off ws).size = 2 ∧ ((putA c off ws)[0]? = some (.pointer none) ∨ (putA c off ws)[0]? = some (.pointer (some ⟨b, 0, none⟩))) := by
    rintro ⟨y, hy⟩ ho
    obtain ⟨a1, a2, a3⟩ := h k y hy
    rcases ho with ho | ho
    · rw [putA_size, putA_head ws c off ho]; exact ⟨a1, a2, a3⟩
    · subst ho; exact ⟨a1, a2, a3⟩
  have hd : cs[0]? = some (.bld k) → ∃ y, cs = .bld k :: y := by
    intro hc
    cases cs with
    | nil => simp at hc
    | cons z y => simp at hc; exact ⟨y, by rw [hc]⟩
  cases off with
  | zero =>
    cases vs with
    | nil =>
      have : ws = [] := List.eq_nil_of_length_eq_zero (by simpa using hl.symm)
      exact old (hd h0) (.inr this)
    | cons v vs =>
      exfalso
      unfold putL at h0
      rw [putL_get vs _ 1 0 (by omega)] at h0
      cases cs with
      | nil => simp at h0
      | cons z y =>
        simp at h0
        have := hv v (by simp)
        rw [h0] at this; cases this
  | succ off =>
    rw [putL_get vs cs (off + 1) 0 (by omega)] at h0
    exact old (hd h0) (.inl (by omega))
theorem store_sound {P : Program} {W0 : World} {B : Nat} {e : E} {K : St → Res} {r : Out × St} {t : TypeId} {p v : V} {p' v' : Value} (hi : ∃ i, P.info? t = some i)
    (h : A.store (P.cellsOf t) p v e.st K = some r) (hr : Rel W0 B e) (hp : Rs e [p] [p']) (hv : Rs e [v] [v']) : StepU P W0 B e (Instr.storeAt t p' v') K r := by
  obtain ⟨i, hi⟩ := hi
  unfold A.store at h
  split at h
  · rename_i id off
    split at h
    · rename_i cs hcs
      split at h
      · rename_i hh
        obtain ⟨h1, h2, h3⟩ := hh
        rw [cellsOf_eq hi] at h1 h2
        have h3' : ∀ x ∈ v.cells, x.one = true := by simpa using h3
        cases hp with | ptr _ _ a hn hl _ =>
        have ha := hl _ hcs; subst ha
        obtain ⟨hB, ho, c, ty, fz, hb, hu, hle, hc, hbk⟩ := hr.cells id cs hcs
        have hvc := hv.cells
        have hvl : v.cells.length = v'.cells.size := by simpa using hvc.length
        have hlive : ∃ o', e.st.ob id = some o' := ⟨_, hcs⟩
        have h0 := (hr.live id _ hcs).2
        have hsz : ∀ c1 ty1 fz1, Obj.cells c ty fz = .cells c1 ty1 fz1 → ∃ c' fz', Obj.cells (putA c off v'.cells.toList) ty fz = .cells c' ty1 fz' ∧ c'.size = c1.size := by
          intro c1 ty1 fz1 he; cases he; exact ⟨_, _, rfl, putA_size _ _ _⟩
        refine ⟨e.upd id (.cells (putL cs off v.cells)) (.cells (putA c off v'.cells.toList) ty fz), h, ?_, Ext.upd hlive hb h0 hsz, hr.upd hlive hb hsz hB ?_ ?_⟩
        · have hrun := storeCells_run (P := P) v'.cells.toList e.w (e.σ id) off 0 c ty fz hb (fun j _ hj => hu j (by omega) hj) (by simp; omega) (hvc.ones h3')
          simp [Instr.storeAt, Instr.sureAddr, storeVar, sizeOf_run hi, show v'.cells.size = i.size by omega]
          rw [Nat.add_zero] at hrun
          exact hrun
        · intro cs' he; cases he
          refine ⟨?_, _, _, _, rfl, ?_, ?_, ?_, ?_⟩
          · intro x hx
            rcases putL_mem _ _ _ x hx with g | g
            · exact ho x g
            · exact oneB_of (h3' x g)
          · intro j h4 h5; rw [putA_size] at h5; exact hu j h4 h5
          · rw [putL_length, putA_size]; exact hle
          · rw [putA_list, putL_length, putL_take]
            exact Rs.putL off hc hvc
          · exact bldOK_put hbk h3' (by simpa using hvl)
        · intro es he; cases he
      · cases h
    · cases h
  · cases h
end Go.Ab

/- Lists and strings: length, elements, parts. -/
namespace Go.Ab
open Go.RowKit
set_option linter.unusedVariables false
set_option linter.unusedSimpArgs false

def A.lenS (v : V) (K : V → Res) : Res := match v with | .str s => K (.int .i64 s.length) | _ => none
def A.lenL (v : V) (K : V → Res) : Res := match v with | .lst l _ => K (.int .i64 l.length) | .sl _ _ len _ => K (.int .i64 len) | .buf s _ => K (.int .i64 s.length) | _ => none
def A.lenM (v : V) (st : St) (K : V → Res) : Res :=
  match v with
  | .map0 => K (.int .i64 0)
  | .map id => (match st.ob id with | some (.map es) => K (.int .i64 es.length) | _ => none)
  | _ => none
theorem lenS_sound {P : Program} {W0 : World} {B : Nat} {e : E} {K : V → St → Res} {r : Out × St} {t ty : TypeId} {a : V} {a' : Value} {ts : Array TypeId} (ht : ts[0]? = some t) (hk : tk P t = 3)
    (h : A.lenS a (fun v => K v e.st) = some r) (hr : Rel W0 B e) (ha : Rs e [a] [a']) : Step P W0 B e (Builtin.len_ ts ty #[a']) K r := by
  unfold A.lenS at h
  split at h
  · cases ha with | str _ _ =>
    have hz : ∀ s : List UInt8, (⟨s.toArray⟩ : ByteArray).size = s.length := fun s => by show s.toArray.size = s.length; simp
    exact Step.int hr h (by rw [← hz]; simp only [Builtin.len_, ht, List.getElem?_toArray, List.getElem?_cons_zero, Sem.run_bind, run_under (tk_string hk), Result.andThen]; rfl)
  · cases h
theorem lenL_sound {P : Program} {W0 : World} {B : Nat} {e : E} {K : V → St → Res} {r : Out × St} {t ty : TypeId} {a : V} {a' : Value} {ts : Array TypeId} (ht : ts[0]? = some t) (hk : tk P t = 5)
    (h : A.lenL a (fun v => K v e.st) = some r) (hr : Rel W0 B e) (ha : Rs e [a] [a']) : Step P W0 B e (Builtin.len_ ts ty #[a']) K r := by
  obtain ⟨d, hd⟩ := tk_slice hk
  unfold A.lenL at h
  split at h
  · cases ha with
    | lst0 _ _ _ => exact Step.int hr h (by simp [Builtin.len_, ht, run_under hd, goInt])
    | lste _ _ _ _ => exact Step.int hr h (by simp [Builtin.len_, ht, run_under hd, goInt])
    | lst _ _ len cap b o sz c ty2 fz hlen => subst hlen; exact Step.int hr h (by simp [Builtin.len_, ht, run_under hd, goInt])
  · cases ha with
    | sl _ _ _ _ _ _ _ _ _ => exact Step.int hr h (by simp [Builtin.len_, ht, run_under hd, goInt])
  · cases ha with
    | buf0 _ _ _ => exact Step.int hr h (by simp [Builtin.len_, ht, run_under hd, goInt])
    | buf _ _ _ _ _ _ _ _ _ _ _ _ _ => exact Step.int hr h (by simp [Builtin.len_, ht, run_under hd, goInt])
  · cases h
theorem lenM_sound {P : Program} {W0 : World} {B : Nat} {e : E} {K : V → St → Res} {r : Out × St} {t ty : TypeId} {a : V} {a' : Value} {ts : Array TypeId} (ht : ts[0]? = some t) (hk : tk P t = 6)
    (h : A.lenM a e.st (fun v => K v e.st) = some r) (hr : Rel W0 B e) (ha : Rs e [a] [a']) : Step P W0 B e (Builtin.len_ ts ty #[a']) K r := by
  obtain ⟨d, d', hd⟩ := tk_map hk
  unfold A.lenM at h
  split at h
  · cases ha with | map0 _ => exact Step.int hr h (by simp [Builtin.len_, ht, run_under hd, goInt])
  · rename_i id
    split at h
    · rename_i es hes
      cases ha with | map _ r' hn hl _ =>
      have hr' := hl _ hes; subst hr'
      obtain ⟨_, ents, clock, hb, hk1, _⟩ := hr.maps id es hes
      have hl2 : es.length = ents.size := by simpa using hk1.length
      have hg : (getObj (e.σ id)).run P e.w = .ok (.map ents clock) e.w := by simp [getObj, Sem.run, hb]
      exact Step.int hr h (by simp [Builtin.len_, ht, run_under hd, goInt, hg, hl2])
    · cases h
  · cases h

/-- The first element has so many cells (if there is one). -/
def szok (sz : Nat) : List V → Bool
  | [] => true
  | v :: _ => v.cells.length == sz

def arr (P : Program) (t : TypeId) : Option (Nat × TypeId) := match P.underlying t with | some (.array n e) => some (n, e) | _ => none
def sle (P : Program) (t : TypeId) : Option TypeId := match P.underlying t with | some (.slice e) => some e | _ => none
theorem arr_some {P : Program} {t : TypeId} {n : Nat} {x : TypeId} (h : arr P t = some (n, x)) : P.underlying t = some (.array n x) := by
  unfold arr at h; split at h
  · cases h; assumption
  · cases h
theorem sle_some {P : Program} {t : TypeId} {x : TypeId} (h : sle P t = some x) : P.underlying t = some (.slice x) := by
  unfold sle at h; split at h
  · cases h; assumption
  · cases h

/-- The place of an element of a slice. -/
def A.iaddr (sz : Nat) (x i : V) (K : V → Res) : Res :=
  match i with
  | .int _ n =>
    if 0 ≤ n then
      (match x with
       | .sl id off len sz' => if n < len ∧ sz' = sz then K (.ptr id (off + n.toNat * sz)) else none
       | .lst l _ => (match l[n.toNat]? with | some v => if v.cells.length = sz then K (.lptr v.cells) else none | none => none)
       | _ => none)
    else none
  | _ => none
/-- .. of an array. -/
def A.iaddrA (len sz : Nat) (x i : V) (K : V → Res) : Res :=
  match i with
  | .int _ n =>
    if 0 ≤ n ∧ n < len then
      (match x with
       | .ptr id off => K (.ptr id (off + n.toNat * sz))
       | .lptr cs => if n.toNat * sz ≤ cs.length then K (.lptr (cs.drop (n.toNat * sz))) else none
       | _ => none)
    else none
  | _ => none

theorem flat_drop (l : List V) (sz : Nat) (h : ∀ v ∈ l, v.cells.length = sz) : ∀ i, (flat l).drop (i * sz) = flat (l.drop i) := by
  induction l with
  | nil => intro i; simp [flat]
  | cons v l ih =>
    intro i
    cases i with
    | zero => simp
    | succ i =>
      have hv := h v (by simp)
      rw [show flat (v :: l) = v.cells ++ flat l from rfl, List.drop_succ_cons, ← ih (fun x hx => h x (List.mem_cons_of_mem _ hx)) i]
      rw [show (i + 1) * sz = v.cells.length + i * sz by rw [hv, Nat.succ_mul]; omega, ← List.drop_drop, List.drop_left]
theorem flat_take (l : List V) (sz : Nat) (h : ∀ v ∈ l, v.cells.length = sz) : ∀ i, (flat l).take (i * sz) = flat (l.take i) := by
  induction l with
  | nil => intro i; simp [flat]
  | cons v l ih =>
    intro i
    cases i with
    | zero => simp [flat]
    | succ i =>
      have hv := h v (by simp)
      rw [show flat (v :: l) = v.cells ++ flat l from rfl, List.take_succ_cons, show flat (v :: l.take i) = v.cells ++ flat (l.take i) from rfl, ← ih (fun x hx => h x (List.mem_cons_of_mem _ hx)) i]
      rw [show (i + 1) * sz = v.cells.length + i * sz by rw [hv, Nat.succ_mul]; omega, List.take_length_add_append]
theorem flat_length (l : List V) (sz : Nat) (h : ∀ v ∈ l, v.cells.length = sz) : (flat l).length = l.length * sz := by
  induction l with
  | nil => simp [flat]
  | cons v l ih =>
    rw [show flat (v :: l) = v.cells ++ flat l from rfl, List.length_append, ih (fun x hx => h x (List.mem_cons_of_mem _ hx)), h v (by simp), List.length_cons, Nat.succ_mul]; omega
theorem flat_one (l : List V) (sz i : Nat) (v : V) (h : ∀ v ∈ l, v.cells.length = sz) (hv : l[i]? = some v) : ((flat l).drop (i * sz)).take sz = v.cells := by
  rw [flat_drop l sz h i]
  have hi := (List.getElem?_eq_some_iff.mp hv)
  rw [List.drop_eq_getElem_cons hi.1, hi.2, show flat (v :: l.drop (i + 1)) = v.cells ++ flat (l.drop (i + 1)) from rfl]
  have := h v (List.mem_of_getElem? hv)
  rw [← this, List.take_left]
theorem flat_append (l l' : List V) : flat (l ++ l') = flat l ++ flat l' := by simp [flat]

/-- An element of a list that came in, by value: its cells in the block. -/
theorem lst_elem {e : E} {l : List V} {c : Array Value} {o len sz i : Nat} {v : V} (hlen : l.length = len) (hsz : ∀ v ∈ l, v.cells.length = sz) (hc : Rs e (flat l) ((c.toList.drop o).take (len * sz))) (hv : l[i]? = some v) :
    Rs e v.cells ((c.toList.drop (o + i * sz)).take sz) ∧ i * sz + sz ≤ len * sz := by
  have hi := (List.getElem?_eq_some_iff.mp hv).1
  have h1 : i * sz + sz ≤ len * sz := by
    have := Nat.mul_le_mul_right sz (show i + 1 ≤ len by omega)
    rw [Nat.succ_mul] at this; omega
  have := (hc.drop (i * sz)).take sz
  rw [flat_one l sz i v hsz hv, List.drop_take, List.drop_drop, List.take_take, Nat.min_eq_left (by omega)] at this
  exact ⟨this, h1⟩

theorem iaddr_sound {P : Program} {W0 : World} {B : Nat} {e : E} {K : V → St → Res} {r : Out × St} {t x0 : TypeId} {x i : V} {x' i' : Value} (hs : sle P t = some x0) (hi : ∃ i, P.info? x0 = some i)
    (h : A.iaddr (P.cellsOf x0) x i (fun v => K v e.st) = some r) (hr : Rel W0 B e) (hx : Rs e [x] [x']) (hix : Rs e [i] [i']) : Step P W0 B e (Instr.indexAt t x' i') K r := by
  obtain ⟨inf, hi⟩ := hi
  rw [cellsOf_eq hi] at h
  have hu := run_under (P := P) (sle_some hs) e.w
  unfold A.iaddr at h
  split at h
  · rename_i k n
    cases hix with | int _ _ _ =>
    split at h
    · rename_i h0
      split at h
      · rename_i id off len sz'
        split at h
        · rename_i hh
          obtain ⟨h1, rfl⟩ := hh
          cases hx with | sl _ _ _ _ cap a hn hcap hl _ =>
          refine Step.pure hr h (v' := .pointer (some (a.add (n.toNat * inf.size)))) ?_ (.ptr _ _ _ hn (fun o ho => ?_) .nil)
          · simp [Instr.indexAt, asIntOf, hu, h0, h1, sizeOf_run hi]
          · obtain ⟨g, _⟩ := hl o ho (by omega)
            rw [g, add_plain]
        · cases h
      · rename_i l tk0
        split at h
        · rename_i v hv
          split at h
          · rename_i hvs
            have hn' := (List.getElem?_eq_some_iff.mp hv).1
            cases hx with
            | lst0 _ _ _ => simp at hn'
            | lste _ _ _ _ => simp at hn'
            | lst _ _ len cap b o sz c ty2 fz hlen hcap hb hsz ho hf hc hx1 ht1 _ =>
              have hszv : v.cells.length = sz := hsz v (List.mem_of_getElem? hv)
              have : sz = inf.size := by omega
              subst this
              obtain ⟨g1, g2⟩ := lst_elem hlen hsz hc hv
              have h1 : n < (len : Int) := by omega
              refine Step.pure hr h (v' := .pointer (some ⟨b, o + n.toNat * inf.size, none⟩)) ?_ (.lptr _ b _ c ty2 fz hb (by omega) (fun y hy => ho y ?_) (by rw [hszv]; exact g1) .nil)
              · simp [Instr.indexAt, asIntOf, hu, h0, h1, sizeOf_run hi, add_plain]
              · exact List.mem_flatMap.mpr ⟨v, List.mem_of_getElem? hv, hy⟩
          · cases h
        · cases h
      · cases h
    · cases h
  · cases h

theorem iaddrA_sound {P : Program} {W0 : World} {B : Nat} {e : E} {K : V → St → Res} {r : Out × St} {t x0 : TypeId} {len : Nat} {x i : V} {x' i' : Value} (hs : arr P t = some (len, x0)) (hi : ∃ i, P.info? x0 = some i)
    (h : A.iaddrA len (P.cellsOf x0) x i (fun v => K v e.st) = some r) (hr : Rel W0 B e) (hx : Rs e [x] [x']) (hix : Rs e [i] [i']) : Step P W0 B e (Instr.indexAt t x' i') K r := by
  obtain ⟨inf, hi⟩ := hi
  rw [cellsOf_eq hi] at h
  have hu := run_under (P := P) (arr_some hs) e.w
  unfold A.iaddrA at h
  split at h
  · rename_i k n
    cases hix with | int _ _ _ =>
    split at h
    · rename_i h0
      split at h
      · rename_i id off
        cases hx with | ptr _ _ a hn hl _ =>
        refine Step.pure hr h (v' := .pointer (some (a.add (n.toNat * inf.size)))) ?_ (.ptr _ _ _ hn (fun o ho => ?_) .nil)
        · simp [Instr.indexAt, asIntOf, hu, h0, Instr.sureAddr, sizeOf_run hi]
        · rw [hl o ho, add_plain]
      · rename_i cs
        split at h
        · rename_i hle
          cases hx with | lptr _ b o c ty fz hb hf ho hc _ =>
          refine Step.pure hr h (v' := .pointer (some ⟨b, o + n.toNat * inf.size, none⟩)) ?_ (.lptr _ b _ c ty fz hb (by simp; omega) (fun v hv => ho v (List.mem_of_mem_drop hv)) ?_ .nil)
          · simp [Instr.indexAt, asIntOf, hu, h0, Instr.sureAddr, sizeOf_run hi, add_plain]
          · have := hc.drop (n.toNat * inf.size)
            rw [List.drop_take, List.drop_drop] at this
            simpa using this
        · cases h
      · cases h
    · cases h
  · cases h

/-- A byte of a string. -/
def A.idxS (x i : V) (K : V → Res) : Res :=
  match x, i with
  | .str s, .int _ n => if 0 ≤ n then (match s[n.toNat]? with | some b => K (.int .u8 b.toNat) | none => none) else none
  | _, _ => none
theorem idxS_sound {P : Program} {W0 : World} {B : Nat} {e : E} {K : V → St → Res} {r : Out × St} {t : TypeId} {x i : V} {x' i' : Value} (hk : tk P t = 3)
    (h : A.idxS x i (fun v => K v e.st) = some r) (hr : Rel W0 B e) (hx : Rs e [x] [x']) (hix : Rs e [i] [i']) : Step P W0 B e (Instr.index t x' i') K r := by
  unfold A.idxS at h
  split at h
  · rename_i s k n
    cases hx with | str _ _ =>
    cases hix with | int _ _ _ =>
    split at h
    · rename_i h0
      split at h
      · rename_i b hb
        have hb' : (⟨s.toArray⟩ : ByteArray)[n.toNat]? = some b := by
          have hlt := (List.getElem?_eq_some_iff.mp hb)
          rw [getElem?_pos _ _ (by simpa [ByteArray.size] using hlt.1)]
          have : (⟨s.toArray⟩ : ByteArray)[n.toNat]'(by simpa [ByteArray.size] using hlt.1) = b := by
            rw [← hlt.2]; rfl
          rw [this]
        exact Step.int hr h (by simp [Instr.index, asIntOf, run_under (tk_string hk), h0, hb'])
      · cases h
    · cases h
  · cases h

/-- A bound: the operand's, or what stands for it. -/
def bnd (v : Option V) (d : Nat) : Option Nat :=
  match v with
  | none => some d
  | some (.int _ n) => if 0 ≤ n then some n.toNat else none
  | some _ => none

/-- A part of a string. -/
def A.sliceS (x : V) (lo hi : Option V) (K : V → Res) : Res :=
  match x with
  | .str s => (match bnd lo 0, bnd hi s.length with
    | some l, some h => if l ≤ h ∧ h ≤ s.length then K (.str ((s.take h).drop l)) else none
    | _, _ => none)
  | _ => none
/-- A part of a slice. -/
def A.slice (sz : Nat) (x : V) (lo hi mx : Option V) (K : V → Res) : Res :=
  match x with
  | .lst l t => (match bnd lo 0, bnd hi l.length, mx with
    | some a, some b, none => if a ≤ b ∧ b ≤ l.length ∧ szok sz l then K (.lst ((l.take b).drop a) (if b = l.length then t else 0)) else none
    | some a, some b, some m => (match bnd (some m) 0 with
      | some m => if a ≤ b ∧ b ≤ m ∧ m ≤ l.length ∧ szok sz l ∧ hi.isSome then K (.lst ((l.take b).drop a) (if b = m then 2 else 0)) else none
      | none => none)
    | _, _, _ => none)
  | .sl id off len sz' => (match bnd lo 0, bnd hi len, mx with
    | some a, some b, none => if a ≤ b ∧ b ≤ len ∧ sz' = sz then K (.sl id (off + a * sz) (b - a) sz) else none
    | _, _, _ => none)
  | _ => none
/-- A part of an array, as a slice. -/
def A.sliceA (n sz : Nat) (x : V) (lo hi : Option V) (st : St) (K : V → Res) : Res :=
  match x with
  | .ptr id off => (match st.ob id, bnd lo 0, bnd hi n with
    | some (.cells cs), some a, some b => if a ≤ b ∧ b ≤ n ∧ off + n * sz ≤ cs.length then K (.sl id (off + a * sz) (b - a) sz) else none
    | _, _, _ => none)
  | _ => none

inductive Rso (e : E) : Option V → Option Value → Prop where
  | none : Rso e none none
  | some {v : V} {w : Value} (h : Rs e [v] [w]) : Rso e (some v) (some w)

theorem bnd_run {P : Program} {e : E} {v : V} {v' : Value} {d n m : Nat} {c : BoundsCode} (h : bnd (some v) d = some n) (hv : Rs e [v] [v']) (hn : n ≤ m) : (Instr.sliceBound v' m c).run P e.w = .ok n e.w := by
  unfold bnd at h
  split at h
  · rename_i hc; cases hc
  · rename_i k i hh
    cases hh
    split at h
    · rename_i h0
      cases h
      cases hv with | int _ _ _ =>
      have h1 : i ≤ (m : Int) := by omega
      simp [Instr.sliceBound, asIntOf, h0, h1]
    · cases h
  · cases h

theorem bounds_run {P : Program} {e : E} {lo hi : Option V} {lo' hi' : Option Value} {len cap a b : Nat} {sl : Bool} (h1 : bnd lo 0 = some a) (h2 : bnd hi len = some b) (hl : Rso e lo lo') (hh : Rso e hi hi') (hab : a ≤ b) (hb : b ≤ cap) :
    (Instr.sliceBounds sl len cap lo' hi' none).run P e.w = .ok (a, b, cap) e.w := by
  cases hl with
  | none =>
    cases h1
    cases hh with
    | none => cases h2; simp [Instr.sliceBounds]
    | some hv => simp [Instr.sliceBounds, bnd_run (P := P) h2 hv hb]
  | some hw =>
    cases hh with
    | none => cases h2; simp [Instr.sliceBounds, bnd_run (P := P) h1 hw hab]
    | some hv => simp [Instr.sliceBounds, bnd_run (P := P) h2 hv hb, bnd_run (P := P) h1 hw hab]
theorem bounds3_run {P : Program} {e : E} {lo : Option V} {hi mx : V} {lo' : Option Value} {hi' mx' : Value} {len cap a b m : Nat} {sl : Bool} (h1 : bnd lo 0 = some a) (h2 : bnd (some hi) len = some b) (h3 : bnd (some mx) 0 = some m) (hl : Rso e lo lo') (hh : Rs e [hi] [hi']) (hm : Rs e [mx] [mx']) (hab : a ≤ b) (hb : b ≤ m) (hmc : m ≤ cap) :
    (Instr.sliceBounds sl len cap lo' (some hi') (some mx')).run P e.w = .ok (a, b, m) e.w := by
  cases hl with
  | none => cases h1; simp [Instr.sliceBounds, bnd_run (P := P) h2 hh hb, bnd_run (P := P) h3 hm hmc]
  | some hw => simp [Instr.sliceBounds, bnd_run (P := P) h2 hh hb, bnd_run (P := P) h3 hm hmc, bnd_run (P := P) h1 hw hab]

theorem extract_str (s : List UInt8) (a b : Nat) : (⟨s.toArray⟩ : ByteArray).extract a b = ⟨((s.take b).drop a).toArray⟩ := by
  apply ByteArray.ext
  simp [ByteArray.data_extract, List.extract_eq_take_drop, List.drop_take]

theorem sliceS_sound {P : Program} {W0 : World} {B : Nat} {e : E} {K : V → St → Res} {r : Out × St} {t : TypeId} {x : V} {x' : Value} {lo hi : Option V} {lo' hi' : Option Value} (hk : tk P t = 3)
    (h : A.sliceS x lo hi (fun v => K v e.st) = some r) (hr : Rel W0 B e) (hx : Rs e [x] [x']) (hl : Rso e lo lo') (hh : Rso e hi hi') : Step P W0 B e (Instr.sliceAt t x' lo' hi' none) K r := by
  unfold A.sliceS at h
  split at h
  · rename_i s
    cases hx with | str _ _ =>
    split at h
    · rename_i a b h1 h2
      split at h
      · rename_i hh2
        have hu := run_under (P := P) (tk_string hk) e.w
        have hsz : (⟨s.toArray⟩ : ByteArray).size = s.length := by simp [ByteArray.size]
        have := bounds_run (P := P) (sl := false) (cap := s.length) h1 h2 hl hh hh2.1 hh2.2
        exact Step.str hr h (by simp [Instr.sliceAt, hu, Instr.slice, hsz, this, extract_str])
      · cases h
    · cases h
  · cases h

theorem cells_part {c : List Value} {o n x y z : Nat} (h : y ≤ n) (hz : z = y - x) : (((c.drop o).take n).take y).drop x = (c.drop (o + x)).take z := by
  rw [List.take_take, Nat.min_eq_left h, List.drop_take, List.drop_drop, hz]
theorem szok_eq {l : List V} {sz n : Nat} (h : szok n l = true) (hsz : ∀ v ∈ l, v.cells.length = sz) : l = [] ∨ sz = n := by
  cases l with
  | nil => exact .inl rfl
  | cons v l => simp only [szok, beq_iff_eq] at h; exact .inr ((hsz v (by simp)).symm.trans h)

theorem slice_sound {P : Program} {W0 : World} {B : Nat} {e : E} {K : V → St → Res} {r : Out × St} {t x0 : TypeId} {x : V} {x' : Value} {lo hi mx : Option V} {lo' hi' mx' : Option Value} (hs : sle P t = some x0) (hi0 : ∃ i, P.info? x0 = some i)
    (h : A.slice (P.cellsOf x0) x lo hi mx (fun v => K v e.st) = some r) (hr : Rel W0 B e) (hx : Rs e [x] [x']) (hl : Rso e lo lo') (hh : Rso e hi hi') (hm : Rso e mx mx') : Step P W0 B e (Instr.sliceAt t x' lo' hi' mx') K r := by
  obtain ⟨inf, hi0⟩ := hi0
  rw [cellsOf_eq hi0] at h
  have hu := run_under (P := P) (sle_some hs) e.w
  unfold A.slice at h
  split at h
  · rename_i l tok
    split at h
    · rename_i a b h1 h2
      cases hm with
      | none =>
      split at h
      · rename_i hh2
        obtain ⟨g1, g2, g3⟩ := hh2
        cases hx with
        | lst0 _ hb0 _ =>
          simp only [List.length_nil, Nat.le_zero] at g2
          subst g2
          have hb := bounds_run (P := P) (sl := true) (cap := 0) h1 h2 hl hh g1 (Nat.le_refl _)
          have ha : a = 0 := by omega
          subst ha
          simp only [List.length_nil] at hb
          refine Step.pure hr h (v' := .slice none 0 0) ?_ ?_
          · simp [Instr.sliceAt, hu, Instr.slice, sizeOf_run hi0]
            simp [hb]
          · simp; exact .lst0 _ hb0 .nil
        | lste _ ad ht0 _ =>
          simp only [List.length_nil, Nat.le_zero] at g2
          subst g2
          have hb := bounds_run (P := P) (sl := true) (cap := 0) h1 h2 hl hh g1 (Nat.le_refl _)
          have ha : a = 0 := by omega
          subst ha
          simp only [List.length_nil] at hb
          refine Step.pure hr h (v' := .slice (some ad) 0 0) ?_ ?_
          · simp [Instr.sliceAt, hu, Instr.slice, sizeOf_run hi0]
            simp [hb]
          · simp; exact .lste _ ad ht0 .nil
        | lst _ _ len cap blk o sz c ty2 fz hlen hcap hb hsz ho hf hc hx1 ht1 _ =>
          subst hlen
          have hbr := bounds_run (P := P) (sl := true) (cap := cap) h1 h2 hl hh g1 (by omega)
          have hszi : l = [] ∨ sz = inf.size := szok_eq g3 hsz
          have hlen2 : ((l.take b).drop a).length = b - a := by simp; omega
          have hsub : ∀ v ∈ (l.take b).drop a, v ∈ l := fun v hv => List.mem_of_mem_take (List.mem_of_mem_drop hv)
          -- the cells
          have hmul : (b - a) * sz + a * sz = b * sz := by rw [← Nat.add_mul, Nat.sub_add_cancel g1]
          have hbl : b * sz ≤ l.length * sz := Nat.mul_le_mul_right _ g2
          have hcl : Rs e (flat ((l.take b).drop a)) ((c.toList.drop (o + a * sz)).take ((b - a) * sz)) := by
            have := (hc.take (b * sz)).drop (a * sz)
            rw [flat_take l sz hsz, flat_drop _ sz (fun v hv => hsz v (List.mem_of_mem_take hv)), cells_part hbl (show (b - a) * sz = b * sz - a * sz by omega)] at this
            exact this
          have hone : ∀ v ∈ flat ((l.take b).drop a), v.one = true := by
            intro v hv
            obtain ⟨y, hy, hvy⟩ := List.mem_flatMap.mp hv
            exact ho v (List.mem_flatMap.mpr ⟨y, hsub y hy, hvy⟩)
          by_cases hac : cap = a
          · -- the address stays
            have hba : b = a := by omega
            subst hba
            have hle : l.length = b := by omega
            refine Step.pure hr h (v' := .slice (some ⟨blk, o, none⟩) 0 0) ?_ ?_
            · rw [hac, hle] at hbr
              simp [Instr.sliceAt, hu, Instr.slice, sizeOf_run hi0, hac, hle, hbr]
            · have : (l.take b).drop b = [] := List.eq_nil_of_length_eq_zero (by rw [hlen2]; omega)
              rw [this]
              exact .lst [] _ 0 0 blk o sz c ty2 fz rfl (Nat.le_refl _) hb (by simp) (by simp [flat]) (by omega) (by simpa [flat] using Rs.nil) ⟨by rw [if_pos hle.symm]; exact hx1.1, fun _ => rfl⟩ (fun h2 => ⟨by
                split at h2
                · rename_i he
                  rw [if_pos he]; exact (ht1 h2).1
                · omega, fun s _ hlt => absurd hlt (by omega)⟩) .nil
          · have haddr : (if cap = a then (⟨blk, o, none⟩ : Addr) else (⟨blk, o, none⟩ : Addr).add (a * inf.size)) = ⟨blk, o + a * sz, none⟩ := by
              rw [if_neg hac, add_plain]
              rcases hszi with hnil | rfl
              · subst hnil; simp only [List.length_nil] at g2; have : a = 0 := by omega
                subst this; simp
              · rfl
            refine Step.pure hr h (v' := .slice (some ⟨blk, o + a * sz, none⟩) (b - a) (cap - a)) ?_ ?_
            · have haddr' := haddr
              rw [if_neg hac] at haddr'
              simp [Instr.sliceAt, hu, Instr.slice, sizeOf_run hi0, hbr, hac, haddr']
            · refine .lst _ _ (b - a) (cap - a) blk (o + a * sz) sz c ty2 fz hlen2 (by omega) hb (fun v hv => hsz v (hsub v hv)) hone (by omega) hcl ?_ ?_ .nil
              · refine ⟨fun h1' => ?_, fun h1' => ?_⟩
                · split at h1'
                  · exact hx1.1 h1'
                  · omega
                · split at h1'
                  · rename_i he
                    have := hx1.2 h1'; omega
                  · omega
              · intro h2'
                split at h2'
                · rename_i he
                  subst he
                  rw [if_pos rfl]
                  obtain ⟨q1, q2⟩ := ht1 h2'
                  refine ⟨q1, fun s hs hlt => ?_⟩
                  obtain ⟨p1, p2, p3⟩ := q2 s hs (by omega)
                  refine ⟨p1, by rw [p2]; congr 2; omega, ?_⟩
                  have : (cap - a) * sz + a * sz = cap * sz := by rw [← Nat.add_mul, Nat.sub_add_cancel (by omega)]
                  omega
                · omega
      · cases h
    · rename_i a b m h1 h2
      split at h
      · rename_i mm h3
        split at h
        · rename_i hh2
          obtain ⟨g1, g2, g3, g4, g5⟩ := hh2
          cases hm with
          | some hm' =>
          cases hh with
          | none => simp at g5
          | some hh' =>
          cases hx with
          | lst0 _ hb0 _ =>
            simp only [List.length_nil, Nat.le_zero] at g3
            subst g3
            have hb := bounds3_run (P := P) (sl := true) (cap := 0) h1 h2 h3 hl hh' hm' g1 g2 (Nat.le_refl _)
            have hb0 : b = 0 := by omega
            have ha : a = 0 := by omega
            subst hb0; subst ha
            simp only [List.length_nil] at hb
            refine Step.pure hr h (v' := .slice none 0 0) ?_ ?_
            · simp [Instr.sliceAt, hu, Instr.slice, sizeOf_run hi0]
              simp [hb]
            · simp; exact .lst0 _ (by omega) .nil
          | lste _ ad ht0 _ =>
            simp only [List.length_nil, Nat.le_zero] at g3
            subst g3
            have hb := bounds3_run (P := P) (sl := true) (cap := 0) h1 h2 h3 hl hh' hm' g1 g2 (Nat.le_refl _)
            have hb0 : b = 0 := by omega
            have ha : a = 0 := by omega
            subst hb0; subst ha
            simp only [List.length_nil] at hb
            refine Step.pure hr h (v' := .slice (some ad) 0 0) ?_ ?_
            · simp [Instr.sliceAt, hu, Instr.slice, sizeOf_run hi0]
              simp [hb]
            · simp; exact .lste _ ad ⟨by omega, by omega⟩ .nil
          | lst _ _ len cap blk o sz c ty2 fz hlen hcap hb hsz ho hf hc hx1 ht1 _ =>
            subst hlen
            have hbr := bounds3_run (P := P) (sl := true) (cap := cap) h1 h2 h3 hl hh' hm' g1 g2 (by omega)
            have hszi : l = [] ∨ sz = inf.size := szok_eq g4 hsz
            have hlen2 : ((l.take b).drop a).length = b - a := by simp; omega
            have hsub : ∀ v ∈ (l.take b).drop a, v ∈ l := fun v hv => List.mem_of_mem_take (List.mem_of_mem_drop hv)
            have hmul : (b - a) * sz + a * sz = b * sz := by rw [← Nat.add_mul, Nat.sub_add_cancel g1]
            have hbl : b * sz ≤ l.length * sz := Nat.mul_le_mul_right _ (by omega)
            have hcl : Rs e (flat ((l.take b).drop a)) ((c.toList.drop (o + a * sz)).take ((b - a) * sz)) := by
              have := (hc.take (b * sz)).drop (a * sz)
              rw [flat_take l sz hsz, flat_drop _ sz (fun v hv => hsz v (List.mem_of_mem_take hv)), cells_part hbl (show (b - a) * sz = b * sz - a * sz by omega)] at this
              exact this
            have hone : ∀ v ∈ flat ((l.take b).drop a), v.one = true := by
              intro v hv
              obtain ⟨y, hy, hvy⟩ := List.mem_flatMap.mp hv
              exact ho v (List.mem_flatMap.mpr ⟨y, hsub y hy, hvy⟩)
            by_cases hac : mm = a
            · have hba : b = a := by omega
              subst hba
              refine Step.pure hr h (v' := .slice (some ⟨blk, o, none⟩) 0 0) ?_ ?_
              · rw [hac] at hbr
                simp [Instr.sliceAt, hu, Instr.slice, sizeOf_run hi0, hbr]
              · have : (l.take b).drop b = [] := List.eq_nil_of_length_eq_zero (by rw [hlen2]; omega)
                rw [this]
                exact .lst [] _ 0 0 blk o sz c ty2 fz rfl (Nat.le_refl _) hb (by simp) (by simp [flat]) (by omega) (by simpa [flat] using Rs.nil) ⟨fun h2 => by split at h2 <;> omega, fun _ => rfl⟩ (fun h2 => by split at h2 <;> omega) .nil
            · have haddr : (⟨blk, o, none⟩ : Addr).add (a * inf.size) = ⟨blk, o + a * sz, none⟩ := by
                rw [add_plain]
                rcases hszi with hnil | rfl
                · subst hnil; simp only [List.length_nil] at g3; have : a = 0 := by omega
                  subst this; simp
                · rfl
              refine Step.pure hr h (v' := .slice (some ⟨blk, o + a * sz, none⟩) (b - a) (mm - a)) ?_ ?_
              · simp [Instr.sliceAt, hu, Instr.slice, sizeOf_run hi0, hbr, hac, haddr]
              · refine .lst _ _ (b - a) (mm - a) blk (o + a * sz) sz c ty2 fz hlen2 (by omega) hb (fun v hv => hsz v (hsub v hv)) hone (by omega) hcl ?_ ?_ .nil
                · refine ⟨fun h1' => by split at h1' <;> omega, fun h1' => ?_⟩
                  split at h1'
                  · rename_i he; omega
                  · omega
                · intro h2'; split at h2' <;> omega
        · cases h
      · cases h
    · cases h
  · rename_i id off len sz'
    split at h
    · rename_i a b h1 h2
      cases hm with
      | none =>
      split at h
      · rename_i hh2
        obtain ⟨g1, g2, rfl⟩ := hh2
        cases hx with
        | sl _ _ _ _ cap ad hn hcap hl2 _ =>
          have hbr := bounds_run (P := P) (sl := true) (cap := cap) h1 h2 hl hh g1 (by omega)
          by_cases hac : cap = a
          · refine Step.pure hr h (v' := .slice (some ad) (b - a) (cap - a)) ?_ (.sl _ _ _ _ _ _ hn (by omega) (fun o ho h0 => by omega) .nil)
            rw [hac] at hbr
            simp [Instr.sliceAt, hu, Instr.slice, sizeOf_run hi0, hbr, hac]
          · refine Step.pure hr h (v' := .slice (some (ad.add (a * inf.size))) (b - a) (cap - a)) ?_ (.sl _ _ _ _ _ _ hn (by omega) (fun o ho h0 => ?_) .nil)
            · simp [Instr.sliceAt, hu, Instr.slice, sizeOf_run hi0, hbr, hac]
            · obtain ⟨q1, c, ty, fz, q2, q3⟩ := hl2 o ho (by omega)
              refine ⟨by rw [q1, add_plain], c, ty, fz, q2, ?_⟩
              have : (cap - a) * inf.size + a * inf.size = cap * inf.size := by rw [← Nat.add_mul, Nat.sub_add_cancel (by omega)]
              omega
      · cases h
    · cases h
  · cases h
end Go.Ab

/- Tokens; append; lists that are made. -/
namespace Go.Ab
open Go.RowKit
set_option linter.unusedVariables false
set_option linter.unusedSimpArgs false

def E.kill (e : E) (t : Nat) : E := { e with st := e.st.delTk t }
theorem Ext.kill (e : E) (t : Nat) : Ext e (e.kill t) := by
  refine ⟨Nat.le_refl _, Nat.le_refl _, fun _ _ => rfl, fun _ _ o h => ⟨o, h⟩, fun _ _ => rfl, fun i _ s h => ?_, fun _ => Nat.le_refl _, fun b c ty fz h => ⟨c, fz, h, rfl, fun _ _ => rfl⟩⟩
  simp only [E.kill, St.delTk] at h
  split at h
  · cases h
  · exact h
theorem kill_tk {e : E} {t i s : Nat} (h : (e.kill t).st.tk i = some s) : i ≠ t ∧ e.st.tk i = some s := by
  simp only [E.kill, St.delTk] at h
  split at h
  · cases h
  · exact ⟨‹_›, h⟩
theorem Rel.kill {W0 : World} {B : Nat} {e : E} (h : Rel W0 B e) (t : Nat) : Rel W0 B (e.kill t) := by
  have X := Ext.kill e t
  refine ⟨h.below, h.hB, fun id cs ho => ?_, fun id es ho => ?_, h.live, h.inj, fun i s hs => h.tkn i s (kill_tk hs).2, fun i s b k hs => h.toks i s b k (kill_tk hs).2, fun i j s s' b k k' h1 h2 => h.tinj i j s s' b k k' (kill_tk h1).2 (kill_tk h2).2, fun i s b k id o h1 => h.tob i s b k id o (kill_tk h1).2, h.frs, h.frn⟩
  · obtain ⟨a, b, c, ty, fz, d, f, g, k, kb⟩ := h.cells id cs ho; exact ⟨a, b, c, ty, fz, d, f, g, k.mono X, kb⟩
  · obtain ⟨a, ents, clock, b, c, d⟩ := h.maps id es ho; exact ⟨a, ents, clock, b, c.mono X, d.1.mono X, d.2⟩

def E.tok (e : E) (sz : Nat) (p : Option (Nat × Nat)) : E := { e with st := e.st.newTk sz, τ := fun i => if i = e.st.nt then p else e.τ i }
theorem tok_tk {e : E} {sz i s : Nat} {p : Option (Nat × Nat)} (h : (e.tok sz p).st.tk i = some s) : (i = e.st.nt ∧ s = sz) ∨ (i ≠ e.st.nt ∧ e.st.tk i = some s) := by
  simp only [E.tok, St.newTk] at h
  split at h
  · exact .inl ⟨‹_›, (Option.some.inj h).symm⟩
  · exact .inr ⟨‹_›, h⟩
theorem Ext.tok {W0 : World} {B : Nat} {e : E} (hr : Rel W0 B e) (sz : Nat) (p : Option (Nat × Nat)) : Ext e (e.tok sz p) := by
  refine ⟨Nat.le_refl _, Nat.le_succ _, fun _ _ => rfl, fun _ _ o h => ⟨o, h⟩, fun t ht => ?_, fun i hi s h => ?_, fun _ => Nat.le_refl _, fun b c ty fz h => ⟨c, fz, h, rfl, fun _ _ => rfl⟩⟩
  · simp only [E.tok]; rw [if_neg (by omega)]
  · rcases tok_tk h with ⟨g, _⟩ | ⟨_, g⟩
    · omega
    · exact g
theorem Rel.tok {W0 : World} {B : Nat} {e : E} (h : Rel W0 B e) (sz : Nat) (p : Option (Nat × Nat))
    (hp : ∀ b k, p = some (b, k) → B ≤ b ∧ e.fr b = k ∧ (∃ c ty fz, e.w.heap[b]? = some (.cells c ty fz) ∧ unfz c fz k) ∧ (∀ t s k', e.st.tk t = some s → e.τ t ≠ some (b, k')) ∧ (∀ id o, e.st.ob id = some o → e.σ id ≠ b)) : Rel W0 B (e.tok sz p) := by
  have X := Ext.tok h sz p
  have hnt : ∀ s, e.st.tk e.st.nt ≠ some s := fun s hs => by have := h.tkn _ _ hs; omega
  have hτ : ∀ i, i ≠ e.st.nt → (e.tok sz p).τ i = e.τ i := fun i hi => by simp [E.tok, hi]
  have hτn : (e.tok sz p).τ e.st.nt = p := by simp [E.tok]
  refine ⟨h.below, h.hB, fun id cs ho => ?_, fun id es ho => ?_, h.live, h.inj, fun i s hs => ?_, fun i s b k hs hq => ?_, fun i j s s' b k k' h1 h2 h3 h4 => ?_, fun i s b k id o h1 h2 h3 => ?_, h.frs, h.frn⟩
  · obtain ⟨a, b, c, ty, fz, d, f, g, k, kb⟩ := h.cells id cs ho; exact ⟨a, b, c, ty, fz, d, f, g, k.mono X, kb⟩
  · obtain ⟨a, ents, clock, b, c, d⟩ := h.maps id es ho; exact ⟨a, ents, clock, b, c.mono X, d.1.mono X, d.2⟩
  · rcases tok_tk hs with ⟨g, _⟩ | ⟨_, g⟩
    · rw [g]; exact Nat.lt_succ_self _
    · exact Nat.lt_succ_of_lt (h.tkn _ _ g)
  · rcases tok_tk hs with ⟨rfl, _⟩ | ⟨g0, g⟩
    · rw [hτn] at hq
      obtain ⟨a1, a2, a3, _⟩ := hp b k hq
      exact ⟨a1, a2, a3⟩
    · rw [hτ i g0] at hq; exact h.toks i s b k g hq
  · rcases tok_tk h1 with ⟨rfl, _⟩ | ⟨g0, g⟩ <;> rcases tok_tk h2 with ⟨rfl, _⟩ | ⟨f0, f⟩
    · rfl
    · rw [hτn] at h3; rw [hτ j f0] at h4
      exact absurd h4 ((hp b k h3).2.2.2.1 j s' k' f)
    · rw [hτn] at h4; rw [hτ i g0] at h3
      exact absurd h3 ((hp b k' h4).2.2.2.1 i s k g)
    · rw [hτ i g0] at h3; rw [hτ j f0] at h4
      exact h.tinj i j s s' b k k' g f h3 h4
  · rcases tok_tk h1 with ⟨rfl, _⟩ | ⟨g0, g⟩
    · rw [hτn] at h2; exact (hp b k h2).2.2.2.2 id o h3
    · rw [hτ i g0] at h2; exact h.tob i s b k id o g h2 h3

/-- Cells behind the frontier of a block that nothing owns are written; the frontier is behind them. -/
def E.raise (e : E) (b k : Nat) (x : Obj) : E := { e with w := setBlk e.w b x, fr := fun j => if j = b then k else e.fr j }
theorem Ext.raise {e : E} {b k : Nat} {c c' : Array Value} {ty : TypeId} {fz : Nat × Nat} (hb : e.w.heap[b]? = some (.cells c ty fz)) (hk : e.fr b ≤ k) (hsz : c'.size = c.size) (hs : ∀ i, i < e.fr b → c'[i]? = c[i]?) : Ext e (e.raise b k (.cells c' ty fz)) := by
  refine ⟨Nat.le_refl _, Nat.le_refl _, fun _ _ => rfl, fun _ _ o h => ⟨o, h⟩, fun _ _ => rfl, fun _ _ _ h => h, fun j => ?_, fun j c1 ty1 fz1 hj => ?_⟩
  · simp only [E.raise]; split
    · rename_i hj; subst hj; exact hk
    · exact Nat.le_refl _
  · by_cases hjb : j = b
    · subst hjb
      rw [hb] at hj; cases hj
      exact ⟨c', fz, setBlk_here hb, hsz, hs⟩
    · exact ⟨c1, fz1, (setBlk_other hjb).trans hj, rfl, fun _ _ => rfl⟩
theorem Rel.raise {W0 : World} {B : Nat} {e : E} (h : Rel W0 B e) {b k : Nat} {c c' : Array Value} {ty : TypeId} {fz : Nat × Nat} (hb : e.w.heap[b]? = some (.cells c ty fz)) (hk : e.fr b ≤ k) (hsz : c'.size = c.size) (hs : ∀ i, i < e.fr b → c'[i]? = c[i]?)
    (hB : B ≤ b) (hkc : k ≤ c.size) (h1 : ∀ t s k', e.st.tk t = some s → e.τ t ≠ some (b, k')) (h2 : ∀ id o, e.st.ob id = some o → e.σ id ≠ b) : Rel W0 B (e.raise b k (.cells c' ty fz)) := by
  have X := Ext.raise hb hk hsz hs
  have hfr : ∀ j, j ≠ b → (e.raise b k (.cells c' ty fz)).fr j = e.fr j := fun j hj => by simp [E.raise, hj]
  refine ⟨⟨h.below.os, h.below.tape, h.below.output, by simp only [E.raise, setBlk_size]; exact h.below.size, fun j hj => (setBlk_other (by omega)).trans (h.below.block j hj)⟩, h.hB, fun id cs ho => ?_, fun id es ho => ?_, fun id o ho => ?_, h.inj, h.tkn, fun t s j kk ht hτ => ?_, h.tinj, h.tob, fun j c1 ty1 fz1 hj => ?_, fun j hj => ?_⟩
  · obtain ⟨a, b', c, ty, fz, d, f, g, k, kb⟩ := h.cells id cs ho; exact ⟨a, b', c, ty, fz, (setBlk_other (h2 id _ ho)).trans d, f, g, k.mono X, kb⟩
  · obtain ⟨a, ents, clock, b', c, d⟩ := h.maps id es ho; exact ⟨a, ents, clock, (setBlk_other (h2 id _ ho)).trans b', c.mono X, d.1.mono X, d.2⟩
  · exact ⟨(h.live id o ho).1, (hfr _ (h2 id o ho)).trans (h.live id o ho).2⟩
  · have hjb : j ≠ b := fun e1 => h1 t s kk ht (e1 ▸ hτ)
    obtain ⟨a, b', c, ty, fz, d, f⟩ := h.toks t s j kk ht hτ
    exact ⟨a, (hfr j hjb).trans b', c, ty, fz, (setBlk_other hjb).trans d, f⟩
  · by_cases hjb : j = b
    · subst hjb
      simp only [E.raise] at hj ⊢
      rw [setBlk_here hb] at hj; cases hj
      simp; omega
    · rw [hfr j hjb]
      simp only [E.raise] at hj; rw [setBlk_other hjb] at hj; exact h.frs j c1 ty1 fz1 hj
  · simp only [E.raise, setBlk_size] at hj
    have : j ≠ b := by have := (Array.getElem?_eq_some_iff.mp hb).1; omega
    rw [hfr j this]; exact h.frn j hj

/-- An object is forgotten. -/
def E.drop (e : E) (id : Nat) : E := { e with st := e.st.del id }
theorem drop_ob {e : E} {id i : Nat} {o : Ob} (h : (e.drop id).st.ob i = some o) : i ≠ id ∧ e.st.ob i = some o := by
  simp only [E.drop, St.del] at h
  split at h
  · cases h
  · exact ⟨‹_›, h⟩
theorem Ext.drop (e : E) (id : Nat) : Ext e (e.drop id) :=
  ⟨Nat.le_refl _, Nat.le_refl _, fun _ _ => rfl, fun _ _ o h => ⟨o, (drop_ob h).2⟩, fun _ _ => rfl, fun _ _ _ h => h, fun _ => Nat.le_refl _, fun b c ty fz h => ⟨c, fz, h, rfl, fun _ _ => rfl⟩⟩
theorem Rel.drop {W0 : World} {B : Nat} {e : E} (h : Rel W0 B e) (id : Nat) : Rel W0 B (e.drop id) := by
  have X := Ext.drop e id
  refine ⟨h.below, h.hB, fun i cs ho => ?_, fun i es ho => ?_, fun i o ho => h.live i o (drop_ob ho).2, fun i j o o' h1 h2 => h.inj i j o o' (drop_ob h1).2 (drop_ob h2).2, h.tkn, h.toks, h.tinj, fun t s b k i o h1 h2 h3 => h.tob t s b k i o h1 h2 (drop_ob h3).2, h.frs, h.frn⟩
  · obtain ⟨a, b, c, ty, fz, d, f, g, k, kb⟩ := h.cells i cs (drop_ob ho).2; exact ⟨a, b, c, ty, fz, d, f, g, k.mono X, kb⟩
  · obtain ⟨a, ents, clock, b, c, d⟩ := h.maps i es (drop_ob ho).2; exact ⟨a, ents, clock, b, c.mono X, d.1.mono X, d.2⟩

/-- What is appended. -/
def elemsOf (ty : Nat) (sz : Nat) (x : V) (st : St) : Option (List V) :=
  match x with
  | .lst l _ => if ty = 5 ∧ szok sz l then some l else none
  | .str s => if ty = 3 ∧ sz = 1 then some (s.map fun b => .int .u8 b.toNat) else none
  | .sl id off len sz' => (match st.ob id with
    | some (.cells cs) => if ty = 5 ∧ sz' = 1 ∧ sz = 1 ∧ off + len ≤ cs.length ∧ ((cs.drop off).take len).all V.one = true then some ((cs.drop off).take len) else none
    | _ => none)
  | _ => none

structure News (P : Program) (e : E) (sz : Nat) (x' : Value) (new : List V) (news : List Value) : Prop where
  len : ∀ w2 : World, (Builtin.lenOf x').run P w2 = .ok new.length w2
  run : ∀ w2 : World, w2.heap = e.w.heap → (Builtin.firstCells sz new.length x').run P w2 = .ok news.toArray w2
  size : news.length = new.length * sz
  rs : Rs e (flat new) news
  sz : ∀ v ∈ new, v.cells.length = sz
  one : ∀ v ∈ flat new, v.one = true

theorem flat_ones {l : List V} (h : ∀ v ∈ l, v.one = true) : flat l = l ∧ ∀ v ∈ l, v.cells.length = 1 := by
  have hc : ∀ v : V, v.one = true → v.cells = [v] := by intro v hv; cases v <;> first | rfl | cases hv
  constructor
  · induction l with
    | nil => rfl
    | cons v l ih =>
      rw [show flat (v :: l) = v.cells ++ flat l from rfl, hc v (h v (by simp)), ih (fun x hx => h x (List.mem_cons_of_mem _ hx))]; rfl
  · intro v hv; rw [hc v (h v hv)]; rfl

theorem ints_rs (e : E) : ∀ s : List UInt8, Rs e (s.map fun b => V.int .u8 b.toNat) (s.map fun b => Value.int .u8 b.toNat)
  | [] => .nil
  | b :: s => .int _ _ (ints_rs e s)

theorem elemsOf_sound {P : Program} {W0 : World} {B : Nat} {e : E} {ty sz : Nat} {x : V} {x' : Value} {new : List V} (h : elemsOf ty sz x e.st = some new) (hr : Rel W0 B e) (hx : Rs e [x] [x']) : ∃ news, News P e sz x' new news := by
  unfold elemsOf at h
  split at h
  · rename_i l t
    split at h
    · rename_i hh
      cases h
      cases hx with
      | lst0 _ _ _ => exact ⟨[], fun w2 => by simp [Builtin.lenOf], fun w2 _ => by simp [Builtin.firstCells], by simp, .nil, by simp, by simp [flat]⟩
      | lste _ ad _ _ => exact ⟨[], fun w2 => by simp [Builtin.lenOf], fun w2 _ => by simp [Builtin.firstCells, loadCells, loadCellsFrom], by simp, .nil, by simp, by simp [flat]⟩
      | lst _ _ len cap b o sz' c ty2 fz hlen hcap hb hsz ho hf hc hx1 ht1 _ =>
        subst hlen
        have hfs := hr.frs b c ty2 fz hb
        have hs0 : new.length * sz' = new.length * sz := by
          rcases szok_eq hh.2 hsz with g | g
          · rw [g]; simp
          · rw [g]
        refine ⟨(c.toList.drop o).take (new.length * sz'), fun w2 => by simp [Builtin.lenOf], fun w2 hw => ?_, ?_, hc, ?_, ho⟩
        · have := loadCells_run (P := P) (w := w2) (n := new.length * sz') (by rw [hw]; exact hb) (show o + new.length * sz' ≤ c.size by omega)
          simp only [Builtin.firstCells]
          rw [← hs0]; exact this
        · simp; omega
        · intro v hv
          rcases szok_eq hh.2 hsz with g | g
          · rw [g] at hv; cases hv
          · rw [← g]; exact hsz v hv
    · cases h
  · rename_i s
    split at h
    · rename_i hh
      cases h
      cases hx with
      | str _ _ =>
        obtain ⟨_, rfl⟩ := hh
        have hz : (⟨s.toArray⟩ : ByteArray).size = s.length := by show s.toArray.size = s.length; simp
        have hone : ∀ v ∈ (s.map fun b => V.int .u8 b.toNat), v.one = true := by
          intro v hv; obtain ⟨b, _, rfl⟩ := List.mem_map.mp hv; rfl
        obtain ⟨f1, f2⟩ := flat_ones hone
        refine ⟨s.map fun b => Value.int .u8 b.toNat, fun w2 => ?_, fun w2 _ => ?_, by simp, by rw [f1]; exact ints_rs e s, f2, by rw [f1]; exact hone⟩
        · simp only [Builtin.lenOf, Sem.run_pure, hz, List.length_map]
        · simp only [Builtin.firstCells, Sem.run_pure, List.length_map]
          rw [extract_str]
          congr 1
          simp
    · cases h
  · rename_i id off len sz'
    split at h
    · rename_i cs hcs
      split at h
      · rename_i hh
        obtain ⟨_, rfl, rfl, h4, h5⟩ := hh
        cases h
        obtain ⟨_, ho, c, ty2, fz, hb, _, hle, hc, _⟩ := hr.cells id cs hcs
        have hone : ∀ v ∈ (cs.drop off).take len, v.one = true := List.all_eq_true.1 h5
        obtain ⟨f1, f2⟩ := flat_ones hone
        have hl : ((cs.drop off).take len).length = len := by simp; omega
        cases hx with
        | sl _ _ _ _ cap a hn hcap hl2 _ =>
          by_cases h0 : 0 < cap
          · obtain ⟨rfl, _⟩ := hl2 _ hcs h0
            refine ⟨(c.toList.drop off).take len, fun w2 => by rw [hl]; simp [Builtin.lenOf], fun w2 hw => ?_, by rw [hl]; simp; omega, ?_, f2, by rw [f1]; exact hone⟩
            · have := loadCells_run (P := P) (w := w2) (n := len) (by rw [hw]; exact hb) (show off + len ≤ c.size by omega)
              simp only [Builtin.firstCells]
              rw [hl, Nat.mul_one]; exact this
            · rw [f1]
              have := (hc.drop off).take len
              rw [List.drop_take, List.take_take, Nat.min_eq_left (by omega)] at this
              exact this
          · have hlen : len = 0 := by omega
            subst hlen
            refine ⟨[], fun w2 => by simp [Builtin.lenOf], fun w2 hw => ?_, by simp, by simp [flat]; exact .nil, by simp, by simp [flat]⟩
            simp [Builtin.firstCells, loadCells, loadCellsFrom]
      · cases h
    · cases h
  · cases h

def A.app (sz : Nat) (s : V) (new : Option (List V)) (st : St) (K : V → St → Res) : Res :=
  match new with
  | some new => (match s with
    | .lst l t =>
      if l.length + new.length ≤ 1073741824 ∧ szok sz l then
        (match t with
         | 0 => none
         | 1 => K (.lst (l ++ new) (st.nt + 3)) (st.newTk sz)
         | 2 => K (.lst (l ++ new) (st.nt + 3)) (st.newTk sz)
         | t + 3 => if st.tk t = some sz then K (.lst (l ++ new) (st.nt + 3)) ((st.delTk t).newTk sz) else none)
      else none
    | _ => none)
  | none => none
/-- .. as an object whose elements may be written. -/
def A.appM (sz : Nat) (s : V) (new : Option (List V)) (st : St) (K : V → St → Res) : Res :=
  match new with
  | some new => (match s with
    | .lst l t => if l.length + new.length ≤ 1073741824 ∧ szok sz l ∧ (t = 1 ∨ t = 2) ∧ new ≠ [] then K (.sl st.n 0 (l.length + new.length) sz) (st.new (.cells (flat l ++ flat new))) else none
    | .sl id off len sz' => (match st.ob id with
      | some (.cells cs) => if len + new.length ≤ 1073741824 ∧ off = 0 ∧ sz' = sz ∧ len * sz ≤ cs.length ∧ (0 < len ∨ new ≠ []) ∧ (cs.take (len * sz)).all V.one = true then K (.sl st.n 0 (len + new.length) sz) ((st.del id).new (.cells (cs.take (len * sz) ++ flat new))) else none
      | _ => none)
    | _ => none)
  | none => none

/-- What the model's append does: there is room. -/
theorem app_in {P : Program} {w : World} {t u ty x0 : TypeId} {i : TypeInfo} {base : Option Addr} {n m cap : Nat} {x' : Value} {news : List Value} (hs : sle P t = some x0) (hi : P.info? x0 = some i) (hu : known P u = true) (hu2 : tk P u ≠ 2)
    (hl : (Builtin.lenOf x').run P w = .ok m w) (hf : (Builtin.firstCells i.size m x').run P w = .ok news.toArray w) (hc : n + m ≤ cap) :
    (Builtin.append_ #[t, u] ty #[.slice base n cap, x']).run P w = (match base with | some a => (storeCells (a.add (n * i.size)) news).run P w | none => .ok () w).andThen fun _ w' => .ok (.slice base (n + m) cap) w' := by
  obtain ⟨d, hd⟩ := known_under hu
  have hint : ∀ k, d ≠ .int k := by intro k hk; subst hk; exact hu2 (by simp [tk, hd])
  have hmatch : (match d with | .int _ => true | _ => false) = false := by cases d <;> first | rfl | exact absurd rfl (hint _)
  have h1 := run_under (P := P) (sle_some hs) w
  have h2 := run_under (P := P) hd w
  unfold Builtin.append_
  simp only [List.getElem?_toArray, List.getElem?_cons_zero, List.getElem?_cons_succ, Sem.run_bind, h1, h2, Result.andThen, sizeOf_run hi, Sem.run_pure, hl, hmatch]
  simp only [Bool.false_eq_true, if_false, Sem.run_pure, hl, Result.andThen, Bool.not_false, if_true, if_pos hc, Sem.run_bind, hf]
  cases base with
  | none => simp [Result.andThen]
  | some a => simp [Result.andThen]

/-- There is none: a new row. -/
theorem app_out {P : Program} {w : World} {t u ty x0 : TypeId} {i : TypeInfo} {z : Value} {base : Option Addr} {n m cap : Nat} {x' : Value} {olds news : List Value} (hs : sle P t = some x0) (hi : P.info? x0 = some i) (hz : i.zero = some z) (hu : known P u = true) (hu2 : tk P u ≠ 2)
    (hl : (Builtin.lenOf x').run P w = .ok m w) (hf : (Builtin.firstCells i.size m x').run P w.drew = .ok news.toArray w.drew) (ho : (Builtin.firstCells i.size n (.slice base n cap)).run P w.drew = .ok olds.toArray w.drew) (hc : cap < n + m) (hn : n + m ≤ 1073741824) (hb : i.bytes ≤ 65536) :
    ∃ c, n + m ≤ c ∧ (Builtin.append_ #[t, u] ty #[.slice base n cap, x']).run P w = .ok (.slice (some ⟨w.heap.size, 0, none⟩) (n + m) c) (w.drew.alloc (.cells (olds.toArray ++ news.toArray ++ Builtin.zeroCells z.cells (c - (n + m))) x0)) := by
  obtain ⟨d, hd⟩ := known_under hu
  have hint : ∀ k, d ≠ .int k := by intro k hk; subst hk; exact hu2 (by simp [tk, hd])
  have hmatch : (match d with | .int _ => true | _ => false) = false := by cases d <;> first | rfl | exact absurd rfl (hint _)
  have h1 := run_under (P := P) (sle_some hs) w
  have h2 := run_under (P := P) hd w
  have hnb : (n + m) * i.bytes ≤ 1073741824 * 65536 := Nat.mul_le_mul hn hb
  have hfit : ¬ (Builtin.nextslicecap (n + m) cap * i.bytes > 2 ^ 48) := by
    have := growslice_fits hc (show (n + m) * i.bytes ≤ 140737488355328 by omega); omega
  have h63 : ¬ (((n + m : Nat) : Int) > IntKind.i64.max ∧ (False ∨ i.bytes = 0)) := by
    simp only [IntKind.max, IntKind.signed, IntKind.bits]; simp; omega
  refine ⟨grownCap w (n + m) cap x0, ?_, ?_⟩
  · simp only [grownCap, Question.cut]; exact Nat.le_add_right _ _
  · unfold Builtin.append_
    simp only [List.getElem?_toArray, List.getElem?_cons_zero, List.getElem?_cons_succ, Sem.run_bind, h1, h2, Result.andThen, sizeOf_run hi, Sem.run_pure, hl, hmatch, typeInfo, run_program, hi]
    simp only [Bool.false_eq_true, if_false, Sem.run_pure, hl, Result.andThen, Bool.not_false, if_true, if_neg (show ¬ (n + m ≤ cap) by omega), Sem.run_bind, typeInfo, run_program, hi, if_neg h63, if_neg hfit, Sem.run_ite, run_choose, Question.forced, run_askRoom, zeroValue, hz, newRow, run_newObj]
    simp only [show ({ heap := w.heap, tape := w.tape, drawn := w.drawn + 1, os := w.os, output := w.output } : World) = w.drew from rfl, ho, hf]
    rfl
end Go.Ab

/- Append, proved. -/
namespace Go.Ab
open Go.RowKit
set_option linter.unusedVariables false
set_option linter.unusedSimpArgs false

theorem szok_all {l : List V} {sz n : Nat} (h : szok n l = true) (hsz : ∀ v ∈ l, v.cells.length = sz) : ∀ v ∈ l, v.cells.length = n := by
  rcases szok_eq h hsz with g | g
  · subst g; simp
  · rw [← g]; exact hsz

/-- The new row, laid; the token over it. -/
theorem app_new {W0 : World} {B : Nat} {e : E} (hr : Rel W0 B e) {l : List V} {sz len cap : Nat} {c : Array Value} {x0 : TypeId} {fz : Nat × Nat} (hu : unfz c fz (len * sz)) (hlen : l.length = len) (hcap : len ≤ cap) (hsz : ∀ v ∈ l, v.cells.length = sz) (ho : ∀ v ∈ flat l, v.one = true)
    (hc : cap * sz ≤ c.size) (hrs : Rs e (flat l) (c.toList.take (len * sz))) :
    ∃ e', e'.st = e.st.newTk sz ∧ e'.w = { e.w with heap := e.w.heap.push (.cells c x0 fz) } ∧ Ext e e' ∧ Rel W0 B e' ∧ Rs e' [.lst l (e.st.nt + 3)] [.slice (some ⟨e.w.heap.size, 0, none⟩) len cap] := by
  have hle : len * sz ≤ c.size := Nat.le_trans (Nat.mul_le_mul_right _ hcap) hc
  have X1 := Ext.lay e (.cells c x0 fz) (len * sz) (hr.frn _ (Nat.le_refl _))
  have R1 := hr.lay c x0 fz (len * sz) hle
  have hpush : (e.lay (.cells c x0 fz) (len * sz)).w.heap[e.w.heap.size]? = some (.cells c x0 fz) := by
    show (e.w.heap.push _)[e.w.heap.size]? = _; rw [Array.getElem?_push, if_pos rfl]
  have hfr : (e.lay (.cells c x0 fz) (len * sz)).fr e.w.heap.size = len * sz := by simp [E.lay]
  have X2 := Ext.tok R1 sz (some (e.w.heap.size, len * sz))
  have hlt : ∀ id o', e.st.ob id = some o' → e.σ id < e.w.heap.size := by
    intro id o' ho'
    cases o' with
    | cells cs => obtain ⟨_, _, c, ty, fz, d, _⟩ := hr.cells id cs ho'; exact (Array.getElem?_eq_some_iff.mp d).1
    | map es => obtain ⟨_, ents, clock, d, _⟩ := hr.maps id es ho'; exact (Array.getElem?_eq_some_iff.mp d).1
  have R2 := R1.tok sz (some (e.w.heap.size, len * sz)) (by
    intro b k hp; cases hp
    refine ⟨Nat.le_trans hr.hB hr.below.size, hfr, ⟨c, x0, fz, hpush, hu⟩, ?_, ?_⟩
    · intro t s k' ht hτ
      obtain ⟨_, _, c', ty, fz, d, _⟩ := hr.toks t s _ _ ht hτ
      have := (Array.getElem?_eq_some_iff.mp d).1; omega
    · intro id o hid he
      have := hlt id o hid
      have he' : e.σ id = e.w.heap.size := he
      omega)
  refine ⟨_, rfl, rfl, X1.trans X2, R2, ?_⟩
  refine .lst l _ len cap e.w.heap.size 0 sz c x0 fz hlen hcap hpush hsz ho (by rw [Nat.zero_add]; exact Nat.le_of_eq hfr.symm) ?_ (by omega) ?_ .nil
  · rw [List.drop_zero]; exact hrs.mono (X1.trans X2)
  · intro _
    refine ⟨Nat.lt_succ_self _, fun s hs hlt => ?_⟩
    have h1 : s = sz := by
      rcases tok_tk hs with ⟨_, g⟩ | ⟨g, _⟩
      · exact g
      · exact absurd rfl g
    refine ⟨h1, ?_, by rw [Nat.zero_add]; exact hc⟩
    show (if e.st.nt = e.st.nt then some (e.w.heap.size, len * sz) else _) = _
    rw [if_pos rfl, Nat.zero_add]

/-- No room behind the value, or none that matters: a token that gives nothing. -/
theorem app_same {W0 : World} {B : Nat} {e : E} (hr : Rel W0 B e) (sz : Nat) : Ext e (e.tok sz none) ∧ Rel W0 B (e.tok sz none) := ⟨Ext.tok hr sz none, hr.tok sz none (by intro b k h; cases h)⟩

theorem zeroCells_size (zero : Array Value) (n : Nat) : (Builtin.zeroCells zero n).size = n * zero.size := by simp [Builtin.zeroCells]

theorem putL_behind {α : Type} (cs : List α) (o k : Nat) (vs : List α) (h : o + k + vs.length ≤ cs.length) : ((putL cs (o + k) vs).drop o).take (k + vs.length) = (cs.drop o).take k ++ vs := by
  rw [putL_eq _ _ _ (by omega)]
  rw [List.append_assoc, List.drop_append_of_le_length (by simp; omega), List.drop_take, show o + k - o = k by omega]
  rw [List.take_append, List.take_of_length_le (by simp; omega), show k + vs.length - ((cs.drop o).take k).length = vs.length by simp; omega, List.take_left]

theorem app_sound {P : Program} {W0 : World} {B : Nat} {e : E} {K : V → St → Res} {r : Out × St} {t u ty x0 : TypeId} {s x : V} {s' x' : Value} {i : TypeInfo} {z : Value} (hs : sle P t = some x0) (hi : P.info? x0 = some i) (hz : i.zero = some z) (hzs : z.cells.size = i.size) (hb : i.bytes ≤ 65536) (hu : known P u = true) (hu2 : tk P u ≠ 2)
    (h : A.app (P.cellsOf x0) s (elemsOf (tk P u) (P.cellsOf x0) x e.st) e.st K = some r) (hr : Rel W0 B e) (hsv : Rs e [s] [s']) (hxv : Rs e [x] [x']) : Step P W0 B e (Builtin.append_ #[t, u] ty #[s', x']) K r := by
  rw [cellsOf_eq hi] at h
  unfold A.app at h
  split at h
  case h_2 => cases h
  rename_i new hnew
  obtain ⟨news, N⟩ := elemsOf_sound (P := P) hnew hr hxv
  split at h
  case h_2 => cases h
  rename_i l tk0
  split at h
  case isFalse => cases h
  rename_i hh
  obtain ⟨hmax, hszl⟩ := hh
  have hN1 := N.len e.w
  have hN2 := N.run e.w rfl
  have hN3 := N.run e.w.drew rfl
  have hrsD : Rel W0 B e.drew := hr.drew
  have arm : ∀ e0 : E, e0.w = e.w → e0.σ = e.σ → e0.τ = e.τ → e0.fr = e.fr → e0.st.ob = e.st.ob → Ext e e0 → Rel W0 B e0 → K (.lst (l ++ new) (e0.st.nt + 3)) (e0.st.newTk i.size) = some r → e0.st.nt = e.st.nt → (∀ t s, e0.st.tk t = some s → e.st.tk t = some s) →
      (∀ t0, tk0 = t0 + 3 → e.st.tk t0 = some i.size ∧ ∀ s, e0.st.tk t0 ≠ some s) → (tk0 = 1 ∨ tk0 = 2 ∨ 3 ≤ tk0) → Step P W0 B e (Builtin.append_ #[t, u] ty #[s', x']) K r := by
    intro e0 hw0 hσ0 hτ0 hfr0 hob0 X0 R0 hK hnt0 htk0 htk hcase
    have outc : ∀ (base : Option Addr) (cap : Nat) (olds : List Value), s' = .slice base l.length cap → l.length ≤ cap → (∀ w2 : World, w2.heap = e.w.heap → (Builtin.firstCells i.size l.length (.slice base l.length cap)).run P w2 = .ok olds.toArray w2) → Rs e (flat l) olds → (∀ v ∈ l, v.cells.length = i.size) → (∀ v ∈ flat l, v.one = true) →
        cap < l.length + new.length → Step P W0 B e (Builtin.append_ #[t, u] ty #[s', x']) K r := by
      intro base cap olds hs' hcap hold hrs hszl2 hol hout
      subst hs'
      obtain ⟨cap2, hcap2, hrun⟩ := app_out (P := P) (ty := ty) hs hi hz hu hu2 hN1 hN3 (hold e.w.drew rfl) hout hmax hb
      have hl1 : olds.length = l.length * i.size := by rw [← hrs.length, flat_length l _ hszl2]
      have hsz3 : (olds.toArray ++ news.toArray ++ Builtin.zeroCells z.cells (cap2 - (l.length + new.length))).size = cap2 * i.size := by
        simp only [Array.size_append, List.size_toArray, hl1, N.size, zeroCells_size, hzs]
        rw [← Nat.add_mul, ← Nat.add_mul]; congr 1; omega
      have hlen3 : (l ++ new).length = l.length + new.length := List.length_append
      have R1 : Rel W0 B e0.drew := R0.drew
      have hrsnew : Rs e0.drew (flat (l ++ new)) ((olds.toArray ++ news.toArray ++ Builtin.zeroCells z.cells (cap2 - (l.length + new.length))).toList.take ((l.length + new.length) * i.size)) := by
        have e1 : (olds.toArray ++ news.toArray ++ Builtin.zeroCells z.cells (cap2 - (l.length + new.length))).toList.take ((l.length + new.length) * i.size) = olds ++ news := by
          simp only [Array.toList_append, List.toList_toArray]
          rw [List.take_append_of_le_length (by simp [hl1, N.size, Nat.add_mul]), List.take_of_length_le (by simp [hl1, N.size, Nat.add_mul])]
        rw [e1, flat_append]
        exact (Rs.append hrs N.rs).mono (X0.trans (Ext.drew e0))
      obtain ⟨e', q1, q2, q3, q4, q5⟩ := app_new R1 (x0 := x0) (fz := (0, 0)) (fun i _ _ => by simp) hlen3 hcap2 (by
        intro v hv; rcases List.mem_append.mp hv with g | g
        · exact hszl2 v g
        · exact N.sz v g) (by
        rw [flat_append]; intro v hv; rcases List.mem_append.mp hv with g | g
        · exact hol v g
        · exact N.one v g) (Nat.le_of_eq hsz3.symm) hrsnew
      refine ⟨_, _, e', ?_, ?_, (X0.trans (Ext.drew e0)).trans q3, q4, q5⟩
      · rw [q1]; exact hK
      · rw [hrun, q2]
        simp only [E.drew, hw0]
        rfl
    cases hsv with
    | lst0 _ _ _ =>
      by_cases hn0 : new.length = 0
      · have hnil : new = [] := List.eq_nil_of_length_eq_zero hn0
        subst hnil
        obtain ⟨X1, R1⟩ := app_same R0 i.size
        refine ⟨_, .slice none 0 0, _, hK, ?_, X0.trans X1, R1, .lst0 _ (fun _ => by simp [E.tok, St.newTk]) .nil⟩
        have := app_in (P := P) (ty := ty) (base := none) (n := 0) (cap := 0) hs hi hu hu2 hN1 hN2 (by simp)
        simp only [Result.andThen] at this
        rw [this]
        show _ = Result.ok _ e0.w
        rw [hw0]; rfl
      · exact outc none 0 [] rfl (Nat.le_refl _) (fun w2 _ => by simp [Builtin.firstCells]) .nil (by simp) (by simp [flat]) (by simp; omega)
    | lste _ ad ht0 _ =>
      by_cases hn0 : new.length = 0
      · have hnil : new = [] := List.eq_nil_of_length_eq_zero hn0
        subst hnil
        have hnews : news = [] := List.eq_nil_of_length_eq_zero (by rw [N.size]; simp)
        subst hnews
        obtain ⟨X1, R1⟩ := app_same R0 i.size
        refine ⟨_, .slice (some ad) 0 0, _, hK, ?_, X0.trans X1, R1, .lste _ ad ⟨by omega, fun _ => by simp [E.tok, St.newTk]⟩ .nil⟩
        have := app_in (P := P) (ty := ty) (base := some ad) (n := 0) (cap := 0) hs hi hu hu2 hN1 hN2 (by simp)
        simp only [Result.andThen] at this
        rw [this]; simp only [storeCells, Sem.run_pure]
        show _ = Result.ok _ e0.w
        rw [hw0]; rfl
      · exact outc (some ad) 0 [] rfl (Nat.le_refl _) (fun w2 _ => by simp [Builtin.firstCells, loadCells, loadCellsFrom]) .nil (by simp) (by simp [flat]) (by simp; omega)
    | lst _ _ len cap b o sz c ty2 fz hlen hcap hbk hsz ho hf hc hx1 ht1 _ =>
      subst hlen
      have hszl2 := szok_all hszl hsz
      have hmul : l.length * sz = l.length * i.size := by
        rcases szok_eq hszl hsz with g | g
        · rw [g]; simp
        · rw [g]
      have hfs := hr.frs b c ty2 fz hbk
      by_cases hin : l.length + new.length ≤ cap
      · have hrunin := app_in (P := P) (ty := ty) (base := some ⟨b, o, none⟩) (n := l.length) (cap := cap) hs hi hu hu2 hN1 hN2 hin
        by_cases hlc : l.length = cap
        · have hnil : new = [] := List.eq_nil_of_length_eq_zero (by omega)
          subst hnil
          have hnews : news = [] := List.eq_nil_of_length_eq_zero (by rw [N.size]; simp)
          subst hnews
          obtain ⟨X1, R1⟩ := app_same R0 i.size
          refine ⟨_, .slice (some ⟨b, o, none⟩) l.length cap, _, hK, ?_, X0.trans X1, R1, ?_⟩
          · rw [hrunin]; simp only [storeCells, Sem.run_pure, Result.andThen]
            show _ = Result.ok _ e0.w
            rw [hw0]; rfl
          · have X := X0.trans X1
            obtain ⟨c', fz', hb', hs', hi'⟩ := X.heap b c ty2 fz hbk
            rw [List.append_nil]
            refine .lst l _ l.length cap b o sz c' ty2 fz' rfl hcap hb' hsz ho (Nat.le_trans hf (X.fr b)) ?_ (by omega) ?_ .nil
            · rw [range_same hf hi']; exact hc.mono X
            · intro _; exact ⟨by simp [E.tok, St.newTk], fun s _ hlt => by omega⟩
        · have h2 : 3 ≤ tk0 := by
            rcases hcase with g | g | g
            · exact (hx1.1 g).elim
            · have := hx1.2 g; omega
            · exact g
          obtain ⟨t0, rfl⟩ : ∃ t0, tk0 = t0 + 3 := ⟨tk0 - 3, by omega⟩
          obtain ⟨g1, g2⟩ := htk t0 rfl
          obtain ⟨p1, p2⟩ := ht1 h2
          obtain ⟨rfl, r2, r3⟩ := p2 _ (by simpa using g1) (by omega)
          simp only [Nat.add_sub_cancel] at r2 p1
          obtain ⟨a1, a2, c1, ty1, fz1, a3, a4⟩ := hr.toks t0 _ _ _ g1 r2
          rw [hbk] at a3; cases a3
          have hmm : (l.length + new.length) * i.size = l.length * i.size + new.length * i.size := Nat.add_mul _ _ _
          have hcapmul : (l.length + new.length) * i.size ≤ cap * i.size := Nat.mul_le_mul_right _ hin
          have hnl := N.size
          have hbk0 : e0.w.heap[b]? = some (.cells c ty2 fz) := by rw [hw0]; exact hbk
          have hk0 : e0.fr b = o + l.length * i.size := by rw [hfr0]; exact a2
          have hpsz := putA_size news c (o + l.length * i.size)
          have hpl : (putA c (o + l.length * i.size) news).toList = putL c.toList (o + l.length * i.size) news := putA_list _ _ _
          have hsame : ∀ j, j < e0.fr b → (putA c (o + l.length * i.size) news)[j]? = c[j]? := by
            intro j hj
            rw [hk0] at hj
            have := putL_get news c.toList (o + l.length * i.size) j hj
            rw [← hpl] at this; simpa using this
          have ntok : ∀ t2 s2 k2, e0.st.tk t2 = some s2 → e0.τ t2 ≠ some (b, k2) := by
            intro t2 s2 k2 ht2 hτ2
            rw [hτ0] at hτ2
            have := hr.tinj t2 t0 _ _ b k2 _ (htk0 _ _ ht2) g1 hτ2 r2
            subst this
            exact g2 _ ht2
          have nob : ∀ id ob, e0.st.ob id = some ob → e0.σ id ≠ b := by
            intro id ob hid
            rw [hob0] at hid; rw [hσ0]
            exact hr.tob t0 _ _ _ id ob g1 r2 hid
          have X1 := Ext.raise (k := o + (l.length + new.length) * i.size) hbk0 (by rw [hk0]; omega) hpsz hsame
          have R1 := R0.raise (k := o + (l.length + new.length) * i.size) hbk0 (by rw [hk0]; omega) hpsz hsame a1 (by omega) ntok nob
          have X2 := Ext.tok R1 i.size (some (b, o + (l.length + new.length) * i.size))
          have R2 := R1.tok i.size (some (b, o + (l.length + new.length) * i.size)) (by
            intro b1 k1 hp; cases hp
            exact ⟨a1, by simp [E.raise], ⟨_, ty2, fz, setBlk_here hbk0, fun j h1 h2 => a4 j (by omega) (by rw [← hpsz]; exact h2)⟩, ntok, nob⟩)
          have X := (X0.trans X1).trans X2
          refine ⟨_, .slice (some ⟨b, o, none⟩) (l.length + new.length) cap, _, hK, ?_, X, R2, ?_⟩
          · rw [hrunin]
            simp only [add_plain]
            have hrun := storeCells_run (P := P) news e.w b (o + l.length * i.size) 0 c ty2 fz hbk (fun j h1 h2 => a4 j (by omega) h2) (by omega) (N.rs.ones N.one)
            rw [Nat.add_zero] at hrun
            rw [hrun]
            simp only [Result.andThen]
            show _ = Result.ok _ (setBlk e0.w b _)
            rw [hw0]
          · refine .lst _ _ _ cap b o i.size _ ty2 fz List.length_append hin (setBlk_here hbk0) ?_ ?_ ?_ ?_ (by omega) ?_ .nil
            · intro v hv; rcases List.mem_append.mp hv with g | g
              · exact hszl2 v g
              · exact N.sz v g
            · rw [flat_append]; intro v hv; rcases List.mem_append.mp hv with g | g
              · exact ho v g
              · exact N.one v g
            · show _ ≤ (if b = b then _ else _); rw [if_pos rfl]; exact Nat.le_refl _
            · have e1 : ((putA c (o + l.length * i.size) news).toList.drop o).take ((l.length + new.length) * i.size) = (c.toList.drop o).take (l.length * i.size) ++ news := by
                rw [hpl, hmm, ← hnl, putL_behind _ _ _ _ (by simp; omega)]
              rw [e1, flat_append]
              exact (Rs.append hc N.rs).mono X
            · intro _
              refine ⟨by simp only [Nat.add_sub_cancel]; exact Nat.lt_succ_self _, fun s hs hlt => ?_⟩
              have h1 : s = i.size := by
                rcases tok_tk hs with ⟨_, g⟩ | ⟨g, _⟩
                · exact g
                · exact absurd rfl g
              refine ⟨h1, ?_, by rw [hpsz]; exact r3⟩
              show (if e0.st.nt = e0.st.nt then some _ else _) = _
              rw [if_pos rfl]
      · refine outc (some ⟨b, o, none⟩) cap ((c.toList.drop o).take (l.length * i.size)) rfl hcap (fun w2 hw2 => ?_) (by rw [← hmul]; exact hc) hszl2 ho (by omega)
        have := loadCells_run (P := P) (w := w2) (n := l.length * i.size) (by rw [hw2]; exact hbk) (show o + l.length * i.size ≤ c.size by omega)
        simp only [Builtin.firstCells]; exact this
  split at h
  · cases h
  · exact arm e rfl rfl rfl rfl rfl (Ext.refl e) hr h rfl (fun _ _ h => h) (by intro t0 h0; omega) (.inl rfl)
  · exact arm e rfl rfl rfl rfl rfl (Ext.refl e) hr h rfl (fun _ _ h => h) (by intro t0 h0; omega) (.inr (.inl rfl))
  · rename_i t0
    split at h
    · rename_i htk
      exact arm (e.kill t0) rfl rfl rfl rfl rfl (Ext.kill e t0) (hr.kill t0) h rfl (fun t s hs => (kill_tk hs).2) (by
        intro t1 h1
        have : t1 = t0 := by omega
        subst this
        exact ⟨htk, fun s hs => (kill_tk hs).1 rfl⟩) (.inr (.inr (by omega)))
    · cases h
end Go.Ab

/- Values that are built; conversions. -/
namespace Go.Ab
open Go.RowKit
set_option linter.unusedVariables false
set_option linter.unusedSimpArgs false

def All2 {α β : Type} (R : α → β → Prop) : List α → List β → Prop
  | [], [] => True
  | a :: as, b :: bs => R a b ∧ All2 R as bs
  | _, _ => False

/-- Parts are put into cells: (place, size, value). -/
def fillP : List V → List (Nat × Nat × V) → Option (List V)
  | cs, [] => some cs
  | cs, (off, size, v) :: rest => if v.cells.length = size ∧ off + size ≤ cs.length then fillP (putL cs off v.cells) rest else none

theorem foldl_put (vs : List Value) : ∀ (cs : Array Value) (off k : Nat), (vs.toArray.zipIdx k).foldl (fun cs (p : Value × Nat) => cs.setIfInBounds (off + p.2) p.1) cs = putA cs (off + k) vs := by
  intro cs off k
  rw [← Array.foldl_toList]
  simp only [Array.toList_zipIdx, List.toList_toArray]
  induction vs generalizing cs k with
  | nil => rfl
  | cons v vs ih => simp only [List.zipIdx_cons, List.foldl_cons, putA]; rw [ih]; rfl

theorem fill_sound {e : E} (place : Nat → Option (Nat × Nat)) : ∀ (parts : List (Nat × Value)) (ps : List (Nat × Nat × V)) (cs cs2 : List V) (c : Array Value), fillP cs ps = some cs2 → Rs e cs c.toList →
    (All2 (fun (p : Nat × Value) (q : Nat × Nat × V) => place p.1 = some (q.1, q.2.1) ∧ Rs e [q.2.2] [p.2]) parts ps) → ∃ c2, Instr.fill place c parts = some c2 ∧ Rs e cs2 c2.toList := by
  intro parts
  induction parts with
  | nil =>
    intro ps cs cs2 c h hc hp
    cases ps with
    | cons _ _ => exact hp.elim
    | nil =>
    cases h
    exact ⟨c, rfl, hc⟩
  | cons p parts ih =>
    intro ps cs cs2 c h hc hp
    cases ps with
    | nil => exact hp.elim
    | cons q qs =>
    obtain ⟨h1, h2⟩ := hp
    obtain ⟨i, v'⟩ := p
    obtain ⟨off, size, v⟩ := q
    obtain ⟨hp1, hv⟩ := h1
    simp only at hp1 hv
    unfold fillP at h
    split at h
    · rename_i hh
      have hvc := hv.cells
      have hvl : v.cells.length = v'.cells.size := by simpa using hvc.length
      have hcl := hc.length
      simp only [Array.length_toList] at hcl
      have hnew : Rs e (putL cs off v.cells) (putA c off v'.cells.toList).toList := by rw [putA_list]; exact Rs.putL off hc hvc
      obtain ⟨c2, g1, g2⟩ := ih qs _ cs2 _ h hnew h2
      refine ⟨c2, ?_, g2⟩
      unfold Instr.fill
      simp only [hp1]
      rw [if_neg (by simp; omega)]
      have := foldl_put v'.cells.toList c off 0
      simp only [Nat.add_zero, Array.toArray_toList] at this
      rw [← this] at g1
      exact g1
    · cases h

def A.build (zs : List V) (ps : List (Nat × Nat × V)) (K : V → Res) : Res :=
  match fillP zs ps with
  | some cs => if cs.all V.one then K (.agg cs) else none
  | none => none

/-- The places of a struct's or an array's parts. -/
def placeOf (P : Program) (t : TypeId) (i : Nat) : Option (Nat × Nat) :=
  match P.underlying t with
  | some (.struct fs) => (fs[i]?).map fun f => (f.offset, P.cellsOf f.type)
  | some (.array _ x) => some (i * P.cellsOf x, P.cellsOf x)
  | _ => none
/-- All types of a struct's or an array's parts are known. -/
def partsKnown (P : Program) (t : TypeId) : Bool :=
  match P.underlying t with
  | some (.struct fs) => fs.all fun f => (P.info? f.type).isSome
  | some (.array _ x) => (P.info? x).isSome
  | _ => false

theorem mapM_places {P : Program} (w : World) : ∀ (fs : List Field), (∀ f ∈ fs, (P.info? f.type).isSome = true) →
    (fs.mapM fun f => (do Pure.pure (f.offset, ← Go.sizeOf f.type) : Sem (Nat × Nat))).run P w = .ok (fs.map fun f => (f.offset, P.cellsOf f.type)) w
  | [], _ => by simp
  | f :: fs, h => by
    obtain ⟨i, hi⟩ := Option.isSome_iff_exists.mp (h f (by simp))
    have ih := mapM_places w fs (fun x hx => h x (List.mem_cons_of_mem _ hx))
    simp only [List.mapM_cons, Sem.run_bind, sizeOf_run hi, Result.andThen, Sem.run_pure, ih, List.map_cons, cellsOf_eq hi]

theorem build_sound {P : Program} {W0 : World} {B : Nat} {e : E} {K : V → St → Res} {r : Out × St} {t : TypeId} {parts : Array (Nat × Value)} {zs : V} {ps : List (Nat × Nat × V)} (hz : zeroV P t = some zs) (hk : partsKnown P t = true)
    (h : A.build zs.cells ps (fun v => K v e.st) = some r) (hr : Rel W0 B e) (hp : All2 (fun (p : Nat × Value) (q : Nat × Nat × V) => placeOf P t p.1 = some (q.1, q.2.1) ∧ Rs e [q.2.2] [p.2]) parts.toList ps) : Step P W0 B e (Instr.build t parts) K r := by
  obtain ⟨i, z, hi, hiz, hc⟩ := zeroV_some hz
  have hzr := (constV_sound e hc).cells
  unfold A.build at h
  split at h
  · rename_i cs hcs
    split at h
    · rename_i ho
      obtain ⟨c2, g1, g2⟩ := fill_sound (placeOf P t) parts.toList ps _ cs _ hcs hzr hp
      refine Step.pure hr h (v' := .agg c2) ?_ (.agg _ _ (by simpa using ho) g2 .nil)
      unfold partsKnown at hk
      split at hk
      · rename_i fs hs
        have hm := mapM_places (P := P) e.w fs.toList (by intro f hf; exact Array.all_eq_true'.mp hk f (by simpa using hf))
        have hpl : (fun x => (fs.toList.map fun f => (f.offset, P.cellsOf f.type)).toArray[x]?) = placeOf P t := by
          funext j; simp only [placeOf, hs]; simp
        simp only [Instr.build, zeroValue, typeInfo, Sem.run_bind, run_program, Result.andThen, hi, Sem.run_pure, hiz, run_under hs, Array.mapM_eq_mapM_toList, Sem.run_map, hm]
        rw [hpl, g1]
        rfl
      · rename_i n x hs
        obtain ⟨ix, hix⟩ := Option.isSome_iff_exists.mp hk
        have hpl : (fun j => some (j * ix.size, ix.size)) = placeOf P t := by
          funext j; simp only [placeOf, hs, cellsOf_eq hix]
        simp only [Instr.build, zeroValue, typeInfo, Sem.run_bind, run_program, Result.andThen, hi, Sem.run_pure, hiz, run_under hs, sizeOf_run hix]
        rw [hpl, g1]
        rfl
      · cases hk
    · cases h
  · cases h

/-- A literal slice: elements at their places. -/
def setP (sz : Nat) : List V → List (Nat × V) → Option (List V)
  | l, [] => some l
  | l, (i, v) :: rest => if v.cells.length = sz ∧ i < l.length ∧ v.cells.all V.one then setP sz (l.set i v.er) rest else none
def A.bslice (sz : Nat) (z : V) (len : Nat) (ps : List (Nat × V)) (K : V → Res) : Res :=
  match setP sz (List.replicate len z) ps with
  | some l => if z.cells.length = sz ∧ len * sz ≤ 16777216 ∧ 0 < sz ∧ z.cells.all V.one then K (.lst l 2) else none
  | none => none

theorem er_cells (v : V) : v.er.cells.length = v.cells.length ∧ ((∀ x ∈ v.cells, x.one = true) → ∀ x ∈ v.er.cells, x.one = true) := by
  cases v <;> first | exact ⟨rfl, fun h => h⟩ | exact ⟨by simp [V.er, V.cells], fun h => ones_er0 h⟩ | exact ⟨rfl, by simp [V.er, V.cells, V.one]⟩

theorem flat_set (l : List V) (sz i : Nat) (v : V) (h : ∀ v ∈ l, v.cells.length = sz) (hi : i < l.length) (hv : v.cells.length = sz) : flat (l.set i v) = putL (flat l) (i * sz) v.cells := by
  rw [putL_eq _ _ _ (by
    rw [flat_length l sz h, hv]
    have := Nat.mul_le_mul_right sz (show i + 1 ≤ l.length by omega)
    rw [Nat.succ_mul] at this; omega), hv]
  rw [flat_take l sz h, show i * sz + sz = (i + 1) * sz by rw [Nat.succ_mul], flat_drop l sz h]
  rw [List.set_eq_take_append_cons_drop, if_pos hi, flat_append]
  rw [show flat (v :: l.drop (i + 1)) = v.cells ++ flat (l.drop (i + 1)) from rfl, List.append_assoc]

theorem setP_sound {e : E} (sz : Nat) : ∀ (parts : List (Nat × Value)) (ps : List (Nat × V)) (l l2 : List V) (c : Array Value), setP sz l ps = some l2 → Rs e (flat l) c.toList → (∀ v ∈ l, v.cells.length = sz) → (∀ v ∈ flat l, v.one = true) →
    (All2 (fun (p : Nat × Value) (q : Nat × V) => p.1 = q.1 ∧ Rs e [q.2] [p.2]) parts ps) → ∃ c2, Instr.fill (fun i => some (i * sz, sz)) c parts = some c2 ∧ Rs e (flat l2) c2.toList ∧ (∀ v ∈ l2, v.cells.length = sz) ∧ (∀ v ∈ flat l2, v.one = true) ∧ l2.length = l.length ∧ c2.size = c.size := by
  intro parts
  induction parts with
  | nil =>
    intro ps l l2 c h hc hs ho hp
    cases ps with
    | cons _ _ => exact hp.elim
    | nil =>
    cases h
    exact ⟨c, rfl, hc, hs, ho, rfl, rfl⟩
  | cons p parts ih =>
    intro ps l l2 c h hc hs ho hp
    cases ps with
    | nil => exact hp.elim
    | cons q qs =>
    obtain ⟨h1, h2⟩ := hp
    obtain ⟨i, v'⟩ := p
    obtain ⟨j, v⟩ := q
    obtain ⟨hij, hv⟩ := h1
    simp only at hij hv
    subst hij
    unfold setP at h
    split at h
    · rename_i hh
      obtain ⟨h3, h4, h5⟩ := hh
      have h5' : ∀ x ∈ v.cells, x.one = true := by simpa using h5
      have hve := hv.er
      obtain ⟨er1, er2⟩ := er_cells v
      have hvc := hve.cells
      have hvl : v.er.cells.length = v'.cells.size := by simpa using hvc.length
      have hcl := hc.length
      rw [flat_length l sz hs] at hcl
      simp only [Array.length_toList] at hcl
      have hfl := flat_set l sz i v.er hs h4 (by omega)
      have hle : i * sz + sz ≤ c.size := by
        rw [← hcl]
        have := Nat.mul_le_mul_right sz (show i + 1 ≤ l.length by omega)
        rw [Nat.succ_mul] at this; omega
      have hnew : Rs e (flat (l.set i v.er)) (putA c (i * sz) v'.cells.toList).toList := by rw [hfl, putA_list]; exact Rs.putL _ hc hvc
      obtain ⟨c2, g1, g2, g3, g4, g5, g6⟩ := ih qs _ l2 _ h hnew (by
        intro x hx
        rcases List.mem_or_eq_of_mem_set hx with g | g
        · exact hs x g
        · rw [g]; omega) (by
        intro x hx
        rw [hfl] at hx
        rcases putL_mem _ _ _ x hx with g | g
        · exact ho x g
        · exact er2 h5' x g) h2
      refine ⟨c2, ?_, g2, g3, g4, by rw [g5]; simp, by rw [g6, putA_size]⟩
      unfold Instr.fill
      simp only
      rw [if_neg (by simp; omega)]
      have := foldl_put v'.cells.toList c (i * sz) 0
      simp only [Nat.add_zero, Array.toArray_toList] at this
      rw [← this] at g1
      exact g1
    · cases h

theorem madeL (z : Array Value) (n : Nat) (hz : 0 < z.size) : (madeCells z (n * z.size)).toList = (List.replicate n z.toList).flatten := by
  induction n with
  | zero => simp [madeCells]
  | succ n ih =>
    rw [List.replicate_succ', List.flatten_append, ← ih]
    simp only [List.flatten_cons, List.flatten_nil, List.append_nil]
    apply List.ext_getElem?
    intro i
    rw [List.getElem?_append]
    have hsz : (madeCells z (n * z.size)).toList.length = n * z.size := by simp [madeCells]
    rw [hsz]
    have hsucc : (n + 1) * z.size = n * z.size + z.size := Nat.succ_mul _ _
    simp only [madeCells, Array.toList_map, Array.toList_range, List.getElem?_map]
    by_cases h1 : i < n * z.size
    · rw [if_pos h1, List.getElem?_range (by omega), List.getElem?_range h1]
    · rw [if_neg h1]
      by_cases h2 : i < (n + 1) * z.size
      · rw [List.getElem?_range h2]
        have hm : i % z.size = i - n * z.size := by
          rw [Nat.mod_eq_sub_mul_div]
          have : i / z.size = n := by
            apply Nat.div_eq_of_lt_le
            · rw [Nat.mul_comm]; rw [Nat.mul_comm] at h1; omega
            · omega
          rw [this, Nat.mul_comm]
        have hlt : i - n * z.size < z.size := by omega
        simp only [Option.map_some, hm]
        rw [getElem!_pos z _ hlt]
        simp [hlt]
      · have e1 : (List.range ((n + 1) * z.size))[i]? = none := List.getElem?_eq_none (by simp; omega)
        rw [e1]
        simp only [Option.map_none]
        exact (List.getElem?_eq_none (by simp; omega)).symm

theorem flat_replicate (n : Nat) (z : V) : flat (List.replicate n z) = (List.replicate n z.cells).flatten := by simp [flat, List.flatMap]
theorem Rs.reps {e : E} {vs : List V} {ws : List Value} (h : Rs e vs ws) : ∀ n, Rs e (List.replicate n vs).flatten (List.replicate n ws).flatten
  | 0 => .nil
  | n + 1 => by simp only [List.replicate_succ, List.flatten_cons]; exact Rs.append h (Rs.reps h n)

/-- A literal's row, laid. -/
theorem lay_list {W0 : World} {B : Nat} {e : E} (hr : Rel W0 B e) {l : List V} {sz : Nat} {c : Array Value} {x0 : TypeId} (hsz : ∀ v ∈ l, v.cells.length = sz) (ho : ∀ v ∈ flat l, v.one = true) (hrs : Rs e (flat l) c.toList) :
    Ext e (e.lay (.cells c x0 (0, 0)) c.size) ∧ Rel W0 B (e.lay (.cells c x0 (0, 0)) c.size) ∧ Rs (e.lay (.cells c x0 (0, 0)) c.size) [.lst l 2] [.slice (some ⟨e.w.heap.size, 0, none⟩) l.length l.length] := by
  have X1 := Ext.lay e (.cells c x0 (0, 0)) c.size (hr.frn _ (Nat.le_refl _))
  have R1 := hr.lay c x0 (0, 0) c.size (Nat.le_refl _)
  have hpush : (e.lay (.cells c x0 (0, 0)) c.size).w.heap[e.w.heap.size]? = some (.cells c x0 (0, 0)) := by
    show (e.w.heap.push _)[e.w.heap.size]? = _; rw [Array.getElem?_push, if_pos rfl]
  have hcl := hrs.length
  rw [flat_length l sz hsz] at hcl
  simp only [Array.length_toList] at hcl
  refine ⟨X1, R1, .lst l 2 l.length l.length e.w.heap.size 0 sz c x0 (0, 0) rfl (Nat.le_refl _) hpush hsz ho ?_ ?_ ⟨by omega, fun _ => rfl⟩ (by omega) .nil⟩
  · simp [E.lay, hcl]
  · rw [List.drop_zero, hcl, List.take_of_length_le (by simp)]; exact hrs.mono X1

theorem bslice_sound {P : Program} {W0 : World} {B : Nat} {e : E} {K : V → St → Res} {r : Out × St} {t x0 : TypeId} {len : Nat} {parts : Array (Nat × Value)} {z : V} {ps : List (Nat × V)} (hs : sle P t = some x0) (hz : zeroV P x0 = some z)
    (h : A.bslice (P.cellsOf x0) z len ps (fun v => K v e.st) = some r) (hr : Rel W0 B e) (hp : All2 (fun (p : Nat × Value) (q : Nat × V) => p.1 = q.1 ∧ Rs e [q.2] [p.2]) parts.toList ps) : Step P W0 B e (Instr.buildSlice t len parts) K r := by
  obtain ⟨i, zv, hi, hiz, hc⟩ := zeroV_some hz
  have hzr := (constV_sound e hc).cells
  rw [cellsOf_eq hi] at h
  unfold A.bslice at h
  split at h
  · rename_i l hl
    split at h
    · rename_i hh
      obtain ⟨h1, h2, h3, h4⟩ := hh
      have h4' : ∀ x ∈ z.cells, x.one = true := by simpa using h4
      have hzl : z.cells.length = zv.cells.size := by simpa using hzr.length
      have hrep : Rs e (flat (List.replicate len z)) (madeCells zv.cells (len * i.size)).toList := by
        rw [show i.size = zv.cells.size by omega, madeL _ _ (by omega), flat_replicate]
        exact hzr.reps len
      have hone : ∀ v ∈ flat (List.replicate len z), v.one = true := by
        intro v hv
        obtain ⟨y, hy, hvy⟩ := List.mem_flatMap.mp hv
        rw [(List.mem_replicate.mp hy).2] at hvy
        exact h4' v hvy
      obtain ⟨c2, g1, g2, g3, g4, g5, g6⟩ := setP_sound i.size parts.toList ps _ l _ hl hrep (by
        intro v hv; rw [(List.mem_replicate.mp hv).2]; exact h1) hone hp
      have hll : l.length = len := by rw [g5]; simp
      obtain ⟨q1, q2, q3⟩ := lay_list hr (x0 := x0) g3 g4 g2
      rw [hll] at q3
      refine ⟨_, _, e.lay (.cells c2 x0 (0, 0)) c2.size, h, ?_, q1, q2, q3⟩
      by_cases h0 : len * i.size = 0
      · have : len = 0 := by
          rcases Nat.mul_eq_zero.mp h0 with g | g
          · exact g
          · omega
        subst this
        have g1' : Instr.fill (fun j => some (j * i.size, i.size)) ((Array.range (0 * i.size)).map (#[][· % 0]!)) parts.toList = some c2 := by
          rw [← g1]; simp [madeCells, Array.range_zero']
        simp only [Instr.buildSlice, Sem.run_bind, run_under (sle_some hs), Result.andThen, sizeOf_run hi, Sem.run_ite]
        rw [if_neg (by omega)]
        simp only [Sem.run_pure, Result.andThen, h0, if_true, Sem.run_ite, Sem.run_bind]
        simp only [Nat.zero_mul] at g1'
        rw [show (Array.map (fun x => (#[] : Array Value)[x % (#[] : Array Value).size]!) (Array.range 0)) = Array.map (fun x => (#[] : Array Value)[x % 0]!) (Array.range 0) from rfl, g1']
        simp [newRow, E.lay]
      · have := run_buildSlice (P := P) e.w t x0 len parts c2 i zv (sle_some hs) hi hiz (by omega) h0 g1
        rw [this]; rfl
    · cases h
  · cases h

/-- make([]T, n). -/
def A.mksl (sz bytes : Nat) (z l c : V) (K : V → Res) : Res :=
  match l, c with
  | .int _ n, .int _ m => if n = m ∧ 0 ≤ n ∧ n ≤ 1073741824 ∧ bytes ≤ 65536 ∧ z.cells.length = sz ∧ 0 < sz ∧ z.cells.all V.one then K (.lst (List.replicate n.toNat z) 2) else none
  | _, _ => none
/-- .. whose elements may be written. -/
def A.mkslM (sz bytes : Nat) (z l c : V) (st : St) (K : V → St → Res) : Res :=
  match l, c with
  | .int _ n, .int _ m => if n = m ∧ 0 ≤ n ∧ n ≤ 1073741824 ∧ bytes ≤ 65536 ∧ z.cells.length = sz ∧ 0 < sz ∧ z.cells.all V.one then K (.sl st.n 0 n.toNat sz) (st.new (.cells (flat (List.replicate n.toNat z)))) else none
  | _, _ => none
def bytesOf (P : Program) (t : TypeId) : Nat := P.bytesOf t
theorem bytesOf_eq {P : Program} {t : TypeId} {i : TypeInfo} (h : P.info? t = some i) : P.bytesOf t = i.bytes := by simp [Program.bytesOf, h]

theorem mk_run {P : Program} {w : World} {t x0 : TypeId} {i : TypeInfo} {zv : Value} {n : Int} {k k' : IntKind} (hs : sle P t = some x0) (hi : P.info? x0 = some i) (hiz : i.zero = some zv) (h0 : 0 ≤ n) (h1 : n ≤ 1073741824) (hb : i.bytes ≤ 65536) :
    (Instr.makeSlice t (.int k n) (.int k' n)).run P w = .ok (.slice (some ⟨w.heap.size, 0, none⟩) n.toNat n.toNat) (w.alloc (.cells (madeCells zv.cells (n.toNat * i.size)) x0)) := by
  have hbn : (i.bytes : Int) * n ≤ 281474976710656 := by
    obtain ⟨m, rfl⟩ := Int.eq_ofNat_of_zero_le h0
    have := Nat.mul_le_mul hb (show m ≤ 1073741824 by omega)
    rw [← Int.natCast_mul]; omega
  exact run_make w t x0 i zv (sle_some hs) hi hiz k k' n n h0 (Int.le_refl _) hbn (by omega)

theorem mksl_sound {P : Program} {W0 : World} {B : Nat} {e : E} {K : V → St → Res} {r : Out × St} {t x0 : TypeId} {z l c : V} {l' c' : Value} (hs : sle P t = some x0) (hz : zeroV P x0 = some z)
    (h : A.mksl (P.cellsOf x0) (P.bytesOf x0) z l c (fun v => K v e.st) = some r) (hr : Rel W0 B e) (hl : Rs e [l] [l']) (hc : Rs e [c] [c']) : Step P W0 B e (Instr.makeSlice t l' c') K r := by
  obtain ⟨i, zv, hi, hiz, hcz⟩ := zeroV_some hz
  have hzr := (constV_sound e hcz).cells
  rw [cellsOf_eq hi, bytesOf_eq hi] at h
  unfold A.mksl at h
  split at h
  · rename_i k n k' m
    cases hl with | int _ _ _ =>
    cases hc with | int _ _ _ =>
    split at h
    · rename_i hh
      obtain ⟨rfl, h0, h1, hb, h3, h4, h5⟩ := hh
      have h5' : ∀ x ∈ z.cells, x.one = true := by simpa using h5
      have hzl : z.cells.length = zv.cells.size := by simpa using hzr.length
      have hrep : Rs e (flat (List.replicate n.toNat z)) (madeCells zv.cells (n.toNat * i.size)).toList := by
        rw [show i.size = zv.cells.size by omega, madeL _ _ (by omega), flat_replicate]
        exact hzr.reps _
      have hone : ∀ v ∈ flat (List.replicate n.toNat z), v.one = true := by
        intro v hv
        obtain ⟨y, hy, hvy⟩ := List.mem_flatMap.mp hv
        rw [(List.mem_replicate.mp hy).2] at hvy
        exact h5' v hvy
      obtain ⟨q1, q2, q3⟩ := lay_list hr (sz := i.size) (x0 := x0) (by intro v hv; rw [(List.mem_replicate.mp hv).2]; exact h3) hone hrep
      simp only [List.length_replicate] at q3
      exact ⟨_, _, e.lay (.cells (madeCells zv.cells (n.toNat * i.size)) x0 (0, 0)) (madeCells zv.cells (n.toNat * i.size)).size, h, mk_run hs hi hiz h0 h1 hb, q1, q2, q3⟩
    · cases h
  · cases h

theorem mkslM_sound {P : Program} {W0 : World} {B : Nat} {e : E} {K : V → St → Res} {r : Out × St} {t x0 : TypeId} {z l c : V} {l' c' : Value} (hs : sle P t = some x0) (hz : zeroV P x0 = some z)
    (h : A.mkslM (P.cellsOf x0) (P.bytesOf x0) z l c e.st K = some r) (hr : Rel W0 B e) (hl : Rs e [l] [l']) (hc : Rs e [c] [c']) : Step P W0 B e (Instr.makeSlice t l' c') K r := by
  obtain ⟨i, zv, hi, hiz, hcz⟩ := zeroV_some hz
  have hzr := (constV_sound e hcz).cells
  rw [cellsOf_eq hi, bytesOf_eq hi] at h
  unfold A.mkslM at h
  split at h
  · rename_i k n k' m
    cases hl with | int _ _ _ =>
    cases hc with | int _ _ _ =>
    split at h
    · rename_i hh
      obtain ⟨rfl, h0, h1, hb, h3, h4, h5⟩ := hh
      have h5' : ∀ x ∈ z.cells, x.one = true := by simpa using h5
      have hzl : z.cells.length = zv.cells.size := by simpa using hzr.length
      have hrep : Rs e (flat (List.replicate n.toNat z)) (madeCells zv.cells (n.toNat * i.size)).toList := by
        rw [show i.size = zv.cells.size by omega, madeL _ _ (by omega), flat_replicate]
        exact hzr.reps _
      have hone : ∀ v ∈ flat (List.replicate n.toNat z), v.one = true := by
        intro v hv
        obtain ⟨y, hy, hvy⟩ := List.mem_flatMap.mp hv
        rw [(List.mem_replicate.mp hy).2] at hvy
        exact h5' v hvy
      have hnew : ∀ o', e.st.ob e.st.n = some o' → False := fun o' ho' => by have := (hr.live _ _ ho').1; omega
      have hfl : (flat (List.replicate n.toNat z)).length = (madeCells zv.cells (n.toNat * i.size)).size := by simpa using hrep.length
      have hms : (madeCells zv.cells (n.toNat * i.size)).size = n.toNat * i.size := size_madeCells _ _
      refine ⟨_, _, e.newOb (.cells (flat (List.replicate n.toNat z))) (.cells (madeCells zv.cells (n.toNat * i.size)) x0 (0, 0)), h, mk_run hs hi hiz h0 h1 hb, Ext.newOb e _ _ hnew, hr.newOb _ _ ?_ ?_, ?_⟩
      · intro cs hcs; cases hcs
        refine ⟨fun v hv => oneB_of (hone v hv), _, _, (0, 0), rfl, fun i _ _ => by simp, Nat.le_of_eq hfl, ?_, bldOK_of hone⟩
        rw [List.take_of_length_le (by simp; omega)]; exact hrep
      · intro es he; cases he
      · refine .sl _ _ _ _ _ _ (Nat.lt_succ_self _) (Nat.le_refl _) (fun o ho h0 => ⟨by simp [E.newOb], madeCells zv.cells (n.toNat * i.size), x0, (0, 0), ?_, by omega⟩) .nil
        show (e.w.heap.push _)[if e.st.n = e.st.n then _ else _]? = _
        rw [if_pos rfl, Array.getElem?_push, if_pos rfl]
    · cases h
  · cases h
end Go.Ab

/- Conversions; slices of objects. -/
namespace Go.Ab
open Go.RowKit
set_option linter.unusedVariables false
set_option linter.unusedSimpArgs false

def A.toInt (k : IntKind) (x : V) (K : V → Res) : Res := match x with | .int _ n => K (.int k (k.wrap n)) | _ => none
def A.sameS (x : V) (K : V → Res) : Res := match x with | .str _ => K x | _ => none
def byteL : List V → Option (List UInt8)
  | [] => some []
  | v :: vs => match v, byteL vs with
    | .int .u8 n, some bs => some (UInt8.ofNat n.toNat :: bs)
    | _, _ => none
/-- string(b). -/
def A.toStr (x : V) (st : St) (K : V → Res) : Res :=
  match x with
  | .lst l _ => (match byteL l with | some s => K (.str s) | none => none)
  | .sl id off len sz => (match st.ob id with
    | some (.cells cs) => if sz = 1 ∧ off + len ≤ cs.length then (match byteL ((cs.drop off).take len) with | some s => K (.str s) | none => none) else none
    | _ => none)
  | _ => none
/-- []byte(s). -/
def A.toBytes (x : V) (st : St) (K : V → St → Res) : Res := match x with | .str s => K (.lst (s.map fun b => .int .u8 b.toNat) (st.nt + 3)) (st.newTk 1) | _ => none
def A.toBytesM (x : V) (st : St) (K : V → St → Res) : Res := match x with | .str s => K (.sl st.n 0 s.length 1) (st.new (.cells (s.map fun b => .int .u8 b.toNat))) | _ => none

def intK (P : Program) (t : TypeId) : Option IntKind := match P.underlying t with | some (.int k) => some k | _ => none
theorem intK_some {P : Program} {t : TypeId} {k : IntKind} (h : intK P t = some k) : P.underlying t = some (.int k) := by
  unfold intK at h; split at h
  · cases h; assumption
  · cases h

theorem toInt_sound {P : Program} {W0 : World} {B : Nat} {e : E} {K : V → St → Res} {r : Out × St} {t u : TypeId} {k : IntKind} {x : V} {x' : Value} (ht : known P t = true) (hu : intK P u = some k)
    (h : A.toInt k x (fun v => K v e.st) = some r) (hr : Rel W0 B e) (hx : Rs e [x] [x']) : Step P W0 B e (convert t u x') K r := by
  obtain ⟨d, hd⟩ := known_under ht
  unfold A.toInt at h
  split at h
  · cases hx with | int _ _ _ =>
    exact Step.int hr h (by
      simp only [convert, Sem.run_bind, run_under hd, run_under (intK_some hu), Result.andThen]
      simp [Conv.intToInt])
  · cases h
theorem sameS_sound {P : Program} {W0 : World} {B : Nat} {e : E} {K : V → St → Res} {r : Out × St} {t u : TypeId} {x : V} {x' : Value} (ht : known P t = true) (hu : tk P u = 3)
    (h : A.sameS x (fun v => K v e.st) = some r) (hr : Rel W0 B e) (hx : Rs e [x] [x']) : Step P W0 B e (convert t u x') K r := by
  obtain ⟨d, hd⟩ := known_under ht
  unfold A.sameS at h
  split at h
  · cases hx with | str _ _ =>
    exact Step.str hr h (by
      simp only [convert, Sem.run_bind, run_under hd, run_under (tk_string hu), Result.andThen]
      simp)
  · cases h

theorem byteL_rs {e : E} : ∀ {l : List V} {ws : List Value} {s : List UInt8}, byteL l = some s → Rs e l ws → ∃ ns : List Int, ws = ns.map (Value.int .u8) ∧ ∀ r : ByteArray, ns.foldl (fun r n => r.push (UInt8.ofNat n.toNat)) r = ⟨r.data ++ s.toArray⟩
  | [], ws, s, h, hr => by
    cases hr; cases h
    exact ⟨[], rfl, fun r => by simp⟩
  | v :: l, ws, s, h, hr => by
    unfold byteL at h
    split at h
    · rename_i n bs hbs
      cases h
      cases hr with
      | int _ _ hr' =>
        obtain ⟨ns, rfl, g⟩ := byteL_rs hbs hr'
        refine ⟨n :: ns, rfl, fun r => ?_⟩
        rw [List.foldl_cons, g]
        apply ByteArray.ext
        simp [ByteArray.push]
    · cases h

theorem toStr_sound {P : Program} {W0 : World} {B : Nat} {e : E} {K : V → St → Res} {r : Out × St} {t u x0 : TypeId} {x : V} {x' : Value} (hs : sle P t = some x0) (hk : intK P x0 = some .u8) (hu : tk P u = 3)
    (h : A.toStr x e.st (fun v => K v e.st) = some r) (hr : Rel W0 B e) (hx : Rs e [x] [x']) : Step P W0 B e (convert t u x') K r := by
  unfold A.toStr at h
  have fin : ∀ (a : Addr) (len cap : Nat) (ns : List Int) (s : List UInt8), (loadCells a len).run P e.w = .ok (ns.map (Value.int .u8)).toArray e.w → (∀ r : ByteArray, ns.foldl (fun r n => r.push (UInt8.ofNat n.toNat)) r = ⟨r.data ++ s.toArray⟩) → K (.str s) e.st = some r →
      Step P W0 B e (convert t u (.slice (some a) len cap)) K r := by
    intro a len cap ns s hl hf hK
    refine Step.str hr hK ?_
    rw [run_convert_bytes_string e.w t u x0 _ _ _ (sle_some hs) (intK_some hk) (tk_string hu), run_bytesToString e.w a len cap ns hl, hf]
    simp
  split at h
  · rename_i l tk0
    split at h
    · rename_i s hbl
      cases hx with
      | lst0 _ _ _ =>
        cases hbl
        refine Step.str hr h ?_
        rw [run_convert_bytes_string e.w t u x0 _ _ _ (sle_some hs) (intK_some hk) (tk_string hu)]
        simp [Conv.bytesToString]
        rfl
      | lste _ ad _ _ =>
        cases hbl
        refine Step.str hr h ?_
        rw [run_convert_bytes_string e.w t u x0 _ _ _ (sle_some hs) (intK_some hk) (tk_string hu)]
        simp [Conv.bytesToString, loadCells, loadCellsFrom]
        rfl
      | lst _ _ len cap b o sz c ty2 fz hlen hcap hb hsz ho hf hc hx1 ht1 _ =>
        subst hlen
        have hone : ∀ v ∈ l, v.one = true := by
          clear h hb hsz ho hf hc ht1 hx1 hcap
          induction l generalizing s with
          | nil => simp
          | cons v l ih =>
            unfold byteL at hbl
            split at hbl
            · rename_i n bs hbs
              intro y hy
              rcases List.mem_cons.mp hy with g | g
              · rw [g]; rfl
              · exact ih bs hbs y g
            · cases hbl
        obtain ⟨f1, f2⟩ := flat_ones hone
        rw [f1] at hc
        have hls : l.length * sz = l.length := by
          cases l with
          | nil => simp
          | cons v l => have := hsz v (by simp); have := f2 v (by simp); rw [show sz = 1 by omega]; simp
        rw [hls] at hc hf
        obtain ⟨ns, hns, hfold⟩ := byteL_rs hbl hc
        have hfs := hr.frs b c ty2 fz hb
        have := loadCells_run (P := P) (w := e.w) (n := l.length) hb (show o + l.length ≤ c.size by omega)
        rw [hns] at this
        exact fin _ _ _ ns s this hfold h
    · cases h
  · rename_i id off len sz
    split at h
    · rename_i cs hcs
      split at h
      · rename_i hh
        obtain ⟨rfl, hle⟩ := hh
        split at h
        · rename_i s hbl
          obtain ⟨_, ho, c, ty2, fz, hb, _, hle2, hc, _⟩ := hr.cells id cs hcs
          cases hx with
          | sl _ _ _ _ cap a hn hcap hl2 _ =>
            by_cases h0 : 0 < cap
            · obtain ⟨rfl, _⟩ := hl2 _ hcs h0
              have hc' := (hc.drop off).take len
              rw [List.drop_take, List.take_take, Nat.min_eq_left (by omega)] at hc'
              obtain ⟨ns, hns, hfold⟩ := byteL_rs hbl hc'
              have := loadCells_run (P := P) (w := e.w) (n := len) hb (show off + len ≤ c.size by omega)
              rw [hns] at this
              exact fin _ _ _ ns s this hfold h
            · have hlen : len = 0 := by omega
              subst hlen
              have : s = [] := by
                rw [List.take_zero] at hbl; cases hbl; rfl
              subst this
              exact fin a 0 cap [] [] (by simp [loadCells, loadCellsFrom]) (fun r => by simp) h
        · cases h
      · cases h
    · cases h
  · cases h

theorem bytes_cells (w : World) (x0 : TypeId) (s : List UInt8) : (Lib.bytesCells w x0 ⟨s.toArray⟩).toList.take s.length = s.map (fun b => Value.int .u8 b.toNat) ∧ s.length ≤ (Lib.bytesCells w x0 ⟨s.toArray⟩).size := by
  constructor
  · simp only [Lib.bytesCells, Array.toList_append]
    rw [List.take_append_of_le_length (by simp), List.take_of_length_le (by simp)]
    simp
  · simp [Lib.bytesCells]

theorem bytesWorld_eq (w : World) (x0 : TypeId) (s : ByteArray) : Lib.bytesWorld w x0 s = { w.drew with heap := w.heap.push (.cells (Lib.bytesCells w x0 s) x0 ((Lib.bytesCells w x0 s).size, (Lib.bytesCells w x0 s).size + 1)) } := by
  have h1 : (Lib.bytesWorld w x0 s).heap = w.heap.push (.cells (Lib.bytesCells w x0 s) x0 ((Lib.bytesCells w x0 s).size, (Lib.bytesCells w x0 s).size + 1)) := by
    apply Array.ext_getElem?
    intro j
    by_cases hj : j < w.heap.size
    · rw [Lib.bytesWorld_at_old w x0 s j hj, Array.getElem?_push, if_neg (by omega)]
    · by_cases hj2 : j = w.heap.size
      · subst hj2; rw [Lib.bytesWorld_at_new, Array.getElem?_push, if_pos rfl]
      · rw [Array.getElem?_eq_none (by rw [Lib.bytesWorld_size]; omega), Array.getElem?_eq_none (by simp; omega)]
  rw [← h1]
  simp [Lib.bytesWorld, World.freeze, World.alloc, World.drew, -World.alloc_eq, -World.drew_eq]

theorem toBytesM_sound {P : Program} {W0 : World} {B : Nat} {e : E} {K : V → St → Res} {r : Out × St} {t u x0 : TypeId} {x : V} {x' : Value} (ht : known P t = true) (hs : sle P u = some x0) (hk : intK P x0 = some .u8)
    (h : A.toBytesM x e.st K = some r) (hr : Rel W0 B e) (hx : Rs e [x] [x']) : Step P W0 B e (convert t u x') K r := by
  obtain ⟨d, hd⟩ := known_under ht
  unfold A.toBytesM at h
  split at h
  · rename_i s
    cases hx with
    | str _ _ =>
      have hrun := Lib.run_convert_string_bytes (P := P) e.w t u x0 ⟨s.toArray⟩ hd (sle_some hs) (intK_some hk)
      rw [bytesWorld_eq] at hrun
      obtain ⟨g1, g2⟩ := bytes_cells e.w x0 s
      have hz : (⟨s.toArray⟩ : ByteArray).size = s.length := by show s.toArray.size = s.length; simp
      have hone : ∀ v ∈ (s.map fun b => V.int .u8 b.toNat), v.one = true := by
        intro v hv; obtain ⟨b, _, rfl⟩ := List.mem_map.mp hv; rfl
      have R0 : Rel W0 B e.drew := hr.drew
      have hnew : ∀ o', e.drew.st.ob e.drew.st.n = some o' → False := fun o' ho' => by have := (R0.live _ _ ho').1; omega
      refine ⟨_, .slice (some ⟨e.w.heap.size, 0, none⟩) s.length (grownCap e.w s.length 0 x0), e.drew.newOb (.cells (s.map fun b => .int .u8 b.toNat)) (.cells (Lib.bytesCells e.w x0 ⟨s.toArray⟩) x0 ((Lib.bytesCells e.w x0 ⟨s.toArray⟩).size, (Lib.bytesCells e.w x0 ⟨s.toArray⟩).size + 1)), h, ?_, (Ext.drew e).trans (Ext.newOb _ _ _ hnew), R0.newOb _ _ ?_ ?_, ?_⟩
      · rw [hrun, hz]; rfl
      · intro cs hcs; cases hcs
        refine ⟨fun v hv => oneB_of (hone v hv), _, _, _, rfl, fun i _ hi => by simp only; omega, by simpa using g2, ?_, bldOK_of hone⟩
        rw [List.length_map, g1]; exact (ints_rs e s).mono (Ext.drew e)
      · intro es he; cases he
      · refine .sl _ _ _ _ _ _ (Nat.lt_succ_self _) (by simp only [grownCap, Question.cut]; exact Nat.le_add_right _ _) (fun o ho h0 => ⟨by simp [E.newOb, E.drew], Lib.bytesCells e.w x0 ⟨s.toArray⟩, x0, ((Lib.bytesCells e.w x0 ⟨s.toArray⟩).size, (Lib.bytesCells e.w x0 ⟨s.toArray⟩).size + 1), ?_, ?_⟩) .nil
        · show (e.w.heap.push _)[if e.st.n = e.st.n then _ else _]? = _
          rw [if_pos rfl]
          show (e.w.heap.push _)[e.w.heap.size]? = _
          rw [Array.getElem?_push, if_pos rfl]
        · simp only [Lib.bytesCells, Array.size_append, Array.size_map, Array.size_replicate, hz, Nat.zero_add, Nat.mul_one]
          have : s.length ≤ grownCap e.w s.length 0 x0 := by simp only [grownCap, Question.cut]; exact Nat.le_add_right _ _
          simp; omega
  · cases h

theorem toBytes_sound {P : Program} {W0 : World} {B : Nat} {e : E} {K : V → St → Res} {r : Out × St} {t u x0 : TypeId} {x : V} {x' : Value} (ht : known P t = true) (hs : sle P u = some x0) (hk : intK P x0 = some .u8)
    (h : A.toBytes x e.st K = some r) (hr : Rel W0 B e) (hx : Rs e [x] [x']) : Step P W0 B e (convert t u x') K r := by
  obtain ⟨d, hd⟩ := known_under ht
  unfold A.toBytes at h
  split at h
  · rename_i s
    cases hx with
    | str _ _ =>
      have hrun := Lib.run_convert_string_bytes (P := P) e.w t u x0 ⟨s.toArray⟩ hd (sle_some hs) (intK_some hk)
      rw [bytesWorld_eq] at hrun
      obtain ⟨g1, g2⟩ := bytes_cells e.w x0 s
      have hz : (⟨s.toArray⟩ : ByteArray).size = s.length := by show s.toArray.size = s.length; simp
      have hone : ∀ v ∈ (s.map fun b => V.int .u8 b.toNat), v.one = true := by
        intro v hv; obtain ⟨b, _, rfl⟩ := List.mem_map.mp hv; rfl
      obtain ⟨f1, f2⟩ := flat_ones hone
      have R0 : Rel W0 B e.drew := hr.drew
      have hcap : s.length ≤ grownCap e.w s.length 0 x0 := by simp only [grownCap, Question.cut]; exact Nat.le_add_right _ _
      have hbs : (Lib.bytesCells e.w x0 ⟨s.toArray⟩).size = grownCap e.w s.length 0 x0 := by
        simp only [Lib.bytesCells, Array.size_append, Array.size_map, Array.size_replicate, hz]
        simp; omega
      obtain ⟨e', q1, q2, q3, q4, q5⟩ := app_new R0 (l := s.map fun b => V.int .u8 b.toNat) (sz := 1) (len := s.length) (cap := grownCap e.w s.length 0 x0) (c := Lib.bytesCells e.w x0 ⟨s.toArray⟩) (x0 := x0) (fz := ((Lib.bytesCells e.w x0 ⟨s.toArray⟩).size, (Lib.bytesCells e.w x0 ⟨s.toArray⟩).size + 1)) (fun i _ hi => by simp only; omega) (by simp) hcap f2 (by rw [f1]; exact hone) (by omega) (by
        rw [f1, Nat.mul_one, g1]; exact (ints_rs e s).mono (Ext.drew e))
      refine ⟨_, _, e', ?_, ?_, (Ext.drew e).trans q3, q4, q5⟩
      · rw [q1]; exact h
      · rw [hrun, q2, hz]; rfl
  · cases h

/-- arr[a:b]. -/
theorem sliceA_sound {P : Program} {W0 : World} {B : Nat} {e : E} {K : V → St → Res} {r : Out × St} {t x0 : TypeId} {n : Nat} {x : V} {x' : Value} {lo hi : Option V} {lo' hi' : Option Value} (hs : arr P t = some (n, x0)) (hi0 : ∃ i, P.info? x0 = some i)
    (h : A.sliceA n (P.cellsOf x0) x lo hi e.st (fun v => K v e.st) = some r) (hr : Rel W0 B e) (hx : Rs e [x] [x']) (hl : Rso e lo lo') (hh : Rso e hi hi') : Step P W0 B e (Instr.sliceAt t x' lo' hi' none) K r := by
  obtain ⟨inf, hi0⟩ := hi0
  rw [cellsOf_eq hi0] at h
  have hu := run_under (P := P) (arr_some hs) e.w
  unfold A.sliceA at h
  split at h
  · rename_i id off
    split at h
    · rename_i cs a b hcs h1 h2
      split at h
      · rename_i hh2
        obtain ⟨g1, g2, g3⟩ := hh2
        obtain ⟨_, ho, c, ty2, fz, hb, _, hle, hc, _⟩ := hr.cells id cs hcs
        cases hx with
        | ptr _ _ ad hn hl2 _ =>
          have had := hl2 _ hcs
          subst had
          have hbr := bounds_run (P := P) (sl := false) (cap := n) h1 h2 hl hh g1 g2
          have hmul : (n - a) * inf.size + a * inf.size = n * inf.size := by rw [← Nat.add_mul, Nat.sub_add_cancel (by omega)]
          by_cases hac : n = a
          · refine Step.pure hr h (v' := .slice (some ⟨e.σ id, off, none⟩) (b - a) (n - a)) ?_ (.sl _ _ _ _ _ _ hn (by omega) (fun o ho h0 => by omega) .nil)
            simp only [Instr.sliceAt, hu, Sem.run_bind, Result.andThen, Instr.sureAddr, Sem.run_pure, hbr, sizeOf_run hi0, if_pos hac]
          · refine Step.pure hr h (v' := .slice (some ⟨e.σ id, off + a * inf.size, none⟩) (b - a) (n - a)) ?_ (.sl _ _ _ _ _ _ hn (by omega) (fun o ho h0 => ⟨rfl, c, ty2, fz, hb, by omega⟩) .nil)
            simp only [Instr.sliceAt, hu, Sem.run_bind, Result.andThen, Instr.sureAddr, Sem.run_pure, hbr, sizeOf_run hi0, if_neg hac, add_plain]
      · cases h
    · cases h
  · cases h

def A.mkmap (st : St) (K : V → St → Res) : Res := K (.map st.n) (st.new (.map []))
theorem mkmap_sound {P : Program} {W0 : World} {B : Nat} {e : E} {K : V → St → Res} {r : Out × St} {t : TypeId}
    (h : A.mkmap e.st K = some r) (hr : Rel W0 B e) : Step P W0 B e (Instr.makeMap t none) K r := by
  have hnew : ∀ o', e.st.ob e.st.n = some o' → False := fun o' ho' => by have := (hr.live _ _ ho').1; omega
  refine ⟨_, .map (some e.w.heap.size), e.newOb (.map []) (.map #[] 0), h, ?_, Ext.newOb e _ _ hnew, hr.newOb _ _ ?_ ?_, .map _ _ (Nat.lt_succ_self _) (fun o ho => by simp [E.newOb]) .nil⟩
  · simp [Instr.makeMap, E.newOb]
  · intro cs he; cases he
  · intro es he; cases he
    exact ⟨#[], 0, rfl, .nil, .nil, Go.MapKept.stamped_empty 0⟩
end Go.Ab

/- Append to an object whose elements may be written. -/
namespace Go.Ab
open Go.RowKit
set_option linter.unusedVariables false
set_option linter.unusedSimpArgs false

/-- An object's block goes over to a new object. -/
def E.move (e : E) (id : Nat) (o : Ob) (x : Obj) : E := { e with st := (e.st.del id).new o, w := setBlk e.w (e.σ id) x, σ := fun i => if i = e.st.n then e.σ id else e.σ i }

theorem move_ob {e : E} {id i : Nat} {o o' : Ob} {x : Obj} (h : (e.move id o x).st.ob i = some o') : (i = e.st.n ∧ o' = o) ∨ (i ≠ e.st.n ∧ i ≠ id ∧ e.st.ob i = some o') := by
  have h' : (if i = e.st.n then some o else if i = id then none else e.st.ob i) = some o' := h
  by_cases h1 : i = e.st.n
  · rw [if_pos h1] at h'; exact .inl ⟨h1, (Option.some.inj h').symm⟩
  · rw [if_neg h1] at h'
    by_cases h2 : i = id
    · rw [if_pos h2] at h'; cases h'
    · rw [if_neg h2] at h'; exact .inr ⟨h1, h2, h'⟩

theorem Ext.move {e : E} {id : Nat} {o : Ob} {x y : Obj} (hn : ∀ o', e.st.ob e.st.n = some o' → False) (hy : e.w.heap[e.σ id]? = some y) (h0 : e.fr (e.σ id) = 0)
    (hs : ∀ c ty fz, y = .cells c ty fz → ∃ c' fz', x = .cells c' ty fz' ∧ c'.size = c.size) : Ext e (e.move id o x) := by
  refine ⟨Nat.le_succ _, Nat.le_refl _, fun i hi => ?_, fun i hi o' ho' => ?_, fun _ _ => rfl, fun _ _ _ h => h, fun _ => Nat.le_refl _, fun b c ty fz hb => ?_⟩
  · simp only [E.move]; rw [if_neg (by omega)]
  · rcases move_ob ho' with ⟨g, _⟩ | ⟨_, _, g⟩
    · omega
    · exact ⟨o', g⟩
  · by_cases hbe : b = e.σ id
    · subst hbe
      rw [hy] at hb
      obtain ⟨c', fz', hx, hsz⟩ := hs c ty fz (Option.some.inj hb)
      refine ⟨c', fz', ?_, hsz, fun i hi => by rw [h0] at hi; omega⟩
      simp only [E.move]; rw [setBlk_here hy, hx]
    · exact ⟨c, fz, by simp only [E.move]; rw [setBlk_other hbe]; exact hb, rfl, fun _ _ => rfl⟩

theorem Rel.move {W0 : World} {B : Nat} {e : E} (h : Rel W0 B e) {id : Nat} {cs : List V} {x y : Obj} (hl : ∃ o', e.st.ob id = some o') (hy : e.w.heap[e.σ id]? = some y)
    (hs : ∀ c ty fz, y = .cells c ty fz → ∃ c' fz', x = .cells c' ty fz' ∧ c'.size = c.size) (hB : B ≤ e.σ id)
    (hc : (∀ v ∈ cs, v.one = true) ∧ ∃ c ty fz, x = .cells c ty fz ∧ unfz c fz 0 ∧ cs.length ≤ c.size ∧ Rs e cs (c.toList.take cs.length)) : Rel W0 B (e.move id (.cells cs) x) := by
  obtain ⟨o0, ho0⟩ := hl
  have h0 := (h.live id o0 ho0).2
  have hidn := (h.live id o0 ho0).1
  have hnew : ∀ o', e.st.ob e.st.n = some o' → False := fun o' ho' => by have := (h.live _ _ ho').1; omega
  have X : Ext e (e.move id (.cells cs) x) := Ext.move hnew hy h0 hs
  have hoth : ∀ j o', j ≠ id → e.st.ob j = some o' → e.σ j ≠ e.σ id := fun j o' hj ho' he => hj (h.inj j id o' o0 ho' ho0 he)
  have hσn : (e.move id (.cells cs) x).σ e.st.n = e.σ id := by simp [E.move]
  have hσ : ∀ j, j ≠ e.st.n → (e.move id (.cells cs) x).σ j = e.σ j := fun j hj => by simp [E.move, hj]
  refine ⟨⟨h.below.os, h.below.tape, h.below.output, by simp only [E.move, setBlk_size]; exact h.below.size, fun k hk => ?_⟩, h.hB, ?_, ?_, ?_, ?_, h.tkn, ?_, h.tinj, ?_, ?_, ?_⟩
  · simp only [E.move]; rw [setBlk_other (by omega)]; exact h.below.block k hk
  · intro j cs' ho
    rcases move_ob ho with ⟨rfl, he⟩ | ⟨hj, hj2, ho'⟩
    · cases he
      obtain ⟨g1, c, ty, fz, rfl, g2, g3, g4⟩ := hc
      rw [hσn]
      exact ⟨hB, fun v hv => oneB_of (g1 v hv), c, ty, fz, setBlk_here hy, g2, g3, g4.mono X, bldOK_of g1⟩
    · obtain ⟨a, b, c, ty, fz, d, f, g, k, kb⟩ := h.cells j cs' ho'
      rw [hσ j hj]
      exact ⟨a, b, c, ty, fz, (setBlk_other (hoth j _ hj2 ho')).trans d, f, g, k.mono X, kb⟩
  · intro j es ho
    rcases move_ob ho with ⟨rfl, he⟩ | ⟨hj, hj2, ho'⟩
    · cases he
    · obtain ⟨a, ents, clock, b, c, d⟩ := h.maps j es ho'
      rw [hσ j hj]
      exact ⟨a, ents, clock, (setBlk_other (hoth j _ hj2 ho')).trans b, c.mono X, d.1.mono X, d.2⟩
  · intro j o' ho
    rcases move_ob ho with ⟨rfl, he⟩ | ⟨hj, hj2, ho'⟩
    · rw [hσn]; exact ⟨Nat.lt_succ_self _, h0⟩
    · rw [hσ j hj]; exact ⟨Nat.lt_succ_of_lt (h.live j _ ho').1, (h.live j _ ho').2⟩
  · intro i j o1 o2 h1 h2 hs
    rcases move_ob h1 with ⟨rfl, _⟩ | ⟨hi, hi2, h1'⟩ <;> rcases move_ob h2 with ⟨rfl, _⟩ | ⟨hj, hj2, h2'⟩
    · rfl
    · rw [hσn, hσ j hj] at hs; exact absurd hs.symm (hoth j _ hj2 h2')
    · rw [hσn, hσ i hi] at hs; exact absurd hs (hoth i _ hi2 h1')
    · rw [hσ i hi, hσ j hj] at hs; exact h.inj i j _ _ h1' h2' hs
  · intro t s b k ht hτ
    obtain ⟨a, b', c, ty, fz, d, f⟩ := h.toks t s b k ht hτ
    exact ⟨a, b', c, ty, fz, (setBlk_other (Ne.symm (h.tob t s b k id o0 ht hτ ho0))).trans d, f⟩
  · intro t s b k j o' ht hτ ho
    rcases move_ob ho with ⟨rfl, _⟩ | ⟨hj, hj2, ho'⟩
    · rw [hσn]; exact h.tob t s b k id o0 ht hτ ho0
    · rw [hσ j hj]; exact h.tob t s b k j o' ht hτ ho'
  · intro b c ty fz hb
    by_cases hbe : b = e.σ id
    · subst hbe; show e.fr _ ≤ _; omega
    · simp only [E.move] at hb; rw [setBlk_other hbe] at hb; exact h.frs b c ty fz hb
  · intro b hb
    simp only [E.move, setBlk_size] at hb
    exact h.frn b hb

/-- A new row, as an object. -/
theorem obj_new {W0 : World} {B : Nat} {e : E} (hr : Rel W0 B e) {cs : List V} {c : Array Value} {x0 : TypeId} {len cap sz : Nat} (hone : ∀ v ∈ cs, v.one = true) (hcap : len ≤ cap) (hc : cap * sz ≤ c.size) (hle : cs.length ≤ c.size) (hrs : Rs e cs (c.toList.take cs.length)) :
    ∃ e', e'.st = e.st.new (.cells cs) ∧ e'.w = { e.w with heap := e.w.heap.push (.cells c x0 (0, 0)) } ∧ Ext e e' ∧ Rel W0 B e' ∧ Rs e' [.sl e.st.n 0 len sz] [.slice (some ⟨e.w.heap.size, 0, none⟩) len cap] := by
  have hnew : ∀ o', e.st.ob e.st.n = some o' → False := fun o' ho' => by have := (hr.live _ _ ho').1; omega
  refine ⟨e.newOb (.cells cs) (.cells c x0 (0, 0)), rfl, rfl, Ext.newOb e _ _ hnew, hr.newOb _ _ ?_ ?_, .sl _ _ _ _ _ _ (Nat.lt_succ_self _) hcap (fun o ho h0 => ⟨by simp [E.newOb], c, x0, (0, 0), ?_, by omega⟩) .nil⟩
  · intro cs' he; cases he
    exact ⟨fun v hv => oneB_of (hone v hv), c, x0, (0, 0), rfl, fun i _ _ => by simp, hle, hrs, bldOK_of hone⟩
  · intro es he; cases he
  · show (e.w.heap.push _)[if e.st.n = e.st.n then _ else _]? = _
    rw [if_pos rfl, Array.getElem?_push, if_pos rfl]

theorem appM_sound {P : Program} {W0 : World} {B : Nat} {e : E} {K : V → St → Res} {r : Out × St} {t u ty x0 : TypeId} {s x : V} {s' x' : Value} {i : TypeInfo} {z : Value} (hs : sle P t = some x0) (hi : P.info? x0 = some i) (hz : i.zero = some z) (hzs : z.cells.size = i.size) (hb : i.bytes ≤ 65536) (hu : known P u = true) (hu2 : tk P u ≠ 2)
    (h : A.appM (P.cellsOf x0) s (elemsOf (tk P u) (P.cellsOf x0) x e.st) e.st K = some r) (hr : Rel W0 B e) (hsv : Rs e [s] [s']) (hxv : Rs e [x] [x']) : Step P W0 B e (Builtin.append_ #[t, u] ty #[s', x']) K r := by
  rw [cellsOf_eq hi] at h
  unfold A.appM at h
  split at h
  case h_2 => cases h
  rename_i new hnew
  obtain ⟨news, N⟩ := elemsOf_sound (P := P) hnew hr hxv
  have hN1 := N.len e.w
  have hN2 := N.run e.w rfl
  have hN3 := N.run e.w.drew rfl
  have R0 : Rel W0 B e.drew := hr.drew
  have hnfl := flat_length new i.size N.sz
  split at h
  · rename_i l tk0
    split at h
    · rename_i hh
      obtain ⟨hmax, hszl, htk, hne⟩ := hh
      have hn0 : 0 < new.length := by cases new with | nil => exact absurd rfl hne | cons _ _ => simp
      have outc : ∀ (base : Option Addr) (olds : List Value), s' = .slice base l.length l.length → (∀ w2 : World, w2.heap = e.w.heap → (Builtin.firstCells i.size l.length (.slice base l.length l.length)).run P w2 = .ok olds.toArray w2) → Rs e (flat l) olds → (∀ v ∈ l, v.cells.length = i.size) → (∀ v ∈ flat l, v.one = true) →
          Step P W0 B e (Builtin.append_ #[t, u] ty #[s', x']) K r := by
        intro base olds hs' hold hrs hszl2 hol
        subst hs'
        obtain ⟨cap2, hcap2, hrun⟩ := app_out (P := P) (ty := ty) hs hi hz hu hu2 hN1 hN3 (hold e.w.drew rfl) (by omega) hmax hb
        have hl1 : olds.length = l.length * i.size := by rw [← hrs.length, flat_length l _ hszl2]
        have hsz3 : (olds.toArray ++ news.toArray ++ Builtin.zeroCells z.cells (cap2 - (l.length + new.length))).size = cap2 * i.size := by
          simp only [Array.size_append, List.size_toArray, hl1, N.size, zeroCells_size, hzs]
          rw [← Nat.add_mul, ← Nat.add_mul]; congr 1; omega
        have hfl : (flat l ++ flat new).length = (l.length + new.length) * i.size := by rw [List.length_append, flat_length l _ hszl2, hnfl, Nat.add_mul]
        have hle : (l.length + new.length) * i.size ≤ cap2 * i.size := Nat.mul_le_mul_right _ hcap2
        have e1 : (olds.toArray ++ news.toArray ++ Builtin.zeroCells z.cells (cap2 - (l.length + new.length))).toList.take ((l.length + new.length) * i.size) = olds ++ news := by
          simp only [Array.toList_append, List.toList_toArray]
          rw [List.take_append_of_le_length (by simp [hl1, N.size, Nat.add_mul]), List.take_of_length_le (by simp [hl1, N.size, Nat.add_mul])]
        obtain ⟨e', q1, q2, q3, q4, q5⟩ := obj_new R0 (cs := flat l ++ flat new) (c := olds.toArray ++ news.toArray ++ Builtin.zeroCells z.cells (cap2 - (l.length + new.length))) (x0 := x0) (len := l.length + new.length) (cap := cap2) (sz := i.size) (by
          intro v hv; rcases List.mem_append.mp hv with g | g
          · exact hol v g
          · exact N.one v g) hcap2 (Nat.le_of_eq hsz3.symm) (by rw [hfl, hsz3]; exact hle) (by rw [hfl, e1]; exact (Rs.append hrs N.rs).mono (Ext.drew e))
        refine ⟨_, _, e', ?_, ?_, (Ext.drew e).trans q3, q4, q5⟩
        · rw [q1]; exact h
        · rw [hrun, q2]; rfl
      cases hsv with
      | lst0 _ _ _ => exact outc none [] rfl (fun w2 _ => by simp [Builtin.firstCells]) .nil (by simp) (by simp [flat])
      | lste _ ad _ _ => exact outc (some ad) [] rfl (fun w2 _ => by simp [Builtin.firstCells, loadCells, loadCellsFrom]) .nil (by simp) (by simp [flat])
      | lst _ _ len cap b o sz c ty2 fz hlen hcap hbk hsz ho hf hc hx1 ht1 _ =>
        subst hlen
        have hszl2 := szok_all hszl hsz
        have hmul : l.length * sz = l.length * i.size := by
          rcases szok_eq hszl hsz with g | g
          · rw [g]; simp
          · rw [g]
        have hfs := hr.frs b c ty2 fz hbk
        have hce : cap = l.length := htk.elim (fun g => (hx1.1 g).elim) hx1.2
        subst hce
        refine outc (some ⟨b, o, none⟩) ((c.toList.drop o).take (l.length * i.size)) rfl (fun w2 hw2 => ?_) (by rw [← hmul]; exact hc) hszl2 ho
        have := loadCells_run (P := P) (w := w2) (n := l.length * i.size) (by rw [hw2]; exact hbk) (show o + l.length * i.size ≤ c.size by omega)
        simp only [Builtin.firstCells]; exact this
    · cases h
  · rename_i id off len sz'
    split at h
    · rename_i cs hcs
      split at h
      · rename_i hh
        obtain ⟨hmax, rfl, rfl, hle0, hlen0, hones⟩ := hh
        have hone : ∀ v ∈ cs.take (len * i.size) ++ flat new, v.one = true := by
          intro v hv; rcases List.mem_append.mp hv with g | g
          · exact List.all_eq_true.mp hones v g
          · exact N.one v g
        have htk : (cs.take (len * i.size)).length = len * i.size := by simp; omega
        have hfl : (cs.take (len * i.size) ++ flat new).length = (len + new.length) * i.size := by rw [List.length_append, htk, hnfl, Nat.add_mul]
        have out : ∀ (base : Option Addr) (cap : Nat) (olds : List Value), s' = .slice base len cap → cap < len + new.length → (∀ w2 : World, w2.heap = e.w.heap → (Builtin.firstCells i.size len (.slice base len cap)).run P w2 = .ok olds.toArray w2) → Rs e (cs.take (len * i.size)) olds →
            Step P W0 B e (Builtin.append_ #[t, u] ty #[s', x']) K r := by
          intro base cap olds hs' hlt holdrun hold
          subst hs'
          obtain ⟨cap2, hcap2, hrun⟩ := app_out (P := P) (ty := ty) hs hi hz hu hu2 hN1 hN3 (holdrun e.w.drew rfl) (by omega) hmax hb
          have hl1 : olds.length = len * i.size := by rw [← hold.length, htk]
          have hsz3 : (olds.toArray ++ news.toArray ++ Builtin.zeroCells z.cells (cap2 - (len + new.length))).size = cap2 * i.size := by
            simp only [Array.size_append, List.size_toArray, hl1, N.size, zeroCells_size, hzs]
            rw [← Nat.add_mul, ← Nat.add_mul]; congr 1; omega
          have hle2 : (len + new.length) * i.size ≤ cap2 * i.size := Nat.mul_le_mul_right _ hcap2
          have e1 : (olds.toArray ++ news.toArray ++ Builtin.zeroCells z.cells (cap2 - (len + new.length))).toList.take ((len + new.length) * i.size) = olds ++ news := by
            simp only [Array.toList_append, List.toList_toArray]
            rw [List.take_append_of_le_length (by simp [N.size, hl1, Nat.add_mul]), List.take_of_length_le (by simp [N.size, hl1, Nat.add_mul])]
          have X1 := Ext.drop e.drew id
          have R1 := R0.drop id
          obtain ⟨e', q1, q2, q3, q4, q5⟩ := obj_new R1 (cs := cs.take (len * i.size) ++ flat new) (c := olds.toArray ++ news.toArray ++ Builtin.zeroCells z.cells (cap2 - (len + new.length))) (x0 := x0) (len := len + new.length) (cap := cap2) (sz := i.size) hone hcap2 (Nat.le_of_eq hsz3.symm) (by rw [hfl, hsz3]; exact hle2) (by rw [hfl, e1]; exact (Rs.append hold N.rs).mono ((Ext.drew e).trans X1))
          refine ⟨_, _, e', ?_, ?_, ((Ext.drew e).trans X1).trans q3, q4, q5⟩
          · rw [q1]; exact h
          · rw [hrun, q2]; rfl
        cases hsv with
        | sl _ _ _ _ cap a hn hcap hl2 _ =>
          by_cases hcap0 : cap = 0
          · have h00 : len = 0 := by omega
            have hne : 0 < new.length := by
              rcases hlen0 with g | g
              · omega
              · cases new with | nil => exact absurd rfl g | cons _ _ => simp
            subst h00
            exact out (some a) cap [] rfl (by omega) (fun w2 _ => by simp [Builtin.firstCells, loadCells, loadCellsFrom]) (by simp; exact .nil)
          obtain ⟨rfl, c, ty2, fz, hbk, hroom⟩ := hl2 _ hcs (by omega)
          obtain ⟨hB, ho, c1, ty1, fz1, hbk1, hu1, hle, hc, _⟩ := hr.cells id cs hcs
          rw [hbk] at hbk1; cases hbk1
          have hlive : ∃ o', e.st.ob id = some o' := ⟨_, hcs⟩
          have h0 := (hr.live id _ hcs).2
          have hnewn : ∀ o', e.st.ob e.st.n = some o' → False := fun o' ho' => by have := (hr.live _ _ ho').1; omega
          have hold : Rs e (cs.take (len * i.size)) (c.toList.take (len * i.size)) := by
            have := hc.take (len * i.size)
            rw [List.take_take, Nat.min_eq_left (by omega)] at this; exact this
          have hcsz : c.toList.length = c.size := Array.length_toList
          by_cases hin : len + new.length ≤ cap
          · have hrunin := app_in (P := P) (ty := ty) (base := some ⟨e.σ id, 0, none⟩) (n := len) (cap := cap) hs hi hu hu2 hN1 hN2 hin
            have hcapmul : (len + new.length) * i.size ≤ cap * i.size := Nat.mul_le_mul_right _ hin
            have hadd : (len + new.length) * i.size = len * i.size + new.length * i.size := Nat.add_mul _ _ _
            have hnl := N.size
            have hpsz := putA_size news c (len * i.size)
            have hsz : ∀ c1 ty1 fz1, Obj.cells c ty2 fz = .cells c1 ty1 fz1 → ∃ c' fz', Obj.cells (putA c (len * i.size) news) ty2 fz = .cells c' ty1 fz' ∧ c'.size = c1.size := by
              intro c1 ty1 fz1 he; cases he; exact ⟨_, _, rfl, hpsz⟩
            have e1 : (putA c (len * i.size) news).toList.take ((len + new.length) * i.size) = c.toList.take (len * i.size) ++ news := by
              have := putL_behind c.toList 0 (len * i.size) news (by omega)
              rw [Nat.zero_add, List.drop_zero, List.drop_zero] at this
              rw [putA_list, hadd, ← hnl]; exact this
            refine ⟨_, .slice (some ⟨e.σ id, 0, none⟩) (len + new.length) cap, e.move id (.cells (cs.take (len * i.size) ++ flat new)) (.cells (putA c (len * i.size) news) ty2 fz), h, ?_, Ext.move hnewn hbk h0 hsz, hr.move hlive hbk hsz hB ⟨hone, _, _, _, rfl, ?_, ?_, ?_⟩, ?_⟩
            · rw [hrunin]
              simp only [add_plain, Nat.zero_add]
              have hrun := storeCells_run (P := P) news e.w (e.σ id) (len * i.size) 0 c ty2 fz hbk (fun j h1 h2 => hu1 j (by omega) h2) (by omega) (N.rs.ones N.one)
              rw [Nat.add_zero] at hrun
              rw [hrun]; rfl
            · intro j h4 h5; rw [hpsz] at h5; exact hu1 j h4 h5
            · rw [hfl, hpsz]; omega
            · rw [hfl, e1]; exact Rs.append hold N.rs
            · refine .sl _ _ _ _ _ _ (Nat.lt_succ_self _) hin (fun o ho h0 => ⟨by simp [E.move], putA c (len * i.size) news, ty2, fz, ?_, by omega⟩) .nil
              show (setBlk e.w (e.σ id) _).heap[if e.st.n = e.st.n then _ else _]? = _
              rw [if_pos rfl]; exact setBlk_here hbk
          · refine out (some ⟨e.σ id, 0, none⟩) cap (c.toList.take (len * i.size)) rfl (by omega) (fun w2 hw2 => ?_) hold
            have := loadCells_run (P := P) (w := w2) (o := 0) (n := len * i.size) (by rw [hw2]; exact hbk) (show 0 + len * i.size ≤ c.size by omega)
            simp only [Builtin.firstCells]; rw [this, List.drop_zero]
      · cases h
    · cases h
  · cases h
end Go.Ab

/- strings.Builder: its bytes. -/
namespace Go.Ab
open Go.RowKit
set_option linter.unusedVariables false
set_option linter.unusedSimpArgs false

def bytesB : List V → Option (List UInt8)
  | [] => some []
  | v :: vs => match v, bytesB vs with
    | .int .u8 n, some bs => if 0 ≤ n ∧ n < 256 then some (UInt8.ofNat n.toNat :: bs) else none
    | _, _ => none
def bytV (s : List UInt8) : List V := s.map fun b => .int .u8 b.toNat
theorem bytesB_eq : ∀ {l : List V} {s : List UInt8}, bytesB l = some s → l = bytV s
  | [], s, h => by cases h; rfl
  | v :: vs, s, h => by
    unfold bytesB at h
    split at h
    · rename_i n bs hbs
      split at h
      · rename_i hn
        cases h
        rw [bytesB_eq hbs]
        have : (UInt8.ofNat n.toNat).toNat = n.toNat := by
          rw [UInt8.toNat_ofNat']; exact Nat.mod_eq_of_lt (by omega)
        show _ = V.int .u8 ((UInt8.ofNat n.toNat).toNat : Int) :: bytV bs
        rw [this, Int.toNat_of_nonneg hn.1]
      · cases h
    · cases h
theorem bytesB_bytV (s : List UInt8) : bytesB (bytV s) = some s := by
  induction s with
  | nil => rfl
  | cons b s ih =>
    have hb : b.toNat < 256 := b.toNat_lt
    show bytesB (V.int .u8 (b.toNat : Int) :: bytV s) = _
    unfold bytesB
    rw [ih]
    simp only
    rw [if_pos ⟨by omega, by omega⟩, Int.toNat_natCast, UInt8.ofNat_toNat]
theorem bytV_append (s x : List UInt8) : bytV (s ++ x) = bytV s ++ bytV x := by simp [bytV]
theorem bytV_rs {e : E} : ∀ {s : List UInt8} {ws : List Value}, Rs e (bytV s) ws → ws = bytesW s
  | [], ws, h => by cases h; rfl
  | b :: s, ws, h => by
    cases h with
    | int _ _ h' => rw [bytV_rs h']; rfl

def A.appB (sz : Nat) (s : V) (new : Option (List V)) (st : St) (K : V → St → Res) : Res :=
  match s with
  | .buf s t => (match new with
    | some l => (match bytesB l with
      | some x => if s.length + x.length ≤ 1073741824 ∧ sz = 1 then (match t with
          | 0 => none
          | 1 => K (.buf (s ++ x) (st.nt + 3)) (st.newTk 1)
          | 2 => none
          | t + 3 => if st.tk t = some 1 then K (.buf (s ++ x) (st.nt + 3)) ((st.delTk t).newTk 1) else none) else none
      | none => none)
    | none => none)
  | _ => A.app sz s new st K

theorem app_newB {W0 : World} {B : Nat} {e : E} (hr : Rel W0 B e) {s : List UInt8} {cap : Nat} {c : Array Value} {fz : Nat × Nat} (hne : s ≠ []) (hu : unfz c fz s.length) (hcap : s.length ≤ cap) (hc : cap ≤ c.size) (hrs : c.toList.take s.length = bytesW s) :
    ∃ e', e'.st = e.st.newTk 1 ∧ e'.w = { e.w with heap := e.w.heap.push (.cells c 5 fz) } ∧ Ext e e' ∧ Rel W0 B e' ∧ Rs e' [.buf s (e.st.nt + 3)] [.slice (some ⟨e.w.heap.size, 0, none⟩) s.length cap] := by
  have X1 := Ext.lay e (.cells c 5 fz) s.length (hr.frn _ (Nat.le_refl _))
  have R1 := hr.lay c 5 fz s.length (Nat.le_trans hcap hc)
  have hpush : (e.lay (.cells c 5 fz) s.length).w.heap[e.w.heap.size]? = some (.cells c 5 fz) := by
    show (e.w.heap.push _)[e.w.heap.size]? = _; rw [Array.getElem?_push, if_pos rfl]
  have hfr : (e.lay (.cells c 5 fz) s.length).fr e.w.heap.size = s.length := by simp [E.lay]
  have X2 := Ext.tok R1 1 (some (e.w.heap.size, s.length))
  have hlt : ∀ id o', e.st.ob id = some o' → e.σ id < e.w.heap.size := by
    intro id o' ho'
    cases o' with
    | cells cs => obtain ⟨_, _, c, ty, fz, d, _⟩ := hr.cells id cs ho'; exact (Array.getElem?_eq_some_iff.mp d).1
    | map es => obtain ⟨_, ents, clock, d, _⟩ := hr.maps id es ho'; exact (Array.getElem?_eq_some_iff.mp d).1
  have R2 := R1.tok 1 (some (e.w.heap.size, s.length)) (by
    intro b k hp; cases hp
    refine ⟨Nat.le_trans hr.hB hr.below.size, hfr, ⟨c, 5, fz, hpush, hu⟩, ?_, ?_⟩
    · intro t s k' ht hτ
      obtain ⟨_, _, c', ty, fz, d, _⟩ := hr.toks t s _ _ ht hτ
      have := (Array.getElem?_eq_some_iff.mp d).1; omega
    · intro id o hid he
      have := hlt id o hid
      have he' : e.σ id = e.w.heap.size := he
      omega)
  refine ⟨_, rfl, rfl, X1.trans X2, R2, ?_⟩
  refine .buf s _ cap e.w.heap.size 0 c fz hne hcap hpush (by rw [Nat.zero_add]; exact Nat.le_of_eq hfr.symm) (by rw [List.drop_zero]; exact hrs) ⟨by omega, rfl⟩ ?_ .nil
  intro _
  refine ⟨Nat.lt_succ_self _, fun s' hs' => ?_⟩
  have h1 : s' = 1 := by
    rcases tok_tk hs' with ⟨_, g⟩ | ⟨g, _⟩
    · exact g
    · exact absurd rfl g
  refine ⟨h1, ?_, by rw [Nat.zero_add]; exact hc⟩
  show (if e.st.nt = e.st.nt then some (e.w.heap.size, s.length) else _) = _
  rw [if_pos rfl, Nat.zero_add]

theorem bytesW_append (s x : List UInt8) : bytesW (s ++ x) = bytesW s ++ bytesW x := by simp [bytesW]
theorem bytesW_length (s : List UInt8) : (bytesW s).length = s.length := by simp [bytesW]
theorem bytV_length (s : List UInt8) : (bytV s).length = s.length := by simp [bytV]

theorem appB_sound {P : Program} {W0 : World} {B : Nat} {e : E} {K : V → St → Res} {r : Out × St} {t u ty : TypeId} {s x : V} {s' x' : Value} {i : TypeInfo} {z : Value} (hs : sle P t = some 5) (hi : P.info? 5 = some i) (hz : i.zero = some z) (hzs : z.cells.size = i.size) (hb : i.bytes ≤ 65536) (hu : known P u = true) (hu2 : tk P u ≠ 2)
    (h : A.appB (P.cellsOf 5) s (elemsOf (tk P u) (P.cellsOf 5) x e.st) e.st K = some r) (hr : Rel W0 B e) (hsv : Rs e [s] [s']) (hxv : Rs e [x] [x']) : Step P W0 B e (Builtin.append_ #[t, u] ty #[s', x']) K r := by
  unfold A.appB at h
  split at h
  case h_2 => exact app_sound hs hi hz hzs hb hu hu2 h hr hsv hxv
  rename_i s tk0
  split at h
  case h_2 => cases h
  rename_i l hnew
  split at h
  case h_2 => cases h
  rename_i xs hxs
  split at h
  case isFalse => cases h
  rename_i hh
  obtain ⟨hmax, hsz1⟩ := hh
  rw [cellsOf_eq hi] at hsz1
  have hl := bytesB_eq hxs
  subst hl
  rw [cellsOf_eq hi, hsz1] at hnew
  obtain ⟨news, N⟩ := elemsOf_sound (P := P) hnew hr hxv
  have hone : ∀ v ∈ bytV xs, v.one = true := by
    intro v hv; obtain ⟨b, _, rfl⟩ := List.mem_map.mp hv; rfl
  have hnews : news = bytesW xs := by
    have := N.rs
    rw [(flat_ones hone).1] at this
    exact bytV_rs this
  subst hnews
  have hN1 := N.len e.w
  have hN2 := N.run e.w rfl
  have hN3 := N.run e.w.drew rfl
  rw [bytV_length] at hN1 hN2 hN3
  rw [← hsz1] at hN2 hN3
  have arm : ∀ e0 : E, e0.w = e.w → e0.σ = e.σ → e0.τ = e.τ → e0.fr = e.fr → e0.st.ob = e.st.ob → Ext e e0 → Rel W0 B e0 → K (.buf (s ++ xs) (e0.st.nt + 3)) (e0.st.newTk 1) = some r → e0.st.nt = e.st.nt → (∀ t s, e0.st.tk t = some s → e.st.tk t = some s) →
      (∀ t0, tk0 = t0 + 3 → e.st.tk t0 = some 1 ∧ ∀ s, e0.st.tk t0 ≠ some s) → (tk0 = 1 ∨ 3 ≤ tk0) → Step P W0 B e (Builtin.append_ #[t, u] ty #[s', x']) K r := by
    intro e0 hw0 hσ0 hτ0 hfr0 hob0 X0 R0 hK hnt0 htk0 htk hcase
    have outc : ∀ (base : Option Addr) (cap : Nat), s' = .slice base s.length cap → (∀ w2 : World, w2.heap = e.w.heap → (Builtin.firstCells i.size s.length (.slice base s.length cap)).run P w2 = .ok (bytesW s).toArray w2) →
        cap < s.length + xs.length → s ++ xs ≠ [] → Step P W0 B e (Builtin.append_ #[t, u] ty #[s', x']) K r := by
      intro base cap hs' hold hout hne
      subst hs'
      obtain ⟨cap2, hcap2, hrun⟩ := app_out (P := P) (ty := ty) hs hi hz hu hu2 hN1 hN3 (hold e.w.drew rfl) hout hmax hb
      have hsz3 : ((bytesW s).toArray ++ (bytesW xs).toArray ++ Builtin.zeroCells z.cells (cap2 - (s.length + xs.length))).size = cap2 := by
        simp only [Array.size_append, List.size_toArray, bytesW_length, zeroCells_size, hzs, hsz1]
        omega
      have R1 : Rel W0 B e0.drew := R0.drew
      have e1 : ((bytesW s).toArray ++ (bytesW xs).toArray ++ Builtin.zeroCells z.cells (cap2 - (s.length + xs.length))).toList.take (s ++ xs).length = bytesW (s ++ xs) := by
        simp only [Array.toList_append, List.toList_toArray, bytesW_append, List.length_append]
        rw [List.take_append_of_le_length (by simp [bytesW_length]), List.take_of_length_le (by simp [bytesW_length])]
      obtain ⟨e', q1, q2, q3, q4, q5⟩ := app_newB R1 (s := s ++ xs) (cap := cap2) (fz := (0, 0)) hne (fun i _ _ => by simp) (by rw [List.length_append]; exact hcap2) (Nat.le_of_eq hsz3.symm) e1
      rw [List.length_append] at q5
      refine ⟨_, _, e', ?_, ?_, (X0.trans (Ext.drew e0)).trans q3, q4, q5⟩
      · rw [q1]; exact hK
      · rw [hrun, q2]
        simp only [E.drew, hw0]
        rfl
    cases hsv with
    | buf0 _ _ _ =>
      by_cases hn0 : xs = []
      · subst hn0
        obtain ⟨X1, R1⟩ := app_same R0 1
        refine ⟨_, .slice none 0 0, _, hK, ?_, X0.trans X1, R1, .buf0 _ (fun _ => by simp [E.tok, St.newTk]) .nil⟩
        have := app_in (P := P) (ty := ty) (base := none) (n := 0) (cap := 0) hs hi hu hu2 hN1 hN2 (by simp)
        simp only [Result.andThen] at this
        rw [this]
        show _ = Result.ok _ e0.w
        rw [hw0]; rfl
      · have : 0 < xs.length := List.length_pos_iff.2 hn0
        exact outc none 0 rfl (fun w2 _ => by simp [Builtin.firstCells, bytesW]) (by simp; omega) (by simpa using hn0)
    | buf _ _ cap b o c fz h0 hcap hbk hf hc h1 ht1 _ =>
      obtain ⟨h1, rfl⟩ := h1
      have hfs := hr.frs b c 5 fz hbk
      have hne : s ++ xs ≠ [] := by simp [h0]
      by_cases hin : s.length + xs.length ≤ cap
      · have hrunin := app_in (P := P) (ty := ty) (base := some ⟨b, 0, none⟩) (n := s.length) (cap := cap) hs hi hu hu2 hN1 hN2 hin
        have h2 : 3 ≤ tk0 := by omega
        obtain ⟨t0, rfl⟩ : ∃ t0, tk0 = t0 + 3 := ⟨tk0 - 3, by omega⟩
        obtain ⟨g1, g2⟩ := htk t0 rfl
        obtain ⟨p1, p2⟩ := ht1 h2
        obtain ⟨_, r2, r3⟩ := p2 _ (by simpa using g1)
        simp only [Nat.add_sub_cancel, Nat.zero_add] at r2 p1 r3
        rw [List.drop_zero] at hc
        obtain ⟨a1, a2, c1, ty1, fz1, a3, a4⟩ := hr.toks t0 _ _ _ g1 r2
        rw [hbk] at a3; cases a3
        have hnl := bytesW_length xs
        have hbk0 : e0.w.heap[b]? = some (.cells c 5 fz) := by rw [hw0]; exact hbk
        have hk0 : e0.fr b = s.length := by rw [hfr0]; exact a2
        have hpsz := putA_size (bytesW xs) c s.length
        have hpl : (putA c s.length (bytesW xs)).toList = putL c.toList s.length (bytesW xs) := putA_list _ _ _
        have hsame : ∀ j, j < e0.fr b → (putA c s.length (bytesW xs))[j]? = c[j]? := by
          intro j hj
          rw [hk0] at hj
          have := putL_get (bytesW xs) c.toList s.length j hj
          rw [← hpl] at this; simpa using this
        have ntok : ∀ t2 s2 k2, e0.st.tk t2 = some s2 → e0.τ t2 ≠ some (b, k2) := by
          intro t2 s2 k2 ht2 hτ2
          rw [hτ0] at hτ2
          have := hr.tinj t2 t0 _ _ b k2 _ (htk0 _ _ ht2) g1 hτ2 r2
          subst this
          exact g2 _ ht2
        have nob : ∀ id ob, e0.st.ob id = some ob → e0.σ id ≠ b := by
          intro id ob hid
          rw [hob0] at hid; rw [hσ0]
          exact hr.tob t0 _ _ _ id ob g1 r2 hid
        have X1 := Ext.raise (k := s.length + xs.length) hbk0 (by rw [hk0]; omega) hpsz hsame
        have R1 := R0.raise (k := s.length + xs.length) hbk0 (by rw [hk0]; omega) hpsz hsame a1 (by omega) ntok nob
        have X2 := Ext.tok R1 1 (some (b, s.length + xs.length))
        have R2 := R1.tok 1 (some (b, s.length + xs.length)) (by
          intro b1 k1 hp; cases hp
          exact ⟨a1, by simp [E.raise], ⟨_, 5, fz, setBlk_here hbk0, fun j h1 h2 => a4 j (by omega) (by rw [← hpsz]; exact h2)⟩, ntok, nob⟩)
        have X := (X0.trans X1).trans X2
        refine ⟨_, .slice (some ⟨b, 0, none⟩) (s.length + xs.length) cap, _, hK, ?_, X, R2, ?_⟩
        · rw [hrunin]
          simp only [add_plain, hsz1, Nat.mul_one, Nat.zero_add]
          have hrun := storeCells_run (P := P) (bytesW xs) e.w b s.length 0 c 5 fz hbk (fun j h1 h2 => a4 j (by omega) h2) (by omega) (by intro w hw; obtain ⟨y, _, rfl⟩ := List.mem_map.mp hw; rfl)
          rw [Nat.add_zero] at hrun
          rw [hrun]
          simp only [Result.andThen]
          show _ = Result.ok _ (setBlk e0.w b _)
          rw [hw0]
        · rw [← List.length_append]
          refine .buf _ _ cap b 0 _ fz hne (by rw [List.length_append]; exact hin) (setBlk_here hbk0) ?_ ?_ ⟨by omega, rfl⟩ ?_ .nil
          · show _ ≤ (if b = b then _ else _); rw [if_pos rfl, List.length_append]; omega
          · rw [hpl, List.drop_zero, List.length_append, bytesW_append]
            have := putL_behind c.toList 0 s.length (bytesW xs) (by simp; omega)
            rw [Nat.zero_add, List.drop_zero, List.drop_zero, hnl, hc] at this
            exact this
          · intro _
            refine ⟨by simp only [Nat.add_sub_cancel]; exact Nat.lt_succ_self _, fun s2 hs2 => ?_⟩
            have h1 : s2 = 1 := by
              rcases tok_tk hs2 with ⟨_, g⟩ | ⟨g, _⟩
              · exact g
              · exact absurd rfl g
            refine ⟨h1, ?_, by rw [hpsz]; omega⟩
            show (if e0.st.nt = e0.st.nt then some _ else _) = _
            rw [if_pos rfl, Nat.zero_add, List.length_append]
      · refine outc (some ⟨b, 0, none⟩) cap rfl (fun w2 hw2 => ?_) (by omega) hne
        have := loadCells_run (P := P) (w := w2) (o := 0) (n := s.length) (by rw [hw2]; exact hbk) (show 0 + s.length ≤ c.size by omega)
        simp only [Builtin.firstCells, hsz1, Nat.mul_one]; rw [this, hc]
  split at h
  · cases h
  · exact arm e rfl rfl rfl rfl rfl (Ext.refl e) hr h rfl (fun _ _ h => h) (by intro t0 h0; omega) (.inl rfl)
  · cases h
  · rename_i t0
    split at h
    · rename_i htk
      exact arm (e.kill t0) rfl rfl rfl rfl rfl (Ext.kill e t0) (hr.kill t0) h rfl (fun t s hs => (kill_tk hs).2) (by
        intro t1 h1
        have : t1 = t0 := by omega
        subst this
        exact ⟨htk, fun s hs => (kill_tk hs).1 rfl⟩) (.inr (by omega))
    · cases h
end Go.Ab

/- strings.Builder: made; its bytes as a string. -/
namespace Go.Ab
open Go.RowKit
set_option linter.unusedVariables false
set_option linter.unusedSimpArgs false

/-- Is it strings.Builder? (its form) -/
def isBld (P : Program) (t : TypeId) : Bool :=
  match P.underlying t with
  | some (.struct fs) => (match fs.toList with
    | [f0, f1] => (match P.underlying f0.type, sle P f1.type with
      | some (.pointer u), some x0 => Nat.beq u t && Nat.beq x0 5
      | _, _ => false)
    | _ => false)
  | _ => false
def A.newB (t : Nat) (z : V) (st : St) (K : V → St → Res) : Res :=
  match z with
  | .agg [.ptr0, .lst [] 1] => K (.ptr st.n 0) (st.new (.cells [.bld t, .buf [] 1]))
  | _ => none
theorem constV_newB {z : Value} (h : constV z = some (.agg [.ptr0, .lst [] 1])) : z = .agg #[.pointer none, .slice none 0 0] := by
  have e0 : E := ⟨⟨fun _ => none, 0, fun _ => none, 0⟩, default, fun _ => 0, fun _ => none, fun _ => 0⟩
  have hr := constV_sound (e := e0) h
  cases hr with
  | agg cs A ho h1 _ =>
    obtain ⟨l, rfl⟩ : ∃ l : List Value, A = l.toArray := ⟨A.toList, by simp⟩
    simp only [List.toList_toArray] at h1
    cases h1 with
    | ptr0 h2 =>
      cases h2 with
      | lst0 _ _ h3 => cases h3; rfl
      | lste _ _ ht _ => exact absurd rfl ht.1
      | lst _ _ len cap b o sz c ty fz hlen hcap hb hsz ho2 hf hc hx ht _ => exact (hx.1 rfl).elim
theorem newB_sound {P : Program} {W0 : World} {B : Nat} {e : E} {K : V → St → Res} {r : Out × St} {t : TypeId} {v : V} {old : Value} (hz : zeroV P t = some v)
    (h : A.newB t v e.st K = some r) (hr : Rel W0 B e) : Step P W0 B e (Instr.alloc t true old) K r := by
  unfold A.newB at h
  split at h
  · obtain ⟨i, z, hi, hiz, hc⟩ := zeroV_some hz
    have := constV_newB hc
    subst this
    have hnew : ∀ o', e.st.ob e.st.n = some o' → False := fun o' ho' => by have := (hr.live _ _ ho').1; omega
    refine ⟨_, .pointer (some ⟨e.w.heap.size, 0, none⟩), e.newOb (.cells [.bld t, .buf [] 1]) (.cells #[.pointer none, .slice none 0 0] t (0, 0)), h, ?_, Ext.newOb e _ _ hnew, hr.newOb _ _ ?_ ?_, ?_⟩
    · simp [Instr.alloc, newVar, newRow, E.newOb, zeroValue, typeInfo, hi, hiz, Value.cells]
    · intro cs hcs; cases hcs
      refine ⟨?_, _, t, (0, 0), rfl, fun i _ _ => by simp, by simp, ?_, ?_⟩
      · intro v hv
        simp only [List.mem_cons, List.not_mem_nil, or_false] at hv
        rcases hv with rfl | rfl <;> rfl
      · exact .bld t none (.buf0 1 (by omega) .nil)
      · intro k x hx
        cases hx
        exact ⟨rfl, rfl, .inl rfl⟩
    · intro es hes; cases hes
    · exact .ptr _ _ _ (Nat.lt_succ_self _) (fun o ho => by simp [E.newOb]) .nil
  · cases h

def A.sdata (x : V) (K : V → Res) : Res := match x with | .buf s t => K (.bptr s t) | _ => none
theorem sdata_sound {P : Program} {W0 : World} {B : Nat} {e : E} {K : V → St → Res} {r : Out × St} {ts : Array TypeId} {ty : TypeId} {x : V} {x' : Value}
    (h : A.sdata x (fun v => K v e.st) = some r) (hr : Rel W0 B e) (hx : Rs e [x] [x']) : Step P W0 B e (Builtin.unsafeSliceData_ ts ty #[x']) K r := by
  unfold A.sdata at h
  split at h
  · rename_i s t
    cases hx with
    | buf0 _ _ _ => exact Step.pure hr h (Lib.run_unsafeSliceData_nil _ ts ty 0 0) (.bptr0 _ none .nil)
    | buf _ _ cap b o c fz h0 hcap hb hf hc h1 ht _ =>
      have : s.length ≠ 0 := by simpa using h0
      exact Step.pure hr h (Lib.run_unsafeSliceData_row _ ts ty _ _ cap (by omega)) (.bptr s t b o c fz ⟨h0, h1.2⟩ hb hf hc (fun g => ⟨(ht g).1, fun s' hs' => ⟨((ht g).2 s' hs').1, ((ht g).2 s' hs').2.1⟩⟩) .nil)
  · cases h

/-- A block that nothing may write is frozen. -/
def E.frz (e : E) (b n : Nat) : E := { e with w := e.w.freeze ⟨b, 0, none⟩ n }
theorem freeze_other {w : World} {b j n : Nat} (h : j ≠ b) : (w.freeze ⟨b, 0, none⟩ n).heap[j]? = w.heap[j]? := by
  unfold World.freeze
  split
  · rfl
  · simp only [Array.getElem?_modify]
    rw [if_neg (by simpa using Ne.symm h)]
theorem freeze_here {w : World} {b n : Nat} {c : Array Value} {ty : TypeId} {fz : Nat × Nat} (h : w.heap[b]? = some (.cells c ty fz)) : ∃ fz', (w.freeze ⟨b, 0, none⟩ n).heap[b]? = some (.cells c ty fz') := by
  unfold World.freeze
  split
  · exact ⟨fz, h⟩
  · simp only [Array.getElem?_modify, if_true, h]
    exact ⟨_, rfl⟩
theorem freeze_size {w : World} {b n : Nat} : (w.freeze ⟨b, 0, none⟩ n).heap.size = w.heap.size := by
  unfold World.freeze
  split <;> simp
theorem Ext.frz (e : E) (b n : Nat) : Ext e (e.frz b n) := by
  refine ⟨Nat.le_refl _, Nat.le_refl _, fun _ _ => rfl, fun _ _ o h => ⟨o, h⟩, fun _ _ => rfl, fun _ _ _ h => h, fun _ => Nat.le_refl _, fun j c ty fz h => ?_⟩
  by_cases hj : j = b
  · subst hj
    obtain ⟨fz', g⟩ := freeze_here (n := n) h
    exact ⟨c, fz', g, rfl, fun _ _ => rfl⟩
  · exact ⟨c, fz, (freeze_other hj).trans h, rfl, fun _ _ => rfl⟩
theorem Rel.frz {W0 : World} {B : Nat} {e : E} (h : Rel W0 B e) {b n : Nat} {c0 : Array Value} {ty0 : TypeId} {fz0 : Nat × Nat} (hb : e.w.heap[b]? = some (.cells c0 ty0 fz0)) (hB : B ≤ b) (h1 : ∀ t s k', e.st.tk t = some s → e.τ t ≠ some (b, k')) (h2 : ∀ id o, e.st.ob id = some o → e.σ id ≠ b) : Rel W0 B (e.frz b n) := by
  have X := Ext.frz e b n
  refine ⟨Lib.below_freeze h.below (p := ⟨b, 0, none⟩) hB n, h.hB, fun id cs ho => ?_, fun id es ho => ?_, h.live, h.inj, h.tkn, fun t s j kk ht hτ => ?_, h.tinj, h.tob, fun j c1 ty1 fz1 hj => ?_, fun j hj => ?_⟩
  · obtain ⟨a, b', c, ty, fz, d, f, g, k, kb⟩ := h.cells id cs ho; exact ⟨a, b', c, ty, fz, (freeze_other (h2 id _ ho)).trans d, f, g, k.mono X, kb⟩
  · obtain ⟨a, ents, clock, b', c, d⟩ := h.maps id es ho; exact ⟨a, ents, clock, (freeze_other (h2 id _ ho)).trans b', c.mono X, d.1.mono X, d.2⟩
  · have hjb : j ≠ b := fun e1 => h1 t s kk ht (e1 ▸ hτ)
    obtain ⟨a, b', c, ty, fz, d, f⟩ := h.toks t s j kk ht hτ
    exact ⟨a, b', c, ty, fz, (freeze_other hjb).trans d, f⟩
  · by_cases hjb : j = b
    · subst hjb
      obtain ⟨fz', g⟩ := freeze_here (n := n) hb
      have hj' : (e.w.freeze ⟨j, 0, none⟩ n).heap[j]? = some (.cells c1 ty1 fz1) := hj
      rw [g] at hj'; cases hj'
      exact h.frs j _ _ _ hb
    · have hj' : (e.w.freeze ⟨b, 0, none⟩ n).heap[j]? = some (.cells c1 ty1 fz1) := hj
      rw [freeze_other hjb] at hj'; exact h.frs j c1 ty1 fz1 hj'
  · have hj' : (e.w.freeze ⟨b, 0, none⟩ n).heap.size ≤ j := hj
    rw [freeze_size] at hj'; exact h.frn j hj'

def ptE (P : Program) (t : TypeId) : Option TypeId := match P.underlying t with | some (.pointer e) => some e | _ => none
/-- unsafe.String: the bytes are not written any more. -/
def A.ustr (x n : V) (st : St) (K : V → St → Res) : Res :=
  match x with
  | .bptr s t => (match n with
    | .int .i64 n => if n = s.length ∧ s.length ≤ 1073741824 then (match t with
      | 0 => none
      | 1 => (match s with | [] => K (.str []) st | _ => none)
      | 2 => none
      | t + 3 => if st.tk t = some 1 then K (.str s) (st.delTk t) else none) else none
    | _ => none)
  | _ => none
theorem ustr_sound {P : Program} {W0 : World} {B : Nat} {e : E} {K : V → St → Res} {r : Out × St} {pt it ty : TypeId} {x n : V} {x' n' : Value} (hp : ptE P pt = some 5) (hc5 : P.cellsOf 5 = 1)
    (h : A.ustr x n e.st K = some r) (hr : Rel W0 B e) (hx : Rs e [x] [x']) (hn : Rs e [n] [n']) : Step P W0 B e (Builtin.unsafeString_ #[pt, it] ty #[x', n']) K r := by
  have hp' : P.underlying pt = some (.pointer 5) := by
    unfold ptE at hp
    split at hp
    · cases hp; assumption
    · cases hp
  unfold A.ustr at h
  split at h
  case h_2 => cases h
  rename_i s t
  split at h
  case h_2 => cases h
  rename_i n
  split at h
  case isFalse => cases h
  rename_i hh
  obtain ⟨rfl, hmax⟩ := hh
  cases hn with
  | int _ _ _ =>
  have nil : ∀ (p : Option Addr) (e0 : E), e0.w = e.w → Ext e e0 → Rel W0 B e0 → K (.str []) e0.st = some r → s = [] → x' = .pointer p → Step P W0 B e (Builtin.unsafeString_ #[pt, it] ty #[x', .int .i64 s.length]) K r := by
    intro p e0 hw X R hk hs hx'
    subst hs hx'
    refine ⟨_, .string ⟨#[]⟩, e0, hk, ?_, X, R, .str [] .nil⟩
    rw [hw]
    exact Lib.run_unsafeString_none (P := P) e.w pt it ty p
  split at h
  · cases h
  · split at h
    · cases hx with
      | bptr0 t a _ => exact nil a e rfl (Ext.refl e) hr h rfl rfl
      | bptr s t b o c fz h0 hb hf hc ht _ => exact absurd rfl h0.1
    · cases h
  · cases h
  · rename_i t0
    split at h
    · rename_i htk
      have Xk := Ext.kill e t0
      have Rk := hr.kill t0
      cases hx with
      | bptr0 t a _ => exact nil a (e.kill t0) rfl Xk Rk h rfl rfl
      | bptr s t b o c fz h0 hb hf hc ht _ =>
        obtain ⟨h0, rfl⟩ := h0
        obtain ⟨p1, p2⟩ := ht (by omega)
        obtain ⟨_, r2⟩ := p2 1 (by simpa using htk)
        simp only [Nat.add_sub_cancel, Nat.zero_add] at r2 p1
        obtain ⟨a1, a2, _⟩ := hr.toks t0 _ _ _ htk r2
        have hfs := hr.frs b c 5 fz hb
        rw [List.drop_zero] at hc
        have R2 := Rk.frz (b := b) (n := s.length) hb a1 (by
          intro t2 s2 k2 ht2 hτ2
          obtain ⟨q1, q2⟩ := kill_tk ht2
          exact q1 (hr.tinj t2 t0 _ _ b k2 _ q2 htk hτ2 r2)) (fun id o ho => hr.tob t0 _ _ _ id o htk r2 ho)
        refine ⟨_, .string ⟨s.toArray⟩, (e.kill t0).frz b s.length, h, ?_, Xk.trans (Ext.frz _ b s.length), R2, .str s .nil⟩
        have hsh : e.w.shape? b = some (5, c.size) := by simp [World.shape?, hb]
        rw [Lib.run_unsafeString_row (P := P) e.w pt it ty 5 hp' hc5 b c.size hsh s h0 (by omega) (by omega) (by
          intro j x hj
          rw [add_plain, cell_of hb]
          have : (c.toList.take s.length)[j]? = some (Value.int .u8 x.toNat) := by rw [hc]; simp [bytesW, hj]
          rw [List.getElem?_take] at this
          split at this
          · simpa using this
          · cases this)]
        rfl
    · cases h
end Go.Ab

/- Maps: what lies under a key; one more. -/
namespace Go.Ab
open Go.RowKit
set_option linter.unusedVariables false
set_option linter.unusedSimpArgs false

/-- Whether two keys are one. -/
def keq : V → V → Option Bool
  | .str a, .str b => some (decide (a = b))
  | .int k a, .int k' b => if k = k' then some (a == b) else none
  | _, _ => none
/-- Where a key stands (none: nobody knows). -/
def findV (k : V) : List (V × V) → Nat → Option (Option (Nat × V))
  | [], _ => some none
  | x :: es, i => match keq k x.1 with
    | some true => some (some (i, x.2))
    | some false => findV k es (i + 1)
    | none => none
def keyK (P : Program) (t : TypeId) : Bool := match P.underlying t with | some .string => true | some (.int _) => true | _ => false
def fob (o : Option (Option (Nat × V))) (k : Option (Nat × V) → Res) : Res := match o with | some v => k v | none => none
def A.lookup (z : V) (ok : Bool) (m k : V) (st : St) (K : V → Res) : Res :=
  match m with
  | .map0 => (match k with | .str _ | .int _ _ => K (if ok then .tup [z, .bool false] else z) | _ => none)
  | .map id => (match st.ob id with
    | some (.map es) => fob (findV k es 0) fun r => (match r with
      | some (_, v) => K (if ok then .tup [v, .bool true] else v)
      | none => (match k with | .str _ | .int _ _ => K (if ok then .tup [z, .bool false] else z) | _ => none))
    | _ => none)
  | _ => none
def A.mapUpd (m k v : V) (st : St) (K : St → Res) : Res :=
  match m with
  | .map id => (match st.ob id with
    | some (.map es) => fob (findV k es 0) fun r => (match r with
      | some (i, _) => K (st.put id (.map (es.set i (k, v))))
      | none => (match k with | .str _ | .int _ _ => K (st.put id (.map (es ++ [(k, v)]))) | _ => none))
    | _ => none)
  | _ => none
def A.lookupK (b : Bool) (z : V) (ok : Bool) (m k : V) (st : St) (K : V → Res) : Res := if b = true then A.lookup z ok m k st K else none
def A.mapUpdK (b : Bool) (m k v : V) (st : St) (K : St → Res) : Res := if b = true then A.mapUpd m k v st K else none
theorem fob_some {o : Option (Option (Nat × V))} {k : Option (Nat × V) → Res} {r : Out × St} (h : fob o k = some r) : ∃ v, o = some v ∧ k v = some r := by
  cases o with
  | none => cases h
  | some v => exact ⟨v, rfl, h⟩

theorem keyK_some {P : Program} {t : TypeId} (h : keyK P t = true) : P.underlying t = some .string ∨ ∃ k, P.underlying t = some (.int k) := by
  unfold keyK at h
  split at h
  · exact .inl ‹_›
  · exact .inr ⟨_, ‹_›⟩
  · cases h
theorem checkKey_run {P : Program} {w : World} {t : TypeId} (h : keyK P t = true) (b : Bool) (n : Nat) (v : Value) : (Instr.checkKey b (n + 1) t v).run P w = .ok () w := by
  rcases keyK_some h with g | ⟨k, g⟩
  · simp only [Instr.checkKey, Sem.run_bind, run_under g, Result.andThen]; rfl
  · simp only [Instr.checkKey, Sem.run_bind, run_under g, Result.andThen]; rfl
theorem ba_eq (a b : List UInt8) : ((⟨a.toArray⟩ : ByteArray) == ⟨b.toArray⟩) = decide (a = b) := by
  show (a.toArray == b.toArray) = _
  rw [Bool.eq_iff_iff]; simp
/-- Two keys, in the model. -/
theorem sameNow_run {P : Program} {e : E} {t : TypeId} {d : TypeDesc} (hd : P.underlying t = some d) (hk : keyK P t = true) {a b : V} {a' b' : Value} {r : Bool} (h : keq a b = some r) (ha : Rs e [a] [a']) (hb : Rs e [b] [b'])
    (hs : ∀ s, a = .str s → d = .string) (hi : ∀ k n, a = .int k n → ∃ k', d = .int k') : Instr.sameNow d a' b' = some r := by
  unfold keq at h
  split at h
  · cases ha with | str _ _ =>
    cases hb with | str _ _ =>
    have := hs _ rfl
    subst this
    cases h
    show some _ = some _
    rw [ba_eq]
  · cases ha with | int _ _ _ =>
    cases hb with | int _ _ _ =>
    obtain ⟨k', hk'⟩ := hi _ _ rfl
    subst hk'
    split at h
    · rename_i hkk
      cases h
      show (if _ then _ else _) = _
      rw [if_pos hkk]
    · cases h
  · cases h
theorem findNow_run {P : Program} {e : E} {t : TypeId} {d : TypeDesc} (hd : P.underlying t = some d) (hk : keyK P t = true) {k : V} {k' : Value} (hkv : Rs e [k] [k']) (hs : ∀ s, k = .str s → d = .string) (hi : ∀ j n, k = .int j n → ∃ j', d = .int j') :
    ∀ (es : List (V × V)) (ents : List MapEntry) (i : Nat) (r : Option (Nat × V)), findV k es i = some r → Rs e (es.map (·.1)) (ents.map (·.key)) → Rs e (es.map (·.2)) (ents.map (·.val)) →
      ∃ r' : Option (Nat × Value), Instr.findNow d k' ents i = some r' ∧ (match r, r' with
        | none, none => True
        | some (j, v), some (j', v') => j' = j ∧ i ≤ j ∧ j - i < es.length ∧ Rs e [v] [v'] ∧ (∃ x, es[j - i]? = some x ∧ keq k x.1 = some true ∧ x.2 = v)
        | _, _ => False) := by
  intro es
  induction es with
  | nil =>
    intro ents i r h h1 h2
    cases h
    cases ents with
    | nil => exact ⟨none, rfl, trivial⟩
    | cons x l => have := h1.length; simp at this
  | cons x es ih =>
    intro ents i r h h1 h2
    cases ents with
    | nil => have := h1.length; simp at this
    | cons y ents =>
      simp only [List.map_cons] at h1 h2
      obtain ⟨a1, a2⟩ := h1.both
      obtain ⟨b1, b2⟩ := h2.both
      unfold findV at h
      cases hq : keq k x.1 with
      | none => rw [hq] at h; cases h
      | some b =>
      rw [hq] at h
      cases b with
      | true =>
        cases h
        have := sameNow_run hd hk hq hkv a1 hs hi
        refine ⟨some (i, y.val), by unfold Instr.findNow; rw [this], ?_⟩
        exact ⟨rfl, Nat.le_refl _, by simp, b1, x, by simp, hq, rfl⟩
      | false =>
        have := sameNow_run hd hk hq hkv a1 hs hi
        obtain ⟨r', g1, g2⟩ := ih ents (i + 1) r h a2 b2
        refine ⟨r', by unfold Instr.findNow; rw [this]; exact g1, ?_⟩
        cases r with
        | none => cases r' with
          | none => trivial
          | some q => exact g2
        | some p =>
          cases r' with
          | none => exact g2
          | some q =>
            obtain ⟨c1, c2, c3, c4, z, c5, c6, c7⟩ := g2
            refine ⟨c1, by omega, by simp only [List.length_cons]; omega, c4, z, ?_, c6, c7⟩
            rw [show p.1 - i = (p.1 - (i + 1)) + 1 by omega, List.getElem?_cons_succ]; exact c5
/-- A key is of its type. -/
def keyT (d : TypeDesc) (k : V) : Bool := match d, k with | .string, .str _ => true | .int _, .int _ _ => true | _, _ => false
theorem keyT_str {d : TypeDesc} {k : V} (h : keyT d k = true) : ∀ s, k = .str s → d = .string := by
  intro s hs; subst hs; unfold keyT at h; split at h
  · rfl
  · rename_i h2; cases h2
  · cases h
theorem keyT_int {d : TypeDesc} {k : V} (h : keyT d k = true) : ∀ j n, k = .int j n → ∃ j', d = .int j' := by
  intro j n hs; subst hs; unfold keyT at h; split at h
  · rename_i h2; cases h2
  · exact ⟨_, rfl⟩
  · cases h
theorem findKey_run {P : Program} {w : World} {e : E} {t : TypeId} {d : TypeDesc} (hd : P.underlying t = some d) (hk : keyK P t = true) {k : V} {k' : Value} (hT : keyT d k = true) (hkv : Rs e [k] [k']) {es : List (V × V)} {ents : List MapEntry} {r : Option (Nat × V)} (h : findV k es 0 = some r) (h1 : Rs e (es.map (·.1)) (ents.map (·.key))) (h2 : Rs e (es.map (·.2)) (ents.map (·.val))) :
    ∃ r' : Option (Nat × Value), (Instr.findKey t k' ents).run P w = .ok r' w ∧ (match r, r' with
        | none, none => True
        | some (j, v), some (j', v') => j' = j ∧ j < es.length ∧ Rs e [v] [v'] ∧ (∃ x, es[j]? = some x ∧ keq k x.1 = some true)
        | _, _ => False) := by
  obtain ⟨r', g1, g2⟩ := findNow_run hd hk hkv (keyT_str hT) (keyT_int hT) es ents 0 r h h1 h2
  refine ⟨r', ?_, ?_⟩
  · simp only [Instr.findKey, Sem.run_bind, run_under hd, Result.andThen, g1, Sem.run_pure]
  · cases r with
    | none => cases r' with
      | none => trivial
      | some q => exact g2
    | some p =>
      cases r' with
      | none => exact g2
      | some q =>
        obtain ⟨c1, c2, c3, c4, z, c5, c6, c7⟩ := g2
        exact ⟨c1, by omega, c4, z, by simpa using c5, c6⟩
theorem zero_run {P : Program} {w : World} {t : TypeId} {z : V} (hz : zeroV P t = some z) (e : E) : ∃ z', (zeroValue t).run P w = .ok z' w ∧ Rs e [z] [z'] := by
  obtain ⟨i, zv, hi, hiz, hc⟩ := zeroV_some hz
  exact ⟨zv, by simp [zeroValue, typeInfo, hi, hiz], constV_sound e hc⟩
def mapT (P : Program) (t : TypeId) : Option (TypeId × TypeId) := match P.underlying t with | some (.map k e) => some (k, e) | _ => none
theorem mapT_some {P : Program} {t k x : TypeId} (h : mapT P t = some (k, x)) : P.underlying t = some (.map k x) := by
  unfold mapT at h; split at h
  · cases h; assumption
  · cases h
def keyB (P : Program) (t : TypeId) (k : V) : Bool := match P.underlying t with | some d => keyT d k | none => false
theorem keyB_some {P : Program} {t : TypeId} {k : V} (h : keyB P t k = true) : ∃ d, P.underlying t = some d ∧ keyT d k = true ∧ keyK P t = true := by
  unfold keyB at h
  split at h
  · rename_i d hd
    refine ⟨d, hd, h, ?_⟩
    unfold keyK; rw [hd]
    unfold keyT at h
    split at h
    · rfl
    · rfl
    · cases h
  · cases h
theorem lookup_sound {P : Program} {W0 : World} {B : Nat} {e : E} {K : V → St → Res} {r : Out × St} {t kt xt : TypeId} {z m k : V} {m' k' : Value} {ok : Bool} (ht : mapT P t = some (kt, xt)) (hz : zeroV P xt = some z) (hk : keyB P kt k = true)
    (h : A.lookup z ok m k e.st (fun v => K v e.st) = some r) (hr : Rel W0 B e) (hm : Rs e [m] [m']) (hkv : Rs e [k] [k']) : Step P W0 B e (Instr.lookup t m' k' ok) K r := by
  have hu := mapT_some ht
  obtain ⟨d, hd, hT, hK⟩ := keyB_some hk
  obtain ⟨z', hz1, hz2⟩ := zero_run (w := e.w) hz e
  have fin : ∀ (v : V) (v' : Value) (b : Bool), Rs e [v] [v'] → K (if ok then .tup [v, .bool b] else v) e.st = some r → (∃ S : Sem Value, Instr.lookup t m' k' ok = S ∧ S.run P e.w = .ok (if ok then .tuple #[v', .bool b] else v') e.w) → Step P W0 B e (Instr.lookup t m' k' ok) K r := by
    rintro v v' b hv hK ⟨S, hS, hrun⟩
    rw [hS]
    refine Step.pure hr hK hrun ?_
    cases ok with
    | true => exact .tup _ _ (Rs.cons hv (.bool b .nil)) .nil
    | false => exact hv
  unfold A.lookup at h
  split at h
  · cases hm with | map0 _ =>
    have h' : K (if ok then .tup [z, .bool false] else z) e.st = some r := by
      split at h
      · exact h
      · exact h
      · cases h
    refine fin z z' false hz2 h' ⟨_, rfl, ?_⟩
    obtain ⟨r', g1, g2⟩ := findKey_run (w := e.w) hd hK hT hkv (es := []) (ents := []) (r := none) rfl .nil .nil
    cases r' with
    | some q => exact absurd g2 (fun h => h)
    | none =>
      simp only [Instr.lookup, Sem.run_bind, run_under hu, Result.andThen, Sem.run_pure, checkKey_run hK]
      rw [g1]
      simp only [Result.andThen, Sem.run_bind, hz1, Sem.run_pure]
  · rename_i id
    split at h
    · rename_i es hes
      cases hm with | map _ ref hn hl _ =>
      have hrr := hl _ hes; subst hrr
      obtain ⟨_, ents, clock, hb, hk1, hk2, _⟩ := hr.maps id es hes
      have hg : (getObj (e.σ id)).run P e.w = .ok (.map ents clock) e.w := by simp [getObj, Sem.run, hb]
      obtain ⟨q, hq, h⟩ := fob_some h
      obtain ⟨r', g1, g2⟩ := findKey_run (w := e.w) hd hK hT hkv hq hk1 hk2
      cases q with
      | none =>
        cases r' with
        | some q => exact absurd g2 (fun h => h)
        | none =>
          have h' : K (if ok then .tup [z, .bool false] else z) e.st = some r := by
            dsimp only at h
            split at h
            · exact h
            · exact h
            · cases h
          refine fin z z' false hz2 h' ⟨_, rfl, ?_⟩
          simp only [Instr.lookup, Sem.run_bind, run_under hu, Result.andThen, hg, Sem.run_pure, checkKey_run hK, g1, hz1]
      | some p =>
        obtain ⟨j, v⟩ := p
        cases r' with
        | none => exact absurd g2 (fun h => h)
        | some q =>
          obtain ⟨j', v'⟩ := q
          obtain ⟨c1, c2, c3, c4⟩ := g2
          refine fin v v' true c3 h ⟨_, rfl, ?_⟩
          simp only [Instr.lookup, Sem.run_bind, run_under hu, Result.andThen, hg, Sem.run_pure, checkKey_run hK, g1]
    · cases h
  · cases h
theorem Rs.snoc {e : E} {vs : List V} {ws : List Value} {v : V} {w : Value} (h : Rs e vs ws) (k : Rs e [v] [w]) : Rs e (vs ++ [v]) (ws ++ [w]) := Rs.append h k
theorem same_key {e : E} {k k1 : V} {k' k1' : Value} (h : keq k k1 = some true) (hk : Rs e [k] [k']) (h1 : Rs e [k1] [k1']) : Instr.sameBits 10000 k1' k' = true := by
  unfold keq at h
  split at h
  · cases hk with | str _ _ =>
    cases h1 with | str _ _ =>
    simp only [Option.some.injEq, decide_eq_true_eq] at h
    subst h
    show ((_ : ByteArray) == _) = true
    rw [ba_eq]; simp
  · cases hk with | int _ _ _ =>
    cases h1 with | int _ _ _ =>
    split at h
    · rename_i hkk
      simp only [Option.some.injEq, beq_iff_eq] at h
      subst hkk; subst h
      show (_ && _) = true
      simp
    · cases h
  · cases h
theorem key_same {e : E} {k k1 : V} {k' k1' : Value} (h : keq k k1 = some true) (hk : Rs e [k] [k']) (h1 : Rs e [k1] [k1']) : k1' = k' := by
  unfold keq at h
  split at h
  · cases hk with | str _ _ =>
    cases h1 with | str _ _ =>
    simp only [Option.some.injEq, decide_eq_true_eq] at h
    rw [h]
  · cases hk with | int _ _ _ =>
    cases h1 with | int _ _ _ =>
    split at h
    · rename_i hkk
      simp only [Option.some.injEq, beq_iff_eq] at h
      rw [hkk, h]
    · cases h
  · cases h
theorem key_other {e : E} {k k1 : V} {k' k1' : Value} (h : keq k k1 = some false) (hk : Rs e [k] [k']) (h1 : Rs e [k1] [k1']) : k1' ≠ k' := by
  unfold keq at h
  split at h
  · cases hk with | str _ _ =>
    cases h1 with | str _ _ =>
    simp only [Option.some.injEq, decide_eq_false_iff_not] at h
    intro g
    have := congrArg (fun v : Value => match v with | .string s => s.data.toList | _ => []) g
    simp at this
    exact h this.symm
  · cases hk with | int _ _ _ =>
    cases h1 with | int _ _ _ =>
    split at h
    · rename_i hkk
      simp only [Option.some.injEq, beq_eq_false_iff_ne] at h
      intro g
      simp only [Value.int.injEq] at g
      exact h g.2.symm
    · cases h
  · cases h
theorem find_none {e : E} {k : V} {k' : Value} (hkv : Rs e [k] [k']) : ∀ (es : List (V × V)) (ents : List MapEntry) (i : Nat), findV k es i = some none → Rs e (es.map (·.1)) (ents.map (·.key)) → ∀ x ∈ ents, x.key ≠ k' := by
  intro es
  induction es with
  | nil =>
    intro ents i h h1 x hx
    cases ents with
    | nil => cases hx
    | cons y l => have := h1.length; simp at this
  | cons y es ih =>
    intro ents i h h1 x hx
    cases ents with
    | nil => cases hx
    | cons z l =>
      simp only [List.map_cons] at h1
      obtain ⟨a1, a2⟩ := h1.both
      unfold findV at h
      cases hq : keq k y.1 with
      | none => rw [hq] at h; cases h
      | some b =>
        rw [hq] at h
        cases b with
        | true => cases h
        | false =>
          rcases List.mem_cons.1 hx with g | g
          · subst g; exact key_other hq hkv a1
          · exact ih l (i + 1) h a2 x g
theorem mapUpd_sound {P : Program} {W0 : World} {B : Nat} {e : E} {K : St → Res} {r : Out × St} {t kt xt : TypeId} {m k v : V} {m' k' v' : Value} (ht : mapT P t = some (kt, xt)) (hk : keyB P kt k = true)
    (h : A.mapUpd m k v e.st K = some r) (hr : Rel W0 B e) (hm : Rs e [m] [m']) (hkv : Rs e [k] [k']) (hv : Rs e [v] [v']) : StepU P W0 B e (Instr.mapUpdate t m' k' v') K r := by
  have hu := mapT_some ht
  obtain ⟨d, hd, hT, hK⟩ := keyB_some hk
  unfold A.mapUpd at h
  split at h
  · rename_i id
    split at h
    · rename_i es hes
      cases hm with | map _ ref hn hl _ =>
      have hrr := hl _ hes; subst hrr
      obtain ⟨hB, ents, clock, hb, hk1, hk2, hst0⟩ := hr.maps id es hes
      have hg : (getObj (e.σ id)).run P e.w = .ok (.map ents clock) e.w := by simp [getObj, Sem.run, hb]
      obtain ⟨q, hq, h⟩ := fob_some h
      obtain ⟨r', g1, g2⟩ := findKey_run (w := e.w) hd hK hT hkv hq hk1 hk2
      have hset : ∀ (x : Obj), (setObj (e.σ id) x).run P e.w = .ok () (setBlk e.w (e.σ id) x) := fun x => by
        simp [setObj, Sem.run, setBlk, hb]
      have h0 := (hr.live id _ hes).2
      have upd : ∀ (es' : List (V × V)) (ents' : Array MapEntry) (clock' : Nat), Rs e (es'.map (·.1)) (ents'.toList.map (·.key)) → Rs e (es'.map (·.2)) (ents'.toList.map (·.val)) → Go.MapKept.Stamped ents' clock' → Ext e (e.upd id (.map es') (.map ents' clock')) ∧ Rel W0 B (e.upd id (.map es') (.map ents' clock')) := fun es' ents' clock' a b hS => by
        refine ⟨Ext.upd ⟨_, hes⟩ hb h0 (by intro c ty fz hc; cases hc), hr.upd ⟨_, hes⟩ hb (by intro c ty fz hc; cases hc) hB (by intro cs hc; cases hc) ?_⟩
        intro es1 he
        cases he
        exact ⟨ents', clock', rfl, a, b, hS⟩
      cases q with
      | none =>
        cases r' with
        | some q => exact absurd g2 (fun h => h)
        | none =>
          have h' : K (e.st.put id (.map (es ++ [(k, v)]))) = some r := by
            dsimp only at h
            split at h
            · exact h
            · exact h
            · cases h
          obtain ⟨u1, u2⟩ := upd (es ++ [(k, v)]) (ents.push { key := k', val := v', born := clock }) (clock + 1) (by simpa using Rs.append hk1 hkv) (by simpa using Rs.append hk2 hv) (Go.MapKept.stamped_push hst0 (fun x hx => find_none hkv es ents.toList 0 hq hk1 x hx))
          refine ⟨_, h', ?_, u1, u2⟩
          simp only [Instr.mapUpdate, Sem.run_bind, run_under hu, Result.andThen, hg, checkKey_run hK, g1, hset]
          rfl
      | some p =>
        obtain ⟨j, v0⟩ := p
        cases r' with
        | none => exact absurd g2 (fun h => h)
        | some q =>
          obtain ⟨j', v0'⟩ := q
          obtain ⟨c1, c2, c3, x, c4, c5⟩ := g2
          subst c1
          have hx : (es.map (·.1))[j']? = some x.1 := by rw [List.getElem?_map, c4]; rfl
          obtain ⟨y', y1, y2⟩ := hk1.get j' hx
          have hlt : j' < ents.size := by
            have := (List.getElem?_eq_some_iff.mp y1).1
            simpa using this
          have hey : ents[j']? = some ents[j'] := Array.getElem?_eq_getElem hlt
          have hy' : y' = ents[j'].key := by
            rw [List.getElem?_map, Array.getElem?_toList, hey] at y1
            exact (Option.some.inj y1).symm
          have hsb := same_key c5 hkv (hy' ▸ y2)
          have hmod : (ents.modify j' fun e => { e with key := k', val := v' }).toList = ents.toList.set j' { ents[j'] with key := k', val := v' } := by
            apply List.ext_getElem?
            intro i
            rw [Array.getElem?_toList, Array.getElem?_modify, List.getElem?_set]
            by_cases hi : j' = i
            · subst hi
              rw [if_pos rfl, if_pos rfl, hey]
              simp [hlt]
            · rw [if_neg hi, if_neg hi, Array.getElem?_toList]
          obtain ⟨u1, u2⟩ := upd (es.set j' (k, v)) (ents.modify j' fun e => { e with key := k', val := v' }) clock (by rw [hmod, List.map_set, List.map_set]; exact hk1.set j' hkv) (by rw [hmod, List.map_set, List.map_set]; exact hk2.set j' hv) (Go.MapKept.stamped_modify hst0 j' _ (fun _ _ => rfl) (fun x _ hx => by
            rw [hey] at hx; cases hx
            exact (key_same c5 hkv (hy' ▸ y2)).symm))
          refine ⟨_, h, ?_, u1, u2⟩
          have hst : (Instr.keyThatStays (((ents[j']?).map (·.key)).getD k') k').run P e.w = .ok k' e.w := by
            rw [hey]
            simp only [Option.map_some, Option.getD_some, Instr.keyThatStays, hsb, if_true, Sem.run_pure]
          simp only [Instr.mapUpdate, Sem.run_bind, run_under hu, Result.andThen, hg, checkKey_run hK, g1, hst, hset]
          rfl
    · cases h
  · cases h
end Go.Ab

/- Maps: an entry goes; a slice is cleared; structs of plain fields are compared. -/
namespace Go.Ab
open Go.RowKit
set_option linter.unusedVariables false
set_option linter.unusedSimpArgs false

def A.delM (b : Bool) (m k : V) (st : St) (K : V → St → Res) : Res :=
  if b = true then (match m with
  | .map0 => K (.tup []) st
  | .map id => (match st.ob id with
    | some (.map es) => fob (findV k es 0) fun r => (match r with
      | some (i, _) => K (.tup []) (st.put id (.map (es.eraseIdx i)))
      | none => K (.tup []) (st.put id (.map es)))
    | _ => none)
  | _ => none) else none
theorem map_eraseI {α β : Type} (f : α → β) (l : List α) (i : Nat) : (l.eraseIdx i).map f = (l.map f).eraseIdx i := by
  rw [List.eraseIdx_eq_take_drop_succ, List.eraseIdx_eq_take_drop_succ, List.map_append, List.map_take, List.map_drop]
theorem delM_sound {P : Program} {W0 : World} {B : Nat} {e : E} {K : V → St → Res} {r : Out × St} {t kt xt ty : TypeId} {m k : V} {m' k' : Value} {ts : Array TypeId} (hts : ts[0]? = some t) (ht : mapT P t = some (kt, xt))
    (h : A.delM (keyB P kt k) m k e.st K = some r) (hr : Rel W0 B e) (hm : Rs e [m] [m']) (hkv : Rs e [k] [k']) : Step P W0 B e (Builtin.delete_ ts ty #[m', k']) K r := by
  have hu := mapT_some ht
  unfold A.delM at h
  by_cases hk : keyB P kt k = true
  case neg => rw [if_neg hk] at h; cases h
  rw [if_pos hk] at h
  obtain ⟨d, hd, hT, hK⟩ := keyB_some hk
  split at h
  · cases hm with | map0 _ =>
    refine Step.pure hr h (v' := .tuple #[]) ?_ (.tup [] #[] .nil .nil)
    simp only [Builtin.delete_, hts, List.getElem?_toArray, List.getElem?_cons_zero, List.getElem?_cons_succ, Sem.run_bind, run_under hu, Result.andThen, checkKey_run hK, Sem.run_pure]
  · rename_i id
    split at h
    · rename_i es hes
      cases hm with | map _ ref hn hl _ =>
      have hrr := hl _ hes; subst hrr
      obtain ⟨hB, ents, clock, hb, hk1, hk2, hst0⟩ := hr.maps id es hes
      have hg : (getObj (e.σ id)).run P e.w = .ok (.map ents clock) e.w := by simp [getObj, Sem.run, hb]
      obtain ⟨q, hq, h⟩ := fob_some h
      obtain ⟨r', g1, g2⟩ := findKey_run (w := e.w) hd hK hT hkv hq hk1 hk2
      have hset : ∀ (x : Obj), (setObj (e.σ id) x).run P e.w = .ok () (setBlk e.w (e.σ id) x) := fun x => by
        simp [setObj, Sem.run, setBlk, hb]
      have h0 := (hr.live id _ hes).2
      have upd : ∀ (es' : List (V × V)) (ents' : Array MapEntry), Rs e (es'.map (·.1)) (ents'.toList.map (·.key)) → Rs e (es'.map (·.2)) (ents'.toList.map (·.val)) → Go.MapKept.Stamped ents' clock → Ext e (e.upd id (.map es') (.map ents' clock)) ∧ Rel W0 B (e.upd id (.map es') (.map ents' clock)) := fun es' ents' a b hS => by
        refine ⟨Ext.upd ⟨_, hes⟩ hb h0 (by intro c ty fz hc; cases hc), hr.upd ⟨_, hes⟩ hb (by intro c ty fz hc; cases hc) hB (by intro cs hc; cases hc) ?_⟩
        intro es1 he
        cases he
        exact ⟨ents', clock, rfl, a, b, hS⟩
      cases q with
      | none =>
        cases r' with
        | some q => exact absurd g2 (fun h => h)
        | none =>
          obtain ⟨u1, u2⟩ := upd es ents hk1 hk2 hst0
          refine ⟨_, .tuple #[], _, h, ?_, u1, u2, .tup [] #[] .nil .nil⟩
          simp only [Builtin.delete_, hts, List.getElem?_toArray, List.getElem?_cons_zero, List.getElem?_cons_succ, Sem.run_bind, run_under hu, Result.andThen, hg, checkKey_run hK, g1, hset, Sem.run_pure]
          rfl
      | some p =>
        obtain ⟨j, v0⟩ := p
        cases r' with
        | none => exact absurd g2 (fun h => h)
        | some q =>
          obtain ⟨j', v0'⟩ := q
          obtain ⟨c1, c2, c3, x, c4, c5⟩ := g2
          subst c1
          have hlen : es.length = ents.size := by simpa using hk1.length
          have her : (ents.eraseIdxIfInBounds j').toList = ents.toList.eraseIdx j' := by
            rw [Array.eraseIdxIfInBounds, dif_pos (by omega)]; simp
          have rsE : ∀ {vs : List V} {ws : List Value} (i : Nat), Rs e vs ws → Rs e (vs.eraseIdx i) (ws.eraseIdx i) := by
            intro vs ws i hh
            rw [List.eraseIdx_eq_take_drop_succ, List.eraseIdx_eq_take_drop_succ]
            exact Rs.append (hh.take i) (hh.drop (i + 1))
          obtain ⟨u1, u2⟩ := upd (es.eraseIdx j') (ents.eraseIdxIfInBounds j') (by rw [her, map_eraseI, map_eraseI]; exact rsE j' hk1) (by rw [her, map_eraseI, map_eraseI]; exact rsE j' hk2) (Go.MapKept.stamped_erase hst0 j')
          refine ⟨_, .tuple #[], _, h, ?_, u1, u2, .tup [] #[] .nil .nil⟩
          simp only [Builtin.delete_, hts, List.getElem?_toArray, List.getElem?_cons_zero, List.getElem?_cons_succ, Sem.run_bind, run_under hu, Result.andThen, hg, checkKey_run hK, g1, hset, Sem.run_pure]
          rfl
    · cases h
  · cases h
/-! '==' -/
def plainF (P : Program) : List Field → Nat → Bool
  | [], _ => true
  | f :: fs, i => f.name != "_" && f.offset == i && keyK P f.type && plainF P fs (i + 1)
def plainS (P : Program) (t : TypeId) : Bool := match P.underlying t with | some (.struct fs) => !P.stoodInHeld t && !P.eqGuardType P.depth t && plainF P fs.toList 0 | _ => false
def eqF (P : Program) : List Field → List V → List V → Option Bool
  | [], [], [] => some true
  | f :: fs, a :: as, b :: bs => if (keyB P f.type a && keyB P f.type b) = true then (match keq a b, eqF P fs as bs with | some x, some y => some (x && y) | _, _ => none) else none
  | _, _, _ => none
/-- A truth value, a number, a text. -/
def keyB3 (P : Program) (t : TypeId) (v : V) : Bool := match P.underlying t, v with | some .bool, .bool _ => true | some .string, .str _ => true | some (.int _), .int _ _ => true | _, _ => false
def keyK3 (P : Program) (t : TypeId) : Bool := match P.underlying t with | some .bool => true | some .string => true | some (.int _) => true | _ => false
def keq3 : V → V → Option Bool
  | .bool a, .bool b => some (a == b)
  | .str a, .str b => some (decide (a = b))
  | .int k a, .int k' b => if k = k' then some (a == b) else none
  | _, _ => none
/-- Fields in their order, of which some are plain structs. -/
def plainF2 (P : Program) : List Field → Nat → Bool
  | [], _ => true
  | f :: fs, i => f.name != "_" && f.offset == i && (keyK3 P f.type && plainF2 P fs (i + 1) || !keyK3 P f.type && plainS P f.type && plainF2 P fs (i + P.cellsOf f.type))
def plainS2 (P : Program) (t : TypeId) : Bool := match P.underlying t with | some (.struct fs) => !P.stoodInHeld t && !P.eqGuardType P.depth t && plainF2 P fs.toList 0 | _ => false
def eqF2 (P : Program) : List Field → List V → List V → Option Bool
  | [], [], [] => some true
  | f :: fs, as, bs => if keyK3 P f.type = true then (match as, bs with
      | a :: as, b :: bs => if (keyB3 P f.type a && keyB3 P f.type b) = true then (match keq3 a b, eqF2 P fs as bs with | some x, some y => some (x && y) | _, _ => none) else none
      | _, _ => none)
    else if P.cellsOf f.type ≤ as.length ∧ P.cellsOf f.type ≤ bs.length then (match eqF P (P.fieldsOf f.type).toList (as.take (P.cellsOf f.type)) (bs.take (P.cellsOf f.type)), eqF2 P fs (as.drop (P.cellsOf f.type)) (bs.drop (P.cellsOf f.type)) with | some x, some y => some (x && y) | _, _ => none) else none
  | _, _, _ => none
def A.eqS (P : Program) (t : TypeId) (neg : Bool) (a b : V) (K : V → Res) : Res :=
  if plainS P t = true then (match a, b with
  | .agg xs, .agg ys => (match eqF P (P.fieldsOf t).toList xs ys with | some r => K (.bool (if neg then !r else r)) | none => none)
  | _, _ => none) else if plainS2 P t = true then (match a, b with
  | .agg xs, .agg ys => (match eqF2 P (P.fieldsOf t).toList xs ys with | some r => K (.bool (if neg then !r else r)) | none => none)
  | _, _ => none) else none
theorem keq_run {P : Program} {e : E} {t : TypeId} {a b : V} {a' b' : Value} {r : Bool} {w : World} (ha' : keyB P t a = true) (h : keq a b = some r) (ha : Rs e [a] [a']) (hb : Rs e [b] [b']) (d : Nat) : (Op.equalIn (d + 1) t a' b').run P w = .ok r w := by
  obtain ⟨dd, hd, hT, hK⟩ := keyB_some ha'
  unfold keq at h
  split at h
  · cases ha with | str _ _ =>
    cases hb with | str _ _ =>
    have := keyT_str hT _ rfl
    subst this
    cases h
    simp only [Op.equalIn, Sem.run_bind, run_under hd, Result.andThen, Sem.run_pure, ba_eq]
  · cases ha with | int _ _ _ =>
    cases hb with | int _ _ _ =>
    obtain ⟨k', hk'⟩ := keyT_int hT _ _ rfl
    subst hk'
    split at h
    · rename_i hkk
      cases h
      subst hkk
      simp only [Op.equalIn, Sem.run_bind, run_under hd, Result.andThen, if_true, Sem.run_pure]
    · cases h
  · cases h
theorem part_one {P : Program} {e : E} {t : TypeId} {xs : List V} {X : Array Value} {i : Nat} {v : V} {w : World} (hk : keyK P t = true) (hx : Rs e xs X.toList) (hv : xs[i]? = some v) : ∃ v', (part t X i).run P w = .ok v' w ∧ Rs e [v] [v'] := by
  obtain ⟨v', h1, h2⟩ := hx.get i hv
  rw [Array.getElem?_toList] at h1
  refine ⟨v', ?_, h2⟩
  rcases keyK_some hk with g | ⟨k, g⟩
  · simp only [part, Sem.run_bind, isAgg_run P t w ⟨_, g⟩, isAg, g, Result.andThen]
    simp [h1]
  · simp only [part, Sem.run_bind, isAgg_run P t w ⟨_, g⟩, isAg, g, Result.andThen]
    simp [h1]
theorem eqFields_run {P : Program} {e : E} {X Y : Array Value} {xs ys : List V} (hx : Rs e xs X.toList) (hy : Rs e ys Y.toList) (d : Nat) (w : World) : ∀ (fs : List Field) (i : Nat) (r : Bool), plainF P fs i = true → eqF P fs (xs.drop i) (ys.drop i) = some r → (Op.eqFields (d + 1) X Y fs).run P w = .ok r w := by
  intro fs
  induction fs with
  | nil =>
    intro i r hp h
    cases hxd : xs.drop i with
    | nil =>
      cases hyd : ys.drop i with
      | nil => rw [hxd, hyd] at h; simp [eqF] at h; subst h; simp [Op.eqFields]
      | cons b bs => rw [hxd, hyd] at h; simp [eqF] at h
    | cons a as => rw [hxd] at h; simp [eqF] at h
  | cons f fs ih =>
    intro i r hp h
    unfold plainF at hp
    simp only [Bool.and_eq_true, bne_iff_ne, ne_eq, beq_iff_eq] at hp
    obtain ⟨⟨⟨p1, p2⟩, p3⟩, p4⟩ := hp
    cases hxd : xs.drop i with
    | nil => rw [hxd] at h; simp [eqF] at h
    | cons a as =>
      cases hyd : ys.drop i with
      | nil => rw [hxd, hyd] at h; simp [eqF] at h
      | cons b bs =>
        rw [hxd, hyd] at h
        unfold eqF at h
        split at h
        · rename_i hkb
          simp only [Bool.and_eq_true] at hkb
          have hxa : xs[i]? = some a := by
            have := congrArg (·[0]?) hxd
            simpa using this
          have hyb : ys[i]? = some b := by
            have := congrArg (·[0]?) hyd
            simpa using this
          have hxs : xs.drop (i + 1) = as := by have := congrArg List.tail hxd; simpa using this
          have hys : ys.drop (i + 1) = bs := by have := congrArg List.tail hyd; simpa using this
          cases hq : keq a b with
          | none => rw [hq] at h; cases h
          | some x =>
            cases hr : eqF P fs as bs with
            | none => rw [hq, hr] at h; cases h
            | some y =>
              rw [hq, hr] at h
              cases h
              obtain ⟨a', a1, a2⟩ := part_one (w := w) p3 hx hxa
              obtain ⟨b', b1, b2⟩ := part_one (w := w) p3 hy hyb
              have hi := ih (i + 1) y p4 (by rw [hxs, hys]; exact hr)
              have he := keq_run (w := w) hkb.1 hq a2 b2 d
              simp only [Op.eqFields, ne_eq, p1, not_false_eq_true, if_true, p2, Sem.run_bind, a1, b1, he, Result.andThen]
              cases x with
              | true => simpa using hi
              | false => simp
        · cases h
theorem keyK3_some {P : Program} {t : TypeId} (h : keyK3 P t = true) : P.underlying t = some .bool ∨ P.underlying t = some .string ∨ ∃ k, P.underlying t = some (.int k) := by
  unfold keyK3 at h
  split at h
  · exact .inl ‹_›
  · exact .inr (.inl ‹_›)
  · exact .inr (.inr ⟨_, ‹_›⟩)
  · cases h
theorem keq3_run {P : Program} {e : E} {t : TypeId} {a b : V} {a' b' : Value} {r : Bool} {w : World} (ha' : keyB3 P t a = true) (h : keq3 a b = some r) (ha : Rs e [a] [a']) (hb : Rs e [b] [b']) (d : Nat) : (Op.equalIn (d + 1) t a' b').run P w = .ok r w := by
  unfold keq3 at h
  split at h
  · cases ha with | bool _ _ =>
    cases hb with | bool _ _ =>
    cases h
    unfold keyB3 at ha'
    split at ha'
    · rename_i hd _
      simp only [Op.equalIn, Sem.run_bind, run_under hd, Result.andThen, Sem.run_pure]
    · rename_i hv; cases hv
    · rename_i hv; cases hv
    · cases ha'
  · cases ha with | str _ _ =>
    cases hb with | str _ _ =>
    cases h
    unfold keyB3 at ha'
    split at ha'
    · rename_i hv; cases hv
    · rename_i hd _
      simp only [Op.equalIn, Sem.run_bind, run_under hd, Result.andThen, Sem.run_pure, ba_eq]
    · rename_i hv; cases hv
    · cases ha'
  · cases ha with | int _ _ _ =>
    cases hb with | int _ _ _ =>
    unfold keyB3 at ha'
    split at h
    · rename_i hkk
      cases h
      subst hkk
      split at ha'
      · rename_i hv; cases hv
      · rename_i hv; cases hv
      · rename_i hd _
        simp only [Op.equalIn, Sem.run_bind, run_under hd, Result.andThen, if_true, Sem.run_pure]
      · cases ha'
    · cases h
  · cases h
theorem part_one3 {P : Program} {e : E} {t : TypeId} {xs : List V} {X : Array Value} {i : Nat} {v : V} {w : World} (hk : keyK3 P t = true) (hx : Rs e xs X.toList) (hv : xs[i]? = some v) : ∃ v', (part t X i).run P w = .ok v' w ∧ Rs e [v] [v'] := by
  obtain ⟨v', h1, h2⟩ := hx.get i hv
  rw [Array.getElem?_toList] at h1
  refine ⟨v', ?_, h2⟩
  rcases keyK3_some hk with g | g | ⟨k, g⟩
  · simp only [part, Sem.run_bind, isAgg_run P t w ⟨_, g⟩, isAg, g, Result.andThen]
    simp [h1]
  · simp only [part, Sem.run_bind, isAgg_run P t w ⟨_, g⟩, isAg, g, Result.andThen]
    simp [h1]
  · simp only [part, Sem.run_bind, isAgg_run P t w ⟨_, g⟩, isAg, g, Result.andThen]
    simp [h1]
theorem plainS_some {P : Program} {t : TypeId} (h : plainS P t = true) : ∃ fs, P.underlying t = some (.struct fs) ∧ P.fieldsOf t = fs ∧ P.stoodInHeld t = false ∧ plainF P fs.toList 0 = true := by
  unfold plainS at h
  split at h
  · rename_i fs hu
    simp only [Bool.and_eq_true, Bool.not_eq_true'] at h
    exact ⟨fs, hu, by simp [Program.fieldsOf, hu], h.1.1, h.2⟩
  · cases h
theorem eqFields2_run {P : Program} {e : E} {X Y : Array Value} {xs ys : List V} (hx : Rs e xs X.toList) (hy : Rs e ys Y.toList) (d : Nat) (w : World) : ∀ (fs : List Field) (i : Nat) (r : Bool), plainF2 P fs i = true → eqF2 P fs (xs.drop i) (ys.drop i) = some r → (Op.eqFields (d + 3) X Y fs).run P w = .ok r w := by
  intro fs
  induction fs with
  | nil =>
    intro i r hp h
    cases hxd : xs.drop i with
    | nil =>
      cases hyd : ys.drop i with
      | nil => rw [hxd, hyd] at h; simp [eqF2] at h; subst h; simp [Op.eqFields]
      | cons b bs => rw [hxd, hyd] at h; simp [eqF2] at h
    | cons a as => rw [hxd] at h; simp [eqF2] at h
  | cons f fs ih =>
    intro i r hp h
    unfold plainF2 at hp
    simp only [Bool.and_eq_true, bne_iff_ne, ne_eq, beq_iff_eq, Bool.or_eq_true, Bool.not_eq_true'] at hp
    obtain ⟨⟨p1, p2⟩, p3⟩ := hp
    unfold eqF2 at h
    by_cases hkk : keyK3 P f.type = true
    · rw [if_pos hkk] at h
      have p4 : plainF2 P fs (i + 1) = true := by
        rcases p3 with g | g
        · exact g.2
        · rw [hkk] at g; cases g.1.1
      split at h
      case h_2 => cases h
      rename_i a as b bs hxd hyd
      split at h
      case isFalse => cases h
      rename_i hkb
      simp only [Bool.and_eq_true] at hkb
      have hxa : xs[i]? = some a := by
        have := congrArg (·[0]?) hxd
        simpa using this
      have hyb : ys[i]? = some b := by
        have := congrArg (·[0]?) hyd
        simpa using this
      have hxs : xs.drop (i + 1) = as := by have := congrArg List.tail hxd; simpa using this
      have hys : ys.drop (i + 1) = bs := by have := congrArg List.tail hyd; simpa using this
      cases hq : keq3 a b with
      | none => rw [hq] at h; cases h
      | some x =>
        cases hr : eqF2 P fs as bs with
        | none => rw [hq, hr] at h; cases h
        | some y =>
          rw [hq, hr] at h
          cases h
          obtain ⟨a', a1, a2⟩ := part_one3 (w := w) hkk hx hxa
          obtain ⟨b', b1, b2⟩ := part_one3 (w := w) hkk hy hyb
          have hi := ih (i + 1) y p4 (by rw [hxs, hys]; exact hr)
          have he := keq3_run (w := w) hkb.1 hq a2 b2 (d + 2)
          simp only [Op.eqFields, ne_eq, p1, not_false_eq_true, if_true, p2, Sem.run_bind, a1, b1, he, Result.andThen]
          cases x with
          | true => simpa using hi
          | false => simp
    · rw [if_neg hkk] at h
      obtain ⟨g2, p4⟩ : plainS P f.type = true ∧ plainF2 P fs (i + P.cellsOf f.type) = true := by
        rcases p3 with g | g
        · exact absurd g.1 hkk
        · exact ⟨g.1.2, g.2⟩
      obtain ⟨fs', hu, hf, hst, hpl⟩ := plainS_some g2
      split at h
      case isFalse => cases h
      rename_i hle
      obtain ⟨inf, hinf⟩ := info_of_under hu
      have hce := cellsOf_eq hinf
      have hag : isAg P f.type = true := by simp [isAg, hu]
      have hrun := isAgg_run P f.type w ⟨_, hu⟩
      rw [hag] at hrun
      have mk : ∀ {zs : List V} {Z : Array Value}, Rs e zs Z.toList → (part f.type Z i).run P w = .ok (.agg (Z.extract i (i + P.cellsOf f.type))) w ∧ Rs e ((zs.drop i).take (P.cellsOf f.type)) (Z.extract i (i + P.cellsOf f.type)).toList := by
        intro zs Z hz
        refine ⟨by simp [Go.part, hrun, sizeOf_run hinf, hce], ?_⟩
        have := (hz.drop i).take (P.cellsOf f.type)
        rw [show (Z.extract i (i + P.cellsOf f.type)).toList = (Z.toList.drop i).take (P.cellsOf f.type) from by simp [List.extract_eq_take_drop]]
        exact this
      obtain ⟨a1, a2⟩ := mk hx
      obtain ⟨b1, b2⟩ := mk hy
      cases hq : eqF P (P.fieldsOf f.type).toList ((xs.drop i).take (P.cellsOf f.type)) ((ys.drop i).take (P.cellsOf f.type)) with
      | none => rw [hq] at h; cases h
      | some x =>
        cases hr : eqF2 P fs ((xs.drop i).drop (P.cellsOf f.type)) ((ys.drop i).drop (P.cellsOf f.type)) with
        | none => rw [hq, hr] at h; cases h
        | some y =>
          rw [hq, hr] at h
          cases h
          have hi := ih (i + P.cellsOf f.type) y p4 (by rw [← hr]; simp [List.drop_drop])
          have he : (Op.equalIn (d + 3) f.type (.agg (X.extract i (i + P.cellsOf f.type))) (.agg (Y.extract i (i + P.cellsOf f.type)))).run P w = .ok x w := by
            rw [show d + 3 = (d + 2) + 1 from rfl, run_equalIn_struct (P := P) w (d + 2) f.type _ _ (by rw [hf]; exact hu) hst]
            exact eqFields_run a2 b2 (d + 1) w _ 0 x (by rw [hf]; exact hpl) (by simpa using hq)
          simp only [Op.eqFields, ne_eq, p1, not_false_eq_true, if_true, p2, Sem.run_bind, a1, b1, he, Result.andThen]
          cases x with
          | true => simpa using hi
          | false => simp
theorem eqS_sound {P : Program} {W0 : World} {B : Nat} {e : E} {K : V → St → Res} {r : Out × St} {t : TypeId} {x y : Operand} {a b : V} {a' b' : Value} (neg : Bool)
    (h : A.eqS P t neg a b (fun v => K v e.st) = some r) (hr : Rel W0 B e) (ha : Rs e [a] [a']) (hb : Rs e [b] [b']) : Step P W0 B e (do eqGuard (if neg then .neq else .eql) t x y a' b'; binOp (if neg then .neq else .eql) t a' b') K r := by
  unfold A.eqS at h
  split at h
  · rename_i hpl
    split at h
    · rename_i xs ys
      split at h
      · rename_i q hq
        cases ha with | agg _ X ho hX _ =>
        cases hb with | agg _ Y ho' hY _ =>
        unfold plainS at hpl
        split at hpl
        · rename_i fs hu
          simp only [Bool.and_eq_true, Bool.not_eq_true'] at hpl
          obtain ⟨⟨p1, p2⟩, p3⟩ := hpl
          have hf : P.fieldsOf t = fs := by simp [Program.fieldsOf, hu]
          have hrun : (Op.equalIn 10000 t (.agg X) (.agg Y)).run P e.w = .ok q e.w := by
            rw [show (10000 : Nat) = 9999 + 1 from rfl, run_equalIn_struct (P := P) e.w 9999 t X Y (by rw [hf]; exact hu) p1]
            exact eqFields_run hX hY 9998 e.w _ 0 q (by rw [hf]; exact p3) (by simpa using hq)
          refine Step.bool hr h ?_
          cases neg with
          | true => simp only [if_true, Sem.run_bind, run_eqGuard_agg (P := P) e.w .neq t x y X Y p2, Result.andThen, run_neq_struct, hrun]
          | false => simp only [Bool.false_eq_true, if_false, Sem.run_bind, run_eqGuard_agg (P := P) e.w .eql t x y X Y p2, Result.andThen, run_eql_struct, hrun]
        · cases hpl
      · cases h
    · cases h
  · split at h
    · rename_i hpl
      split at h
      · rename_i xs ys
        split at h
        · rename_i q hq
          cases ha with | agg _ X ho hX _ =>
          cases hb with | agg _ Y ho' hY _ =>
          unfold plainS2 at hpl
          split at hpl
          · rename_i fs hu
            simp only [Bool.and_eq_true, Bool.not_eq_true'] at hpl
            obtain ⟨⟨p1, p2⟩, p3⟩ := hpl
            have hf : P.fieldsOf t = fs := by simp [Program.fieldsOf, hu]
            have hrun : (Op.equalIn 10000 t (.agg X) (.agg Y)).run P e.w = .ok q e.w := by
              rw [show (10000 : Nat) = 9999 + 1 from rfl, run_equalIn_struct (P := P) e.w 9999 t X Y (by rw [hf]; exact hu) p1]
              exact eqFields2_run hX hY 9996 e.w _ 0 q (by rw [hf]; exact p3) (by simpa using hq)
            refine Step.bool hr h ?_
            cases neg with
            | true => simp only [if_true, Sem.run_bind, run_eqGuard_agg (P := P) e.w .neq t x y X Y p2, Result.andThen, run_neq_struct, hrun]
            | false => simp only [Bool.false_eq_true, if_false, Sem.run_bind, run_eqGuard_agg (P := P) e.w .eql t x y X Y p2, Result.andThen, run_eql_struct, hrun]
          · cases hpl
        · cases h
      · cases h
    · cases h
def A.clearS (z x : V) (st : St) (K : V → St → Res) : Res :=
  match x with
  | .lst [] _ => K (.tup []) st
  | .sl id off len 1 => if len = 0 then K (.tup []) st else (match st.ob id with
    | some (.cells cs) => if z.one = true ∧ off + len ≤ cs.length then K (.tup []) (st.put id (.cells (putL cs off (List.replicate len z)))) else none
    | _ => none)
  | _ => none
theorem zeroCells_one (z : Value) (n : Nat) : (Builtin.zeroCells #[z] n).toList = List.replicate n z := by
  unfold Builtin.zeroCells
  apply List.ext_getElem
  · simp
  · intro i h1 h2
    simp [Nat.mod_one]
theorem clearS_sound {P : Program} {W0 : World} {B : Nat} {e : E} {K : V → St → Res} {r : Out × St} {t x0 ty : TypeId} {z x : V} {x' : Value} {ts : Array TypeId} (hts : ts[0]? = some t) (hs : sle P t = some x0) (hz : zeroV P x0 = some z)
    (h : A.clearS z x e.st K = some r) (hr : Rel W0 B e) (hx : Rs e [x] [x']) : Step P W0 B e (Builtin.clear_ ts ty #[x']) K r := by
  have hu := sle_some hs
  have nil : ∀ (p : Option Addr) (cap : Nat), K (.tup []) e.st = some r → Step P W0 B e (Builtin.clear_ ts ty #[.slice p 0 cap]) K r := fun p cap h => by
    refine Step.pure hr h (v' := .tuple #[]) ?_ (.tup [] #[] .nil .nil)
    cases p <;> simp [Builtin.clear_, hts, run_under hu]
  unfold A.clearS at h
  split at h
  · cases hx with
    | lst0 _ _ _ => exact nil _ _ h
    | lste _ _ _ _ => exact nil _ _ h
    | lst _ _ len cap b o sz c ty fz hlen => cases hlen; exact nil _ _ h
  · rename_i id off len
    cases hx with | sl _ _ _ _ cap a hn hcap hl _ =>
    by_cases h0 : len = 0
    · rw [if_pos h0] at h; subst h0; exact nil _ _ h
    rw [if_neg h0] at h
    split at h
    · rename_i cs hcs
      split at h
      · rename_i hh
        obtain ⟨h1, h2⟩ := hh
        obtain ⟨ha, _⟩ := hl _ hcs (by omega)
        subst ha
        obtain ⟨z', hz1, hz2⟩ := zero_run (w := e.w) hz e
        obtain ⟨hB, ho, c, ty', fz, hb, hu', hle, hc, hbk⟩ := hr.cells id cs hcs
        have hlive : ∃ o', e.st.ob id = some o' := ⟨_, hcs⟩
        have hf0 := (hr.live id _ hcs).2
        have hzc : z'.cells = #[z'] ∧ z.cells = [z] := by
          cases z <;> first | (simp [V.one] at h1; done) | skip
          all_goals (cases hz2 <;> exact ⟨rfl, rfl⟩)
        have hrl : Rs e (List.replicate len z) (List.replicate len z') := by
          clear h h0 h2 hl hcap
          induction len with
          | zero => exact .nil
          | succ n ih => exact Rs.cons hz2 ih
        have hones : ∀ v ∈ List.replicate len z, v.one = true := fun v hv => by rw [(List.mem_replicate.1 hv).2]; exact h1
        have hsz : ∀ c1 ty1 fz1, Obj.cells c ty' fz = .cells c1 ty1 fz1 → ∃ c' fz', Obj.cells (putA c off (List.replicate len z')) ty' fz = .cells c' ty1 fz' ∧ c'.size = c1.size := by
          intro c1 ty1 fz1 he; cases he; exact ⟨_, _, rfl, putA_size _ _ _⟩
        refine ⟨_, .tuple #[], e.upd id (.cells (putL cs off (List.replicate len z))) (.cells (putA c off (List.replicate len z')) ty' fz), h, ?_, Ext.upd hlive hb hf0 hsz, hr.upd hlive hb hsz hB ?_ ?_, .tup [] #[] .nil .nil⟩
        · have hrun := storeCells_run (P := P) (List.replicate len z') e.w (e.σ id) off 0 c ty' fz hb (fun j _ hj => hu' j (by omega) hj) (by simp; omega) (hrl.ones hones)
          rw [Nat.add_zero] at hrun
          obtain ⟨n, rfl⟩ : ∃ n, len = n + 1 := ⟨len - 1, by omega⟩
          simp only [Builtin.clear_, hts, List.getElem?_toArray, List.getElem?_cons_zero, Sem.run_bind, run_under hu, Result.andThen, hz1, hzc.1, zeroCells_one]
          rw [hrun]
          rfl
        · intro cs' he; cases he
          refine ⟨?_, _, _, _, rfl, ?_, ?_, ?_, ?_⟩
          · intro x hx
            rcases putL_mem _ _ _ x hx with g | g
            · exact ho x g
            · exact oneB_of (hones x g)
          · intro j h4 h5; rw [putA_size] at h5; exact hu' j h4 h5
          · rw [putL_length, putA_size]; exact hle
          · rw [putA_list, putL_length, putL_take]
            exact Rs.putL off hc hrl
          · exact bldOK_put hbk hones (by simp)
        · intro es he; cases he
      · cases h
    · cases h
  · cases h
end Go.Ab

/- A type assertion that holds. -/
namespace Go.Ab
open Go.RowKit
set_option linter.unusedVariables false
set_option linter.unusedSimpArgs false
def notI (P : Program) (t : TypeId) : Bool := match P.underlying t with | some (.interface _) => false | some _ => true | none => false
def A.tas (P : Program) (u : TypeId) (ok : Bool) (x : V) (K : V → Res) : Res :=
  match x with
  | .iface t v => if t = u ∧ notI P u = true then K (if ok then .tup [v, .bool true] else v) else none
  | _ => none
theorem tas_sound {P : Program} {W0 : World} {B : Nat} {e : E} {K : V → St → Res} {r : Out × St} {u xt : TypeId} {ok : Bool} {x : V} {x' : Value}
    (h : A.tas P u ok x (fun v => K v e.st) = some r) (hr : Rel W0 B e) (hx : Rs e [x] [x']) : Step P W0 B e (Instr.typeAssert x' xt u ok) K r := by
  unfold A.tas at h
  split at h
  · rename_i t v
    split at h
    · rename_i hh
      obtain ⟨rfl, hn⟩ := hh
      cases hx with | iface _ _ w hv _ =>
      unfold notI at hn
      cases hu : P.underlying t with
      | none => rw [hu] at hn; cases hn
      | some d =>
        rw [hu] at hn
        have hru := run_under (w := e.w) hu
        refine Step.pure hr h (v' := if ok then .tuple #[w, .bool true] else w) ?_ ?_
        · cases d with
          | interface _ => cases hn
          | _ => simp only [Instr.typeAssert, Sem.run_bind, hru, Result.andThen, if_true, Sem.run_pure]
        · cases ok with
          | true => exact .tup _ _ (Rs.cons hv (.bool true .nil)) .nil
          | false => exact hv
    · cases h
  · cases h
end Go.Ab
