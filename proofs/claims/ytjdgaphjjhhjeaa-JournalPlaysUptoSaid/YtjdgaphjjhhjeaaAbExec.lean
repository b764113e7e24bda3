import Derived.Test.YtjdgaphjjhhjeaaAbOpmerged0
/- The abstract machine, and that it is sound. -/
namespace Go.Ab
open Go.RowKit
set_option linter.unusedVariables false
set_option linter.unusedSimpArgs false

abbrev Fn := List V → St → Res
/-- Which functions may be called. -/
abbrev Tbl := Nat → Option Fn

/-- What a Lean function says of a Go function. -/
def OutR (e : E) : Out → Ending → Prop
  | .ret v, en => ∃ v', en = .returned v' ∧ Rs e [v] [v']
  | .panic v, en => ∃ v', en = .panicked [{ v := v', recovered := false }] ∧ Rs e [v] [v']
def okFn (P : Program) (f : FuncId) : Bool := match P.funcs[f]? with | some fn => fn.name != "runtime.NumGoroutine" && fn.body.isSome | none => false
structure Sim (P : Program) (f : FuncId) (sh : Fn) : Prop where
  ok : okFn P f = true
  run : ∀ (W0 : World) (B : Nat) (e : E) (args : List V) (cargs : Array Value) (out : Out) (st' : St), sh args e.st = some (out, st') → Rel W0 B e → Rs e args cargs.toList →
    Calls P f cargs e.w fun en w' => ∃ e', e'.st = st' ∧ e'.w = w' ∧ Ext e e' ∧ Rel W0 B e' ∧ OutR e' out en
def SimT (P : Program) (T : Tbl) : Prop := ∀ f sh, T f = some sh → Sim P f sh

/-- What comes behind a call. -/
def A.ret (x : Res) (K : V → St → Res) : Res :=
  match x with
  | some (.ret v, st') => K v st'
  | some (.panic p, st') => some (.panic p, st')
  | none => none
/-- A call of a function's value. -/
def A.call (T : Tbl) (fv : V) (vs : List V) (st : St) (K : V → St → Res) : Res :=
  match fv with
  | .fn f first cap =>
    (match T f with
     | some sh => A.ret (sh ((first ++ vs ++ cap).map V.er1) st) K
     | none => none)
  | _ => none

def A.cond (c : V) (x y : Res) : Res := match c with | .bool true => x | .bool false => y | _ => none
/-- An operation under a guard. -/
def A.guard (c : V) (want : Bool) (run skip : Res) : Res := match c with | .bool b => (if b == want then run else skip) | _ => none
/-- .. where the guard itself may have been skipped. -/
def A.guardT (c : V) (want : Bool) (run skip skipT : Res) : Res := match c with | .tup _ => skipT | c => A.guard c want run skip
theorem guardT_some {g : Bool} {c : V} {want : Bool} {x y z : Res} {r : Out × St} (h : cond g (A.guardT c want x y z) (A.guard c want x y) = some r) : (∃ b, c = .bool b ∧ (if b == want then x else y) = some r) ∨ ∃ l, c = .tup l ∧ z = some r := by
  cases g with
  | false =>
    simp only [cond_false, A.guard] at h
    split at h
    · exact .inl ⟨_, rfl, h⟩
    · cases h
  | true =>
    simp only [cond_true, A.guardT] at h
    split at h
    · exact .inr ⟨_, rfl, h⟩
    · unfold A.guard at h
      split at h
      · exact .inl ⟨_, rfl, h⟩
      · cases h

def oV (env : Env) : Option Operand → Option (Option V)
  | none => some none
  | some x => match opV env x with
    | some v => some (some v)
    | none => none
def oob (o : Option (Option V)) (k : Option V → Res) : Res := match o with | some v => k v | none => none

/-- Parts with their places, off the types. -/
def partsV (P : Program) (t : TypeId) (env : Env) : List (Nat × Operand) → Option (List (Nat × Nat × V))
  | [] => some []
  | (i, x) :: rest => match placeOf P t i, opV env x, partsV P t env rest with
    | some (o, s), some v, some l => some ((o, s, v) :: l)
    | _, _, _ => none
def pobs (o : Option (List (Nat × Nat × V))) (k : List (Nat × Nat × V) → Res) : Res := match o with | some v => k v | none => none
def elemsV (env : Env) : List (Nat × Operand) → Option (List (Nat × V))
  | [] => some []
  | (i, x) :: rest => match opV env x, elemsV env rest with
    | some v, some l => some ((i, v) :: l)
    | _, _ => none
def eobs (o : Option (List (Nat × V))) (k : List (Nat × V) → Res) : Res := match o with | some v => k v | none => none

def infoB (P : Program) (t : TypeId) : Bool := match P.info? t with | some i => (match i.zero with | some z => z.cells.size == i.size && i.bytes ≤ 65536 | none => false) | none => false

def A.min (a b : V) (K : V → Res) : Res := match a, b with | .int k x, .int _ y => K (.int k (if y < x then y else x)) | _, _ => none
def A.max (a b : V) (K : V → Res) : Res := match a, b with | .int k x, .int _ y => K (.int k (if y > x then y else x)) | _, _ => none

/-- One operation. 'mu': which slots hold slices whose elements may be written. -/
def aop (P : Program) (mu : Nat → Bool) (T : Tbl) (o : Oper) (env : Env) (st : St) (K : V → St → Res) : Res :=
  match o.op with
  | .move x | .assign x => ob (opV env x) fun v => K v st
  | .pick c a b => ob (opV env c) fun c => ob (opV env a) fun a => ob (opV env b) fun b => A.pick c a b fun v => K v st
  | .alloc t => ob (zeroV P t) fun z => cond (isBld P t) (A.newB t z st K) (A.box z st K)
  | .box t x => ob (opV env x) fun v => A.box v st K
  | .build t parts => if partsKnown P t then ob (zeroV P t) fun z => pobs (partsV P t env parts.toList) fun ps => A.build z.cells ps fun v => K v st else none
  | .buildSlice t len parts => (match sle P t with
    | some x0 => ob (zeroV P x0) fun z => eobs (elemsV env parts.toList) fun ps => A.bslice (P.cellsOf x0) z len ps fun v => K v st
    | none => none)
  | .load t a => if known P t then ob (opV env a) fun p => A.load (isAg P t) (P.cellsOf t) p st K else none
  | .store t a x => if known P t then ob (opV env a) fun p => ob (opV env x) fun v => A.store (P.cellsOf t) p v st fun st => K (.tup []) st else none
  | .nilCheck x => ob (opV env x) fun v => A.nilc v fun v => K v st
  | .binOp op t x y _ => ob (opV env x) fun a => ob (opV env y) fun b =>
    (match op with
     | .eql => cond (Nat.beq (tk P t) 8) (A.eqS P t false a b fun v => K v st) (A.eql (tk P t) false a b fun v => K v st)
     | .neq => cond (Nat.beq (tk P t) 8) (A.eqS P t true a b fun v => K v st) (A.eql (tk P t) true a b fun v => K v st)
     | op => A.bin op a b fun v => K v st)
  | .unOp op _ x => ob (opV env x) fun a => A.un op a fun v => K v st
  | .convert src dst x => if known P src then ob (opV env x) fun a =>
    (match intK P dst, tk P dst, sle P src, sle P dst with
     | some k, _, _, _ => A.toInt k a fun v => K v st
     | none, 3, none, _ => A.sameS a fun v => K v st
     | none, 3, some x0, _ => if intK P x0 = some .u8 then A.toStr a st fun v => K v st else none
     | none, _, _, some x0 => if intK P x0 = some .u8 then (if (o.dst.map mu).getD false then A.toBytesM a st K else A.toBytes a st K) else none
     | _, _, _, _ => none) else none
  | .makeFunc (.func f) first captured => obs (opsV env first.toList) fun a => obs (opsV env captured.toList) fun b => K (.fn f a b) st
  | .makeInterface t x => if P.concrete t then ob (opV env x) fun v => K (.iface t v) st else none
  | .makeMap _ none => A.mkmap st K
  | .lookup t x i ok => (match mapT P t with
    | some (kt, xt) => ob (zeroV P xt) fun z => ob (opV env x) fun m => ob (opV env i) fun k => if keyB P kt k then A.lookup z ok m k st fun v => K v st else none
    | none => none)
  | .mapUpdate t m k x => (match mapT P t with
    | some (kt, _) => ob (opV env m) fun m => ob (opV env k) fun k => ob (opV env x) fun v => if keyB P kt k then A.mapUpd m k v st fun st => K (.tup []) st else none
    | none => none)
  | .insert t m k x => (match mapT P t with
    | some (kt, _) => ob (opV env m) fun m => ob (opV env k) fun k => ob (opV env x) fun v => if keyB P kt k then A.mapUpd m k v st fun st => K (.tup []) st else none
    | none => none)
  | .typeAssert x _ u ok => ob (opV env x) fun a => A.tas P u ok a fun v => K v st
  | .makeSlice t l c => (match sle P t with
    | some x0 => ob (zeroV P x0) fun z => ob (opV env l) fun l => ob (opV env c) fun c =>
      if (o.dst.map mu).getD false then A.mkslM (P.cellsOf x0) (P.bytesOf x0) z l c st K else A.mksl (P.cellsOf x0) (P.bytesOf x0) z l c fun v => K v st
    | none => none)
  | .slice t x lo hi mx => ob (opV env x) fun x => oob (oV env lo) fun lo => oob (oV env hi) fun hi => oob (oV env mx) fun mx =>
    (match tk P t, sle P t, arr P t with
     | 3, _, _ => if mx.isNone then A.sliceS x lo hi fun v => K v st else none
     | _, some x0, _ => if known P x0 then A.slice (P.cellsOf x0) x lo hi mx fun v => K v st else none
     | _, _, some (n, x0) => if mx.isNone && known P x0 then A.sliceA n (P.cellsOf x0) x lo hi st fun v => K v st else none
     | _, _, _ => none)
  | .fieldAddr t x f => (match fld P t f with
    | some fd => if known P fd.type && P.cellsOf fd.type != 0 then ob (opV env x) fun a => A.faddr fd.offset a fun v => K v st else none
    | none => none)
  | .field t x f => (match fld P t f with
    | some fd => if known P fd.type then ob (opV env x) fun a => A.field (isAg P fd.type) (P.cellsOf fd.type) fd.offset a fun v => K v st else none
    | none => none)
  | .indexAddr t x i => ob (opV env x) fun a => ob (opV env i) fun b =>
    (match sle P t, arr P t with
     | some x0, _ => if known P x0 then A.iaddr (P.cellsOf x0) a b fun v => K v st else none
     | none, some (n, x0) => if known P x0 then A.iaddrA n (P.cellsOf x0) a b fun v => K v st else none
     | _, _ => none)
  | .index t x i => ob (opV env x) fun a => ob (opV env i) fun b => if tk P t = 3 then A.idxS a b fun v => K v st else none
  | .extract t i => ob (opV env t) fun a => A.ext a i fun v => K v st
  | .panic x => ob (opV env x) fun v => (match v with | .iface t p => some (.panic (.iface t p), st) | _ => none)
  | .call c => (match c.callee with
    | .value f => ob (opV env f) fun fv => obs (opsV env c.args.toList) fun vs => A.call T fv vs st K
    | .builtin .len => (match c.args.toList, c.argTypes[0]? with
      | [x], some t => ob (opV env x) fun a =>
        (match tk P t with
         | 3 => A.lenS a fun v => K v st
         | 5 => A.lenL a fun v => K v st
         | 6 => A.lenM a st fun v => K v st
         | _ => none)
      | _, _ => none)
    | .builtin .append => (match c.args.toList, c.argTypes.toList with
      | [x, y], [t, u] => (match sle P t with
        | some x0 => if infoB P x0 && known P u && tk P u != 2 then ob (opV env x) fun a => ob (opV env y) fun b =>
            if (o.dst.map mu).getD false then A.appM (P.cellsOf x0) a (elemsOf (tk P u) (P.cellsOf x0) b st) st K else cond (Nat.beq x0 5) (A.appB (P.cellsOf x0) a (elemsOf (tk P u) (P.cellsOf x0) b st) st K) (A.app (P.cellsOf x0) a (elemsOf (tk P u) (P.cellsOf x0) b st) st K)
          else none
        | none => none)
      | _, _ => none)
    | .builtin .delete => (match c.args.toList, c.argTypes[0]? with
      | [x, y], some t => (match mapT P t with
        | some (kt, _) => ob (opV env x) fun a => ob (opV env y) fun b => A.delM (keyB P kt b) a b st K
        | none => none)
      | _, _ => none)
    | .builtin .clear => (match c.args.toList, c.argTypes[0]? with
      | [x], some t => (match sle P t with
        | some x0 => ob (zeroV P x0) fun z => ob (opV env x) fun a => A.clearS z a st K
        | none => none)
      | _, _ => none)
    | .builtin .min => (match c.args.toList with
      | [x, y] => ob (opV env x) fun a => ob (opV env y) fun b => A.min a b fun v => K v st
      | _ => none)
    | .builtin .max => (match c.args.toList with
      | [x, y] => ob (opV env x) fun a => ob (opV env y) fun b => A.max a b fun v => K v st
      | _ => none)
    | .builtin .unsafeSliceData => (match c.args.toList with
      | [x] => ob (opV env x) fun a => A.sdata a fun v => K v st
      | _ => none)
    | .builtin .unsafeString => (match c.args.toList, c.argTypes.toList with
      | [x, y], [t, u] => (match ptE P t with
        | some 5 => if P.cellsOf 5 = 1 then ob (opV env x) fun a => ob (opV env y) fun b => A.ustr a b st K else none
        | _ => none)
      | _, _ => none)
    | _ => none)
  | _ => none

theorem infoB_some {P : Program} {t : TypeId} (h : infoB P t = true) : ∃ i z, P.info? t = some i ∧ i.zero = some z ∧ z.cells.size = i.size ∧ i.bytes ≤ 65536 := by
  unfold infoB at h
  split at h
  · split at h
    · rename_i hz
      simp only [Bool.and_eq_true, beq_iff_eq, decide_eq_true_eq] at h
      exact ⟨_, _, ‹_›, hz, h.1, h.2⟩
    · cases h
  · cases h
variable {P : Program} {W0 : World} {B : Nat} {e : E} {r : Out × St} {o : Oper} {a : Act} {next : Act → World → Prop} {Q : Exit → Act → World → Prop}

theorem wp_step {s : Sem Value} {K : V → St → Res} (hop : execOp a.eval o = (do Pure.pure (.value (← s)))) (h : Step P W0 B e s K r)
    (hn : ∀ v v' e', K v e'.st = some r → Ext e e' → Rel W0 B e' → Rs e' [v] [v'] → next (a.put o.dst v') e'.w) : o.wp P a e.w next Q := by
  obtain ⟨v, v', e', g1, g2, g3, g4, g5⟩ := h
  unfold Oper.wp
  rw [hop]
  simp only [Sem.run_bind, g2, Result.andThen, Sem.run_pure]
  exact hn v v' e' g1 g3 g4 g5

theorem wp_stepU {s : Sem Unit} {K : V → St → Res} (hop : execOp a.eval o = (do s; Pure.pure .skip)) (h : StepU P W0 B e s (fun st => K (.tup []) st) r)
    (hn : ∀ v v' e', K v e'.st = some r → Ext e e' → Rel W0 B e' → Rs e' [v] [v'] → next (a.put o.dst v') e'.w) : o.wp P a e.w next Q := by
  obtain ⟨e', g1, g2, g3, g4⟩ := h
  unfold Oper.wp
  rw [hop]
  simp only [Sem.run_bind, g2, Result.andThen, Sem.run_pure]
  exact hn _ undef e' g1 g3 g4 (.tup [] #[] .nil .nil)

theorem partsV_sound {m : Nat} {env : Env} (he : EnvR m e env a.tmps) (t : TypeId) : ∀ (l : List (Nat × Operand)) (ps : List (Nat × Nat × V)), partsV P t env l = some ps → All2 (fun (p : Nat × Value) (q : Nat × Nat × V) => placeOf P t p.1 = some (q.1, q.2.1) ∧ Rs e [q.2.2] [p.2]) (l.map fun (i, x) => (i, a.eval x)) ps
  | [], ps, h => by cases h; exact trivial
  | (i, x) :: rest, ps, h => by
    unfold partsV at h
    split at h
    · rename_i o s v l h1 h2 h3
      cases h
      exact ⟨⟨h1, opV_sound he h2⟩, partsV_sound he t rest l h3⟩
    · cases h
theorem elemsV_sound {m : Nat} {env : Env} (he : EnvR m e env a.tmps) : ∀ (l : List (Nat × Operand)) (ps : List (Nat × V)), elemsV env l = some ps → All2 (fun (p : Nat × Value) (q : Nat × V) => p.1 = q.1 ∧ Rs e [q.2] [p.2]) (l.map fun (i, x) => (i, a.eval x)) ps
  | [], ps, h => by cases h; exact trivial
  | (i, x) :: rest, ps, h => by
    unfold elemsV at h
    split at h
    · rename_i v l h2 h3
      cases h
      exact ⟨⟨rfl, opV_sound he h2⟩, elemsV_sound he rest l h3⟩
    · cases h
theorem pobs_some {o : Option (List (Nat × Nat × V))} {k : List (Nat × Nat × V) → Res} (h : pobs o k = some r) : ∃ v, o = some v ∧ k v = some r := by
  cases o with
  | none => cases h
  | some v => exact ⟨v, rfl, h⟩
theorem eobs_some {o : Option (List (Nat × V))} {k : List (Nat × V) → Res} (h : eobs o k = some r) : ∃ v, o = some v ∧ k v = some r := by
  cases o with
  | none => cases h
  | some v => exact ⟨v, rfl, h⟩
theorem oob_some {o : Option (Option V)} {k : Option V → Res} (h : oob o k = some r) : ∃ v, o = some v ∧ k v = some r := by
  cases o with
  | none => cases h
  | some v => exact ⟨v, rfl, h⟩
theorem oV_sound {m : Nat} {env : Env} (he : EnvR m e env a.tmps) {x : Option Operand} {v : Option V} (h : oV env x = some v) : Rso e v (x.map a.eval) := by
  cases x with
  | none => cases h; exact .none
  | some x =>
    cases hx : opV env x with
    | none => simp [oV, hx] at h
    | some y => simp only [oV, hx, Option.some.injEq] at h; subst h; exact .some (opV_sound he hx)
theorem known_info {t : TypeId} (h : known P t = true) : ∃ i, P.info? t = some i := by
  obtain ⟨d, hd⟩ := known_under h; exact info_of_under hd

theorem if_some {c : Prop} [Decidable c] {x : Res} (h : (if c then x else none) = some r) : c ∧ x = some r := by
  split at h
  · exact ⟨‹_›, h⟩
  · cases h

theorem min_sound {K : V → St → Res} {x y : V} {x' y' : Value} {ts : Array TypeId} {ty : TypeId} (h : A.min x y (fun v => K v e.st) = some r) (hr : Rel W0 B e) (hx : Rs e [x] [x']) (hy : Rs e [y] [y']) : Step P W0 B e (Builtin.min_ ts ty #[x', y']) K r := by
  unfold A.min at h
  split at h
  · cases hx with | int _ _ _ =>
    cases hy with | int _ _ _ =>
    exact Step.int hr h (by simp [Builtin.min_, Builtin.min2])
  · cases h
theorem max_sound {K : V → St → Res} {x y : V} {x' y' : Value} {ts : Array TypeId} {ty : TypeId} (h : A.max x y (fun v => K v e.st) = some r) (hr : Rel W0 B e) (hx : Rs e [x] [x']) (hy : Rs e [y] [y']) : Step P W0 B e (Builtin.max_ ts ty #[x', y']) K r := by
  unfold A.max at h
  split at h
  · cases hx with | int _ _ _ =>
    cases hy with | int _ _ _ =>
    exact Step.int hr h (by simp [Builtin.max_, Builtin.max2])
  · cases h

theorem exec_call {c : Call} (hop : o.op = .call c) : execOp a.eval o = (do let d ← resolve a.eval c o.type; invoke d.target d.args) := by simp [execOp, hop]
theorem exec_builtin {c : Call} {b : Builtin} (hop : o.op = .call c) (hc : c.callee = .builtin b) : ∃ cs, execOp a.eval o = builtin b c.argTypes o.type cs (c.args.map a.eval) := by
  rw [exec_call hop]
  simp only [resolve, hc, pure_bind, invoke]
  exact ⟨_, rfl⟩

theorem aop_sound {mu : Nat → Bool} {T : Tbl} (hT : SimT P T) {m : Nat} {env : Env} {K : V → St → Res} (h : aop P mu T o env e.st K = some r) (hr : Rel W0 B e) (he : EnvR m e env a.tmps)
    (hn : ∀ v v' e', K v e'.st = some r → Ext e e' → Rel W0 B e' → Rs e' [v] [v'] → next (a.put o.dst v') e'.w)
    (hp : ∀ p p' e', r = (.panic p, e'.st) → Ext e e' → Rel W0 B e' → Rs e' [p] [p'] → Q (.panic [{ v := p', recovered := false }]) a e'.w) : o.wp P a e.w next Q := by
  unfold aop at h
  split at h
  · -- move
    rename_i x hop
    obtain ⟨v, h1, h2⟩ := ob_some h
    exact wp_step (s := Pure.pure (a.eval x)) (by simp [execOp, hop]) (Step.pure hr h2 rfl (opV_sound he h1)) hn
  · rename_i x hop
    obtain ⟨v, h1, h2⟩ := ob_some h
    exact wp_step (s := Pure.pure (a.eval x)) (by simp [execOp, hop]) (Step.pure hr h2 rfl (opV_sound he h1)) hn
  · rename_i c x y hop
    obtain ⟨vc, h1, h⟩ := ob_some h
    obtain ⟨vx, h2, h⟩ := ob_some h
    obtain ⟨vy, h3, h⟩ := ob_some h
    exact wp_step (by simp [execOp, hop]) (pick_sound h hr (opV_sound he h1) (opV_sound he h2) (opV_sound he h3)) hn
  · rename_i t hop
    obtain ⟨z, h1, h⟩ := ob_some h
    cases hb : isBld P t with
    | true => rw [hb] at h; exact wp_step (by simp [execOp, hop]; rfl) (newB_sound h1 h hr) hn
    | false => rw [hb] at h; exact wp_step (by simp [execOp, hop]; rfl) (alloc_sound h1 h hr) hn
  · rename_i t x hop
    obtain ⟨v, h1, h⟩ := ob_some h
    exact wp_step (by simp [execOp, hop]; rfl) (box_sound h hr (opV_sound he h1)) hn
  · rename_i t parts hop
    obtain ⟨hk, h⟩ := if_some h
    obtain ⟨z, h1, h⟩ := ob_some h
    obtain ⟨ps, h2, h⟩ := pobs_some h
    exact wp_step (s := Instr.build t (parts.map fun (i, x) => (i, a.eval x))) (by simp only [execOp, hop]) (build_sound h1 hk h hr (by rw [Array.toList_map]; exact partsV_sound he t _ _ h2)) hn
  · rename_i t len parts hop
    split at h
    · rename_i x0 hs
      obtain ⟨z, h1, h⟩ := ob_some h
      obtain ⟨ps, h2, h⟩ := eobs_some h
      exact wp_step (s := Instr.buildSlice t len (parts.map fun (i, x) => (i, a.eval x))) (by simp only [execOp, hop]) (bslice_sound hs h1 h hr (by rw [Array.toList_map]; exact elemsV_sound he _ _ h2)) hn
    · cases h
  · rename_i t x hop
    obtain ⟨hk, h⟩ := if_some h
    obtain ⟨p, h1, h⟩ := ob_some h
    exact wp_step (by simp only [execOp, hop]) (load_sound hk h hr (opV_sound he h1)) hn
  · rename_i t x y hop
    obtain ⟨hk, h⟩ := if_some h
    obtain ⟨p, h1, h⟩ := ob_some h
    obtain ⟨v, h2, h⟩ := ob_some h
    exact wp_stepU (by simp only [execOp, hop]) (store_sound (known_info hk) h hr (opV_sound he h1) (opV_sound he h2)) hn
  · rename_i x hop
    obtain ⟨v, h1, h⟩ := ob_some h
    have hv := opV_sound he h1
    unfold A.nilc at h
    split at h
    · cases hx : a.eval x <;> rw [hx] at hv <;> cases hv
      rename_i ad hn1 hl _
      exact wp_step (s := Pure.pure (.pointer (some ad))) (by simp [execOp, hop, hx]) (Step.pure hr h rfl (.ptr _ _ _ hn1 hl .nil)) hn
    · cases hx : a.eval x <;> rw [hx] at hv <;> cases hv
      rename_i b0 o0 c0 ty0 fz0 h1 h2 h3 h4 _
      exact wp_step (s := Pure.pure (.pointer (some ⟨b0, o0, none⟩))) (by simp [execOp, hop, hx]) (Step.pure hr h rfl (.lptr _ b0 o0 c0 ty0 fz0 h1 h2 h3 h4 .nil)) hn
    · cases h
  · rename_i op t x y ty hop
    obtain ⟨va, h1, h⟩ := ob_some h
    obtain ⟨vb, h2, h⟩ := ob_some h
    have ha := opV_sound he h1
    have hb := opV_sound he h2
    split at h
    · cases h8 : Nat.beq (tk P t) 8 with
      | true =>
        rw [h8] at h
        exact wp_step (s := do eqGuard .eql t x y (a.eval x) (a.eval y); binOp .eql t (a.eval x) (a.eval y)) (by simp only [execOp, hop]) (by simpa using eqS_sound (x := x) (y := y) false h hr ha hb) hn
      | false =>
        rw [h8] at h
        exact wp_step (s := do eqGuard .eql t x y (a.eval x) (a.eval y); binOp .eql t (a.eval x) (a.eval y)) (by simp only [execOp, hop]) (by simpa using eql_sound (x := x) (y := y) false h hr ha hb) hn
    · cases h8 : Nat.beq (tk P t) 8 with
      | true =>
        rw [h8] at h
        exact wp_step (s := do eqGuard .neq t x y (a.eval x) (a.eval y); binOp .neq t (a.eval x) (a.eval y)) (by simp only [execOp, hop]) (by simpa using eqS_sound (x := x) (y := y) true h hr ha hb) hn
      | false =>
        rw [h8] at h
        exact wp_step (s := do eqGuard .neq t x y (a.eval x) (a.eval y); binOp .neq t (a.eval x) (a.eval y)) (by simp only [execOp, hop]) (by simpa using eql_sound (x := x) (y := y) true h hr ha hb) hn
    · rename_i h3 h4
      exact wp_step (s := do eqGuard op t x y (a.eval x) (a.eval y); binOp op t (a.eval x) (a.eval y)) (by simp only [execOp, hop]) (bin_sound (x := x) (y := y) ⟨h3, h4⟩ h hr ha hb) hn
  · rename_i op t x hop
    obtain ⟨v, h1, h⟩ := ob_some h
    exact wp_step (by simp only [execOp, hop]) (un_sound h hr (opV_sound he h1)) hn
  · rename_i src dst x hop
    obtain ⟨hk, h⟩ := if_some h
    obtain ⟨v, h1, h⟩ := ob_some h
    have hv := opV_sound he h1
    split at h
    · rename_i k h2
      exact wp_step (by simp only [execOp, hop]) (toInt_sound hk h2 h hr hv) hn
    · rename_i h2 h3 h4
      exact wp_step (by simp only [execOp, hop]) (sameS_sound hk h3 h hr hv) hn
    · rename_i x0 h2 h3 h4
      obtain ⟨hk2, h⟩ := if_some h
      exact wp_step (by simp only [execOp, hop]) (toStr_sound h4 hk2 h3 h hr hv) hn
    · rename_i x0 h3 h4 h5 h6
      obtain ⟨hk2, h⟩ := if_some h
      split at h
      · exact wp_step (by simp only [execOp, hop]) (toBytesM_sound hk h4 hk2 h hr hv) hn
      · exact wp_step (by simp only [execOp, hop]) (toBytes_sound hk h4 hk2 h hr hv) hn
    · cases h
  · rename_i f first captured hop
    obtain ⟨va, h1, h⟩ := obs_some h
    obtain ⟨vb, h2, h⟩ := obs_some h
    exact wp_step (s := Instr.makeFunc (.func f) (first.map a.eval) (captured.map a.eval)) (by simp only [execOp, hop]) (Step.pure (v' := .func (.func f) (first.map a.eval) (captured.map a.eval)) hr h (by simp [Instr.makeFunc]) (.fn _ _ _ _ _ (by rw [Array.toList_map]; exact opsV_sound he h1) (by rw [Array.toList_map]; exact opsV_sound he h2) .nil)) hn
  · rename_i t x hop
    obtain ⟨hk, h⟩ := if_some h
    obtain ⟨v, h1, h⟩ := ob_some h
    exact wp_step (by simp only [execOp, hop]) (Step.pure (v' := .iface t (a.eval x)) hr h (run_makeInterface _ t _ hk) (.iface _ _ _ (opV_sound he h1) .nil)) hn
  · rename_i t hop
    exact wp_step (s := Instr.makeMap t none) (by simp only [execOp, hop, Option.map_none]) (mkmap_sound h hr) hn
  · rename_i t x i ok hop
    split at h
    · rename_i kt xt ht
      obtain ⟨z, h1, h⟩ := ob_some h
      obtain ⟨vm, h2, h⟩ := ob_some h
      obtain ⟨vk, h3, h⟩ := ob_some h
      obtain ⟨hk, h⟩ := if_some h
      exact wp_step (by simp only [execOp, hop]) (lookup_sound ht h1 hk h hr (opV_sound he h2) (opV_sound he h3)) hn
    · cases h
  · rename_i t m k x hop
    split at h
    · rename_i kt xt ht
      obtain ⟨vm, h2, h⟩ := ob_some h
      obtain ⟨vk, h3, h⟩ := ob_some h
      obtain ⟨vx, h4, h⟩ := ob_some h
      obtain ⟨hk, h⟩ := if_some h
      exact wp_stepU (by simp only [execOp, hop]) (mapUpd_sound ht hk h hr (opV_sound he h2) (opV_sound he h3) (opV_sound he h4)) hn
    · cases h
  · rename_i t m k x hop
    split at h
    · rename_i kt xt ht
      obtain ⟨vm, h2, h⟩ := ob_some h
      obtain ⟨vk, h3, h⟩ := ob_some h
      obtain ⟨vx, h4, h⟩ := ob_some h
      obtain ⟨hk, h⟩ := if_some h
      exact wp_stepU (by simp only [execOp, hop]) (mapUpd_sound ht hk h hr (opV_sound he h2) (opV_sound he h3) (opV_sound he h4)) hn
    · cases h
  · rename_i x xt u ok hop
    obtain ⟨vx, h2, h⟩ := ob_some h
    exact wp_step (s := Instr.typeAssert (a.eval x) xt u ok) (by simp only [execOp, hop]) (tas_sound (xt := xt) h hr (opV_sound he h2)) hn
  · rename_i t l c hop
    split at h
    · rename_i x0 hs
      obtain ⟨z, h1, h⟩ := ob_some h
      obtain ⟨vl, h2, h⟩ := ob_some h
      obtain ⟨vc, h3, h⟩ := ob_some h
      split at h
      · exact wp_step (by simp only [execOp, hop]) (mkslM_sound hs h1 h hr (opV_sound he h2) (opV_sound he h3)) hn
      · exact wp_step (by simp only [execOp, hop]) (mksl_sound hs h1 h hr (opV_sound he h2) (opV_sound he h3)) hn
    · cases h
  · rename_i t x lo hi mx hop
    obtain ⟨vx, h1, h⟩ := ob_some h
    obtain ⟨vlo, h2, h⟩ := oob_some h
    obtain ⟨vhi, h3, h⟩ := oob_some h
    obtain ⟨vmx, h4, h⟩ := oob_some h
    have hv := opV_sound he h1
    have g2 := oV_sound he h2
    have g3 := oV_sound he h3
    have g4 := oV_sound he h4
    split at h
    · rename_i hk
      cases vmx with
      | some _ => simp at h
      | none =>
      obtain ⟨hm, h⟩ := if_some h
      have : mx.map a.eval = none := by generalize mx.map a.eval = q at g4; cases g4; rfl
      exact wp_step (by simp only [execOp, hop, this]) (sliceS_sound hk h hr hv g2 g3) hn
    · rename_i x0 hs hk
      obtain ⟨hk2, h⟩ := if_some h
      exact wp_step (by simp only [execOp, hop]) (slice_sound hs (known_info hk2) h hr hv g2 g3 g4) hn
    · rename_i n x0 ha hk hs
      cases vmx with
      | some _ => simp at h
      | none =>
      obtain ⟨hm, h⟩ := if_some h
      simp only [Bool.and_eq_true] at hm
      have : mx.map a.eval = none := by generalize mx.map a.eval = q at g4; cases g4; rfl
      exact wp_step (by simp only [execOp, hop, this]) (sliceA_sound ha (known_info hm.2) h hr hv g2 g3) hn
    · cases h
  · rename_i t x f hop
    split at h
    · rename_i fd hf
      obtain ⟨hk, h⟩ := if_some h
      simp only [Bool.and_eq_true, bne_iff_ne] at hk
      obtain ⟨v, h1, h⟩ := ob_some h
      exact wp_step (by simp only [execOp, hop]) (faddr_sound hf (known_info hk.1) hk.2 h hr (opV_sound he h1)) hn
    · cases h
  · rename_i t x f hop
    split at h
    · rename_i fd hf
      obtain ⟨hk, h⟩ := if_some h
      obtain ⟨v, h1, h⟩ := ob_some h
      exact wp_step (by simp only [execOp, hop]) (field_sound hf hk h hr (opV_sound he h1)) hn
    · cases h
  · rename_i t x i hop
    obtain ⟨va, h1, h⟩ := ob_some h
    obtain ⟨vb, h2, h⟩ := ob_some h
    split at h
    · rename_i x0 hs
      obtain ⟨hk, h⟩ := if_some h
      exact wp_step (by simp only [execOp, hop]) (iaddr_sound hs (known_info hk) h hr (opV_sound he h1) (opV_sound he h2)) hn
    · rename_i n x0 hs ha
      obtain ⟨hk, h⟩ := if_some h
      exact wp_step (by simp only [execOp, hop]) (iaddrA_sound ha (known_info hk) h hr (opV_sound he h1) (opV_sound he h2)) hn
    · cases h
  · rename_i t x i hop
    obtain ⟨va, h1, h⟩ := ob_some h
    obtain ⟨vb, h2, h⟩ := ob_some h
    obtain ⟨hk, h⟩ := if_some h
    exact wp_step (by simp only [execOp, hop]) (idxS_sound hk h hr (opV_sound he h1) (opV_sound he h2)) hn
  · rename_i t i hop
    obtain ⟨va, h1, h⟩ := ob_some h
    exact wp_step (by simp only [execOp, hop]) (ext_sound h hr (opV_sound he h1)) hn
  · -- panic
    rename_i x hop
    obtain ⟨va, h1, h⟩ := ob_some h
    have hv := opV_sound he h1
    split at h
    · rename_i t p
      cases h
      unfold Oper.wp
      cases hx : a.eval x <;> rw [hx] at hv <;> cases hv
      rename_i v' h2 _
      simp only [execOp, hop, hx, Instr.panic, Sem.run_bind, run_goPanic, Result.andThen]
      exact hp _ _ e rfl (Ext.refl e) hr (.iface _ _ _ h2 .nil)
    · cases h
  · -- calls
    rename_i c hop
    split at h
    · rename_i f hc
      obtain ⟨fv, h1, h⟩ := ob_some h
      obtain ⟨vs, h2, h⟩ := obs_some h
      have hf := opV_sound he h1
      have hvs := opsV_sound he h2
      cases fv with
      | fn fid first cap =>
        simp only [A.call] at h
        split at h
        · rename_i sh hsh
          have S := hT fid sh hsh
          cases hx : a.eval f <;> rw [hx] at hf <;> cases hf
          rename_i F C hF hC _
          obtain ⟨fn, hfn, hok⟩ : ∃ fn, P.funcs[fid]? = some fn ∧ (fn.name != "runtime.NumGoroutine" && fn.body.isSome) = true := by
            have := S.ok
            unfold okFn at this
            split at this
            · exact ⟨_, ‹_›, this⟩
            · cases this
          simp only [Bool.and_eq_true, bne_iff_ne] at hok
          have hex : (execOp a.eval o).run P e.w = .ok (.enter fid (F ++ c.args.map a.eval ++ C)) e.w := by
            rw [exec_call hop]
            simp only [resolve, hc, hx, Deferred.ofValue, pure_bind, invoke, callFunc, Sem.run_bind, run_program, Result.andThen, hfn]
            have hb : fn.body.isNone = false := by cases hb : fn.body with | none => rw [hb] at hok; simp at hok | some _ => rfl
            simp [hok.1, hb]
          have hargs : Rs e ((first ++ vs ++ cap).map V.er1) (F ++ c.args.map a.eval ++ C).toList := by
            simp only [Array.toList_append, Array.toList_map]
            exact (Rs.append (Rs.append hF hvs) hC).er1s
          unfold Oper.wp
          rw [hex, Oper.upon_enter]
          unfold A.ret at h
          split at h
          · rename_i v st' hrun
            refine (S.run W0 B e _ _ _ _ hrun hr hargs).mono fun en w' ⟨e', q1, q2, q3, q4, q5⟩ => ?_
            obtain ⟨v', rfl, q6⟩ := q5
            subst q2
            exact hn v v' e' (by rw [q1]; exact h) q3 q4 q6
          · rename_i p st' hrun
            cases h
            refine (S.run W0 B e _ _ _ _ hrun hr hargs).mono fun en w' ⟨e', q1, q2, q3, q4, q5⟩ => ?_
            obtain ⟨v', rfl, q6⟩ := q5
            subst q2
            exact hp p v' e' (by rw [q1]) q3 q4 q6
          · cases h
        · cases h
      | _ => cases h
    · rename_i hc
      split at h
      · rename_i x t hargs ht
        obtain ⟨va, h1, h⟩ := ob_some h
        have hv := opV_sound he h1
        obtain ⟨cs, hex⟩ := exec_builtin (a := a) hop hc
        have harr : c.args.map a.eval = #[a.eval x] := by
          rw [← Array.toArray_toList (xs := c.args), hargs]; simp
        rw [harr] at hex
        split at h
        · rename_i hk
          exact wp_step (s := Builtin.len_ c.argTypes o.type #[a.eval x]) (by rw [hex]; rfl) (lenS_sound ht hk h hr hv) hn
        · rename_i hk
          exact wp_step (s := Builtin.len_ c.argTypes o.type #[a.eval x]) (by rw [hex]; rfl) (lenL_sound ht hk h hr hv) hn
        · rename_i hk
          exact wp_step (s := Builtin.len_ c.argTypes o.type #[a.eval x]) (by rw [hex]; rfl) (lenM_sound ht hk h hr hv) hn
        · cases h
      · cases h
    · rename_i hc
      split at h
      · rename_i x y t u hargs hts
        split at h
        · rename_i x0 hs
          obtain ⟨hk, h⟩ := if_some h
          simp only [Bool.and_eq_true, bne_iff_ne] at hk
          obtain ⟨i, z, hi, hz, hzs, hb⟩ := infoB_some hk.1.1
          obtain ⟨va, h1, h⟩ := ob_some h
          obtain ⟨vb, h2, h⟩ := ob_some h
          obtain ⟨cs, hex⟩ := exec_builtin (a := a) hop hc
          have harr : c.args.map a.eval = #[a.eval x, a.eval y] := by
            rw [← Array.toArray_toList (xs := c.args), hargs]; simp
          have hta : c.argTypes = #[t, u] := by
            rw [← Array.toArray_toList (xs := c.argTypes), hts]
          rw [harr, hta] at hex
          split at h
          · exact wp_step (s := Builtin.append_ #[t, u] o.type #[a.eval x, a.eval y]) (by rw [hex]; rfl) (appM_sound hs hi hz hzs hb hk.1.2 hk.2 h hr (opV_sound he h1) (opV_sound he h2)) hn
          · cases h5 : Nat.beq x0 5 with
            | true =>
              rw [h5] at h
              have := Nat.eq_of_beq_eq_true h5
              subst this
              exact wp_step (s := Builtin.append_ #[t, u] o.type #[a.eval x, a.eval y]) (by rw [hex]; rfl) (appB_sound hs hi hz hzs hb hk.1.2 hk.2 h hr (opV_sound he h1) (opV_sound he h2)) hn
            | false =>
            rw [h5] at h
            exact wp_step (s := Builtin.append_ #[t, u] o.type #[a.eval x, a.eval y]) (by rw [hex]; rfl) (app_sound hs hi hz hzs hb hk.1.2 hk.2 h hr (opV_sound he h1) (opV_sound he h2)) hn
        · cases h
      · cases h
    · rename_i hc
      split at h
      · rename_i x y t hargs ht
        split at h
        · rename_i kt xt hm
          obtain ⟨va, h1, h⟩ := ob_some h
          obtain ⟨vb, h2, h⟩ := ob_some h
          obtain ⟨cs, hex⟩ := exec_builtin (a := a) hop hc
          have harr : c.args.map a.eval = #[a.eval x, a.eval y] := by
            rw [← Array.toArray_toList (xs := c.args), hargs]; simp
          rw [harr] at hex
          exact wp_step (s := Builtin.delete_ c.argTypes o.type #[a.eval x, a.eval y]) (by rw [hex]; rfl) (delM_sound ht hm h hr (opV_sound he h1) (opV_sound he h2)) hn
        · cases h
      · cases h
    · rename_i hc
      split at h
      · rename_i x t hargs ht
        split at h
        · rename_i x0 hs
          obtain ⟨z, h1, h⟩ := ob_some h
          obtain ⟨va, h2, h⟩ := ob_some h
          obtain ⟨cs, hex⟩ := exec_builtin (a := a) hop hc
          have harr : c.args.map a.eval = #[a.eval x] := by
            rw [← Array.toArray_toList (xs := c.args), hargs]; simp
          rw [harr] at hex
          exact wp_step (s := Builtin.clear_ c.argTypes o.type #[a.eval x]) (by rw [hex]; rfl) (clearS_sound ht hs h1 h hr (opV_sound he h2)) hn
        · cases h
      · cases h
    · rename_i hc
      split at h
      · rename_i x y hargs
        obtain ⟨va, h1, h⟩ := ob_some h
        obtain ⟨vb, h2, h⟩ := ob_some h
        obtain ⟨cs, hex⟩ := exec_builtin (a := a) hop hc
        have harr : c.args.map a.eval = #[a.eval x, a.eval y] := by
          rw [← Array.toArray_toList (xs := c.args), hargs]; simp
        rw [harr] at hex
        exact wp_step (s := Builtin.min_ c.argTypes o.type #[a.eval x, a.eval y]) (by rw [hex]; rfl) (min_sound h hr (opV_sound he h1) (opV_sound he h2)) hn
      · cases h
    · rename_i hc
      split at h
      · rename_i x y hargs
        obtain ⟨va, h1, h⟩ := ob_some h
        obtain ⟨vb, h2, h⟩ := ob_some h
        obtain ⟨cs, hex⟩ := exec_builtin (a := a) hop hc
        have harr : c.args.map a.eval = #[a.eval x, a.eval y] := by
          rw [← Array.toArray_toList (xs := c.args), hargs]; simp
        rw [harr] at hex
        exact wp_step (s := Builtin.max_ c.argTypes o.type #[a.eval x, a.eval y]) (by rw [hex]; rfl) (max_sound h hr (opV_sound he h1) (opV_sound he h2)) hn
      · cases h
    · rename_i hc
      split at h
      · rename_i x hargs
        obtain ⟨va, h1, h⟩ := ob_some h
        obtain ⟨cs, hex⟩ := exec_builtin (a := a) hop hc
        have harr : c.args.map a.eval = #[a.eval x] := by
          rw [← Array.toArray_toList (xs := c.args), hargs]; simp
        rw [harr] at hex
        exact wp_step (s := Builtin.unsafeSliceData_ c.argTypes o.type #[a.eval x]) (by rw [hex]; rfl) (sdata_sound h hr (opV_sound he h1)) hn
      · cases h
    · rename_i hc
      split at h
      · rename_i x y t u hargs hts
        split at h
        · rename_i hpt
          obtain ⟨hk, h⟩ := if_some h
          obtain ⟨va, h1, h⟩ := ob_some h
          obtain ⟨vb, h2, h⟩ := ob_some h
          obtain ⟨cs, hex⟩ := exec_builtin (a := a) hop hc
          have harr : c.args.map a.eval = #[a.eval x, a.eval y] := by
            rw [← Array.toArray_toList (xs := c.args), hargs]; simp
          have hta : c.argTypes = #[t, u] := by
            rw [← Array.toArray_toList (xs := c.argTypes), hts]
          rw [harr, hta] at hex
          exact wp_step (s := Builtin.unsafeString_ #[t, u] o.type #[a.eval x, a.eval y]) (by rw [hex]; rfl) (ustr_sound hpt hk h hr (opV_sound he h1) (opV_sound he h2)) hn
        · cases h
      · cases h
    · cases h
  · cases h
end Go.Ab
