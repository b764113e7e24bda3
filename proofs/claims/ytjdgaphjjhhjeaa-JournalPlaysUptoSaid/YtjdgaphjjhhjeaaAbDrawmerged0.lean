import Derived.Test.YtjdgaphjjhhjeaaAbCode
/- Regions that draw their order: the text's order, with what makes each other order come to the same. -/
namespace Go.Ab
open Go.RowKit
set_option linter.unusedVariables false
set_option linter.unusedSimpArgs false

/-- 0: computes (or lays a literal); 1: a load; 2: all else. -/
def cls (P : Program) (mu : Nat → Bool) (o : Oper) : Nat :=
  match o.op with
  | .move _ | .assign _ | .pick .. | .build .. | .nilCheck _ | .binOp .. | .unOp .. | .fieldAddr .. | .field .. | .indexAddr .. | .index .. | .extract .. | .makeFunc .. | .makeInterface .. | .buildSlice .. => 0
  | .makeSlice .. => if (o.dst.map mu).getD false then 2 else 0
  | .convert _ dst _ => (match intK P dst with | some _ => 0 | none => 2)
  | .slice t _ _ _ _ => (match arr P t with | some _ => 2 | none => 0)
  | .load .. => 1
  | .call c => (match c.callee with
    | .builtin .len => (match c.argTypes[0]? with | some t => if tk P t = 6 then 2 else 0 | none => 2)
    | .builtin .min | .builtin .max => 0
    | _ => 2)
  | _ => 2

def kid : V → St → Res := fun v st => some (.ret v, st)

/-- A load's value. -/
def ldv (ag : Bool) (n : Nat) (p : V) (st : St) : Option V := match A.load ag n p st kid with | some (.ret v, _) => some v | _ => none
def loadOf (P : Program) (env : Env) (o : Oper) : Option (Bool × Nat × V) :=
  match o.op with
  | .load t a => if known P t then (match opV env a with | some p => some (isAg P t, P.cellsOf t, p) | none => none) else none
  | _ => none

mutual
/-- Two values are one, so that the kernel can run it. -/
def V.eqB : V → V → Bool
  | .int k n, .int k' n' => decide (k = k') && decide (n = n')
  | .bool x, .bool y => x == y
  | .str x, .str y => decide (x = y)
  | .ptr0, .ptr0 => true
  | .ptr i o, .ptr i' o' => Nat.beq i i' && Nat.beq o o'
  | .lptr l, .lptr l' => V.eqL l l'
  | .sl a b c d, .sl a' b' c' d' => Nat.beq a a' && Nat.beq b b' && Nat.beq c c' && Nat.beq d d'
  | .lst l t, .lst l' t' => V.eqL l l' && Nat.beq t t'
  | .map0, .map0 => true
  | .map i, .map i' => Nat.beq i i'
  | .fn f a b, .fn f' a' b' => Nat.beq f f' && V.eqL a a' && V.eqL b b'
  | .fn0, .fn0 => true
  | .iface t v, .iface t' v' => Nat.beq t t' && V.eqB v v'
  | .if0, .if0 => true
  | .agg l, .agg l' => V.eqL l l'
  | .tup l, .tup l' => V.eqL l l'
  | .bld k, .bld k' => Nat.beq k k'
  | .buf s t, .buf s' t' => decide (s = s') && Nat.beq t t'
  | .bptr s t, .bptr s' t' => decide (s = s') && Nat.beq t t'
  | _, _ => false
def V.eqL : List V → List V → Bool
  | [], [] => true
  | a :: l, b :: m => V.eqB a b && V.eqL l m
  | _, _ => false
end
mutual
theorem V.eqB_eq : ∀ (a b : V), V.eqB a b = true → a = b
  | .int k n, b, h => by cases b <;> simp [V.eqB] at h; simp [h]
  | .bool x, b, h => by cases b <;> simp [V.eqB] at h; simp [h]
  | .str x, b, h => by cases b <;> simp [V.eqB] at h; simp [h]
  | .ptr0, b, h => by cases b <;> simp [V.eqB] at h; rfl
  | .ptr i o, b, h => by cases b <;> simp [V.eqB] at h; simp [h]
  | .lptr l, b, h => by cases b <;> simp [V.eqB] at h; rw [V.eqL_eq _ _ h]
  | .sl a' b' c d, b, h => by cases b <;> simp [V.eqB] at h; simp [h]
  | .lst l t, b, h => by cases b <;> simp [V.eqB] at h; rw [V.eqL_eq _ _ h.1, h.2]
  | .map0, b, h => by cases b <;> simp [V.eqB] at h; rfl
  | .map i, b, h => by cases b <;> simp [V.eqB] at h; simp [h]
  | .fn f x y, b, h => by cases b <;> simp [V.eqB] at h; rw [h.1.1, V.eqL_eq _ _ h.1.2, V.eqL_eq _ _ h.2]
  | .fn0, b, h => by cases b <;> simp [V.eqB] at h; rfl
  | .iface t v, b, h => by cases b <;> simp [V.eqB] at h; rw [h.1, V.eqB_eq _ _ h.2]
  | .if0, b, h => by cases b <;> simp [V.eqB] at h; rfl
  | .agg l, b, h => by cases b <;> simp [V.eqB] at h; rw [V.eqL_eq _ _ h]
  | .tup l, b, h => by cases b <;> simp [V.eqB] at h; rw [V.eqL_eq _ _ h]
  | .bld k, b, h => by cases b <;> simp [V.eqB] at h; simp [h]
  | .buf s t, b, h => by cases b <;> simp [V.eqB] at h; simp [h]
  | .bptr s t, b, h => by cases b <;> simp [V.eqB] at h; simp [h]
theorem V.eqL_eq : ∀ (a b : List V), V.eqL a b = true → a = b
  | [], b, h => by cases b <;> simp [V.eqL] at h; rfl
  | x :: l, b, h => by cases b <;> simp [V.eqL] at h; rw [V.eqB_eq _ _ h.1, V.eqL_eq _ _ h.2]
end
mutual
theorem V.eqB_refl : ∀ (a : V), V.eqB a a = true
  | .int k n => by simp [V.eqB]
  | .bool x => by simp [V.eqB]
  | .str x => by simp [V.eqB]
  | .ptr0 => by simp [V.eqB]
  | .ptr i o => by simp [V.eqB]
  | .lptr l => by simp [V.eqB, V.eqL_refl l]
  | .sl a' b' c d => by simp [V.eqB]
  | .lst l t => by simp [V.eqB, V.eqL_refl l]
  | .map0 => by simp [V.eqB]
  | .map i => by simp [V.eqB]
  | .fn f x y => by simp [V.eqB, V.eqL_refl x, V.eqL_refl y]
  | .fn0 => by simp [V.eqB]
  | .iface t v => by simp [V.eqB, V.eqB_refl v]
  | .if0 => by simp [V.eqB]
  | .agg l => by simp [V.eqB, V.eqL_refl l]
  | .tup l => by simp [V.eqB, V.eqL_refl l]
  | .bld k => by simp [V.eqB]
  | .buf s t => by simp [V.eqB]
  | .bptr s t => by simp [V.eqB]
theorem V.eqL_refl : ∀ (a : List V), V.eqL a a = true
  | [] => by simp [V.eqL]
  | x :: l => by simp [V.eqL, V.eqB_refl x, V.eqL_refl l]
end
/-- Is it the same? -/
def A.chk (x : Option V) (v : V) (k : Res) : Res := match x with | some w => if V.eqB w v = true then k else none | none => none
def A.noP (x : Res) (K : V → St → Res) : Res := match x with | some (.ret v, st) => K v st | _ => none
/-- .. a panic goes on where nothing else can have run by then. -/
def A.noPx (b : Bool) (x : Res) (K : V → St → Res) : Res := _root_.cond b (A.ret x K) (A.noP x K)
theorem noPx_some {b : Bool} {x : Res} {K : V → St → Res} {r : Out × St} (h : A.noPx b x K = some r) : (∃ v st, x = some (.ret v, st) ∧ K v st = some r) ∨ ∃ p st, b = true ∧ x = some (.panic p, st) ∧ r = (.panic p, st) := by
  unfold A.noPx at h
  cases b with
  | true =>
    rw [Bool.cond_true] at h
    unfold A.ret at h
    split at h
    · exact .inl ⟨_, _, rfl, h⟩
    · cases h; exact .inr ⟨_, _, rfl, rfl, rfl⟩
    · cases h
  | false =>
    rw [Bool.cond_false] at h
    unfold A.noP at h
    split at h
    · exact .inl ⟨_, _, rfl, h⟩
    · cases h

/-- Which operations must be ahead of each, as bits. -/
def befs : List Oper → List Nat → List Nat
  | [], acc => acc
  | o :: os, acc => befs os (acc ++ [o.after.toList.foldl (fun s x => if Region.binds .any x then s ||| 2 ^ x.on ||| acc.getD x.on 0 else s) 0])
def ord (B : List Nat) (i j : Nat) : Bool := (B.getD j 0).testBit i

/-- All behind an operation must wait for it. -/
def allow (B : List Nat) (n i : Nat) : Bool := (List.range n).all fun j => Nat.ble j i || ord B i j
structure Ld where
  i : Nat
  ag : Bool
  n : Nat
  p : V
  v : V

def chkL (B : List Nat) (i : Nat) (st : St) : List Ld → Res → Res
  | [], k => k
  | x :: xs, k => if ord B x.i i then chkL B i st xs k else A.chk (ldv x.ag x.n x.p st) x.v (chkL B i st xs k)
def chkH (B : List Nat) (i : Nat) (ag : Bool) (n : Nat) (p v : V) : List (Nat × St) → Res → Res
  | [], k => k
  | (j, s) :: xs, k => if ord B j i then chkH B i ag n p v xs k else A.chk (ldv ag n p s) v (chkH B i ag n p v xs k)

def gd (ops : Array Oper) (o : Oper) (env : Env) : Option Bool :=
  match o.guard with
  | none => some true
  | some (j, want) => match (ops[j]?).bind (·.dst) with
    | none => none
    | some d => (match env d with | .bool b => some (b == want) | .tup _ => some false | _ => none)

def aregL (P : Program) (mu : Nat → Bool) (T : Tbl) (m : Nat) (ops : Array Oper) (B : List Nat) (K : Env → St → Res) : List Nat → Env → St → List Ld → List (Nat × St) → Res
  | [], env, st, _, _ => K env st
  | i :: rest, env, st, L, H =>
    match ops[i]? with
    | none => none
    | some o =>
      let run : Env → Res := fun env => match cls P mu o with
        | 0 => aop P mu T o env st fun v _ => aregL P mu T m ops B K rest (putV m env o.dst v) st L H
        | 1 => (match loadOf P env o with
          | some (ag, n, p) => A.load ag n p st fun v _ => chkH B i ag n p v H (aregL P mu T m ops B K rest (putV m env o.dst v) st (⟨i, ag, n, p, v⟩ :: L) H)
          | none => none)
        | _ => A.noPx (allow B ops.size i) (aop P mu T o env st kid) fun v st' => chkL B i st' L (aregL P mu T m ops B K rest (putV m env o.dst v) st' L ((i, st) :: H))
      match o.guard with
      | none => run env
      | some (j, want) =>
        match (ops[j]?).bind (·.dst) with
        | none => none
        | some d => cond ((ops[j]?).bind (·.guard)).isSome (A.guardT (env d) want (run (putV m env (some d) (.bool want))) (aregL P mu T m ops B K rest (putV m (putV m env (some d) (.bool !want)) o.dst (.tup [])) st L H) (aregL P mu T m ops B K rest (putV m env o.dst (.tup [])) st L H)) (A.guard (env d) want (run (putV m env (some d) (.bool want))) (aregL P mu T m ops B K rest (putV m (putV m env (some d) (.bool !want)) o.dst (.tup [])) st L H))

/-- The edges go back; who looks at what is written is behind it; what writes is in one order. -/
def regOk (P : Program) (mu : Nat → Bool) (ops : Array Oper) (B : List Nat) : Bool :=
  (List.range ops.size).all fun j => match ops[j]? with
    | none => false
    | some o => (o.after.toList.all fun x => !Region.binds .any x || x.on < j) &&
      (List.range j).all fun i => match ops[i]? with
        | none => false
        | some q => ((match q.dst with | some d => !(o.looksAt ops).contains d && o.dst != some d | none => true) && (match o.dst with | some d => !(q.looksAt ops).contains d | none => true) && !(cls P mu o == 2 && cls P mu q == 2)) || ord B i j

def areg (P : Program) (mu : Nat → Bool) (T : Tbl) (m : Nat) (ops : Array Oper) (env : Env) (st : St) (K : Env → St → Res) : Res :=
  if regOk P mu ops (befs ops.toList []) then aregL P mu T m ops (befs ops.toList []) K (List.range ops.size) env st [] [] else none

/-! Computing operations. -/
def Pu (f : (V → Res) → Res) : Prop := ∀ K r, f K = some r → ∃ v, K v = some r ∧ ∀ K', f K' = K' v
theorem Pu.const (v : V) : Pu (fun K => K v) := fun K r h => ⟨v, h, fun _ => rfl⟩
theorem Pu.ob {o : Option V} {f : V → (V → Res) → Res} (h : ∀ v, Pu (f v)) : Pu (fun K => ob o fun v => f v K) := by
  intro K r hk
  obtain ⟨v, rfl, h2⟩ := ob_some hk
  exact h v K r h2
theorem Pu.obs {o : Option (List V)} {f : List V → (V → Res) → Res} (h : ∀ v, Pu (f v)) : Pu (fun K => obs o fun v => f v K) := by
  intro K r hk
  obtain ⟨v, rfl, h2⟩ := obs_some hk
  exact h v K r h2
theorem Pu.ite {c : Prop} [Decidable c] {f g : (V → Res) → Res} (hf : Pu f) (hg : Pu g) : Pu (fun K => if c then f K else g K) := by
  intro K r hk
  by_cases hc : c
  · simp only [hc, if_true] at hk ⊢; exact hf K r hk
  · simp only [hc, if_false] at hk ⊢; exact hg K r hk
theorem Pu.none : Pu (fun _ => Option.none) := fun K r h => by cases h
theorem Pu.bin (op : BinOp) (a b : V) : Pu (A.bin op a b) := by
  intro K r h
  unfold A.bin at h ⊢
  split at h
  · split at h <;> first
      | cases h
      | (split at h
         · rename_i hc
           first
             | exact ⟨_, h, fun K' => by simp only [hc, if_true]⟩
             | (split at h
                · cases h
                · rename_i hy; exact ⟨_, h, fun K' => by simp only [hc, hy, if_true, if_false]⟩)
             | cases h
         · rename_i hc
           first
             | cases h
             | exact ⟨_, h, fun K' => by simp only [hc, if_false]⟩)
  · split at h <;> first
      | cases h
      | exact ⟨_, h, fun K' => rfl⟩
      | (split at h
         · rename_i hc; exact ⟨_, h, fun K' => by simp only [hc, if_true]⟩
         · cases h)
  · cases h
theorem Pu.eql (ty : Nat) (neg : Bool) (a b : V) : Pu (A.eql ty neg a b) := by
  intro K r h
  unfold A.eql at h ⊢
  split at h <;> first
    | cases h
    | exact ⟨_, h, fun K' => rfl⟩
    | (split at h
       · rename_i hc; exact ⟨_, h, fun K' => by simp only [hc, if_true]⟩
       · cases h)
theorem Pu.un (op : UnOp) (a : V) : Pu (A.un op a) := by
  intro K r h
  unfold A.un at h ⊢
  split at h <;> first | cases h | exact ⟨_, h, fun K' => rfl⟩
theorem Pu.pick (c a b : V) : Pu (A.pick c a b) := by
  intro K r h
  unfold A.pick at h ⊢
  split at h <;> first | cases h | exact ⟨_, h, fun K' => rfl⟩
theorem Pu.ext (a : V) (i : Nat) : Pu (A.ext a i) := by
  intro K r h
  unfold A.ext at h ⊢
  split at h
  · split at h
    · rename_i hv; exact ⟨_, h, fun K' => by simp only [hv]⟩
    · cases h
  · cases h
theorem Pu.part (ag : Bool) (n off : Nat) (cs : List V) : Pu (Apart ag n off cs) := by
  intro K r h
  unfold Apart at h ⊢
  split at h
  · rename_i h1
    split at h
    · rename_i h2; exact ⟨_, h, fun K' => by simp only [h1, h2, if_true]⟩
    · cases h
  · rename_i h1
    split at h
    · rename_i h2; exact ⟨_, h, fun K' => by rw [if_neg h1]⟩
    · cases h
theorem Pu.field (ag : Bool) (n off : Nat) (a : V) : Pu (A.field ag n off a) := by
  intro K r h
  unfold A.field at h ⊢
  split at h
  · exact Pu.part _ _ _ _ K r h
  · cases h
theorem Pu.nilc (a : V) : Pu (A.nilc a) := by
  intro K r h
  unfold A.nilc at h ⊢
  split at h <;> first | cases h | exact ⟨_, h, fun K' => rfl⟩
theorem Pu.faddr (off : Nat) (a : V) : Pu (A.faddr off a) := by
  intro K r h
  unfold A.faddr at h ⊢
  split at h
  · exact ⟨_, h, fun K' => rfl⟩
  · split at h
    · rename_i hc; exact ⟨_, h, fun K' => by simp only [hc, if_true]⟩
    · cases h
  · cases h
theorem Pu.iaddr (sz : Nat) (x i : V) : Pu (A.iaddr sz x i) := by
  intro K r h
  unfold A.iaddr at h ⊢
  split at h
  · split at h
    · rename_i h0
      split at h
      · split at h
        · rename_i h1; exact ⟨_, h, fun K' => by simp only [h0, h1, if_true]; simp⟩
        · cases h
      · split at h
        · rename_i hv
          split at h
          · rename_i h1; exact ⟨_, h, fun K' => by simp only [h0, hv, h1, if_true]⟩
          · cases h
        · cases h
      · cases h
    · cases h
  · cases h
theorem Pu.iaddrA (len sz : Nat) (x i : V) : Pu (A.iaddrA len sz x i) := by
  intro K r h
  unfold A.iaddrA at h ⊢
  split at h
  · split at h
    · rename_i h0
      split at h
      · exact ⟨_, h, fun K' => by simp only [h0, and_self, if_true]⟩
      · split at h
        · rename_i h1; exact ⟨_, h, fun K' => by simp only [h0, h1, and_self, if_true]⟩
        · cases h
      · cases h
    · cases h
  · cases h
theorem Pu.idxS (x i : V) : Pu (A.idxS x i) := by
  intro K r h
  unfold A.idxS at h ⊢
  split at h
  · split at h
    · rename_i h0
      split at h
      · rename_i hb; exact ⟨_, h, fun K' => by simp only [h0, hb, if_true]⟩
      · cases h
    · cases h
  · cases h
theorem Pu.lenS (x : V) : Pu (A.lenS x) := by
  intro K r h
  unfold A.lenS at h ⊢
  split at h <;> first | cases h | exact ⟨_, h, fun K' => rfl⟩
theorem Pu.lenL (x : V) : Pu (A.lenL x) := by
  intro K r h
  unfold A.lenL at h ⊢
  split at h <;> first | cases h | exact ⟨_, h, fun K' => rfl⟩
theorem Pu.min (x y : V) : Pu (A.min x y) := by
  intro K r h
  unfold A.min at h ⊢
  split at h <;> first | cases h | exact ⟨_, h, fun K' => rfl⟩
theorem Pu.max (x y : V) : Pu (A.max x y) := by
  intro K r h
  unfold A.max at h ⊢
  split at h <;> first | cases h | exact ⟨_, h, fun K' => rfl⟩
theorem Pu.toInt (k : IntKind) (x : V) : Pu (A.toInt k x) := by
  intro K r h
  unfold A.toInt at h ⊢
  split at h <;> first | cases h | exact ⟨_, h, fun K' => rfl⟩
theorem Pu.build (zs : List V) (ps : List (Nat × Nat × V)) : Pu (A.build zs ps) := by
  intro K r h
  unfold A.build at h ⊢
  split at h
  · rename_i hc
    split at h
    · rename_i h1; exact ⟨_, h, fun K' => by simp only [hc, h1, if_true]⟩
    · cases h
  · cases h
theorem Pu.bslice (sz : Nat) (z : V) (len : Nat) (ps : List (Nat × V)) : Pu (A.bslice sz z len ps) := by
  intro K r h
  unfold A.bslice at h ⊢
  split at h
  · rename_i hc
    split at h
    · rename_i h1; exact ⟨_, h, fun K' => by first | rw [if_pos h1] | (simp only [hc]; rw [if_pos h1])⟩
    · cases h
  · cases h
theorem Pu.mksl (sz b : Nat) (z l c : V) : Pu (A.mksl sz b z l c) := by
  intro K r h
  unfold A.mksl at h ⊢
  split at h
  · split at h
    · rename_i h1; exact ⟨_, h, fun K' => by rw [if_pos h1]⟩
    · cases h
  · cases h
theorem Pu.sliceS (x : V) (lo hi : Option V) : Pu (A.sliceS x lo hi) := by
  intro K r h
  unfold A.sliceS at h ⊢
  split at h
  · split at h
    · rename_i h1 h2
      split at h
      · rename_i h3; exact ⟨_, h, fun K' => by first | rw [if_pos h3] | (simp only [h1, h2]; rw [if_pos h3])⟩
      · cases h
    · cases h
  · cases h
theorem Pu.slice (sz : Nat) (x : V) (lo hi mx : Option V) : Pu (A.slice sz x lo hi mx) := by
  intro K r h
  unfold A.slice at h ⊢
  split at h
  · split at h
    · rename_i h1 h2
      split at h
      · rename_i h3; exact ⟨_, h, fun K' => by first | rw [if_pos h3] | (simp only [h1, h2]; rw [if_pos h3])⟩
      · cases h
    · rename_i h1 h2
      split at h
      · rename_i hm
        split at h
        · rename_i h3; exact ⟨_, h, fun K' => by first | rw [if_pos h3] | (simp only [h1, h2, hm]; rw [if_pos h3])⟩
        · cases h
      · cases h
    · cases h
  · split at h
    · rename_i h1 h2
      split at h
      · rename_i h3; exact ⟨_, h, fun K' => by first | rw [if_pos h3] | (simp only [h1, h2]; rw [if_pos h3])⟩
      · cases h
    · cases h
  · cases h
end Go.Ab

/- Regions that draw their order, proved sound. -/
namespace Go.Ab
open Go.RowKit
set_option linter.unusedVariables false
set_option linter.unusedSimpArgs false

theorem Pu.obsK {o : Option (List (Nat × Nat × V))} {f : List (Nat × Nat × V) → (V → Res) → Res} (h : ∀ v, Pu (f v)) : Pu (fun K => pobs o fun v => f v K) := by
  intro K r hk
  obtain ⟨v, rfl, h2⟩ := pobs_some hk
  exact h v K r h2
theorem Pu.eobsK {o : Option (List (Nat × V))} {f : List (Nat × V) → (V → Res) → Res} (h : ∀ v, Pu (f v)) : Pu (fun K => eobs o fun v => f v K) := by
  intro K r hk
  obtain ⟨v, rfl, h2⟩ := eobs_some hk
  exact h v K r h2
theorem Pu.oobK {o : Option (Option V)} {f : Option V → (V → Res) → Res} (h : ∀ v, Pu (f v)) : Pu (fun K => oob o fun v => f v K) := by
  intro K r hk
  obtain ⟨v, rfl, h2⟩ := oob_some hk
  exact h v K r h2

theorem Pu.condK {b : Bool} {f g : (V → Res) → Res} (h1 : Pu f) (h2 : Pu g) : Pu (fun K => cond b (f K) (g K)) := by
  cases b
  · exact h2
  · exact h1
theorem Pu.eqS (P : Program) (t : TypeId) (neg : Bool) (a b : V) : Pu (A.eqS P t neg a b) := by
  intro K r h
  unfold A.eqS at h
  split at h
  · rename_i h0
    split at h
    · split at h
      · rename_i h1
        exact ⟨_, h, fun K' => by unfold A.eqS; rw [if_pos h0]; simp only [h1]⟩
      · cases h
    · cases h
  · rename_i h0
    split at h
    · rename_i h2
      split at h
      · split at h
        · rename_i h1
          exact ⟨_, h, fun K' => by unfold A.eqS; rw [if_neg h0, if_pos h2]; simp only [h1]⟩
        · cases h
      · cases h
    · cases h
theorem aop_pure {P : Program} {mu : Nat → Bool} {T : Tbl} {o : Oper} {env : Env} (hc : cls P mu o = 0) : ∃ f : (V → Res) → Res, Pu f ∧ ∀ st K, aop P mu T o env st K = f (fun v => K v st) := by
  unfold cls at hc
  cases hop : o.op <;> simp only [hop] at hc <;> (try (exact absurd hc (by decide)))
  case move x => exact ⟨_, Pu.ob (o := opV env x) (f := fun v K => K v) (fun v => Pu.const v), fun st K => by simp only [aop, hop]⟩
  case assign x => exact ⟨_, Pu.ob (o := opV env x) (f := fun v K => K v) (fun v => Pu.const v), fun st K => by simp only [aop, hop]⟩
  case pick c a b => exact ⟨_, Pu.ob (o := opV env c) (fun c => Pu.ob (o := opV env a) (fun a => Pu.ob (o := opV env b) (fun b => Pu.pick c a b))), fun st K => by simp only [aop, hop]⟩
  case build t parts => exact ⟨_, Pu.ite (c := partsKnown P t = true) (Pu.ob (o := zeroV P t) (fun z => Pu.obsK (o := partsV P t env parts.toList) (fun ps => Pu.build z.cells ps))) Pu.none, fun st K => by simp only [aop, hop]⟩
  case buildSlice t len parts =>
    cases hs : sle P t with
    | none => exact ⟨_, Pu.none, fun st K => by simp only [aop, hop, hs]⟩
    | some x0 => exact ⟨_, Pu.ob (o := zeroV P x0) (fun z => Pu.eobsK (o := elemsV env parts.toList) (fun ps => Pu.bslice (P.cellsOf x0) z len ps)), fun st K => by simp only [aop, hop, hs]⟩
  case nilCheck x => exact ⟨_, Pu.ob (o := opV env x) (fun v => Pu.nilc v), fun st K => by simp only [aop, hop]⟩
  case binOp op t x y ty =>
    refine ⟨_, Pu.ob (o := opV env x) (fun a => Pu.ob (o := opV env y) (fun b => (show Pu (fun K => match op with | .eql => cond (Nat.beq (tk P t) 8) (A.eqS P t false a b K) (A.eql (tk P t) false a b K) | .neq => cond (Nat.beq (tk P t) 8) (A.eqS P t true a b K) (A.eql (tk P t) true a b K) | op => A.bin op a b K) from ?_))), fun st K => ?_⟩
    · cases op <;> first | exact Pu.condK (Pu.eqS _ _ _ _ _) (Pu.eql _ _ _ _) | exact Pu.bin _ _ _
    · simp only [aop, hop]
      cases op <;> rfl
  case unOp op t x => exact ⟨_, Pu.ob (o := opV env x) (fun v => Pu.un op v), fun st K => by simp only [aop, hop]⟩
  case convert src dst x =>
    cases hk : intK P dst with
    | none => rw [hk] at hc; simp at hc
    | some k => exact ⟨_, Pu.ite (c := known P src = true) (Pu.ob (o := opV env x) (fun v => Pu.toInt k v)) Pu.none, fun st K => by simp only [aop, hop, hk]⟩
  case makeFunc fn first captured =>
    cases fn with
    | func f => exact ⟨_, Pu.obs (o := opsV env first.toList) (fun a => Pu.obs (o := opsV env captured.toList) (f := fun b K => K (.fn f a b)) (fun b => Pu.const (.fn f a b))), fun st K => by simp only [aop, hop]⟩
    | _ => exact ⟨_, Pu.none, fun st K => by simp only [aop, hop]⟩
  case makeInterface t x => exact ⟨_, Pu.ite (c := P.concrete t = true) (Pu.ob (o := opV env x) (f := fun v K => K (.iface t v)) (fun v => Pu.const _)) Pu.none, fun st K => by simp only [aop, hop]⟩
  case makeSlice t l c =>
    cases hs : sle P t with
    | none => exact ⟨_, Pu.none, fun st K => by simp only [aop, hop, hs]⟩
    | some x0 =>
      by_cases hm : (o.dst.map mu).getD false = true
      · rw [if_pos hm] at hc; cases hc
      · exact ⟨_, Pu.ob (o := zeroV P x0) (fun z => Pu.ob (o := opV env l) (fun l => Pu.ob (o := opV env c) (fun c => Pu.mksl (P.cellsOf x0) (P.bytesOf x0) z l c))), fun st K => by simp only [aop, hop, hs]; simp only [if_neg hm]⟩
  case slice t x lo hi mx =>
    cases ha : arr P t with
    | some _ => rw [ha] at hc; simp at hc
    | none =>
      cases hs : sle P t with
      | some x0 =>
        have hk3 : tk P t ≠ 3 := by
          have := sle_some hs
          simp [tk, this]
        refine ⟨_, Pu.ob (o := opV env x) (fun a => Pu.oobK (o := oV env lo) (fun b => Pu.oobK (o := oV env hi) (fun c => Pu.oobK (o := oV env mx) (fun d => Pu.ite (c := known P x0 = true) (Pu.slice (P.cellsOf x0) a b c d) Pu.none)))), fun st K => ?_⟩
        simp only [aop, hop, hs, ha]
      | none =>
        by_cases hk3 : tk P t = 3
        · refine ⟨_, Pu.ob (o := opV env x) (fun a => Pu.oobK (o := oV env lo) (fun b => Pu.oobK (o := oV env hi) (fun c => Pu.oobK (o := oV env mx) (fun d => Pu.ite (c := d.isNone = true) (Pu.sliceS a b c) Pu.none)))), fun st K => ?_⟩
          simp only [aop, hop, hs, ha, hk3]
        · refine ⟨_, Pu.ob (o := opV env x) (fun a => Pu.oobK (o := oV env lo) (fun b => Pu.oobK (o := oV env hi) (fun c => Pu.oobK (o := oV env mx) (fun d => Pu.none)))), fun st K => ?_⟩
          simp only [aop, hop, hs, ha]
  case fieldAddr t x f =>
    cases hf : fld P t f with
    | none => exact ⟨_, Pu.none, fun st K => by simp only [aop, hop, hf]⟩
    | some fd => exact ⟨_, Pu.ite (c := (known P fd.type && P.cellsOf fd.type != 0) = true) (Pu.ob (o := opV env x) (fun a => Pu.faddr fd.offset a)) Pu.none, fun st K => by simp only [aop, hop, hf]⟩
  case field t x f =>
    cases hf : fld P t f with
    | none => exact ⟨_, Pu.none, fun st K => by simp only [aop, hop, hf]⟩
    | some fd => exact ⟨_, Pu.ite (c := known P fd.type = true) (Pu.ob (o := opV env x) (fun a => Pu.field (isAg P fd.type) (P.cellsOf fd.type) fd.offset a)) Pu.none, fun st K => by simp only [aop, hop, hf]⟩
  case indexAddr t x i =>
    cases hs : sle P t with
    | some x0 => exact ⟨_, Pu.ob (o := opV env x) (fun a => Pu.ob (o := opV env i) (fun b => Pu.ite (c := known P x0 = true) (Pu.iaddr (P.cellsOf x0) a b) Pu.none)), fun st K => by simp only [aop, hop, hs]⟩
    | none =>
      cases ha : arr P t with
      | some nx => exact ⟨_, Pu.ob (o := opV env x) (fun a => Pu.ob (o := opV env i) (fun b => Pu.ite (c := known P nx.2 = true) (Pu.iaddrA nx.1 (P.cellsOf nx.2) a b) Pu.none)), fun st K => by simp only [aop, hop, hs, ha]⟩
      | none => exact ⟨_, Pu.ob (o := opV env x) (fun a => Pu.ob (o := opV env i) (fun b => Pu.none)), fun st K => by simp only [aop, hop, hs, ha]⟩
  case index t x i => exact ⟨_, Pu.ob (o := opV env x) (fun a => Pu.ob (o := opV env i) (fun b => Pu.ite (c := tk P t = 3) (Pu.idxS a b) Pu.none)), fun st K => by simp only [aop, hop]⟩
  case extract t i => exact ⟨_, Pu.ob (o := opV env t) (fun a => Pu.ext a i), fun st K => by simp only [aop, hop]⟩
  case call c =>
    cases hcl : c.callee with
    | value f => rw [hcl] at hc; simp at hc
    | invoke r m => rw [hcl] at hc; simp at hc
    | builtin b =>
      rw [hcl] at hc
      cases b <;> simp only at hc <;> (try (exact absurd hc (by decide)))
      case len =>
        cases ht : c.argTypes[0]? with
        | none => rw [ht] at hc; simp at hc
        | some t =>
          rw [ht] at hc
          cases hargs : c.args.toList with
          | nil => exact ⟨_, Pu.none, fun st K => by simp only [aop, hop, hcl, ht, hargs]⟩
          | cons x xs =>
            cases xs with
            | cons _ _ => exact ⟨_, Pu.none, fun st K => by simp only [aop, hop, hcl, ht, hargs]⟩
            | nil =>
              by_cases h6 : tk P t = 6
              · simp [h6] at hc
              · refine ⟨_, Pu.ob (o := opV env x) (fun a => (show Pu (fun K => match tk P t with | 3 => A.lenS a K | 5 => A.lenL a K | _ => none) from ?_)), fun st K => ?_⟩
                · split
                  · exact Pu.lenS a
                  · exact Pu.lenL a
                  · exact Pu.none
                · simp only [aop, hop, hcl, ht, hargs]
                  congr 1; funext a
                  split
                  · rename_i h3; simp only [h3]
                  · rename_i h3; simp only [h3]
                  · rename_i h3; exact absurd h3 h6
                  · rename_i h3 h4 h5
                    split
                    · rename_i h7; exact absurd h7 h3
                    · rename_i h7; exact absurd h7 h4
                    · rfl
      case min =>
        cases hargs : c.args.toList with
        | nil => exact ⟨_, Pu.none, fun st K => by simp only [aop, hop, hcl, hargs]⟩
        | cons x xs =>
          cases xs with
          | nil => exact ⟨_, Pu.none, fun st K => by simp only [aop, hop, hcl, hargs]⟩
          | cons y ys =>
            cases ys with
            | cons _ _ => exact ⟨_, Pu.none, fun st K => by simp only [aop, hop, hcl, hargs]⟩
            | nil => exact ⟨_, Pu.ob (o := opV env x) (fun a => Pu.ob (o := opV env y) (fun b => Pu.min a b)), fun st K => by simp only [aop, hop, hcl, hargs]⟩
      case max =>
        cases hargs : c.args.toList with
        | nil => exact ⟨_, Pu.none, fun st K => by simp only [aop, hop, hcl, hargs]⟩
        | cons x xs =>
          cases xs with
          | nil => exact ⟨_, Pu.none, fun st K => by simp only [aop, hop, hcl, hargs]⟩
          | cons y ys =>
            cases ys with
            | cons _ _ => exact ⟨_, Pu.none, fun st K => by simp only [aop, hop, hcl, hargs]⟩
            | nil => exact ⟨_, Pu.ob (o := opV env x) (fun a => Pu.ob (o := opV env y) (fun b => Pu.max a b)), fun st K => by simp only [aop, hop, hcl, hargs]⟩

/-- The operands' values are all that matters. -/
theorem opV_congr {env env' : Env} {x : Operand} (h : ∀ t, x = .tmp t → env t = env' t) : opV env x = opV env' x := by
  cases x with
  | tmp t => simp only [opV]; rw [h t rfl]
  | _ => rfl
def Same (xs : List Operand) (env env' : Env) : Prop := ∀ x ∈ xs, opV env x = opV env' x
theorem opsV_congr {env env' : Env} : ∀ {xs : List Operand}, Same xs env env' → opsV env xs = opsV env' xs
  | [], _ => rfl
  | x :: xs, h => by simp only [opsV]; rw [h x (by simp), opsV_congr (fun y hy => h y (List.mem_cons_of_mem _ hy))]
theorem elemsV_congr {env env' : Env} : ∀ {xs : List (Nat × Operand)}, Same (xs.map (·.2)) env env' → elemsV env xs = elemsV env' xs
  | [], _ => rfl
  | (i, x) :: xs, h => by simp only [elemsV]; rw [h x (by simp), elemsV_congr (fun y hy => h y (List.mem_cons_of_mem _ hy))]
theorem partsV_congr {P : Program} {t : TypeId} {env env' : Env} : ∀ {xs : List (Nat × Operand)}, Same (xs.map (·.2)) env env' → partsV P t env xs = partsV P t env' xs
  | [], _ => rfl
  | (i, x) :: xs, h => by simp only [partsV]; rw [h x (by simp), partsV_congr (fun y hy => h y (List.mem_cons_of_mem _ hy))]
theorem oV_congr {env env' : Env} {x : Option Operand} (h : Same x.toList env env') : oV env x = oV env' x := by
  cases x with
  | none => rfl
  | some x => simp only [oV]; rw [h x (by simp)]

theorem aop_congr {P : Program} {mu : Nat → Bool} {T : Tbl} {o : Oper} {env env' : Env} (h : Same o.op.operands.toList env env') (st : St) (K : V → St → Res) : aop P mu T o env st K = aop P mu T o env' st K := by
  cases hop : o.op <;> simp only [hop, Op.operands] at h <;> simp only [aop, hop]
  case move x => rw [h x (by simp)]
  case assign x => rw [h x (by simp)]
  case pick c a b => rw [h c (by simp), h a (by simp), h b (by simp)]
  case box t x => rw [h x (by simp)]
  case build t parts => rw [partsV_congr (by simpa using h)]
  case buildSlice t len parts => rw [elemsV_congr (by simpa using h)]
  case load t a => rw [h a (by simp)]
  case store t a x => rw [h a (by simp), h x (by simp)]
  case nilCheck x => rw [h x (by simp)]
  case binOp op t x y ty => rw [h x (by simp), h y (by simp)]
  case unOp op t x => rw [h x (by simp)]
  case convert s d x => rw [h x (by simp)]
  case makeInterface t x => rw [h x (by simp)]
  case makeFunc f a b =>
    have h1 : opsV env a.toList = opsV env' a.toList := opsV_congr (fun x hx => h x (by simp at hx ⊢; exact .inl hx))
    have h2 : opsV env b.toList = opsV env' b.toList := opsV_congr (fun x hx => h x (by simp at hx ⊢; exact .inr hx))
    cases f <;> simp only [h1, h2]
  case makeSlice t l c => rw [h l (by simp), h c (by simp)]
  case slice t x lo hi mx =>
    rw [h x (by simp), oV_congr (x := lo) (fun y hy => h y (by simp at hy ⊢; simp [hy])), oV_congr (x := hi) (fun y hy => h y (by simp at hy ⊢; simp [hy])), oV_congr (x := mx) (fun y hy => h y (by simp at hy ⊢; simp [hy]))]
  case fieldAddr t x f => rw [h x (by simp)]
  case field t x f => rw [h x (by simp)]
  case indexAddr t x i => rw [h x (by simp), h i (by simp)]
  case index t x i => rw [h x (by simp), h i (by simp)]
  case lookup t x i ok => rw [h x (by simp), h i (by simp)]
  case mapUpdate t m k x => rw [h m (by simp), h k (by simp), h x (by simp)]
  case insert t m k x => rw [h m (by simp), h k (by simp), h x (by simp)]
  case typeAssert x xt u ok => rw [h x (by simp)]
  case extract t i => rw [h t (by simp)]
  case panic x => rw [h x (by simp)]
  case call c =>
    unfold Call.operands at h
    cases hc : c.callee with
    | value f =>
      rw [hc] at h
      simp only
      rw [h f (by simp), opsV_congr (xs := c.args.toList) (fun x hx => h x (by simp at hx ⊢; exact .inr hx))]
    | invoke _ _ => rfl
    | builtin b =>
      rw [hc] at h
      have ha : ∀ x ∈ c.args.toList, opV env x = opV env' x := fun x hx => h x (by simpa using hx)
      cases b <;> simp only <;> (try rfl)
      case append =>
        generalize c.args.toList = l at ha ⊢
        generalize c.argTypes.toList = q
        rcases l with _ | ⟨x, _ | ⟨y, _ | ⟨z, l⟩⟩⟩ <;> (try rfl)
        rcases q with _ | ⟨t, _ | ⟨u, _ | ⟨z, q⟩⟩⟩ <;> (try rfl)
        simp only [ha x (by simp), ha y (by simp)]
      case len =>
        generalize c.args.toList = l at ha ⊢
        generalize c.argTypes[0]? = q
        rcases l with _ | ⟨x, _ | ⟨y, l⟩⟩ <;> (try rfl)
        cases q <;> (try rfl)
        simp only [ha x (by simp)]
      case delete =>
        generalize c.args.toList = l at ha ⊢
        generalize c.argTypes[0]? = q
        rcases l with _ | ⟨x, _ | ⟨y, _ | ⟨z, l⟩⟩⟩ <;> (try rfl)
        cases q <;> (try rfl)
        simp only [ha x (by simp), ha y (by simp)]
      case clear =>
        generalize c.args.toList = l at ha ⊢
        generalize c.argTypes[0]? = q
        rcases l with _ | ⟨x, _ | ⟨y, l⟩⟩ <;> (try rfl)
        cases q <;> (try rfl)
        simp only [ha x (by simp)]
      case unsafeSliceData =>
        generalize c.args.toList = l at ha ⊢
        rcases l with _ | ⟨x, _ | ⟨y, l⟩⟩ <;> (try rfl)
        simp only [ha x (by simp)]
      case unsafeString =>
        generalize c.args.toList = l at ha ⊢
        generalize c.argTypes.toList = q
        rcases l with _ | ⟨x, _ | ⟨y, _ | ⟨z, l⟩⟩⟩ <;> (try rfl)
        rcases q with _ | ⟨t, _ | ⟨u, _ | ⟨z, q⟩⟩⟩ <;> (try rfl)
        simp only [ha x (by simp), ha y (by simp)]
      case max =>
        generalize c.args.toList = l at ha ⊢
        rcases l with _ | ⟨x, _ | ⟨y, _ | ⟨z, l⟩⟩⟩ <;> (try rfl)
        simp only [ha x (by simp), ha y (by simp)]
      case min =>
        generalize c.args.toList = l at ha ⊢
        rcases l with _ | ⟨x, _ | ⟨y, _ | ⟨z, l⟩⟩⟩ <;> (try rfl)
        simp only [ha x (by simp), ha y (by simp)]
  case makeMap t r => cases r <;> rfl
end Go.Ab

/- The run in the text's order, told. -/
namespace Go.Ab
open Go.RowKit
set_option linter.unusedVariables false
set_option linter.unusedSimpArgs false

theorem load_pu (ag : Bool) (n : Nat) (p : V) (st : St) : ∃ f : (V → Res) → Res, Pu f ∧ ∀ K, A.load ag n p st K = f (fun v => K v st) := by
  unfold A.load
  cases p with
  | ptr id off =>
    cases h : st.ob id with
    | none => exact ⟨_, Pu.none, fun K => by simp only [h]⟩
    | some o => cases o with
      | cells cs =>
        cases hc : (ag && !cs.all V.one) with
        | true => exact ⟨_, Pu.none, fun K => by simp only [h, hc, cond_true]⟩
        | false => exact ⟨_, Pu.part ag n off cs, fun K => by simp only [h, hc, cond_false]⟩
      | map es => exact ⟨_, Pu.none, fun K => by simp only [h]⟩
  | lptr cs => exact ⟨_, Pu.part ag n 0 cs, fun K => rfl⟩
  | _ => exact ⟨_, Pu.none, fun K => rfl⟩
theorem load_ldv {ag : Bool} {n : Nat} {p : V} {st : St} {K : V → St → Res} {r : Out × St} (h : A.load ag n p st K = some r) : ∃ v, ldv ag n p st = some v ∧ K v st = some r := by
  obtain ⟨f, hf, he⟩ := load_pu ag n p st
  rw [he] at h
  obtain ⟨v, h1, h2⟩ := hf _ _ h
  refine ⟨v, ?_, h1⟩
  unfold ldv
  rw [he, h2]; rfl
theorem ldv_load {ag : Bool} {n : Nat} {p : V} {st : St} {v : V} (h : ldv ag n p st = some v) (K : V → St → Res) : A.load ag n p st K = K v st := by
  obtain ⟨f, hf, he⟩ := load_pu ag n p st
  unfold ldv at h
  rw [he] at h ⊢
  cases hk : f (fun v => kid v st) with
  | none => rw [hk] at h; cases h
  | some r =>
    obtain ⟨v', h1, h2⟩ := hf _ _ hk
    rw [hk] at h
    cases h1
    simp only [Option.some.injEq] at h
    subst h
    exact h2 _

theorem chk_some {x : Option V} {v : V} {k : Res} {r : Out × St} (h : A.chk x v k = some r) : x = some v ∧ k = some r := by
  unfold A.chk at h
  split at h
  · rename_i w
    split at h
    · rename_i hb; exact ⟨by rw [V.eqB_eq _ _ hb], h⟩
    · cases h
  · cases h
theorem chkL_some {B : List Nat} {i : Nat} {st : St} {k : Res} {r : Out × St} : ∀ {L : List Ld}, chkL B i st L k = some r → (∀ x ∈ L, ord B x.i i = false → ldv x.ag x.n x.p st = some x.v) ∧ k = some r
  | [], h => ⟨by simp, h⟩
  | x :: xs, h => by
    unfold chkL at h
    split at h
    · rename_i ho
      obtain ⟨h1, h2⟩ := chkL_some h
      refine ⟨fun y hy hn => ?_, h2⟩
      rcases List.mem_cons.mp hy with g | g
      · rw [g, ho] at hn; cases hn
      · exact h1 y g hn
    · obtain ⟨h0, h⟩ := chk_some h
      obtain ⟨h1, h2⟩ := chkL_some h
      refine ⟨fun y hy hn => ?_, h2⟩
      rcases List.mem_cons.mp hy with g | g
      · rw [g]; exact h0
      · exact h1 y g hn
theorem chkH_some {B : List Nat} {i : Nat} {ag : Bool} {n : Nat} {p v : V} {k : Res} {r : Out × St} : ∀ {L : List (Nat × St)}, chkH B i ag n p v L k = some r → (∀ x ∈ L, ord B x.1 i = false → ldv ag n p x.2 = some v) ∧ k = some r
  | [], h => ⟨by simp, h⟩
  | (j, s) :: xs, h => by
    unfold chkH at h
    split at h
    · rename_i ho
      obtain ⟨h1, h2⟩ := chkH_some h
      refine ⟨fun y hy hn => ?_, h2⟩
      rcases List.mem_cons.mp hy with g | g
      · rw [g] at hn; simp only [ho] at hn; cases hn
      · exact h1 y g hn
    · obtain ⟨h0, h⟩ := chk_some h
      obtain ⟨h1, h2⟩ := chkH_some h
      refine ⟨fun y hy hn => ?_, h2⟩
      rcases List.mem_cons.mp hy with g | g
      · rw [g]; exact h0
      · exact h1 y g hn

structure TI where
  ran : Bool
  v : V
  env : Env
  st : St

section
variable (P : Program) (mu : Nat → Bool) (T : Tbl) (m : Nat) (ops : Array Oper) (B : List Nat)
structure OpOK (f : Nat → TI) (j : Nat) (o : Oper) : Prop where
  op : ops[j]? = some o
  guard : gd ops o (f j).env = some (f j).ran
  env : (f (j + 1)).env = putV m (f j).env o.dst (f j).v
  skip : (f j).ran = false → (f j).v = .tup [] ∧ (f (j + 1)).st = (f j).st
  pure : (f j).ran = true → cls P mu o = 0 → (f (j + 1)).st = (f j).st ∧ ∀ st K, aop P mu T o (f j).env st K = K (f j).v st
  load : (f j).ran = true → cls P mu o = 1 → (f (j + 1)).st = (f j).st ∧ ∃ ag n p, loadOf P (f j).env o = some (ag, n, p) ∧ ldv ag n p (f j).st = some (f j).v
  write : (f j).ran = true → cls P mu o ≠ 0 → cls P mu o ≠ 1 → aop P mu T o (f j).env (f j).st kid = some (.ret (f j).v, (f (j + 1)).st)
def IsW (j : Nat) : Prop := ∃ o, ops[j]? = some o ∧ cls P mu o ≠ 0 ∧ cls P mu o ≠ 1
def IsL (f : Nat → TI) (j : Nat) (ag : Bool) (n : Nat) (p : V) : Prop := ∃ o, ops[j]? = some o ∧ cls P mu o = 1 ∧ loadOf P (f j).env o = some (ag, n, p)
structure Tr (K : Env → St → Res) (r : Out × St) (n i : Nat) (env : Env) (st : St) (L : List Ld) (H : List (Nat × St)) (f : Nat → TI) : Prop where
  env : (f i).env = env
  st : (f i).st = st
  ok : ∀ j, i ≤ j → j < i + n → ∃ o, OpOK P mu T m ops f j o
  fin : K (f (i + n)).env (f (i + n)).st = some r
  L : ∀ x ∈ L, ∀ j, i ≤ j → j < i + n → (f j).ran = true → IsW P mu ops j → ord B x.i j = false → ldv x.ag x.n x.p (f (j + 1)).st = some x.v
  H : ∀ y ∈ H, ∀ j, i ≤ j → j < i + n → (f j).ran = true → ∀ ag c p, IsL P mu ops f j ag c p → ord B y.1 j = false → ldv ag c p y.2 = some (f j).v
  LW : ∀ j k, i ≤ j → j < k → k < i + n → (f j).ran = true → (f k).ran = true → ∀ ag c p, IsL P mu ops f j ag c p → IsW P mu ops k → ord B j k = false → ldv ag c p (f (k + 1)).st = some (f j).v
  WL : ∀ j k, i ≤ j → j < k → k < i + n → (f j).ran = true → (f k).ran = true → ∀ ag c p, IsW P mu ops j → IsL P mu ops f k ag c p → ord B j k = false → ldv ag c p (f j).st = some (f k).v
end

variable {P : Program} {mu : Nat → Bool} {T : Tbl} {ops : Array Oper} {B : List Nat} {m : Nat} {K : Env → St → Res} {r : Out × St}

theorem tr_step {n i : Nat} {o : Oper} {ran : Bool} {v : V} {env env' : Env} {st st' : St} {L L' : List Ld} {H H' : List (Nat × St)} {f' : Nat → TI} {K : Env → St → Res} (R : Tr P mu T m ops B K r n (i + 1) env' st' L' H' f')
    (ho : ops[i]? = some o) (hg : gd ops o env = some ran) (he : env' = putV m env o.dst v)
    (hs : ran = false → v = .tup [] ∧ st' = st)
    (hp : ran = true → cls P mu o = 0 → st' = st ∧ ∀ st K, aop P mu T o env st K = K v st)
    (hl : ran = true → cls P mu o = 1 → st' = st ∧ ∃ ag n p, loadOf P env o = some (ag, n, p) ∧ ldv ag n p st = some v)
    (hw : ran = true → cls P mu o ≠ 0 → cls P mu o ≠ 1 → aop P mu T o env st kid = some (.ret v, st'))
    (hL : ∀ x ∈ L, x ∈ L') (hLi : ran = true → cls P mu o ≠ 0 → cls P mu o ≠ 1 → ∀ x ∈ L, ord B x.i i = false → ldv x.ag x.n x.p st' = some x.v)
    (hL2 : ran = true → cls P mu o = 1 → ∀ ag n p, loadOf P env o = some (ag, n, p) → (⟨i, ag, n, p, v⟩ : Ld) ∈ L')
    (hH : ∀ y ∈ H, y ∈ H') (hHi : ran = true → cls P mu o = 1 → ∀ ag n p, loadOf P env o = some (ag, n, p) → ∀ y ∈ H, ord B y.1 i = false → ldv ag n p y.2 = some v)
    (hH2 : ran = true → cls P mu o ≠ 0 → cls P mu o ≠ 1 → (i, st) ∈ H') : ∃ f, Tr P mu T m ops B K r (n + 1) i env st L H f ∧ ∀ j, i < j → f j = f' j := by
  let f : Nat → TI := fun j => if j = i then ⟨ran, v, env, st⟩ else f' j
  have fi : f i = ⟨ran, v, env, st⟩ := by simp [f]
  have fj : ∀ j, i < j → f j = f' j := fun j hj => by simp only [f]; rw [if_neg (by omega)]
  have fs : f (i + 1) = f' (i + 1) := fj _ (by omega)
  have isl : ∀ j ag m p, i < j → IsL P mu ops f j ag m p → IsL P mu ops f' j ag m p := by
    intro j ag m p hj ⟨o, h1, h2, h3⟩
    rw [fj j hj] at h3; exact ⟨o, h1, h2, h3⟩
  have wi : IsW P mu ops i → cls P mu o ≠ 0 ∧ cls P mu o ≠ 1 := by
    intro ⟨q, h1, h2, h3⟩; rw [ho] at h1; cases h1; exact ⟨h2, h3⟩
  have li : ∀ ag m p, IsL P mu ops f i ag m p → cls P mu o = 1 ∧ loadOf P env o = some (ag, m, p) := by
    intro ag m p ⟨q, h1, h2, h3⟩; rw [ho] at h1; cases h1; rw [fi] at h3; exact ⟨h2, h3⟩
  refine ⟨f, ⟨by rw [fi], by rw [fi], ?_, ?_, ?_, ?_, ?_, ?_⟩, fj⟩
  · intro j h1 h2
    by_cases hj : j = i
    · subst hj
      refine ⟨o, ho, by rw [fi]; exact hg, by rw [fs, R.env, fi]; exact he, ?_, ?_, ?_, ?_⟩
      · intro h; rw [fi] at h; rw [fs, R.st, fi]; exact hs h
      · intro h hc; rw [fi] at h; rw [fs, R.st, fi]; exact hp h hc
      · intro h hc; rw [fi] at h; rw [fs, R.st, fi]; exact hl h hc
      · intro h hc hc2; rw [fi] at h; rw [fs, R.st, fi]; exact hw h hc hc2
    · obtain ⟨q, k⟩ := R.ok j (by omega) (by omega)
      have e1 := fj j (by omega)
      have e2 := fj (j + 1) (by omega)
      refine ⟨q, k.op, ?_, ?_, ?_, ?_, ?_, ?_⟩ <;> rw [e1] <;> (try rw [e2])
      · exact k.guard
      · exact k.env
      · exact k.skip
      · exact k.pure
      · exact k.load
      · exact k.write
  · rw [show i + (n + 1) = i + 1 + n by omega, fj _ (by omega)]; exact R.fin
  · intro x hx j h1 h2 h3 h4 h5
    by_cases hj : j = i
    · subst hj
      rw [fi] at h3
      obtain ⟨q1, q2⟩ := wi h4
      rw [fs, R.st]; exact hLi h3 q1 q2 x hx h5
    · rw [fj j (by omega)] at h3; rw [fj (j + 1) (by omega)]
      exact R.L x (hL x hx) j (by omega) (by omega) h3 h4 h5
  · intro y hy j h1 h2 h3 ag m p h4 h5
    by_cases hj : j = i
    · subst hj
      rw [fi] at h3 ⊢
      obtain ⟨q1, q2⟩ := li _ _ _ h4
      exact hHi h3 q1 _ _ _ q2 y hy h5
    · rw [fj j (by omega)] at h3 ⊢
      exact R.H y (hH y hy) j (by omega) (by omega) h3 ag m p (isl j _ _ _ (by omega) h4) h5
  · intro j k h1 h2 h3 h4 h5 ag m p h6 h7 h8
    rw [fj k (by omega)] at h5; rw [fj (k + 1) (by omega)]
    by_cases hj : j = i
    · subst hj
      rw [fi] at h4 ⊢
      obtain ⟨q1, q2⟩ := li _ _ _ h6
      exact R.L _ (hL2 h4 q1 _ _ _ q2) k (by omega) (by omega) h5 h7 h8
    · rw [fj j (by omega)] at h4 ⊢
      exact R.LW j k (by omega) h2 (by omega) h4 h5 ag m p (isl j _ _ _ (by omega) h6) h7 h8
  · intro j k h1 h2 h3 h4 h5 ag m p h6 h7 h8
    have h7' := isl k _ _ _ (by omega) h7
    rw [fj k (by omega)] at h5 ⊢
    by_cases hj : j = i
    · subst hj
      rw [fi] at h4 ⊢
      obtain ⟨q1, q2⟩ := wi h6
      exact R.H _ (hH2 h4 q1 q2) k (by omega) (by omega) h5 ag m p h7' h8
    · rw [fj j (by omega)] at h4 ⊢
      exact R.WL j k (by omega) h2 (by omega) h4 h5 ag m p h6 h7' h8

/-- What panics: an operation for which all behind it wait. -/
def panK (P : Program) (mu : Nat → Bool) (T : Tbl) (o : Oper) : Env → St → Res := fun env st => aop P mu T o env st kid
structure Pan (P : Program) (mu : Nat → Bool) (T : Tbl) (m : Nat) (ops : Array Oper) (B : List Nat) (r : Out × St) (k i : Nat) (env : Env) (st : St) (L : List Ld) (H : List (Nat × St)) (f : Nat → TI) (o : Oper) : Prop where
  op : ops[i + k]? = some o
  tr : Tr P mu T m ops B (panK P mu T o) r k i env st L H f
  guard : gd ops o (f (i + k)).env = some true
  al : allow B ops.size (i + k) = true
  pan : ∃ p st', r = (.panic p, st')
  wr : cls P mu o ≠ 0 ∧ cls P mu o ≠ 1
theorem areg_trace : ∀ (n i : Nat) (env : Env) (st : St) (L : List Ld) (H : List (Nat × St)), aregL P mu T m ops B K (List.range' i n) env st L H = some r → (∃ f, Tr P mu T m ops B K r n i env st L H f) ∨ ∃ k o f, k < n ∧ Pan P mu T m ops B r k i env st L H f o
  | 0, i, env, st, L, H, h => by
    refine .inl ⟨fun _ => ⟨true, .tup [], env, st⟩, rfl, rfl, fun j h1 h2 => by omega, h, fun x _ j h1 h2 => by omega, fun x _ j h1 h2 => by omega, fun j k h1 h2 h3 => by omega, fun j k h1 h2 h3 => by omega⟩
  | n + 1, i, env, st, L, H, h => by
    rw [List.range'_succ] at h
    unfold aregL at h
    split at h
    · cases h
    rename_i o ho
    have both : ∀ (env' : Env) (st' : St) (L' : List Ld) (H' : List (Nat × St)), aregL P mu T m ops B K (List.range' (i + 1) n) env' st' L' H' = some r → (∀ (K' : Env → St → Res) (n' : Nat) (f' : Nat → TI), Tr P mu T m ops B K' r n' (i + 1) env' st' L' H' f' → ∃ f, Tr P mu T m ops B K' r (n' + 1) i env st L H f ∧ ∀ j, i < j → f j = f' j) → (∃ f, Tr P mu T m ops B K r (n + 1) i env st L H f) ∨ ∃ k o f, k < n + 1 ∧ Pan P mu T m ops B r k i env st L H f o := by
      intro env' st' L' H' h hs
      rcases areg_trace n (i + 1) env' st' L' H' h with ⟨f', R⟩ | ⟨k, q, f', hk, R⟩
      · obtain ⟨f, R2, _⟩ := hs _ _ _ R
        exact .inl ⟨f, R2⟩
      · obtain ⟨f, R2, hf⟩ := hs _ _ _ R.tr
        have e : i + 1 + k = i + (k + 1) := by omega
        refine .inr ⟨k + 1, q, f, by omega, by rw [← e]; exact R.op, R2, ?_, by rw [← e]; exact R.al, R.pan, R.wr⟩
        rw [hf _ (by omega), ← e]; exact R.guard
    have run : gd ops o env = some true → (match cls P mu o with
        | 0 => aop P mu T o env st fun v _ => aregL P mu T m ops B K (List.range' (i + 1) n) (putV m env o.dst v) st L H
        | 1 => (match loadOf P env o with
          | some (ag, n', p) => A.load ag n' p st fun v _ => chkH B i ag n' p v H (aregL P mu T m ops B K (List.range' (i + 1) n) (putV m env o.dst v) st (⟨i, ag, n', p, v⟩ :: L) H)
          | none => none)
        | _ => A.noPx (allow B ops.size i) (aop P mu T o env st kid) fun v st' => chkL B i st' L (aregL P mu T m ops B K (List.range' (i + 1) n) (putV m env o.dst v) st' L ((i, st) :: H))) = some r → (∃ f, Tr P mu T m ops B K r (n + 1) i env st L H f) ∨ ∃ k o f, k < n + 1 ∧ Pan P mu T m ops B r k i env st L H f o := by
      intro hg h
      split at h
      · rename_i hc
        obtain ⟨f, hf, he⟩ := aop_pure (P := P) (mu := mu) (T := T) (env := env) hc
        rw [he] at h
        obtain ⟨v, h1, h2⟩ := hf _ _ h
        refine both _ _ _ _ h1 fun K' nq f' R => ?_
        exact tr_step R ho hg rfl (by intro h; cases h) (fun _ _ => ⟨rfl, fun st K => by rw [he, h2]⟩) (fun _ h => by omega) (fun _ h => by omega) (fun x h => h) (fun _ h => by omega) (fun _ h => by omega) (fun x h => h) (fun _ h => by omega) (fun _ h => by omega)
      · rename_i hc
        split at h
        · rename_i ag n' p hl
          obtain ⟨v, h1, h2⟩ := load_ldv h
          obtain ⟨h3, h4⟩ := chkH_some h2
          refine both _ _ _ _ h4 fun K' nq f' R => ?_
          refine tr_step R ho hg rfl (by intro h; cases h) (fun _ h => by omega) (fun _ _ => ⟨rfl, ag, n', p, hl, h1⟩) (fun _ _ h => by omega) (fun x h => List.mem_cons_of_mem _ h) (fun _ _ h => by omega) ?_ (fun x h => h) ?_ (fun _ _ h => by omega)
          · intro _ _ a b c hl2; rw [hl] at hl2; cases hl2; simp
          · intro _ _ a b c hl2 y hy ho2; rw [hl] at hl2; cases hl2; exact h3 y hy ho2
        · cases h
      · rename_i h0 h1
        rcases noPx_some h with ⟨v, st', hrun, h⟩ | ⟨p, st', hal, hrun, hrr⟩
        · obtain ⟨h3, h4⟩ := chkL_some h
          refine both _ _ _ _ h4 fun K' nq f' R => ?_
          exact tr_step R ho hg rfl (by intro h; cases h) (fun _ h => absurd h h0) (fun _ h => absurd h h1) (fun _ _ _ => hrun) (fun x h => h) (fun _ _ _ => h3) (fun _ h => absurd h h1) (fun x h => List.mem_cons_of_mem _ h) (fun _ h => absurd h h1) (fun _ _ _ => by simp)
        · refine .inr ⟨0, o, fun _ => ⟨true, .tup [], env, st⟩, by omega, ho, ⟨rfl, rfl, fun j h1 h2 => by omega, by rw [hrr]; exact hrun, fun x _ j h1 h2 => by omega, fun x _ j h1 h2 => by omega, fun j k h1 h2 h3 => by omega, fun j k h1 h2 h3 => by omega⟩, hg, hal, ⟨p, st', hrr⟩, h0, h1⟩
    cases hgd : o.guard with
    | none =>
      simp only [hgd] at h
      exact run (by simp [gd, hgd]) h
    | some jw =>
      obtain ⟨j, want⟩ := jw
      simp only [hgd] at h
      cases hd : (ops[j]?).bind (·.dst) with
      | none => simp only [hd] at h; cases h
      | some d =>
        simp only [hd] at h
        rcases guardT_some h with ⟨b, hb, h⟩ | ⟨l, hb, h⟩
        · have hgv : gd ops o env = some (b == want) := by simp only [gd, hgd, hd, hb]
          by_cases hbw : (b == want) = true
          · rw [if_pos hbw, putV_self (by rw [hb, (beq_iff_eq.mp hbw)])] at h
            exact run (by rw [hgv, hbw]) h
          · rw [if_neg hbw, putV_self (by rw [hb]; congr 1; cases b <;> cases want <;> simp_all)] at h
            have hbw' : (b == want) = false := by simpa using hbw
            refine both _ _ _ _ h fun K' nq f' R => ?_
            exact tr_step R ho (by rw [hgv, hbw']) rfl (fun _ => ⟨rfl, rfl⟩) (by intro h; cases h) (by intro h; cases h) (by intro h; cases h) (fun x h => h) (by intro h; cases h) (by intro h; cases h) (fun x h => h) (by intro h; cases h) (by intro h; cases h)
        · have hgv : gd ops o env = some false := by simp only [gd, hgd, hd, hb]
          refine both _ _ _ _ h fun K' nq f' R => ?_
          exact tr_step R ho hgv rfl (fun _ => ⟨rfl, rfl⟩) (by intro h; cases h) (by intro h; cases h) (by intro h; cases h) (fun x h => h) (by intro h; cases h) (by intro h; cases h) (fun x h => h) (by intro h; cases h) (by intro h; cases h)
end Go.Ab

/- Each order comes to the same. -/
namespace Go.Ab
open Go.RowKit
set_option linter.unusedVariables false
set_option linter.unusedSimpArgs false

theorem fold_bits (acc : List Nat) (i : Nat) : ∀ (l : List Edge) (s : Nat), (l.foldl (fun s x => if Region.binds .any x then s ||| 2 ^ x.on ||| acc.getD x.on 0 else s) s).testBit i = true → s.testBit i = true ∨ ∃ x ∈ l, Region.binds .any x = true ∧ (i = x.on ∨ (acc.getD x.on 0).testBit i = true)
  | [], s, h => .inl h
  | x :: l, s, h => by
    rw [List.foldl_cons] at h
    rcases fold_bits acc i l _ h with g | ⟨y, hy, g⟩
    · by_cases hb : Region.binds .any x = true
      · rw [if_pos hb] at g
        simp only [Nat.testBit_or, Bool.or_eq_true, Nat.testBit_two_pow] at g
        rcases g with (g | g) | g
        · exact .inl g
        · exact .inr ⟨x, by simp, hb, .inl (by have g' := g; simp at g'; omega)⟩
        · exact .inr ⟨x, by simp, hb, .inr g⟩
      · rw [if_neg hb] at g; exact .inl g
    · exact .inr ⟨y, List.mem_cons_of_mem _ hy, g⟩

theorem befs_ok : ∀ (os done : List Oper) (acc : List Nat), acc.length = done.length → (∀ j o, done[j]? = some o → ∀ i, (acc.getD j 0).testBit i = true → ∃ x ∈ o.after.toList, Region.binds .any x = true ∧ (i = x.on ∨ (acc.getD x.on 0).testBit i = true)) →
    ∀ j o, (done ++ os)[j]? = some o → ∀ i, ((befs os acc).getD j 0).testBit i = true → ∃ x ∈ o.after.toList, Region.binds .any x = true ∧ (i = x.on ∨ ((befs os acc).getD x.on 0).testBit i = true)
  | [], done, acc, hl, h => by simpa [befs] using h
  | o :: os, done, acc, hl, h => by
    unfold befs
    have := befs_ok os (done ++ [o]) (acc ++ [o.after.toList.foldl (fun s x => if Region.binds .any x then s ||| 2 ^ x.on ||| acc.getD x.on 0 else s) 0]) (by simp [hl]) ?_
    · simpa [List.append_assoc] using this
    · have old : ∀ j, j < acc.length → (acc ++ [o.after.toList.foldl (fun s x => if Region.binds .any x then s ||| 2 ^ x.on ||| acc.getD x.on 0 else s) 0]).getD j 0 = acc.getD j 0 := by
        intro j hj; simp [List.getD, List.getElem?_append_left hj]
      have lift : ∀ k i, (acc.getD k 0).testBit i = true → ((acc ++ [o.after.toList.foldl (fun s x => if Region.binds .any x then s ||| 2 ^ x.on ||| acc.getD x.on 0 else s) 0]).getD k 0).testBit i = true := by
        intro k i hk
        by_cases hkl : k < acc.length
        · rw [old k hkl]; exact hk
        · simp [List.getD, List.getElem?_eq_none (Nat.le_of_not_lt hkl)] at hk
      intro j q hj i hi
      by_cases hjl : j < acc.length
      · rw [List.getElem?_append_left (by omega)] at hj
        rw [old j hjl] at hi
        obtain ⟨x, h1, h2, h3⟩ := h j q hj i hi
        exact ⟨x, h1, h2, h3.imp id (lift _ _)⟩
      · have hj2 : j = acc.length := by
          have := (List.getElem?_eq_some_iff.mp hj).1
          simp at this; omega
        subst hj2
        rw [List.getElem?_append_right (by omega)] at hj
        simp only [hl, Nat.sub_self, List.getElem?_cons_zero, Option.some.injEq] at hj
        subst hj
        have e1 : (acc ++ [o.after.toList.foldl (fun s x => if Region.binds .any x then s ||| 2 ^ x.on ||| acc.getD x.on 0 else s) 0]).getD acc.length 0 = o.after.toList.foldl (fun s x => if Region.binds .any x then s ||| 2 ^ x.on ||| acc.getD x.on 0 else s) 0 := by
          simp [List.getD]
        rw [e1] at hi
        rcases fold_bits acc i _ _ hi with g | ⟨x, h1, h2, h3⟩
        · simp at g
        · exact ⟨x, h1, h2, h3.imp id (lift _ _)⟩

section
variable (P : Program) (mu : Nat → Bool) (m : Nat) (ops : Array Oper) (f : Nat → TI) (env0 : Env) (st0 : St) (D : Nat → Bool)
def dstN (n : Nat) : Option Tmp := (ops[n]?).bind (·.dst)
def envN : Nat → Env
  | 0 => env0
  | n + 1 => if D n then putV m (envN n) (dstN ops n) (f n).v else envN n
def isWb (n : Nat) : Bool := match ops[n]? with | some o => cls P mu o != 0 && cls P mu o != 1 | none => false
def stN : Nat → St
  | 0 => st0
  | n + 1 => if D n && (f n).ran && isWb P mu ops n then (f (n + 1)).st else stN n
end

variable {P : Program} {mu : Nat → Bool} {T : Tbl} {ops : Array Oper} {B : List Nat} {m : Nat} {K : Env → St → Res} {r : Out × St} {f : Nat → TI} {env0 : Env} {st0 : St} {D : Nat → Bool}

/-- What the check says. -/
structure Reg (P : Program) (mu : Nat → Bool) (ops : Array Oper) (B : List Nat) : Prop where
  back : ∀ j o, ops[j]? = some o → ∀ x ∈ o.after.toList, Region.binds .any x = true → x.on < j
  look1 : ∀ i j q o d, ops[i]? = some q → ops[j]? = some o → i < j → q.dst = some d → d ∈ o.looksAt ops → ord B i j = true
  look2 : ∀ i j q o d, ops[i]? = some q → ops[j]? = some o → i < j → o.dst = some d → d ∈ q.looksAt ops → ord B i j = true
  dst : ∀ i j q o d, ops[i]? = some q → ops[j]? = some o → i < j → q.dst = some d → o.dst = some d → ord B i j = true
  wr : ∀ i j, i < j → isWb P mu ops i = true → isWb P mu ops j = true → ord B i j = true
  edge : ∀ i j o, ops[j]? = some o → ord B i j = true → ∃ x ∈ o.after.toList, Region.binds .any x = true ∧ (i = x.on ∨ ord B i x.on = true)

theorem cls_le (o : Oper) : cls P mu o = 0 ∨ cls P mu o = 1 ∨ cls P mu o = 2 := by
  unfold cls
  split <;> first | (simp; done) | (split <;> first | (simp; done) | (split <;> first | (simp; done) | (split <;> simp)))

theorem reg_of_ok (h : regOk P mu ops (befs ops.toList []) = true) : Reg P mu ops (befs ops.toList []) := by
  unfold regOk at h
  rw [List.all_eq_true] at h
  have main : ∀ j o, ops[j]? = some o → (∀ x ∈ o.after.toList, Region.binds .any x = true → x.on < j) ∧ ∀ i q, ops[i]? = some q → i < j → ord (befs ops.toList []) i j = true ∨ ((∀ d, q.dst = some d → d ∉ o.looksAt ops ∧ o.dst ≠ some d) ∧ (∀ d, o.dst = some d → d ∉ q.looksAt ops) ∧ ¬ (cls P mu o = 2 ∧ cls P mu q = 2)) := by
    intro j o ho
    have hj : j < ops.size := (Array.getElem?_eq_some_iff.mp ho).1
    have := h j (List.mem_range.mpr hj)
    simp only [ho, Bool.and_eq_true, List.all_eq_true] at this
    obtain ⟨h1, h2⟩ := this
    refine ⟨fun x hx hb => ?_, fun i q hq hij => ?_⟩
    · have := h1 x hx
      simpa [hb] using this
    · have := h2 i (List.mem_range.mpr hij)
      simp only [hq, Bool.or_eq_true, Bool.and_eq_true] at this
      rcases this with ⟨⟨g1, g2⟩, g3⟩ | g
      · refine .inr ⟨fun d hd => ?_, fun d hd => ?_, fun ⟨q1, q2⟩ => ?_⟩
        · rw [hd] at g1; simpa using g1
        · rw [hd] at g2; simpa using g2
        · simp [q1, q2] at g3
      · exact .inl g
  have wb2 : ∀ j, isWb P mu ops j = true → ∃ o, ops[j]? = some o ∧ cls P mu o = 2 := by
    intro j hj
    unfold isWb at hj
    split at hj
    · rename_i o ho
      refine ⟨o, ho, ?_⟩
      rcases cls_le (P := P) (mu := mu) o with g | g | g
      · simp [g] at hj
      · simp [g] at hj
      · exact g
    · cases hj
  refine ⟨fun j o ho => (main j o ho).1, ?_, ?_, ?_, ?_, ?_⟩
  · intro i j q o d hq ho hij hd hl
    rcases (main j o ho).2 i q hq hij with g | ⟨g, _, _⟩
    · exact g
    · exact absurd hl (g d hd).1
  · intro i j q o d hq ho hij hd hl
    rcases (main j o ho).2 i q hq hij with g | ⟨_, g, _⟩
    · exact g
    · exact absurd hl (g d hd)
  · intro i j q o d hq ho hij hd hl
    rcases (main j o ho).2 i q hq hij with g | ⟨g, _, _⟩
    · exact g
    · exact absurd hl (g d hd).2
  · intro i j hij hi hj
    obtain ⟨q, hq, hq2⟩ := wb2 i hi
    obtain ⟨o, ho, ho2⟩ := wb2 j hj
    rcases (main j o ho).2 i q hq hij with g | ⟨_, _, g⟩
    · exact g
    · exact absurd ⟨ho2, hq2⟩ g
  · intro i j o ho hi
    have := befs_ok ops.toList [] [] rfl (by simp) j o (by simpa using ho) i hi
    exact this

/-- What is done holds what must be ahead. -/
def Closed (ops : Array Oper) (D : Nat → Bool) : Prop := ∀ j o, ops[j]? = some o → D j = true → ∀ x ∈ o.after.toList, Region.binds .any x = true → D x.on = true
theorem Closed.ord (hR : Reg P mu ops B) (hC : Closed ops D) : ∀ (j : Nat), j < ops.size → D j = true → ∀ i, Go.Ab.ord B i j = true → D i = true := by
  intro j
  induction j using Nat.strongRecOn with
  | _ j ih =>
    intro hj hD i hi
    have ho := Array.getElem?_eq_getElem hj
    obtain ⟨x, h1, h2, h3⟩ := hR.edge i j _ ho hi
    have hx := hC j _ ho hD x h1 h2
    rcases h3 with g | g
    · rw [g]; exact hx
    · have hlt := hR.back j _ ho x h1 h2
      exact ih x.on hlt (by omega) hx i g
theorem Ready.ord (hR : Reg P mu ops B) (hC : Closed ops D) {j : Nat} {o : Oper} (ho : ops[j]? = some o) (hr : ∀ x ∈ o.after.toList, Region.binds .any x = true → D x.on = true) {i : Nat} (hi : Go.Ab.ord B i j = true) : D i = true := by
  have hj : j < ops.size := (Array.getElem?_eq_some_iff.mp ho).1
  obtain ⟨x, h1, h2, h3⟩ := hR.edge i j _ ho hi
  rcases h3 with g | g
  · rw [g]; exact hr x h1 h2
  · have hlt := hR.back j _ ho x h1 h2
    exact hC.ord hR x.on (by omega) (hr x h1 h2) i g

theorem putV_ne {env : Env} {d : Option Tmp} {v : V} {t : Nat} (h : d ≠ some t) : putV m env d v t = env t := by
  cases d with
  | none => rfl
  | some d => rw [putV_at, if_neg (fun g => h (by rw [g.2]))]
theorem putV_same {env env' : Env} {d : Option Tmp} {v : V} {t : Nat} (h : env t = env' t) : putV m env d v t = putV m env' d v t := by
  cases d with
  | none => exact h
  | some d => rw [putV_at, putV_at, h]
theorem putV_comm {env : Env} {d d' : Nat} {v v' : V} (h : d ≠ d') : putV m (putV m env (some d) v) (some d') v' = putV m (putV m env (some d') v') (some d) v := by
  funext t
  rw [putV_at, putV_at, putV_at, putV_at]
  by_cases h1 : d' < m ∧ t = d'
  · rw [if_pos h1, if_neg (fun g => h (g.2.symm.trans h1.2)), if_pos h1]
  · rw [if_neg h1]
    by_cases h2 : d < m ∧ t = d
    · rw [if_pos h2, if_pos h2]
    · rw [if_neg h2, if_neg h2, if_neg h1]

/-- The text's own environment. -/
theorem env_all {N : Nat} (hN : N ≤ ops.size) (hF : Tr P mu T m ops B K r N 0 env0 st0 [] [] f) : ∀ n, n ≤ N → (f n).env = envN m ops f env0 (fun _ => true) n
  | 0, _ => hF.env
  | n + 1, h => by
    obtain ⟨o, k⟩ := hF.ok n (by omega) (by omega)
    rw [k.env, env_all hN hF n (by omega)]
    simp [envN, dstN, k.op]
theorem st_all {N : Nat} (hN : N ≤ ops.size) (hF : Tr P mu T m ops B K r N 0 env0 st0 [] [] f) : ∀ n, n < N → (f (n + 1)).st ≠ (f n).st → (f n).ran = true ∧ isWb P mu ops n = true := by
  intro n hn hne
  obtain ⟨o, k⟩ := hF.ok n (by omega) (by omega)
  have hran : (f n).ran = true := by
    cases hq : (f n).ran with
    | true => rfl
    | false => exact absurd (k.skip hq).2 hne
  refine ⟨hran, ?_⟩
  rcases cls_le (P := P) (mu := mu) o with g | g | g
  · exact absurd (k.pure hran g).1 hne
  · exact absurd (k.load hran g).1 hne
  · simp [isWb, k.op, g]

/-- An operand of what is ready reads as in the text's order. -/
theorem look_same (hR : Reg P mu ops B) {N : Nat} (hN : N ≤ ops.size) (hF : Tr P mu T m ops B K r N 0 env0 st0 [] [] f) (hC : Closed ops D) {i : Nat} {o : Oper} (ho : ops[i]? = some o) (hiN : i ≤ N) (hni : D i = false)
    (hr : ∀ x ∈ o.after.toList, Region.binds .any x = true → D x.on = true) {t : Nat} (ht : t ∈ o.looksAt ops) : envN m ops f env0 D ops.size t = (f i).env t := by
  have hi : i < ops.size := (Array.getElem?_eq_some_iff.mp ho).1
  have part1 : ∀ n, n ≤ i → envN m ops f env0 D n t = envN m ops f env0 (fun _ => true) n t := by
    intro n
    induction n with
    | zero => intro _; rfl
    | succ n ih =>
      intro hn
      have hq := Array.getElem?_eq_getElem (show n < ops.size by omega)
      have ih := ih (by omega)
      simp only [envN]
      by_cases hd : dstN ops n = some t
      · have hDn : D n = true := by
          refine Ready.ord hR hC ho hr (hR.look1 n i _ o t hq ho (by omega) ?_ ht)
          simpa [dstN, hq] using hd
        rw [if_pos hDn]
        exact putV_same ih
      · rw [if_pos trivial, putV_ne hd]
        split
        · rw [putV_ne hd]; exact ih
        · exact ih
  have part2 : ∀ n, i ≤ n → n ≤ ops.size → envN m ops f env0 D n t = envN m ops f env0 D i t := by
    intro n
    induction n with
    | zero => intro h _; have : i = 0 := by omega
              subst this; rfl
    | succ n ih =>
      intro h1 h2
      by_cases hin : i = n + 1
      · rw [hin]
      · have ih := ih (by omega) (by omega)
        simp only [envN]
        split
        · rename_i hDn
          have hq := Array.getElem?_eq_getElem (show n < ops.size by omega)
          by_cases hd : dstN ops n = some t
          · have hni2 : n ≠ i := by rintro rfl; rw [hni] at hDn; cases hDn
            have := hC.ord hR n (by omega) hDn i (hR.look2 i n o _ t ho hq (by omega) (by simpa [dstN, hq] using hd) ht)
            rw [hni] at this; cases this
          · rw [putV_ne hd]; exact ih
        · exact ih
  rw [part2 ops.size (by omega) (Nat.le_refl _), part1 i (Nat.le_refl _), env_all hN hF i (by omega)]

/-- One more is done. -/
theorem envN_add (hR : Reg P mu ops B) (hC : Closed ops D) {i : Nat} {o : Oper} (ho : ops[i]? = some o) (hni : D i = false) {D' : Nat → Bool} (hD' : ∀ n, D' n = if n = i then true else D n) :
    ∀ n, n ≤ ops.size → envN m ops f env0 D' n = if i < n then putV m (envN m ops f env0 D n) o.dst (f i).v else envN m ops f env0 D n := by
  intro n
  induction n with
  | zero => intro _; simp [envN]
  | succ n ih =>
    intro hn
    have ih := ih (by omega)
    simp only [envN, hD']
    by_cases hni2 : n = i
    · subst hni2
      rw [ih, if_neg (Nat.lt_irrefl _)]
      simp [dstN, ho, hni]
    · rw [if_neg hni2, ih]
      by_cases hlt : i < n
      · simp only [if_pos hlt, if_pos (show i < n + 1 by omega)]
        by_cases hDn : D n = true
        · simp only [if_pos hDn]
          have hq := Array.getElem?_eq_getElem (show n < ops.size by omega)
          -- the two places are others
          cases hd1 : o.dst with
          | none => rfl
          | some d1 =>
            cases hd2 : dstN ops n with
            | none => rfl
            | some d2 =>
              have hne : d1 ≠ d2 := by
                rintro rfl
                have := hC.ord hR n (by omega) hDn i (hR.dst i n o _ d1 ho hq hlt hd1 (by simpa [dstN, hq] using hd2))
                rw [hni] at this; cases this
              exact putV_comm hne
        · simp only [if_neg hDn]
      · simp only [if_neg hlt, if_neg (show ¬ i < n + 1 by omega)]

theorem stN_cases (hR : Reg P mu ops B) {N : Nat} (hN : N ≤ ops.size) (hF : Tr P mu T m ops B K r N 0 env0 st0 [] [] f) (hC : Closed ops D) : ∀ n, n ≤ N → stN P mu ops f st0 D n = (f n).st ∨ ∃ n0, n0 < n ∧ D n0 = false ∧ (f n0).ran = true ∧ isWb P mu ops n0 = true ∧ stN P mu ops f st0 D n = (f n0).st := by
  intro n
  induction n with
  | zero => intro _; left; exact hF.st.symm
  | succ n ih =>
    intro hn
    simp only [stN]
    rcases ih (by omega) with g | ⟨n0, g1, g2, g3, g4, g5⟩
    · by_cases hw : (f n).ran = true ∧ isWb P mu ops n = true
      · by_cases hD : D n = true
        · rw [if_pos (by simp [hD, hw.1, hw.2])]; exact .inl rfl
        · rw [if_neg (by simp [hD])]; exact .inr ⟨n, by omega, by simpa using hD, hw.1, hw.2, g⟩
      · rw [if_neg (by simp only [Bool.and_eq_true]; intro h; exact hw ⟨h.1.2, h.2⟩), g]
        left
        by_cases hs : (f (n + 1)).st = (f n).st
        · exact hs.symm
        · exact absurd (st_all hN hF n (by omega) hs) hw
    · by_cases hw : (D n && (f n).ran && isWb P mu ops n) = true
      · simp only [Bool.and_eq_true] at hw
        have := hC.ord hR n (by omega) hw.1.1 n0 (hR.wr n0 n g1 g4 hw.2)
        rw [g2] at this; cases this
      · rw [if_neg hw]
        exact .inr ⟨n0, by omega, g2, g3, g4, g5⟩

/-- What writes finds the state that it has in the text's order. -/
theorem st_write (hR : Reg P mu ops B) {N : Nat} (hN : N ≤ ops.size) (hF : Tr P mu T m ops B K r N 0 env0 st0 [] [] f) (hC : Closed ops D) {i : Nat} {o : Oper} (ho : ops[i]? = some o) (hiN : i ≤ N) (hni : D i = false) (hw : isWb P mu ops i = true)
    (hr : ∀ x ∈ o.after.toList, Region.binds .any x = true → D x.on = true) : (∀ n, i ≤ n → n ≤ ops.size → stN P mu ops f st0 D n = (f i).st) := by
  have hi : i < ops.size := (Array.getElem?_eq_some_iff.mp ho).1
  have at_i : stN P mu ops f st0 D i = (f i).st := by
    rcases stN_cases hR hN hF hC i (by omega) with g | ⟨n0, g1, g2, g3, g4, g5⟩
    · exact g
    · have := Ready.ord hR hC ho hr (hR.wr n0 i g1 g4 hw)
      rw [g2] at this; cases this
  intro n
  induction n with
  | zero => intro h _; have : i = 0 := by omega
            subst this; exact at_i
  | succ n ih =>
    intro h1 h2
    by_cases hin : i = n + 1
    · rw [← hin]; exact at_i
    · have ih := ih (by omega) (by omega)
      simp only [stN]
      by_cases hw2 : (D n && (f n).ran && isWb P mu ops n) = true
      · simp only [Bool.and_eq_true] at hw2
        have hne : n ≠ i := by rintro rfl; rw [hni] at hw2; cases hw2.1.1
        have := hC.ord hR n (by omega) hw2.1.1 i (hR.wr i n (by omega) hw hw2.2)
        rw [hni] at this; cases this
      · rw [if_neg hw2]; exact ih

theorem isW_of {n : Nat} (h : isWb P mu ops n = true) : IsW P mu ops n := by
  unfold isWb at h
  split at h
  · rename_i o ho
    simp only [Bool.and_eq_true, bne_iff_ne] at h
    exact ⟨o, ho, h.1, h.2⟩
  · cases h

/-- What is loaded is the same. -/
theorem st_load (hR : Reg P mu ops B) {N : Nat} (hN : N ≤ ops.size) (hF : Tr P mu T m ops B K r N 0 env0 st0 [] [] f) (hC : Closed ops D) (hDN : ∀ n, N ≤ n → D n = false) {i : Nat} {o : Oper} (ho : ops[i]? = some o) (hiN : i < N) (hni : D i = false) (hran : (f i).ran = true)
    (hr : ∀ x ∈ o.after.toList, Region.binds .any x = true → D x.on = true) {ag : Bool} {m : Nat} {p : V} (hl : IsL P mu ops f i ag m p) (h0 : ldv ag m p (f i).st = some (f i).v) : ldv ag m p (stN P mu ops f st0 D ops.size) = some (f i).v := by
  have hi : i < ops.size := (Array.getElem?_eq_some_iff.mp ho).1
  have at_i : ldv ag m p (stN P mu ops f st0 D i) = some (f i).v := by
    rcases stN_cases hR hN hF hC i (by omega) with g | ⟨n0, g1, g2, g3, g4, g5⟩
    · rw [g]; exact h0
    · rw [g5]
      refine hF.WL n0 i (by omega) g1 (by omega) g3 hran ag m p (isW_of g4) hl ?_
      cases ho2 : ord B n0 i with
      | false => rfl
      | true => have := Ready.ord hR hC ho hr ho2; rw [g2] at this; cases this
  have key : ∀ n, i ≤ n → n ≤ ops.size → ldv ag m p (stN P mu ops f st0 D n) = some (f i).v := by
    intro n
    induction n with
    | zero => intro h _; have : i = 0 := by omega
              subst this; exact at_i
    | succ n ih =>
      intro h1 h2
      by_cases hin : i = n + 1
      · rw [← hin]; exact at_i
      · have ih := ih (by omega) (by omega)
        simp only [stN]
        by_cases hw2 : (D n && (f n).ran && isWb P mu ops n) = true
        · rw [if_pos hw2]
          simp only [Bool.and_eq_true] at hw2
          have hne : n ≠ i := by rintro rfl; rw [hni] at hw2; cases hw2.1.1
          have hnN : n < N := by
            rcases Nat.lt_or_ge n N with g | g
            · exact g
            · have := hDN n g; rw [this] at hw2; cases hw2.1.1
          refine hF.LW i n (by omega) (by omega) (by omega) hran hw2.1.2 ag m p hl (isW_of hw2.2) ?_
          cases ho2 : ord B i n with
          | false => rfl
          | true => have := hC.ord hR n (by omega) hw2.1.1 i ho2; rw [hni] at this; cases this
        · rw [if_neg hw2]; exact ih
  exact key ops.size (by omega) (Nat.le_refl _)

theorem stN_add (hR : Reg P mu ops B) (hC : Closed ops D) {i : Nat} {o : Oper} (ho : ops[i]? = some o) (hni : D i = false) {D' : Nat → Bool} (hD' : ∀ n, D' n = if n = i then true else D n) :
    ∀ n, n ≤ ops.size → stN P mu ops f st0 D' n = if i < n ∧ (f i).ran = true ∧ isWb P mu ops i = true then (f (i + 1)).st else stN P mu ops f st0 D n := by
  intro n
  induction n with
  | zero => intro _; simp [stN]
  | succ n ih =>
    intro hn
    have ih := ih (by omega)
    simp only [stN, hD']
    by_cases hni2 : n = i
    · subst hni2
      simp only [ih, hni, Nat.lt_irrefl, false_and, if_false, Bool.false_and, Bool.true_and, if_true, Bool.false_eq_true, Nat.lt_succ_self, true_and]
      by_cases hw : (f n).ran = true ∧ isWb P mu ops n = true
      · rw [if_pos (by simp [hw.1, hw.2]), if_pos hw]
      · rw [if_neg (by simp only [Bool.and_eq_true]; exact hw), if_neg hw]
    · rw [if_neg hni2, ih]
      by_cases hlt : i < n ∧ (f i).ran = true ∧ isWb P mu ops i = true
      · simp only [if_pos hlt, if_pos (show i < n + 1 ∧ (f i).ran = true ∧ isWb P mu ops i = true from ⟨by omega, hlt.2⟩)]
        by_cases hw2 : (D n && (f n).ran && isWb P mu ops n) = true
        · simp only [Bool.and_eq_true] at hw2
          have := hC.ord hR n (by omega) hw2.1.1 i (hR.wr i n hlt.1 hlt.2.2 hw2.2)
          rw [hni] at this; cases this
        · rw [if_neg hw2]
      · simp only [if_neg hlt, if_neg (show ¬ (i < n + 1 ∧ (f i).ran = true ∧ isWb P mu ops i = true) from fun h => hlt ⟨by omega, h.2⟩)]
end Go.Ab

/- Regions that draw their order are sound. -/
namespace Go.Ab
open Go.RowKit
set_option linter.unusedVariables false
set_option linter.unusedSimpArgs false
variable {P : Program} {mu : Nat → Bool} {T : Tbl} {ops : Array Oper} {B : List Nat}

def unl (n : Nat) (listed : Array Bool) : List Nat := (List.range n).filter fun i => !listed.getD i true

theorem getD_set (listed : Array Bool) (i j : Nat) (d : Bool) (hi : i < listed.size) : (listed.setIfInBounds i true).getD j d = if j = i then true else listed.getD j d := by
  simp only [Array.getD_eq_getD_getElem?, Array.getElem?_setIfInBounds]
  by_cases h : i = j
  · subst h; simp [hi]
  · rw [if_neg h, if_neg (Ne.symm h)]

theorem unl_set {n : Nat} {listed : Array Bool} {i : Nat} (hs : listed.size = n) (hi : i ∈ unl n listed) : (unl n (listed.setIfInBounds i true)).length + 1 = (unl n listed).length := by
  have hin : i < n := by
    have := (List.mem_filter.mp hi).1
    simpa using this
  have e1 : unl n (listed.setIfInBounds i true) = (unl n listed).erase i := by
    rw [List.Nodup.erase_eq_filter (show (unl n listed).Nodup from List.nodup_range.sublist List.filter_sublist)]
    unfold unl
    rw [List.filter_filter]
    apply List.filter_congr
    intro j hj
    rw [getD_set _ _ _ _ (by omega)]
    by_cases h : j = i
    · simp [h]
    · simp [h]
  rw [e1, List.length_erase_of_mem hi]
  have : 0 < (unl n listed).length := List.length_pos_of_mem hi
  omega

theorem ready_mem {listed : Array Bool} {i : Nat} : i ∈ Region.ready .any ops listed ↔ i < ops.size ∧ listed.getD i true = false ∧ ∃ o, ops[i]? = some o ∧ ∀ x ∈ o.after.toList, Region.binds .any x = true → listed.getD x.on false = true := by
  unfold Region.ready
  simp only [List.mem_filter, List.mem_range, Bool.and_eq_true, Bool.not_eq_true']
  constructor
  · rintro ⟨h1, h2, h3⟩
    refine ⟨h1, h2, ?_⟩
    have ho := Array.getElem?_eq_getElem h1
    refine ⟨_, ho, fun x hx hb => ?_⟩
    rw [ho] at h3
    simp only [Option.map_some, Option.getD_some, Array.all_eq_true_iff_forall_mem] at h3
    have := h3 x (by simpa using hx)
    simpa [hb] using this
  · rintro ⟨h1, h2, o, ho, h3⟩
    refine ⟨h1, h2, ?_⟩
    rw [ho]
    simp only [Option.map_some, Option.getD_some, Array.all_eq_true_iff_forall_mem]
    intro x hx
    by_cases hb : Region.binds .any x = true
    · simp [h3 x (by simpa using hx) hb]
    · simp [hb]

theorem opV_same {env env' : Env} {o : Oper} (h : ∀ t, t ∈ o.looksAt ops → env t = env' t) : Same o.op.operands.toList env env' := by
  intro x hx
  refine opV_congr (fun t ht => h t ?_)
  subst ht
  unfold Oper.looksAt
  refine List.mem_append.mpr (.inl (List.mem_filterMap.mpr ⟨_, hx, rfl⟩))

theorem gd_same {env env' : Env} {o : Oper} (h : ∀ t, t ∈ o.looksAt ops → env t = env' t) : gd ops o env = gd ops o env' := by
  unfold gd
  cases hg : o.guard with
  | none => rfl
  | some jw =>
    obtain ⟨j, want⟩ := jw
    simp only
    cases hd : (ops[j]?).bind (·.dst) with
    | none => rfl
    | some d =>
      simp only
      rw [h d]
      unfold Oper.looksAt
      refine List.mem_append.mpr (.inr ?_)
      rw [hg]
      simp only [hd, Option.toList_some, List.mem_singleton]

theorem wanted_of {e : E} {m : Nat} {env : Env} {a : Act} {o : Oper} {b : Bool} (he : EnvR m e env a.tmps) (h : gd ops o env = some b) : Region.wanted o (yielded ops a.tmps) = b := by
  unfold gd at h
  cases hg : o.guard with
  | none => rw [hg] at h; simp only at h; cases h; simp [Region.wanted, hg]
  | some jw =>
    obtain ⟨j, want⟩ := jw
    rw [hg] at h
    simp only at h
    cases hd : (ops[j]?).bind (·.dst) with
    | none => rw [hd] at h; cases h
    | some d =>
      rw [hd] at h
      simp only at h
      cases hb : env d with
      | bool v =>
        rw [hb] at h
        simp only [Option.some.injEq] at h
        have hx := opV_sound (x := .tmp d) he rfl
        rw [hb] at hx
        have hx2 : a.tmps.getD d undef = .bool v := by
          simp only [Act.eval] at hx
          generalize a.tmps.getD d undef = q at hx
          cases hx; rfl
        have hy : yielded ops a.tmps j = some v := by
          unfold yielded
          rw [hd]
          simp only [Option.bind_some]
          have : a.tmps[d]? = some (.bool v) := by
            rw [Array.getD_eq_getD_getElem?] at hx2
            cases hq : a.tmps[d]? with
            | none => rw [hq] at hx2; cases hx2
            | some q => rw [hq] at hx2; simp at hx2; rw [hx2]
          rw [this]
        simp only [Region.wanted, hg, hy, ← h]
        rfl
      | tup l =>
        rw [hb] at h
        simp only [Option.some.injEq] at h
        simp only [Region.wanted, hg, yielded_tup he hd hb, ← h]
        rfl
      | _ => rw [hb] at h; cases h

theorem areg_sound (hT : SimT P T) (hm : P.follows .mixedOrders = true) (m : Nat) : SoundR P m (areg P mu T m) := by
  intro W0 B0 r Q id ops env0 e0 a0 K fr hW h hr he0 hI hK hP
  unfold areg at h
  obtain ⟨hok, h⟩ := if_some h
  have hR := reg_of_ok hok
  rw [List.range_eq_range'] at h
  have htr := areg_trace _ _ _ _ _ _ h
  -- each order
  have key : ∀ (N : Nat) (hN : N ≤ ops.size) (K' : Env → St → Res) (f : Nat → TI) (hF : Tr P mu T m ops (befs ops.toList []) K' r N 0 env0 e0.st [] [] f) (hend : N = ops.size → K' = K) (hpan : N < ops.size → ∃ o, Pan P mu T m ops (befs ops.toList []) r N 0 env0 e0.st [] [] f o ∧ K' = panK P mu T o) (fuel : Nat) (listed : Array Bool) (e : E) (a : Act), (∀ n, N ≤ n → listed.getD n false = false) → listed.size = ops.size → (unl ops.size listed).length = fuel → Closed ops (fun i => listed.getD i false) → e.st = stN P mu ops f e0.st (fun i => listed.getD i false) ops.size →
      EnvR m e (envN m ops f env0 (fun i => listed.getD i false) ops.size) a.tmps → Ext e0 e → Rel W0 B0 e → InF fr a → wpAny P .any ops Q fuel listed a e.w := by
    intro N hN K' f hF hend hpan fuel
    induction fuel with
    | zero =>
      intro listed e a hDN hs hu hC hst hrs hx hrel hd
      have hnil : unl ops.size listed = [] := List.eq_nil_of_length_eq_zero hu
      have hall : ∀ i, i < ops.size → listed.getD i false = true := by
        intro i hi
        have : i ∉ unl ops.size listed := by rw [hnil]; simp
        simp only [unl, List.mem_filter, List.mem_range, Bool.not_eq_true', not_and] at this
        have := this hi
        have hsz : i < listed.size := by omega
        simp only [Array.getD_eq_getD_getElem?, Array.getElem?_eq_getElem hsz, Option.getD_some] at this ⊢
        simpa using this
      have hready : Region.ready .any ops listed = [] := by
        apply List.eq_nil_iff_forall_not_mem.mpr
        intro i hi
        obtain ⟨h1, h2, _⟩ := ready_mem.mp hi
        have : i ∈ unl ops.size listed := by simp [unl, h1]; simpa [Array.getD_eq_getD_getElem?] using h2
        rw [hnil] at this; cases this
      refine ⟨hready, ?_⟩
      have hNe : N = ops.size := by
        rcases Nat.lt_or_ge N ops.size with g | g
        · have := hall N g
          rw [hDN N (Nat.le_refl _)] at this; cases this
        · omega
      have hKe := hend hNe
      subst hKe
      subst hNe
      have henv : ∀ n, n ≤ ops.size → envN m ops f env0 (fun i => listed.getD i false) n = envN m ops f env0 (fun _ => true) n := by
        intro n
        induction n with
        | zero => intro _; rfl
        | succ n ih => intro hn; simp only [envN, hall n (by omega), ih (by omega)]
      have hstn : ∀ n, n ≤ ops.size → stN P mu ops f e0.st (fun i => listed.getD i false) n = (f n).st := by
        intro n hn
        rcases stN_cases (st0 := e0.st) hR hN hF hC n hn with g | ⟨n0, g1, g2, _⟩
        · exact g
        · have := hall n0 (by omega)
          rw [g2] at this; cases this
      have hfin := hF.fin
      rw [Nat.zero_add] at hfin
      rw [hstn _ (Nat.le_refl _)] at hst
      rw [henv _ (Nat.le_refl _), ← env_all hN hF _ (Nat.le_refl _)] at hrs
      exact hK _ e a (by rw [hst]; exact hfin) hx hrel hrs hd
    | succ fuel ih =>
      intro listed e a hDN hs hu hC hst hrs hx hrel hd
      refine ⟨fun hnil => ?_, fun i hi => ?_⟩
      · -- something is ready
        exfalso
        have hpos : 0 < (unl ops.size listed).length := by omega
        have hmin : ∀ i, i < ops.size → listed.getD i true = false → False := by
          intro i
          induction i using Nat.strongRecOn with
          | _ i ih2 =>
            intro hi hl
            have ho := Array.getElem?_eq_getElem hi
            have : i ∈ Region.ready .any ops listed := by
              refine ready_mem.mpr ⟨hi, hl, _, ho, fun x hx hb => ?_⟩
              have hlt := hR.back i _ ho x hx hb
              have hsz : x.on < listed.size := by omega
              cases hq : listed.getD x.on true with
              | false => exact (ih2 x.on hlt (by omega) hq).elim
              | true =>
                simp only [Array.getD_eq_getD_getElem?, Array.getElem?_eq_getElem hsz, Option.getD_some] at hq ⊢
                exact hq
            rw [hnil] at this; cases this
        obtain ⟨i, hi⟩ := List.exists_mem_of_length_pos hpos
        simp only [unl, List.mem_filter, List.mem_range, Bool.not_eq_true'] at hi
        exact hmin i hi.1 hi.2
      · obtain ⟨hi1, hi2, o, ho, hro⟩ := ready_mem.mp hi
        have hsz : i < listed.size := by omega
        have hni : listed.getD i false = false := by
          simp only [Array.getD_eq_getD_getElem?, Array.getElem?_eq_getElem hsz, Option.getD_some] at hi2 ⊢
          exact hi2
        have hiN : i ≤ N := by
          rcases Nat.lt_or_ge N i with g | g
          · obtain ⟨q, hq, _⟩ := hpan (by omega)
            have hal := hq.al
            rw [Nat.zero_add] at hal
            have := List.all_eq_true.1 hal i (List.mem_range.2 hi1)
            rw [Bool.or_eq_true] at this
            rcases this with g2 | g2
            · have := Nat.le_of_ble_eq_true g2; omega
            · have := Ready.ord hR hC ho hro g2
              rw [hDN N (Nat.le_refl _)] at this; cases this
          · exact g
        have hlook : ∀ t, t ∈ o.looksAt ops → envN m ops f env0 (fun i => listed.getD i false) ops.size t = (f i).env t := fun t ht => look_same hR hN hF hC ho hiN hni hro ht
        rcases Nat.lt_or_ge i N with hiN' | hge
        case inr =>
          have hiN2 : i = N := by omega
          subst hiN2
          obtain ⟨q, hq, hKq⟩ := hpan hi1
          have hop := hq.op
          rw [Nat.zero_add, ho] at hop
          cases hop
          have hgu := hq.guard
          rw [Nat.zero_add] at hgu
          have hw := wanted_of hrs ((gd_same hlook).trans hgu)
          unfold wpOp
          simp only [ho]
          rw [if_pos hw]
          left
          have same := opV_same (ops := ops) hlook
          have hwb : isWb P mu ops i = true := by simp [isWb, ho, hq.wr.1, hq.wr.2]
          have hs0 := st_write (st0 := e0.st) hR hN hF hC ho hiN hni hwb hro ops.size (by omega) (Nat.le_refl _)
          have hfin := hF.fin
          rw [Nat.zero_add, hKq] at hfin
          have hrun : aop P mu T o (envN m ops f env0 (fun i => listed.getD i false) ops.size) e.st kid = some r := by
            rw [aop_congr same, hst, hs0]; exact hfin
          obtain ⟨p0, st0', hrp⟩ := hq.pan
          refine aop_sound hT hrun hrel hrs ?_ ?_
          · intro v v' e' h1 h2 h3 h4
            unfold kid at h1
            rw [hrp] at h1
            cases h1
          · intro p p' e' h1 h2 h3 h4
            exact hP p p' e' a h1 (hx.trans h2) h3 h4 hd
        obtain ⟨o', ok⟩ := hF.ok i (by omega) (by omega)
        have : o' = o := by have := ok.op; rw [ho] at this; exact (Option.some.inj this).symm
        subst this
        have hw := wanted_of hrs ((gd_same hlook).trans ok.guard)
        have hD' : ∀ n, (listed.setIfInBounds i true).getD n false = if n = i then true else listed.getD n false := fun n => getD_set _ _ _ _ hsz
        have hC' : Closed ops (fun n => (listed.setIfInBounds i true).getD n false) := by
          intro j q hq hj x hx hb
          simp only [hD'] at hj ⊢
          by_cases hji : j = i
          · subst hji
            rw [ho] at hq; cases hq
            by_cases hxi : x.on = j
            · rw [if_pos hxi]
            · rw [if_neg hxi]; exact hro x hx hb
          · rw [if_neg hji] at hj
            have := hC j q hq hj x hx hb
            by_cases hxi : x.on = i
            · rw [if_pos hxi]
            · rw [if_neg hxi]; exact this
        have hunl : (unl ops.size (listed.setIfInBounds i true)).length = fuel := by
          have := unl_set hs (show i ∈ unl ops.size listed by simp only [unl, List.mem_filter, List.mem_range, Bool.not_eq_true']; exact ⟨hi1, hi2⟩)
          omega
        have henv' : envN m ops f env0 (fun n => (listed.setIfInBounds i true).getD n false) ops.size = putV m (envN m ops f env0 (fun n => listed.getD n false) ops.size) o'.dst (f i).v := by
          rw [envN_add hR hC ho hni hD' ops.size (Nat.le_refl _), if_pos hi1]
        have hst' := stN_add (f := f) (st0 := e0.st) hR hC ho hni hD' ops.size (Nat.le_refl _)
        -- behind the operation
        have after : ∀ (v' : Value) (e' : E), e'.st = stN P mu ops f e0.st (fun n => (listed.setIfInBounds i true).getD n false) ops.size → Ext e e' → Rel W0 B0 e' → Rs e' [(f i).v] [v'] → wpAny P .any ops Q fuel (listed.setIfInBounds i true) (a.put o'.dst v') e'.w := by
          intro v' e' h1 h2 h3 h4
          refine ih _ e' _ (fun n hn => by rw [hD', if_neg (by omega)]; exact hDN n hn) (by simp [hs]) hunl hC' h1 ?_ (hx.trans h2) h3 (hd.put (noD_at hW ho) _)
          rw [henv']
          exact putV_sound (hrs.mono h2) o'.dst h4
        unfold wpOp
        simp only [ho]
        cases hran : (f i).ran with
        | false =>
          rw [hran] at hw
          rw [if_neg (by rw [hw]; simp)]
          obtain ⟨g1, g2⟩ := ok.skip hran
          refine after undef e ?_ (Ext.refl e) hrel (by rw [g1]; exact .tup [] #[] .nil .nil)
          rw [hst', if_neg (by rw [hran]; simp)]; exact hst
        | true =>
          rw [hran] at hw
          rw [if_pos hw]
          left
          have same := opV_same (ops := ops) hlook
          rcases cls_le (P := P) (mu := mu) o' with hc | hc | hc
          · obtain ⟨g1, g2⟩ := ok.pure hran hc
            have hnw : isWb P mu ops i = false := by simp [isWb, ho, hc]
            have hrun : aop P mu T o' (envN m ops f env0 (fun i => listed.getD i false) ops.size) e.st kid = some (.ret (f i).v, e.st) := by
              rw [aop_congr same, g2]; rfl
            refine aop_sound hT hrun hrel hrs ?_ ?_
            · intro v v' e' h1 h2 h3 h4
              unfold kid at h1
              simp only [Option.some.injEq, Prod.mk.injEq, Out.ret.injEq] at h1
              refine after v' e' ?_ h2 h3 (by rw [← h1.1]; exact h4)
              rw [hst', if_neg (by rw [hnw]; simp), h1.2]; exact hst
            · intro p p' e' h1; cases h1
          · obtain ⟨g1, ag, c, p, g2, g3⟩ := ok.load hran hc
            have hnw : isWb P mu ops i = false := by simp [isWb, ho, hc]
            have hl : IsL P mu ops f i ag c p := ⟨o', ho, hc, g2⟩
            have hv := st_load (st0 := e0.st) hR hN hF hC hDN ho hiN' hni hran hro hl g3
            rw [← hst] at hv
            have hrun : aop P mu T o' (envN m ops f env0 (fun i => listed.getD i false) ops.size) e.st kid = some (.ret (f i).v, e.st) := by
              rw [aop_congr same]
              unfold loadOf at g2
              unfold aop
              cases hop : o'.op with
              | load t ad =>
                rw [hop] at g2
                simp only at g2 ⊢
                by_cases hk : known P t = true
                · rw [if_pos hk] at g2 ⊢
                  cases hq : opV (f i).env ad with
                  | none => rw [hq] at g2; cases g2
                  | some pv =>
                    rw [hq] at g2
                    simp only [Option.some.injEq, Prod.mk.injEq] at g2
                    obtain ⟨r1, r2, r3⟩ := g2
                    subst r3
                    show A.load (isAg P t) (P.cellsOf t) pv e.st kid = _
                    rw [r1, r2, ldv_load hv]; rfl
                · rw [if_neg hk] at g2; cases g2
              | _ => rw [hop] at g2; cases g2
            refine aop_sound hT hrun hrel hrs ?_ ?_
            · intro v v' e' h1 h2 h3 h4
              unfold kid at h1
              simp only [Option.some.injEq, Prod.mk.injEq, Out.ret.injEq] at h1
              refine after v' e' ?_ h2 h3 (by rw [← h1.1]; exact h4)
              rw [hst', if_neg (by rw [hnw]; simp), h1.2]; exact hst
            · intro p p' e' h1; cases h1
          · have hwb : isWb P mu ops i = true := by simp [isWb, ho, hc]
            have g1 := ok.write hran (by omega) (by omega)
            have hs0 := st_write (st0 := e0.st) hR hN hF hC ho (by omega) hni hwb hro ops.size (by omega) (Nat.le_refl _)
            have hrun : aop P mu T o' (envN m ops f env0 (fun i => listed.getD i false) ops.size) e.st kid = some (.ret (f i).v, (f (i + 1)).st) := by
              rw [aop_congr same, hst, hs0]; exact g1
            refine aop_sound hT hrun hrel hrs ?_ ?_
            · intro v v' e' h1 h2 h3 h4
              unfold kid at h1
              simp only [Option.some.injEq, Prod.mk.injEq, Out.ret.injEq] at h1
              refine after v' e' ?_ h2 h3 (by rw [← h1.1]; exact h4)
              rw [hst', if_pos ⟨hi1, hran, hwb⟩, h1.2]
            · intro p p' e' h1; cases h1
  refine wp_region_any hm ?_
  have hrep : ∀ i, (Array.replicate ops.size false).getD i false = false := by
    intro i
    by_cases hi : i < ops.size
    · simp [Array.getD_eq_getD_getElem?, hi]
    · simp [Array.getD_eq_getD_getElem?, hi]
  have hfun : (fun i => (Array.replicate ops.size false).getD i false) = fun _ => false := funext hrep
  have henv0 : ∀ f n, envN m ops f env0 (fun _ => false) n = env0 := by
    intro f n; induction n with
    | zero => rfl
    | succ n ih => simp only [envN, ih]; simp
  have hst0 : ∀ f n, stN P mu ops f e0.st (fun _ => false) n = e0.st := by
    intro f n; induction n with
    | zero => rfl
    | succ n ih => simp only [stN, ih]; simp
  have start : ∀ (N : Nat) (hN : N ≤ ops.size) (K' : Env → St → Res) (f : Nat → TI) (hF : Tr P mu T m ops (befs ops.toList []) K' r N 0 env0 e0.st [] [] f) (hend : N = ops.size → K' = K) (hpan : N < ops.size → ∃ o, Pan P mu T m ops (befs ops.toList []) r N 0 env0 e0.st [] [] f o ∧ K' = panK P mu T o), wpAny P .any ops Q ops.size (Array.replicate ops.size false) a0 e0.drew.w := by
    intro N hN K' f hF hend hpan
    refine key N hN K' f hF hend hpan ops.size (Array.replicate ops.size false) e0.drew a0 (fun n _ => hrep n) (by simp) ?_ ?_ ?_ ?_ (Ext.drew e0) hr.drew hI
    · have : unl ops.size (Array.replicate ops.size false) = List.range ops.size := by
        unfold unl
        apply List.filter_eq_self.mpr
        intro i hi
        have hi' : i < ops.size := by simpa using hi
        simp [Array.getD_eq_getD_getElem?, hi']
      rw [this, List.length_range]
    · intro j q hq hj; have hj' := hrep j; simp only at hj; rw [hj'] at hj; cases hj
    · rw [hfun, hst0]; rfl
    · rw [hfun, henv0]; exact he0.mono (Ext.drew e0)
  rcases htr with ⟨f, hF⟩ | ⟨k, o, f, hk, hp⟩
  · exact start ops.size (Nat.le_refl _) K f hF (fun _ => rfl) (fun h => absurd h (Nat.lt_irrefl _))
  · exact start k (Nat.le_of_lt hk) _ f hp.tr (fun h => by omega) (fun _ => ⟨o, hp, rfl⟩)
end Go.Ab
