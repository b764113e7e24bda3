import Derived.Test.YtmbaebedkobijaaAbCode
/- Regions that draw their order: the text's order, with what makes each other order come to the same. -/
namespace Go.Ab
open Go.RowKit
set_option linter.unusedVariables false
set_option linter.unusedSimpArgs false

/-- 0: computes (or lays a literal); 1: a load; 2: all else. -/
def cls (P : Program) (mu : Nat → Bool) (o : Oper) : Nat :=
  match o.op with
  | .move _ | .assign _ | .pick .. | .build .. | .nilCheck _ | .binOp .. | .unOp .. | .fieldAddr .. | .field .. | .indexAddr .. | .index .. | .extract .. | .makeFunc .. | .makeInterface .. | .buildSlice .. => 0
  | .makeSlice .. => if (o.dst.map mu).getD false then 2 else 0
  | .convert _ dst _ => (match intK P dst with | some _ => 0 | none => 2)
  | .slice t _ _ _ _ => (match arr P t with | some _ => 2 | none => 0)
  | .load .. => 1
  | .call c => (match c.callee with
    | .builtin .len => (match c.argTypes[0]? with | some t => if tk P t = 6 then 2 else 0 | none => 2)
    | .builtin .min | .builtin .max => 0
    | _ => 2)
  | _ => 2

def kid : V → St → Res := fun v st => some (.ret v, st)

/-- A load's value. -/
def ldv (ag : Bool) (n : Nat) (p : V) (st : St) : Option V := match A.load ag n p st kid with | some (.ret v, _) => some v | _ => none
def loadOf (P : Program) (env : Env) (o : Oper) : Option (Bool × Nat × V) :=
  match o.op with
  | .load t a => if known P t then (match opV env a with | some p => some (isAg P t, P.cellsOf t, p) | none => none) else none
  | _ => none

mutual
/-- Two values are one, so that the kernel can run it. -/
def V.eqB : V → V → Bool
  | .int k n, .int k' n' => decide (k = k') && decide (n = n')
  | .bool x, .bool y => x == y
  | .str x, .str y => decide (x = y)
  | .ptr0, .ptr0 => true
  | .ptr i o, .ptr i' o' => Nat.beq i i' && Nat.beq o o'
  | .lptr l, .lptr l' => V.eqL l l'
  | .sl a b c d, .sl a' b' c' d' => Nat.beq a a' && Nat.beq b b' && Nat.beq c c' && Nat.beq d d'
  | .lst l t, .lst l' t' => V.eqL l l' && Nat.beq t t'
  | .map0, .map0 => true
  | .map i, .map i' => Nat.beq i i'
  | .fn f a b, .fn f' a' b' => Nat.beq f f' && V.eqL a a' && V.eqL b b'
  | .fn0, .fn0 => true
  | .iface t v, .iface t' v' => Nat.beq t t' && V.eqB v v'
  | .if0, .if0 => true
  | .agg l, .agg l' => V.eqL l l'
  | .tup l, .tup l' => V.eqL l l'
  | .bld k, .bld k' => Nat.beq k k'
  | .buf s t, .buf s' t' => decide (s = s') && Nat.beq t t'
  | .bptr s t, .bptr s' t' => decide (s = s') && Nat.beq t t'
  | _, _ => false
def V.eqL : List V → List V → Bool
  | [], [] => true
  | a :: l, b :: m => V.eqB a b && V.eqL l m
  | _, _ => false
end
mutual
theorem V.eqB_eq : ∀ (a b : V), V.eqB a b = true → a = b
  | .int k n, b, h => by cases b <;> simp [V.eqB] at h; simp [h]
  | .bool x, b, h => by cases b <;> simp [V.eqB] at h; simp [h]
  | .str x, b, h => by cases b <;> simp [V.eqB] at h; simp [h]
  | .ptr0, b, h => by cases b <;> simp [V.eqB] at h; rfl
  | .ptr i o, b, h => by cases b <;> simp [V.eqB] at h; simp [h]
  | .lptr l, b, h => by cases b <;> simp [V.eqB] at h; rw [V.eqL_eq _ _ h]
  | .sl a' b' c d, b, h => by cases b <;> simp [V.eqB] at h; simp [h]
  | .lst l t, b, h => by cases b <;> simp [V.eqB] at h; rw [V.eqL_eq _ _ h.1, h.2]
  | .map0, b, h => by cases b <;> simp [V.eqB] at h; rfl
  | .map i, b, h => by cases b <;> simp [V.eqB] at h; simp [h]
  | .fn f x y, b, h => by cases b <;> simp [V.eqB] at h; rw [h.1.1, V.eqL_eq _ _ h.1.2, V.eqL_eq _ _ h.2]
  | .fn0, b, h => by cases b <;> simp [V.eqB] at h; rfl
  | .iface t v, b, h => by cases b <;> simp [V.eqB] at h; rw [h.1, V.eqB_eq _ _ h.2]
  | .if0, b, h => by cases b <;> simp [V.eqB] at h; rfl
  | .agg l, b, h => by cases b <;> simp [V.eqB] at h; rw [V.eqL_eq _ _ h]
  | .tup l, b, h => by cases b <;> simp [V.eqB] at h; rw [V.eqL_eq _ _ h]
  | .bld k, b, h => by cases b <;> simp [V.eqB] at h; simp [h]
  | .buf s t, b, h => by cases b <;> simp [V.eqB] at h; simp [h]
  | .bptr s t, b, h => by cases b <;> simp [V.eqB] at h; simp [h]
theorem V.eqL_eq : ∀ (a b : List V), V.eqL a b = true → a = b
  | [], b, h => by cases b <;> simp [V.eqL] at h; rfl
  | x :: l, b, h => by cases b <;> simp [V.eqL] at h; rw [V.eqB_eq _ _ h.1, V.eqL_eq _ _ h.2]
end
mutual
theorem V.eqB_refl : ∀ (a : V), V.eqB a a = true
  | .int k n => by simp [V.eqB]
  | .bool x => by simp [V.eqB]
  | .str x => by simp [V.eqB]
  | .ptr0 => by simp [V.eqB]
  | .ptr i o => by simp [V.eqB]
  | .lptr l => by simp [V.eqB, V.eqL_refl l]
  | .sl a' b' c d => by simp [V.eqB]
  | .lst l t => by simp [V.eqB, V.eqL_refl l]
  | .map0 => by simp [V.eqB]
  | .map i => by simp [V.eqB]
  | .fn f x y => by simp [V.eqB, V.eqL_refl x, V.eqL_refl y]
  | .fn0 => by simp [V.eqB]
  | .iface t v => by simp [V.eqB, V.eqB_refl v]
  | .if0 => by simp [V.eqB]
  | .agg l => by simp [V.eqB, V.eqL_refl l]
  | .tup l => by simp [V.eqB, V.eqL_refl l]
  | .bld k => by simp [V.eqB]
  | .buf s t => by simp [V.eqB]
  | .bptr s t => by simp [V.eqB]
theorem V.eqL_refl : ∀ (a : List V), V.eqL a a = true
  | [] => by simp [V.eqL]
  | x :: l => by simp [V.eqL, V.eqB_refl x, V.eqL_refl l]
end
/-- Is it the same? -/
def A.chk (x : Option V) (v : V) (k : Res) : Res := match x with | some w => if V.eqB w v = true then k else none | none => none
def A.noP (x : Res) (K : V → St → Res) : Res := match x with | some (.ret v, st) => K v st | _ => none

/-- Which operations must be ahead of each, as bits. -/
def befs : List Oper → List Nat → List Nat
  | [], acc => acc
  | o :: os, acc => befs os (acc ++ [o.after.toList.foldl (fun s x => if Region.binds .any x then s ||| 2 ^ x.on ||| acc.getD x.on 0 else s) 0])
def ord (B : List Nat) (i j : Nat) : Bool := (B.getD j 0).testBit i

structure Ld where
  i : Nat
  ag : Bool
  n : Nat
  p : V
  v : V

def chkL (B : List Nat) (i : Nat) (st : St) : List Ld → Res → Res
  | [], k => k
  | x :: xs, k => if ord B x.i i then chkL B i st xs k else A.chk (ldv x.ag x.n x.p st) x.v (chkL B i st xs k)
def chkH (B : List Nat) (i : Nat) (ag : Bool) (n : Nat) (p v : V) : List (Nat × St) → Res → Res
  | [], k => k
  | (j, s) :: xs, k => if ord B j i then chkH B i ag n p v xs k else A.chk (ldv ag n p s) v (chkH B i ag n p v xs k)

def gd (ops : Array Oper) (o : Oper) (env : Env) : Option Bool :=
  match o.guard with
  | none => some true
  | some (j, want) => match (ops[j]?).bind (·.dst) with
    | none => none
    | some d => (match env d with | .bool b => some (b == want) | .tup _ => some false | _ => none)

def aregL (P : Program) (mu : Nat → Bool) (T : Tbl) (m : Nat) (ops : Array Oper) (B : List Nat) (K : Env → St → Res) : List Nat → Env → St → List Ld → List (Nat × St) → Res
  | [], env, st, _, _ => K env st
  | i :: rest, env, st, L, H =>
    match ops[i]? with
    | none => none
    | some o =>
      let run : Env → Res := fun env => match cls P mu o with
        | 0 => aop P mu T o env st fun v _ => aregL P mu T m ops B K rest (putV m env o.dst v) st L H
        | 1 => (match loadOf P env o with
          | some (ag, n, p) => A.load ag n p st fun v _ => chkH B i ag n p v H (aregL P mu T m ops B K rest (putV m env o.dst v) st (⟨i, ag, n, p, v⟩ :: L) H)
          | none => none)
        | _ => A.noP (aop P mu T o env st kid) fun v st' => chkL B i st' L (aregL P mu T m ops B K rest (putV m env o.dst v) st' L ((i, st) :: H))
      match o.guard with
      | none => run env
      | some (j, want) =>
        match (ops[j]?).bind (·.dst) with
        | none => none
        | some d => cond ((ops[j]?).bind (·.guard)).isSome (A.guardT (env d) want (run (putV m env (some d) (.bool want))) (aregL P mu T m ops B K rest (putV m (putV m env (some d) (.bool !want)) o.dst (.tup [])) st L H) (aregL P mu T m ops B K rest (putV m env o.dst (.tup [])) st L H)) (A.guard (env d) want (run (putV m env (some d) (.bool want))) (aregL P mu T m ops B K rest (putV m (putV m env (some d) (.bool !want)) o.dst (.tup [])) st L H))

/-- The edges go back; who looks at what is written is behind it; what writes is in one order. -/
def regOk (P : Program) (mu : Nat → Bool) (ops : Array Oper) (B : List Nat) : Bool :=
  (List.range ops.size).all fun j => match ops[j]? with
    | none => false
    | some o => (o.after.toList.all fun x => !Region.binds .any x || x.on < j) &&
      (List.range j).all fun i => match ops[i]? with
        | none => false
        | some q => ((match q.dst with | some d => !(o.looksAt ops).contains d && o.dst != some d | none => true) && (match o.dst with | some d => !(q.looksAt ops).contains d | none => true) && !(cls P mu o == 2 && cls P mu q == 2)) || ord B i j

def areg (P : Program) (mu : Nat → Bool) (T : Tbl) (m : Nat) (ops : Array Oper) (env : Env) (st : St) (K : Env → St → Res) : Res :=
  if regOk P mu ops (befs ops.toList []) then aregL P mu T m ops (befs ops.toList []) K (List.range ops.size) env st [] [] else none

/-! Computing operations. -/
def Pu (f : (V → Res) → Res) : Prop := ∀ K r, f K = some r → ∃ v, K v = some r ∧ ∀ K', f K' = K' v
theorem Pu.const (v : V) : Pu (fun K => K v) := fun K r h => ⟨v, h, fun _ => rfl⟩
theorem Pu.ob {o : Option V} {f : V → (V → Res) → Res} (h : ∀ v, Pu (f v)) : Pu (fun K => ob o fun v => f v K) := by
  intro K r hk
  obtain ⟨v, rfl, h2⟩ := ob_some hk
  exact h v K r h2
theorem Pu.obs {o : Option (List V)} {f : List V → (V → Res) → Res} (h : ∀ v, Pu (f v)) : Pu (fun K => obs o fun v => f v K) := by
  intro K r hk
  obtain ⟨v, rfl, h2⟩ := obs_some hk
  exact h v K r h2
theorem Pu.ite {c : Prop} [Decidable c] {f g : (V → Res) → Res} (hf : Pu f) (hg : Pu g) : Pu (fun K => if c then f K else g K) := by
  intro K r hk
  by_cases hc : c
  · simp only [hc, if_true] at hk ⊢; exact hf K r hk
  · simp only [hc, if_false] at hk ⊢; exact hg K r hk
theorem Pu.none : Pu (fun _ => Option.none) := fun K r h => by cases h
theorem Pu.bin (op : BinOp) (a b : V) : Pu (A.bin op a b) := by
  intro K r h
  unfold A.bin at h ⊢
  split at h
  · split at h <;> first
      | cases h
      | (split at h
         · rename_i hc
           first
             | exact ⟨_, h, fun K' => by simp only [hc, if_true]⟩
             | (split at h
                · cases h
                · rename_i hy; exact ⟨_, h, fun K' => by simp only [hc, hy, if_true, if_false]⟩)
             | cases h
         · rename_i hc
           first
             | cases h
             | exact ⟨_, h, fun K' => by simp only [hc, if_false]⟩)
  · split at h <;> first
      | cases h
      | exact ⟨_, h, fun K' => rfl⟩
      | (split at h
         · rename_i hc; exact ⟨_, h, fun K' => by simp only [hc, if_true]⟩
         · cases h)
  · cases h
theorem Pu.eql (ty : Nat) (neg : Bool) (a b : V) : Pu (A.eql ty neg a b) := by
  intro K r h
  unfold A.eql at h ⊢
  split at h <;> first
    | cases h
    | exact ⟨_, h, fun K' => rfl⟩
    | (split at h
       · rename_i hc; exact ⟨_, h, fun K' => by simp only [hc, if_true]⟩
       · cases h)
theorem Pu.un (op : UnOp) (a : V) : Pu (A.un op a) := by
  intro K r h
  unfold A.un at h ⊢
  split at h <;> first | cases h | exact ⟨_, h, fun K' => rfl⟩
theorem Pu.pick (c a b : V) : Pu (A.pick c a b) := by
  intro K r h
  unfold A.pick at h ⊢
  split at h <;> first | cases h | exact ⟨_, h, fun K' => rfl⟩
theorem Pu.ext (a : V) (i : Nat) : Pu (A.ext a i) := by
  intro K r h
  unfold A.ext at h ⊢
  split at h
  · split at h
    · rename_i hv; exact ⟨_, h, fun K' => by simp only [hv]⟩
    · cases h
  · cases h
theorem Pu.part (ag : Bool) (n off : Nat) (cs : List V) : Pu (Apart ag n off cs) := by
  intro K r h
  unfold Apart at h ⊢
  split at h
  · rename_i h1
    split at h
    · rename_i h2; exact ⟨_, h, fun K' => by simp only [h1, h2, if_true]⟩
    · cases h
  · rename_i h1
    split at h
    · rename_i h2; exact ⟨_, h, fun K' => by rw [if_neg h1]⟩
    · cases h
theorem Pu.field (ag : Bool) (n off : Nat) (a : V) : Pu (A.field ag n off a) := by
  intro K r h
  unfold A.field at h ⊢
  split at h
  · exact Pu.part _ _ _ _ K r h
  · cases h
theorem Pu.nilc (a : V) : Pu (A.nilc a) := by
  intro K r h
  unfold A.nilc at h ⊢
  split at h <;> first | cases h | exact ⟨_, h, fun K' => rfl⟩
theorem Pu.faddr (off : Nat) (a : V) : Pu (A.faddr off a) := by
  intro K r h
  unfold A.faddr at h ⊢
  split at h
  · exact ⟨_, h, fun K' => rfl⟩
  · split at h
    · rename_i hc; exact ⟨_, h, fun K' => by simp only [hc, if_true]⟩
    · cases h
  · cases h
theorem Pu.iaddr (sz : Nat) (x i : V) : Pu (A.iaddr sz x i) := by
  intro K r h
  unfold A.iaddr at h ⊢
  split at h
  · split at h
    · rename_i h0
      split at h
      · split at h
        · rename_i h1; exact ⟨_, h, fun K' => by simp only [h0, h1, if_true]; simp⟩
        · cases h
      · split at h
        · rename_i hv
          split at h
          · rename_i h1; exact ⟨_, h, fun K' => by simp only [h0, hv, h1, if_true]⟩
          · cases h
        · cases h
      · cases h
    · cases h
  · cases h
theorem Pu.iaddrA (len sz : Nat) (x i : V) : Pu (A.iaddrA len sz x i) := by
  intro K r h
  unfold A.iaddrA at h ⊢
  split at h
  · split at h
    · rename_i h0
      split at h
      · exact ⟨_, h, fun K' => by simp only [h0, and_self, if_true]⟩
      · split at h
        · rename_i h1; exact ⟨_, h, fun K' => by simp only [h0, h1, and_self, if_true]⟩
        · cases h
      · cases h
    · cases h
  · cases h
theorem Pu.idxS (x i : V) : Pu (A.idxS x i) := by
  intro K r h
  unfold A.idxS at h ⊢
  split at h
  · split at h
    · rename_i h0
      split at h
      · rename_i hb; exact ⟨_, h, fun K' => by simp only [h0, hb, if_true]⟩
      · cases h
    · cases h
  · cases h
theorem Pu.lenS (x : V) : Pu (A.lenS x) := by
  intro K r h
  unfold A.lenS at h ⊢
  split at h <;> first | cases h | exact ⟨_, h, fun K' => rfl⟩
theorem Pu.lenL (x : V) : Pu (A.lenL x) := by
  intro K r h
  unfold A.lenL at h ⊢
  split at h <;> first | cases h | exact ⟨_, h, fun K' => rfl⟩
theorem Pu.min (x y : V) : Pu (A.min x y) := by
  intro K r h
  unfold A.min at h ⊢
  split at h <;> first | cases h | exact ⟨_, h, fun K' => rfl⟩
theorem Pu.max (x y : V) : Pu (A.max x y) := by
  intro K r h
  unfold A.max at h ⊢
  split at h <;> first | cases h | exact ⟨_, h, fun K' => rfl⟩
theorem Pu.toInt (k : IntKind) (x : V) : Pu (A.toInt k x) := by
  intro K r h
  unfold A.toInt at h ⊢
  split at h <;> first | cases h | exact ⟨_, h, fun K' => rfl⟩
theorem Pu.build (zs : List V) (ps : List (Nat × Nat × V)) : Pu (A.build zs ps) := by
  intro K r h
  unfold A.build at h ⊢
  split at h
  · rename_i hc
    split at h
    · rename_i h1; exact ⟨_, h, fun K' => by simp only [hc, h1, if_true]⟩
    · cases h
  · cases h
theorem Pu.bslice (sz : Nat) (z : V) (len : Nat) (ps : List (Nat × V)) : Pu (A.bslice sz z len ps) := by
  intro K r h
  unfold A.bslice at h ⊢
  split at h
  · rename_i hc
    split at h
    · rename_i h1; exact ⟨_, h, fun K' => by first | rw [if_pos h1] | (simp only [hc]; rw [if_pos h1])⟩
    · cases h
  · cases h
theorem Pu.mksl (sz b : Nat) (z l c : V) : Pu (A.mksl sz b z l c) := by
  intro K r h
  unfold A.mksl at h ⊢
  split at h
  · split at h
    · rename_i h1; exact ⟨_, h, fun K' => by rw [if_pos h1]⟩
    · cases h
  · cases h
theorem Pu.sliceS (x : V) (lo hi : Option V) : Pu (A.sliceS x lo hi) := by
  intro K r h
  unfold A.sliceS at h ⊢
  split at h
  · split at h
    · rename_i h1 h2
      split at h
      · rename_i h3; exact ⟨_, h, fun K' => by first | rw [if_pos h3] | (simp only [h1, h2]; rw [if_pos h3])⟩
      · cases h
    · cases h
  · cases h
theorem Pu.slice (sz : Nat) (x : V) (lo hi mx : Option V) : Pu (A.slice sz x lo hi mx) := by
  intro K r h
  unfold A.slice at h ⊢
  split at h
  · split at h
    · rename_i h1 h2
      split at h
      · rename_i h3; exact ⟨_, h, fun K' => by first | rw [if_pos h3] | (simp only [h1, h2]; rw [if_pos h3])⟩
      · cases h
    · rename_i h1 h2
      split at h
      · rename_i hm
        split at h
        · rename_i h3; exact ⟨_, h, fun K' => by first | rw [if_pos h3] | (simp only [h1, h2, hm]; rw [if_pos h3])⟩
        · cases h
      · cases h
    · cases h
  · split at h
    · rename_i h1 h2
      split at h
      · rename_i h3; exact ⟨_, h, fun K' => by first | rw [if_pos h3] | (simp only [h1, h2]; rw [if_pos h3])⟩
      · cases h
    · cases h
  · cases h
end Go.Ab
