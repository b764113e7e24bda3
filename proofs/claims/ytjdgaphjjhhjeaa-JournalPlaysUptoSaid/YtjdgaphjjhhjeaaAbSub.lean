import Derived.Test.YtjdgaphjjhhjeaaAbDrawmerged0
import Derived.KernelRfl
/- What printed functions stand on. -/
namespace Go.Ab
open Go.RowKit

theorem big_ex : ∃ n : Nat, 1180591620717411303424 ≤ n := ⟨_, Nat.le_refl _⟩
/-- Enough rounds: some number from 2^70 on. -/
noncomputable def big : Nat := Classical.choose big_ex
theorem big_le : 1180591620717411303424 ≤ big := Classical.choose_spec big_ex

/-- The code at a place. -/
def sub : Code → List Nat → Code
  | c, [] => c
  | .seq x y, i :: p => bif Nat.beq i 0 then sub x p else sub y p
  | .cond _ x y, i :: p => bif Nat.beq i 0 then sub x p else sub y p
  | .block _ x, _ :: p => sub x p
  | .loop x, _ :: p => sub x p
  | c, _ => c

def condF (c : Operand) (F G : Env → St → Res) : Env → St → Res := fun env st => ob (opV env c) fun c => A.cond c (F env st) (G env st)

section
variable {P : Program} {mu : Nat → Bool} {T : Tbl} {N m : Nat} {R : Rg} {c x y : Code} {K : Kon} {F G : Env → St → Res}
theorem seq_cut (hc : c = .seq x y) (hy : aexec P mu T N m R y K = G) : aexec P mu T N m R c K = aexec P mu T N m R x (kSeq G K) := by subst hc; subst hy; rfl
theorem blk_cut {i : Nat} (hc : c = .block i x) : aexec P mu T N m R c K = aexec P mu T N m R x (kBlk i K) := by subst hc; rfl
theorem loop_cut (hc : c = .loop x) : aexec P mu T N m R c K = aloop (aexec P mu T N m R x) K N := by subst hc; rfl
theorem cond_cut {v : Operand} (hc : c = .cond v x y) (hx : aexec P mu T N m R x K = F) (hy : aexec P mu T N m R y K = G) : aexec P mu T N m R c K = condF v F G := by subst hc; subst hx; subst hy; rfl
/-- A region's operations. -/
def rops : Code → Array Oper
  | .region _ ops _ => ops
  | _ => #[]
theorem aops_app {ops : Array Oper} : ∀ (l1 l2 : List Nat) (env : Env) (st : St) (K : Env → St → Res), aops P mu T m ops (l1 ++ l2) env st K = aops P mu T m ops l1 env st (fun env st => aops P mu T m ops l2 env st K)
  | [], l2, env, st, K => rfl
  | i :: l1, l2, env, st, K => by
    have ih : ∀ env st, aops P mu T m ops (l1 ++ l2) env st K = aops P mu T m ops l1 env st (fun env st => aops P mu T m ops l2 env st K) := fun env st => aops_app l1 l2 env st K
    rw [List.cons_append]
    simp only [aops, ih]
theorem ops_cut {ops : Array Oper} {l1 l2 : List Nat} {k : Env → St → Res} (h : (fun env st => aops P mu T m ops l2 env st k) = G) : (fun env st => aops P mu T m ops (l1 ++ l2) env st k) = fun env st => aops P mu T m ops l1 env st G := by
  subst h; funext env st; exact aops_app l1 l2 env st k
theorem reg_cut {id : Nat} {ops : Array Oper} {l1 l2 : List Nat} (hc : c = .region id ops false) (hl : List.range ops.size = l1 ++ l2) (h : (fun env st => aops P mu T m ops l2 env st (K .normal)) = G) : aexec P mu T N m R c K = fun env st => aops P mu T m ops l1 env st G := by
  subst hc; subst h
  funext env st
  show (if false then _ else aops P mu T m ops (List.range ops.size) env st (K .normal)) = _
  rw [hl]
  exact aops_app l1 l2 env st _
end

/-- A function that the kernel does not look into. -/
theorem seal_ex (f : Fn) : ∃ g : Fn, g = f := ⟨f, rfl⟩
noncomputable def sealF (f : Fn) : Fn := Classical.choose (seal_ex f)
theorem sealF_eq (f : Fn) : sealF f = f := Classical.choose_spec (seal_ex f)
theorem Sim.sealed {P : Program} {i : Nat} {f : Fn} (h : Sim P i f) : Sim P i (sealF f) := by rw [sealF_eq]; exact h

/-- A table out of a list. -/
def tget : List (Nat × Fn) → Tbl
  | [], _ => none
  | (i, f) :: r, k => bif Nat.beq k i then some f else tget r k
theorem simT_nil {P : Program} : SimT P (tget []) := fun f sh h => by cases h
theorem simT_cons {P : Program} {i : Nat} {f : Fn} {r : List (Nat × Fn)} (h : Sim P i f) (hr : SimT P (tget r)) : SimT P (tget ((i, f) :: r)) := by
  intro k sh hk
  unfold tget at hk
  cases hb : Nat.beq k i with
  | true => rw [hb] at hk; cases hk; rw [Nat.eq_of_beq_eq_true hb]; exact h
  | false => rw [hb] at hk; exact hr k sh hk
/-- A function's results, of slots and of cells. -/
def rtmp (v : V) (o : Option (List V)) : Option (List V) := match o with | some l => some (v.er1 :: l) | none => none
def rcell (r : Res) (o : Option (List V)) : Option (List V) := match r, o with | some (.ret v, _), some l => some (v.er1 :: l) | _, _ => none
def A.res (o : Option (List V)) (st : St) : Res := match o with | some [v] => some (.ret v, st) | some l => some (.ret (.tup l), st) | none => none
@[simp] theorem rtmp_some (v : V) (l : List V) : rtmp v (some l) = some (v.er1 :: l) := rfl
@[simp] theorem rcell_some (v : V) (st : St) (l : List V) : rcell (some (.ret v, st)) (some l) = some (v.er1 :: l) := rfl
@[simp] theorem res_one (v : V) (st : St) : A.res (some [v]) st = some (.ret v, st) := rfl
@[simp] theorem res_two (v w : V) (l : List V) (st : St) : A.res (some (v :: w :: l)) st = some (.ret (.tup (v :: w :: l)), st) := rfl
end Go.Ab
