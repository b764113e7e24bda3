import Derived.Test.YtimidokohhiacaaAbQuiet
import Derived.Test.YtimidokohhiacaaAbA09j
namespace Go.Ab
open Go.Proofs
set_option linter.unusedVariables false
set_option maxRecDepth 100000
/-! sinew/sinewlaw09.QueryLimits -/
def g9mu : Nat → Bool := fun _ => false
noncomputable def g9T : Tbl := tget [(12, s12), (13, s13)]
theorem g9t : SimT Try.prog g9T := simT_cons sim12 ( simT_cons sim13 (simT_nil))
noncomputable def s9 : Fn := sealF (afn Try.prog g9mu g9T big (areg Try.prog g9mu g9T) 9)
theorem sim9 : Sim Try.prog 9 s9 := (afn_sim g9t (fun m => areg_sound g9t hmix m) 9 (by kernel_rfl)).sealed
noncomputable def g9C (p : List Nat) : Code := sub (match Try.f9.body with | some c => c | none => .skip) p
noncomputable def g9X (c : Code) (K : Kon) : Env → St → Res := aexec Try.prog g9mu g9T big 139 (areg Try.prog g9mu g9T 139) c K
noncomputable def g9kr : Kon := aresK Try.prog Try.f9.results.toList
theorem g9reg {c : Code} {K : Kon} {G : Env → St → Res} {id : Nat} {ops : Array Oper} {l1 l2 : List Nat} (hc : c = .region id ops false) (hl : List.range ops.size = l1 ++ l2) (h : (fun env st => aops Try.prog g9mu g9T 139 ops l2 env st (K .normal)) = G) : g9X c K = fun env st => aops Try.prog g9mu g9T 139 ops l1 env st G := reg_cut hc hl h
theorem g9seq {c x y : Code} {K : Kon} {G : Env → St → Res} (hc : c = .seq x y) (hy : g9X y K = G) : g9X c K = g9X x (kSeq G K) := seq_cut hc hy
theorem g9blk {c x : Code} {K : Kon} {i : Nat} (hc : c = .block i x) : g9X c K = g9X x (kBlk i K) := blk_cut hc
theorem g9loop {c x : Code} {K : Kon} (hc : c = .loop x) : g9X c K = aloop (g9X x) K big := loop_cut hc
theorem g9cond {c x y : Code} {K : Kon} {v : Operand} {F G : Env → St → Res} (hc : c = .cond v x y) (hx : g9X x K = F) (hy : g9X y K = G) : g9X c K = condF v F G := cond_cut hc hx hy
noncomputable def g9b1111111 (x7 : V) (x19 : V) (x20 : V) (st : St) : Res :=
 A.eql 2 false x19 (.int .i64 0) fun a1 =>
 A.guard a1 true
 (A.eql 2 false x20 x7 fun a2 =>
 A.guard a2 true
 (A.ret (s13 [] st) fun a3 z4 =>
 some (.ret a3.er1, z4))
 (some (.ret ((.bool false) : V).er1, st)))
 (some (.ret ((.bool false) : V).er1, st))
theorem g9e1111111 : g9X (g9C [1, 1, 1, 1, 1, 1, 1]) (g9kr) = fun env st => g9b1111111 (env 7) (env 19) (env 20) st := by
  refine Eq.trans (Eq.refl (g9X (g9C [1, 1, 1, 1, 1, 1, 1]) (g9kr))) ?_
  funext env st
  kernel_rfl
noncomputable def g9b111111 (x5 : V) (x7 : V) (x19 : V) (x20 : V) (st : St) : Res :=
 A.eql 2 false x5 (.int .i64 0) fun a1 =>
 A.cond a1
 (g9b1111111 (.int .i64 0) x19 x20 st)
 (g9b1111111 x7 x19 x20 st)
theorem g9n111111 : g9C [1, 1, 1, 1, 1, 1] = .seq (g9C [1, 1, 1, 1, 1, 1, 0]) (g9C [1, 1, 1, 1, 1, 1, 1]) := by kernel_rfl
theorem g9e111111 : g9X (g9C [1, 1, 1, 1, 1, 1]) (g9kr) = fun env st => g9b111111 (env 5) (env 7) (env 19) (env 20) st := by
  refine Eq.trans (g9seq g9n111111 (g9e1111111)) ?_
  funext env st
  kernel_rfl
noncomputable def g9b11111 (x5 : V) (x6 : V) (x7 : V) (st : St) : Res :=
 A.bin .add x6 (.str [32, 125]) fun a1 =>
 A.ret (s12 [a1.er1] st) fun a2 z3 =>
 A.ext a2 0 fun a4 =>
 A.ext a2 1 fun a5 =>
 A.ext a2 2 fun a6 =>
 A.box (.agg [(.int .i64 0), (.lst [] 1), (.lst [] 1), (.lst [] 1)]) z3 fun a7 z8 =>
 A.store 4 a7 a4 z8 fun z9 =>
 g9b111111 x5 x7 a5 a6 z9
theorem g9n11111 : g9C [1, 1, 1, 1, 1] = .seq (g9C [1, 1, 1, 1, 1, 0]) (g9C [1, 1, 1, 1, 1, 1]) := by kernel_rfl
theorem g9e11111 : g9X (g9C [1, 1, 1, 1, 1]) (g9kr) = fun env st => g9b11111 (env 5) (env 6) (env 7) st := by
  refine Eq.trans (g9seq g9n11111 (g9e111111)) ?_
  funext env st
  kernel_rfl
noncomputable def g9k0 : Kon := kSeq (fun env st => g9b11111 (env 5) (env 6) (env 7) st) (g9kr)
noncomputable def g9k1 : Kon := kBlk 0 (g9k0)
noncomputable def g9k2 : Kon := kSeq (g9X (g9C [1, 1, 1, 1, 0, 1, 0, 1, 0, 1]) (g9k1)) (g9k1)
noncomputable def g9k3 : Kon := kBlk 3 (g9k2)
noncomputable def g9b111101010010 : Nat → V → V → V → St → Res
| 0, _, _, _, _ => none
| n + 1, x5, x6, x8, st =>
 A.bin .add (.int .i64 5) x5 fun a1 =>
 A.bin .lss x8 a1 fun a2 =>
 A.cond a2
 (A.bin .add x6 (.str [32, 46, 32, 63, 120, 32, 112, 32, 63, 120]) fun a3 =>
 A.bin .add x8 (.int .i64 1) fun a4 =>
 (g9b111101010010 n) x5 a3 a4 st)
 (g9b11111 x5 x6 (.int .i64 2) st)
theorem g9n111101010010 : g9C [1, 1, 1, 1, 0, 1, 0, 1, 0, 0, 1, 0] = .loop (g9C [1, 1, 1, 1, 0, 1, 0, 1, 0, 0, 1, 0, 0]) := by kernel_rfl
noncomputable def g9k4 (L111101010010 : V → V → V → St → Res) : Kon := kSeq (fun env st => L111101010010 (env 5) (env 6) (env 8) st) (g9k3)
theorem g9e111101010010 : g9X (g9C [1, 1, 1, 1, 0, 1, 0, 1, 0, 0, 1, 0]) (g9k3) = fun env st => g9b111101010010 big (env 5) (env 6) (env 8) st := by
  have key : ∀ n, aloop (g9X (g9C [1, 1, 1, 1, 0, 1, 0, 1, 0, 0, 1, 0, 0])) (g9k3) n = fun env st => g9b111101010010 n (env 5) (env 6) (env 8) st := by
    intro n
    induction n with
    | zero => rfl
    | succ n ih =>
      have h : aloop (g9X (g9C [1, 1, 1, 1, 0, 1, 0, 1, 0, 0, 1, 0, 0])) (g9k3) (n + 1) = g9X (g9C [1, 1, 1, 1, 0, 1, 0, 1, 0, 0, 1, 0, 0]) (kSeq (aloop (g9X (g9C [1, 1, 1, 1, 0, 1, 0, 1, 0, 0, 1, 0, 0])) (g9k3) n) (g9k3)) := rfl
      rw [h, ih]
      refine Eq.trans (Eq.refl _) ?_
      funext env st
      kernel_rfl
  exact (g9loop g9n111101010010).trans (key big)
noncomputable def g9k5 : Kon := kSeq (g9X (g9C [1, 1, 1, 1, 0, 1, 0, 1, 1, 1, 0, 1]) (g9k1)) (g9k1)
noncomputable def g9k6 : Kon := kBlk 5 (g9k5)
noncomputable def g9k7 (L11110101110010 : V → V → V → St → Res) : Kon := kSeq (fun env st => L11110101110010 (env 5) (env 6) (env 9) st) (g9k6)
noncomputable def g9k8 (L11110101110010 : V → V → V → St → Res) : Kon := kSeq (g9X (g9C [1, 1, 1, 1, 0, 1, 0, 1, 1, 1, 0, 0, 1, 0, 0, 1, 1]) (g9k7 L11110101110010)) (g9k7 L11110101110010)
noncomputable def g9k9 (L11110101110010 : V → V → V → St → Res) : Kon := kBlk 6 (g9k8 L11110101110010)
noncomputable def g9b1111010111001001001 (L11110101110010 : V → V → V → St → Res) (x5 : V) (x6 : V) (x9 : V) (st : St) : Res :=
 A.bin .geq x9 (.int .i64 4) fun a1 =>
 A.cond a1
 (A.eql 2 false x5 (.int .i64 1) fun a2 =>
 A.cond a2
 (A.bin .add (.str [115, 101, 108, 101, 99, 116, 32, 63, 120, 32, 119, 104, 101, 114, 101, 32, 123, 32, 63, 120, 32, 112, 32, 63, 120, 32, 46, 32, 63, 97, 32, 112, 32, 63, 98, 32, 46, 32, 63, 99, 32, 112, 32, 63, 100, 32, 46, 32, 63, 101, 32, 112, 32, 63, 120]) (.str [32, 46, 32, 63, 102, 32, 112, 32, 63, 120]) fun a3 =>
 g9b11111 x5 a3 (.int .i64 2) st)
 (g9b11111 x5 (.str [115, 101, 108, 101, 99, 116, 32, 63, 120, 32, 119, 104, 101, 114, 101, 32, 123, 32, 63, 120, 32, 112, 32, 63, 120, 32, 46, 32, 63, 97, 32, 112, 32, 63, 98, 32, 46, 32, 63, 99, 32, 112, 32, 63, 100, 32, 46, 32, 63, 101, 32, 112, 32, 63, 120]) (.int .i64 2) st))
 (A.bin .add x9 (.int .i64 1) fun a4 =>
 L11110101110010 x5 x6 a4 st)
theorem g9e1111010111001001001 (L11110101110010 : V → V → V → St → Res) : g9X (g9C [1, 1, 1, 1, 0, 1, 0, 1, 1, 1, 0, 0, 1, 0, 0, 1, 0, 0, 1]) (g9k9 L11110101110010) = fun env st => g9b1111010111001001001 L11110101110010 (env 5) (env 6) (env 9) st := by
  refine Eq.trans (Eq.refl (g9X (g9C [1, 1, 1, 1, 0, 1, 0, 1, 1, 1, 0, 0, 1, 0, 0, 1, 0, 0, 1]) (g9k9 L11110101110010))) ?_
  funext env st
  kernel_rfl
noncomputable def g9b11110101110010 : Nat → V → V → V → St → Res
| 0, _, _, _, _ => none
| n + 1, x5, x6, x9, st =>
 A.bin .add (.int .i64 5) x5 fun a1 =>
 A.bin .lss x9 a1 fun a2 =>
 A.cond a2
 (A.bin .add x6 (.str [32, 46, 32, 63]) fun a3 =>
 A.bin .add (.int .i64 97) x9 fun a4 =>
 A.toInt .u8 a4 fun a5 =>
 A.bslice 1 (.int .u8 0) 1 [(0, a5)] fun a6 =>
 A.toStr a6 st fun a7 =>
 A.bin .add a3 a7 fun a8 =>
 A.bin .add a8 (.str [32, 112, 32, 63, 120]) fun a9 =>
 g9b1111010111001001001 (g9b11110101110010 n) x5 a9 x9 st)
 (g9b11111 x5 x6 (.int .i64 2) st)
theorem g9n11110101110010 : g9C [1, 1, 1, 1, 0, 1, 0, 1, 1, 1, 0, 0, 1, 0] = .loop (g9C [1, 1, 1, 1, 0, 1, 0, 1, 1, 1, 0, 0, 1, 0, 0]) := by kernel_rfl
theorem g9n111101011100100 : g9C [1, 1, 1, 1, 0, 1, 0, 1, 1, 1, 0, 0, 1, 0, 0] = .seq (g9C [1, 1, 1, 1, 0, 1, 0, 1, 1, 1, 0, 0, 1, 0, 0, 0]) (g9C [1, 1, 1, 1, 0, 1, 0, 1, 1, 1, 0, 0, 1, 0, 0, 1]) := by kernel_rfl
theorem g9n1111010111001001 : g9C [1, 1, 1, 1, 0, 1, 0, 1, 1, 1, 0, 0, 1, 0, 0, 1] = .seq (g9C [1, 1, 1, 1, 0, 1, 0, 1, 1, 1, 0, 0, 1, 0, 0, 1, 0]) (g9C [1, 1, 1, 1, 0, 1, 0, 1, 1, 1, 0, 0, 1, 0, 0, 1, 1]) := by kernel_rfl
theorem g9n11110101110010010 : g9C [1, 1, 1, 1, 0, 1, 0, 1, 1, 1, 0, 0, 1, 0, 0, 1, 0] = .block 6 (g9C [1, 1, 1, 1, 0, 1, 0, 1, 1, 1, 0, 0, 1, 0, 0, 1, 0, 0]) := by kernel_rfl
theorem g9n111101011100100100 : g9C [1, 1, 1, 1, 0, 1, 0, 1, 1, 1, 0, 0, 1, 0, 0, 1, 0, 0] = .seq (g9C [1, 1, 1, 1, 0, 1, 0, 1, 1, 1, 0, 0, 1, 0, 0, 1, 0, 0, 0]) (g9C [1, 1, 1, 1, 0, 1, 0, 1, 1, 1, 0, 0, 1, 0, 0, 1, 0, 0, 1]) := by kernel_rfl
theorem g9e11110101110010 : g9X (g9C [1, 1, 1, 1, 0, 1, 0, 1, 1, 1, 0, 0, 1, 0]) (g9k6) = fun env st => g9b11110101110010 big (env 5) (env 6) (env 9) st := by
  have key : ∀ n, aloop (g9X (g9C [1, 1, 1, 1, 0, 1, 0, 1, 1, 1, 0, 0, 1, 0, 0])) (g9k6) n = fun env st => g9b11110101110010 n (env 5) (env 6) (env 9) st := by
    intro n
    induction n with
    | zero => rfl
    | succ n ih =>
      have h : aloop (g9X (g9C [1, 1, 1, 1, 0, 1, 0, 1, 1, 1, 0, 0, 1, 0, 0])) (g9k6) (n + 1) = g9X (g9C [1, 1, 1, 1, 0, 1, 0, 1, 1, 1, 0, 0, 1, 0, 0]) (kSeq (aloop (g9X (g9C [1, 1, 1, 1, 0, 1, 0, 1, 1, 1, 0, 0, 1, 0, 0])) (g9k6) n) (g9k6)) := rfl
      rw [h, ih]
      refine Eq.trans (g9seq g9n111101011100100 ((g9seq g9n1111010111001001 rfl).trans ((g9blk g9n11110101110010010).trans (g9seq g9n111101011100100100 (g9e1111010111001001001 (g9b11110101110010 n)))))) ?_
      funext env st
      kernel_rfl
  exact (g9loop g9n11110101110010).trans (key big)
noncomputable def g9k10 : Kon := kSeq (g9X (g9C [1, 1, 1, 1, 0, 1, 0, 1, 1, 1, 1, 1, 0, 1, 1]) (g9k1)) (g9k1)
noncomputable def g9k11 : Kon := kBlk 7 (g9k10)
noncomputable def g9b11110101111101010 : Nat → V → V → V → St → Res
| 0, _, _, _, _ => none
| n + 1, x5, x10, x11, st =>
 A.bin .add (.int .i64 23) x5 fun a1 =>
 A.bin .lss x11 a1 fun a2 =>
 A.cond a2
 (A.bin .add x10 (.str [124, 112]) fun a3 =>
 A.bin .add x11 (.int .i64 1) fun a4 =>
 (g9b11110101111101010 n) x5 a3 a4 st)
 (A.bin .add (.str [115, 101, 108, 101, 99, 116, 32, 63, 120, 32, 119, 104, 101, 114, 101, 32, 123, 32, 63, 120, 32]) x10 fun a5 =>
 A.bin .add a5 (.str [32, 63, 120]) fun a6 =>
 g9b11111 x5 a6 (.int .i64 100) st)
theorem g9n11110101111101010 : g9C [1, 1, 1, 1, 0, 1, 0, 1, 1, 1, 1, 1, 0, 1, 0, 1, 0] = .loop (g9C [1, 1, 1, 1, 0, 1, 0, 1, 1, 1, 1, 1, 0, 1, 0, 1, 0, 0]) := by kernel_rfl
noncomputable def g9k12 (L11110101111101010 : V → V → V → St → Res) : Kon := kSeq (fun env st => L11110101111101010 (env 5) (env 10) (env 11) st) (g9k11)
theorem g9e11110101111101010 : g9X (g9C [1, 1, 1, 1, 0, 1, 0, 1, 1, 1, 1, 1, 0, 1, 0, 1, 0]) (g9k11) = fun env st => g9b11110101111101010 big (env 5) (env 10) (env 11) st := by
  have key : ∀ n, aloop (g9X (g9C [1, 1, 1, 1, 0, 1, 0, 1, 1, 1, 1, 1, 0, 1, 0, 1, 0, 0])) (g9k11) n = fun env st => g9b11110101111101010 n (env 5) (env 10) (env 11) st := by
    intro n
    induction n with
    | zero => rfl
    | succ n ih =>
      have h : aloop (g9X (g9C [1, 1, 1, 1, 0, 1, 0, 1, 1, 1, 1, 1, 0, 1, 0, 1, 0, 0])) (g9k11) (n + 1) = g9X (g9C [1, 1, 1, 1, 0, 1, 0, 1, 1, 1, 1, 1, 0, 1, 0, 1, 0, 0]) (kSeq (aloop (g9X (g9C [1, 1, 1, 1, 0, 1, 0, 1, 1, 1, 1, 1, 0, 1, 0, 1, 0, 0])) (g9k11) n) (g9k11)) := rfl
      rw [h, ih]
      refine Eq.trans (Eq.refl _) ?_
      funext env st
      kernel_rfl
  exact (g9loop g9n11110101111101010).trans (key big)
noncomputable def g9k13 : Kon := kSeq (g9X (g9C [1, 1, 1, 1, 0, 1, 0, 1, 1, 1, 1, 1, 1, 1, 0, 1, 1]) (g9k1)) (g9k1)
noncomputable def g9k14 : Kon := kBlk 9 (g9k13)
noncomputable def g9b1111010111111101010 : Nat → V → V → V → St → Res
| 0, _, _, _, _ => none
| n + 1, x5, x12, x13, st =>
 A.bin .add (.int .i64 11) x5 fun a1 =>
 A.bin .lss x13 a1 fun a2 =>
 A.cond a2
 (A.bin .add (.str [40]) x12 fun a3 =>
 A.bin .add a3 (.str [41, 42]) fun a4 =>
 A.bin .add x13 (.int .i64 1) fun a5 =>
 (g9b1111010111111101010 n) x5 a4 a5 st)
 (A.bin .add (.str [115, 101, 108, 101, 99, 116, 32, 63, 120, 32, 119, 104, 101, 114, 101, 32, 123, 32, 63, 120, 32]) x12 fun a6 =>
 A.bin .add a6 (.str [32, 63, 120]) fun a7 =>
 g9b11111 x5 a7 (.int .i64 100) st)
theorem g9n1111010111111101010 : g9C [1, 1, 1, 1, 0, 1, 0, 1, 1, 1, 1, 1, 1, 1, 0, 1, 0, 1, 0] = .loop (g9C [1, 1, 1, 1, 0, 1, 0, 1, 1, 1, 1, 1, 1, 1, 0, 1, 0, 1, 0, 0]) := by kernel_rfl
noncomputable def g9k15 (L1111010111111101010 : V → V → V → St → Res) : Kon := kSeq (fun env st => L1111010111111101010 (env 5) (env 12) (env 13) st) (g9k14)
theorem g9e1111010111111101010 : g9X (g9C [1, 1, 1, 1, 0, 1, 0, 1, 1, 1, 1, 1, 1, 1, 0, 1, 0, 1, 0]) (g9k14) = fun env st => g9b1111010111111101010 big (env 5) (env 12) (env 13) st := by
  have key : ∀ n, aloop (g9X (g9C [1, 1, 1, 1, 0, 1, 0, 1, 1, 1, 1, 1, 1, 1, 0, 1, 0, 1, 0, 0])) (g9k14) n = fun env st => g9b1111010111111101010 n (env 5) (env 12) (env 13) st := by
    intro n
    induction n with
    | zero => rfl
    | succ n ih =>
      have h : aloop (g9X (g9C [1, 1, 1, 1, 0, 1, 0, 1, 1, 1, 1, 1, 1, 1, 0, 1, 0, 1, 0, 0])) (g9k14) (n + 1) = g9X (g9C [1, 1, 1, 1, 0, 1, 0, 1, 1, 1, 1, 1, 1, 1, 0, 1, 0, 1, 0, 0]) (kSeq (aloop (g9X (g9C [1, 1, 1, 1, 0, 1, 0, 1, 1, 1, 1, 1, 1, 1, 0, 1, 0, 1, 0, 0])) (g9k14) n) (g9k14)) := rfl
      rw [h, ih]
      refine Eq.trans (Eq.refl _) ?_
      funext env st
      kernel_rfl
  exact (g9loop g9n1111010111111101010).trans (key big)
noncomputable def g9k16 : Kon := kSeq (g9X (g9C [1, 1, 1, 1, 0, 1, 0, 1, 1, 1, 1, 1, 1, 1, 1, 1, 1, 1, 1]) (g9k1)) (g9k1)
noncomputable def g9b1111010111111111110_18 (x57 : V) (st : St) : Res :=
 A.guard x57 true
 (A.ret (s13 [] st) fun a1 z2 =>
 some (.ret a1.er1, z2))
 (some (.ret ((.bool false) : V).er1, st))
theorem g9e1111010111111111110_18 : (fun env st => aops Try.prog g9mu g9T 139 (rops (g9C [1, 1, 1, 1, 0, 1, 0, 1, 1, 1, 1, 1, 1, 1, 1, 1, 1, 1, 0])) [18, 19, 20] env st ((g9k16) .normal)) = fun env st => g9b1111010111111111110_18 (env 57) st := by
  refine Eq.trans (Eq.refl _) ?_
  funext env st
  kernel_rfl
noncomputable def g9b1111010111111111110_10 (x17 : V) (x49 : V) (st : St) : Res :=
 A.guard x49 true
 (A.eql 2 false x17 (.int .i64 0) fun a1 =>
 A.guardT a1 false
 (A.eql 2 false x17 (.int .i64 2) fun a2 =>
 g9b1111010111111111110_18 a2 st)
 (g9b1111010111111111110_18 (.bool true) st)
 (A.guardT a1 false
 (A.eql 2 false (.tup []) (.int .i64 2) fun a3 =>
 g9b1111010111111111110_18 a3 st)
 (g9b1111010111111111110_18 (.bool true) st)
 (A.pick a1 (.bool true) (.tup []) fun a4 =>
 g9b1111010111111111110_18 a4 st)))
 (g9b1111010111111111110_18 (.bool false) st)
theorem g9e1111010111111111110_10 : (fun env st => aops Try.prog g9mu g9T 139 (rops (g9C [1, 1, 1, 1, 0, 1, 0, 1, 1, 1, 1, 1, 1, 1, 1, 1, 1, 1, 0])) [10, 11, 12, 13, 14, 15, 16, 17, 18, 19, 20] env st ((g9k16) .normal)) = fun env st => g9b1111010111111111110_10 (env 17) (env 49) st := by
  refine Eq.trans (ops_cut (l1 := [10, 11, 12, 13, 14, 15, 16, 17]) (l2 := [18, 19, 20]) (g9e1111010111111111110_18)) ?_
  funext env st
  kernel_rfl
noncomputable def g9b11110101111111111 (x5 : V) (x6 : V) (st : St) : Res :=
 A.ret (s12 [x6.er1] st) fun a1 z2 =>
 A.ext a1 0 fun a3 =>
 A.ext a1 1 fun a4 =>
 A.ext a1 2 fun a5 =>
 A.box (.agg [(.int .i64 0), (.lst [] 1), (.lst [] 1), (.lst [] 1)]) z2 fun a6 z7 =>
 A.store 4 a6 a3 z7 fun z8 =>
 A.eql 2 false a4 (.int .i64 0) fun a9 =>
 A.guard a9 true
 (A.eql 2 false a5 (.int .i64 0) fun a10 =>
 A.eql 2 false x5 (.int .i64 0) fun a11 =>
 A.eql 1 false a10 a11 fun a12 =>
 g9b1111010111111111110_10 a5 a12 z8)
 (g9b1111010111111111110_10 a5 (.bool false) z8)
theorem g9n11110101111111111 : g9C [1, 1, 1, 1, 0, 1, 0, 1, 1, 1, 1, 1, 1, 1, 1, 1, 1] = .seq (g9C [1, 1, 1, 1, 0, 1, 0, 1, 1, 1, 1, 1, 1, 1, 1, 1, 1, 0]) (g9C [1, 1, 1, 1, 0, 1, 0, 1, 1, 1, 1, 1, 1, 1, 1, 1, 1, 1]) := by kernel_rfl
theorem g9n111101011111111111 : g9C [1, 1, 1, 1, 0, 1, 0, 1, 1, 1, 1, 1, 1, 1, 1, 1, 1, 1] = .seq (g9C [1, 1, 1, 1, 0, 1, 0, 1, 1, 1, 1, 1, 1, 1, 1, 1, 1, 1, 0]) (g9C [1, 1, 1, 1, 0, 1, 0, 1, 1, 1, 1, 1, 1, 1, 1, 1, 1, 1, 1]) := by kernel_rfl
theorem g9rg1111010111111111110 : g9C [1, 1, 1, 1, 0, 1, 0, 1, 1, 1, 1, 1, 1, 1, 1, 1, 1, 1, 0] = .region 11 (rops (g9C [1, 1, 1, 1, 0, 1, 0, 1, 1, 1, 1, 1, 1, 1, 1, 1, 1, 1, 0])) false := by kernel_rfl
theorem g9rg1111010111111111110l : List.range (rops (g9C [1, 1, 1, 1, 0, 1, 0, 1, 1, 1, 1, 1, 1, 1, 1, 1, 1, 1, 0])).size = [0, 1, 2, 3, 4, 5, 6, 7, 8, 9] ++ [10, 11, 12, 13, 14, 15, 16, 17, 18, 19, 20] := by kernel_rfl
theorem g9e11110101111111111 : g9X (g9C [1, 1, 1, 1, 0, 1, 0, 1, 1, 1, 1, 1, 1, 1, 1, 1, 1]) (g9k1) = fun env st => g9b11110101111111111 (env 5) (env 6) st := by
  refine Eq.trans (g9seq g9n11110101111111111 ((g9seq g9n111101011111111111 rfl).trans (g9reg g9rg1111010111111111110 g9rg1111010111111111110l (g9e1111010111111111110_10)))) ?_
  funext env st
  kernel_rfl
noncomputable def g9k17 : Kon := kSeq (fun env st => g9b11110101111111111 (env 5) (env 6) st) (g9k1)
noncomputable def g9k18 : Kon := kBlk 1 (g9k17)
noncomputable def g9b1111010111111111010 : Nat → V → V → V → St → Res
| 0, _, _, _, _ => none
| n + 1, x5, x6, x14, st =>
 A.bin .add (.int .i64 63) x5 fun a1 =>
 A.bin .lss x14 a1 fun a2 =>
 A.cond a2
 (A.bin .add x6 (.str [32, 46, 32, 105, 110, 115, 101, 114, 116, 32, 97, 32, 112, 32, 98]) fun a3 =>
 A.bin .add x14 (.int .i64 1) fun a4 =>
 (g9b1111010111111111010 n) x5 a3 a4 st)
 (g9b11110101111111111 x5 x6 st)
theorem g9n1111010111111111010 : g9C [1, 1, 1, 1, 0, 1, 0, 1, 1, 1, 1, 1, 1, 1, 1, 1, 0, 1, 0] = .loop (g9C [1, 1, 1, 1, 0, 1, 0, 1, 1, 1, 1, 1, 1, 1, 1, 1, 0, 1, 0, 0]) := by kernel_rfl
noncomputable def g9k19 (L1111010111111111010 : V → V → V → St → Res) : Kon := kSeq (fun env st => L1111010111111111010 (env 5) (env 6) (env 14) st) (g9k18)
theorem g9e1111010111111111010 : g9X (g9C [1, 1, 1, 1, 0, 1, 0, 1, 1, 1, 1, 1, 1, 1, 1, 1, 0, 1, 0]) (g9k18) = fun env st => g9b1111010111111111010 big (env 5) (env 6) (env 14) st := by
  have key : ∀ n, aloop (g9X (g9C [1, 1, 1, 1, 0, 1, 0, 1, 1, 1, 1, 1, 1, 1, 1, 1, 0, 1, 0, 0])) (g9k18) n = fun env st => g9b1111010111111111010 n (env 5) (env 6) (env 14) st := by
    intro n
    induction n with
    | zero => rfl
    | succ n ih =>
      have h : aloop (g9X (g9C [1, 1, 1, 1, 0, 1, 0, 1, 1, 1, 1, 1, 1, 1, 1, 1, 0, 1, 0, 0])) (g9k18) (n + 1) = g9X (g9C [1, 1, 1, 1, 0, 1, 0, 1, 1, 1, 1, 1, 1, 1, 1, 1, 0, 1, 0, 0]) (kSeq (aloop (g9X (g9C [1, 1, 1, 1, 0, 1, 0, 1, 1, 1, 1, 1, 1, 1, 1, 1, 0, 1, 0, 0])) (g9k18) n) (g9k18)) := rfl
      rw [h, ih]
      refine Eq.trans (Eq.refl _) ?_
      funext env st
      kernel_rfl
  exact (g9loop g9n1111010111111111010).trans (key big)
noncomputable def g9b11110101 (x5 : V) (x6 : V) (x25 : V) (x60 : V) (st : St) : Res :=
 A.cond x60
 (g9b111101010010 big x5 x6 (.int .i64 0) st)
 (A.eql 2 false x25 (.int .i64 1) fun a1 =>
 A.cond a1
 (g9b11110101110010 big x5 x6 (.int .i64 0) st)
 (A.eql 2 false x25 (.int .i64 2) fun a2 =>
 A.cond a2
 (g9b11110101111101010 big x5 (.str [112]) (.int .i64 0) st)
 (A.eql 2 false x25 (.int .i64 3) fun a3 =>
 A.cond a3
 (g9b1111010111111101010 big x5 (.str [112]) (.int .i64 0) st)
 (g9b1111010111111111010 big x5 (.str [105, 110, 115, 101, 114, 116, 32, 97, 32, 112, 32, 98]) (.int .i64 0) st))))
theorem g9n11110101 : g9C [1, 1, 1, 1, 0, 1, 0, 1] = .cond (.tmp 60) (g9C [1, 1, 1, 1, 0, 1, 0, 1, 0]) (g9C [1, 1, 1, 1, 0, 1, 0, 1, 1]) := by kernel_rfl
theorem g9n111101010 : g9C [1, 1, 1, 1, 0, 1, 0, 1, 0] = .seq (g9C [1, 1, 1, 1, 0, 1, 0, 1, 0, 0]) (g9C [1, 1, 1, 1, 0, 1, 0, 1, 0, 1]) := by kernel_rfl
theorem g9n1111010100 : g9C [1, 1, 1, 1, 0, 1, 0, 1, 0, 0] = .seq (g9C [1, 1, 1, 1, 0, 1, 0, 1, 0, 0, 0]) (g9C [1, 1, 1, 1, 0, 1, 0, 1, 0, 0, 1]) := by kernel_rfl
theorem g9n11110101001 : g9C [1, 1, 1, 1, 0, 1, 0, 1, 0, 0, 1] = .block 3 (g9C [1, 1, 1, 1, 0, 1, 0, 1, 0, 0, 1, 0]) := by kernel_rfl
theorem g9n111101011 : g9C [1, 1, 1, 1, 0, 1, 0, 1, 1] = .seq (g9C [1, 1, 1, 1, 0, 1, 0, 1, 1, 0]) (g9C [1, 1, 1, 1, 0, 1, 0, 1, 1, 1]) := by kernel_rfl
theorem g9n1111010111 : g9C [1, 1, 1, 1, 0, 1, 0, 1, 1, 1] = .cond (.tmp 70) (g9C [1, 1, 1, 1, 0, 1, 0, 1, 1, 1, 0]) (g9C [1, 1, 1, 1, 0, 1, 0, 1, 1, 1, 1]) := by kernel_rfl
theorem g9n11110101110 : g9C [1, 1, 1, 1, 0, 1, 0, 1, 1, 1, 0] = .seq (g9C [1, 1, 1, 1, 0, 1, 0, 1, 1, 1, 0, 0]) (g9C [1, 1, 1, 1, 0, 1, 0, 1, 1, 1, 0, 1]) := by kernel_rfl
theorem g9n111101011100 : g9C [1, 1, 1, 1, 0, 1, 0, 1, 1, 1, 0, 0] = .seq (g9C [1, 1, 1, 1, 0, 1, 0, 1, 1, 1, 0, 0, 0]) (g9C [1, 1, 1, 1, 0, 1, 0, 1, 1, 1, 0, 0, 1]) := by kernel_rfl
theorem g9n1111010111001 : g9C [1, 1, 1, 1, 0, 1, 0, 1, 1, 1, 0, 0, 1] = .block 5 (g9C [1, 1, 1, 1, 0, 1, 0, 1, 1, 1, 0, 0, 1, 0]) := by kernel_rfl
theorem g9n11110101111 : g9C [1, 1, 1, 1, 0, 1, 0, 1, 1, 1, 1] = .seq (g9C [1, 1, 1, 1, 0, 1, 0, 1, 1, 1, 1, 0]) (g9C [1, 1, 1, 1, 0, 1, 0, 1, 1, 1, 1, 1]) := by kernel_rfl
theorem g9n111101011111 : g9C [1, 1, 1, 1, 0, 1, 0, 1, 1, 1, 1, 1] = .cond (.tmp 93) (g9C [1, 1, 1, 1, 0, 1, 0, 1, 1, 1, 1, 1, 0]) (g9C [1, 1, 1, 1, 0, 1, 0, 1, 1, 1, 1, 1, 1]) := by kernel_rfl
theorem g9n1111010111110 : g9C [1, 1, 1, 1, 0, 1, 0, 1, 1, 1, 1, 1, 0] = .seq (g9C [1, 1, 1, 1, 0, 1, 0, 1, 1, 1, 1, 1, 0, 0]) (g9C [1, 1, 1, 1, 0, 1, 0, 1, 1, 1, 1, 1, 0, 1]) := by kernel_rfl
theorem g9n11110101111101 : g9C [1, 1, 1, 1, 0, 1, 0, 1, 1, 1, 1, 1, 0, 1] = .seq (g9C [1, 1, 1, 1, 0, 1, 0, 1, 1, 1, 1, 1, 0, 1, 0]) (g9C [1, 1, 1, 1, 0, 1, 0, 1, 1, 1, 1, 1, 0, 1, 1]) := by kernel_rfl
theorem g9n111101011111010 : g9C [1, 1, 1, 1, 0, 1, 0, 1, 1, 1, 1, 1, 0, 1, 0] = .seq (g9C [1, 1, 1, 1, 0, 1, 0, 1, 1, 1, 1, 1, 0, 1, 0, 0]) (g9C [1, 1, 1, 1, 0, 1, 0, 1, 1, 1, 1, 1, 0, 1, 0, 1]) := by kernel_rfl
theorem g9n1111010111110101 : g9C [1, 1, 1, 1, 0, 1, 0, 1, 1, 1, 1, 1, 0, 1, 0, 1] = .block 7 (g9C [1, 1, 1, 1, 0, 1, 0, 1, 1, 1, 1, 1, 0, 1, 0, 1, 0]) := by kernel_rfl
theorem g9n1111010111111 : g9C [1, 1, 1, 1, 0, 1, 0, 1, 1, 1, 1, 1, 1] = .seq (g9C [1, 1, 1, 1, 0, 1, 0, 1, 1, 1, 1, 1, 1, 0]) (g9C [1, 1, 1, 1, 0, 1, 0, 1, 1, 1, 1, 1, 1, 1]) := by kernel_rfl
theorem g9n11110101111111 : g9C [1, 1, 1, 1, 0, 1, 0, 1, 1, 1, 1, 1, 1, 1] = .cond (.tmp 106) (g9C [1, 1, 1, 1, 0, 1, 0, 1, 1, 1, 1, 1, 1, 1, 0]) (g9C [1, 1, 1, 1, 0, 1, 0, 1, 1, 1, 1, 1, 1, 1, 1]) := by kernel_rfl
theorem g9n111101011111110 : g9C [1, 1, 1, 1, 0, 1, 0, 1, 1, 1, 1, 1, 1, 1, 0] = .seq (g9C [1, 1, 1, 1, 0, 1, 0, 1, 1, 1, 1, 1, 1, 1, 0, 0]) (g9C [1, 1, 1, 1, 0, 1, 0, 1, 1, 1, 1, 1, 1, 1, 0, 1]) := by kernel_rfl
theorem g9n1111010111111101 : g9C [1, 1, 1, 1, 0, 1, 0, 1, 1, 1, 1, 1, 1, 1, 0, 1] = .seq (g9C [1, 1, 1, 1, 0, 1, 0, 1, 1, 1, 1, 1, 1, 1, 0, 1, 0]) (g9C [1, 1, 1, 1, 0, 1, 0, 1, 1, 1, 1, 1, 1, 1, 0, 1, 1]) := by kernel_rfl
theorem g9n11110101111111010 : g9C [1, 1, 1, 1, 0, 1, 0, 1, 1, 1, 1, 1, 1, 1, 0, 1, 0] = .seq (g9C [1, 1, 1, 1, 0, 1, 0, 1, 1, 1, 1, 1, 1, 1, 0, 1, 0, 0]) (g9C [1, 1, 1, 1, 0, 1, 0, 1, 1, 1, 1, 1, 1, 1, 0, 1, 0, 1]) := by kernel_rfl
theorem g9n111101011111110101 : g9C [1, 1, 1, 1, 0, 1, 0, 1, 1, 1, 1, 1, 1, 1, 0, 1, 0, 1] = .block 9 (g9C [1, 1, 1, 1, 0, 1, 0, 1, 1, 1, 1, 1, 1, 1, 0, 1, 0, 1, 0]) := by kernel_rfl
theorem g9n111101011111111 : g9C [1, 1, 1, 1, 0, 1, 0, 1, 1, 1, 1, 1, 1, 1, 1] = .seq (g9C [1, 1, 1, 1, 0, 1, 0, 1, 1, 1, 1, 1, 1, 1, 1, 0]) (g9C [1, 1, 1, 1, 0, 1, 0, 1, 1, 1, 1, 1, 1, 1, 1, 1]) := by kernel_rfl
theorem g9n1111010111111111 : g9C [1, 1, 1, 1, 0, 1, 0, 1, 1, 1, 1, 1, 1, 1, 1, 1] = .seq (g9C [1, 1, 1, 1, 0, 1, 0, 1, 1, 1, 1, 1, 1, 1, 1, 1, 0]) (g9C [1, 1, 1, 1, 0, 1, 0, 1, 1, 1, 1, 1, 1, 1, 1, 1, 1]) := by kernel_rfl
theorem g9n11110101111111110 : g9C [1, 1, 1, 1, 0, 1, 0, 1, 1, 1, 1, 1, 1, 1, 1, 1, 0] = .seq (g9C [1, 1, 1, 1, 0, 1, 0, 1, 1, 1, 1, 1, 1, 1, 1, 1, 0, 0]) (g9C [1, 1, 1, 1, 0, 1, 0, 1, 1, 1, 1, 1, 1, 1, 1, 1, 0, 1]) := by kernel_rfl
theorem g9n111101011111111101 : g9C [1, 1, 1, 1, 0, 1, 0, 1, 1, 1, 1, 1, 1, 1, 1, 1, 0, 1] = .block 1 (g9C [1, 1, 1, 1, 0, 1, 0, 1, 1, 1, 1, 1, 1, 1, 1, 1, 0, 1, 0]) := by kernel_rfl
theorem g9e11110101 : g9X (g9C [1, 1, 1, 1, 0, 1, 0, 1]) (g9k1) = fun env st => g9b11110101 (env 5) (env 6) (env 25) (env 60) st := by
  refine Eq.trans (g9cond g9n11110101 ((g9seq g9n111101010 rfl).trans (g9seq g9n1111010100 ((g9blk g9n11110101001).trans (g9e111101010010)))) (g9seq g9n111101011 (g9cond g9n1111010111 ((g9seq g9n11110101110 rfl).trans (g9seq g9n111101011100 ((g9blk g9n1111010111001).trans (g9e11110101110010)))) (g9seq g9n11110101111 (g9cond g9n111101011111 (g9seq g9n1111010111110 ((g9seq g9n11110101111101 rfl).trans (g9seq g9n111101011111010 ((g9blk g9n1111010111110101).trans (g9e11110101111101010))))) (g9seq g9n1111010111111 (g9cond g9n11110101111111 (g9seq g9n111101011111110 ((g9seq g9n1111010111111101 rfl).trans (g9seq g9n11110101111111010 ((g9blk g9n111101011111110101).trans (g9e1111010111111101010))))) (g9seq g9n111101011111111 ((g9seq g9n1111010111111111 (g9e11110101111111111)).trans (g9seq g9n11110101111111110 ((g9blk g9n111101011111111101).trans (g9e1111010111111111010)))))))))))) ?_
  funext env st
  kernel_rfl
noncomputable def f9 (x0 : V) (x1 : V) (st : St) : Res :=
 A.bin .and x1 (.int .i64 1) fun a1 =>
 A.bin .and x0 (.int .i64 255) fun a2 =>
 A.bin .rem a2 (.int .i64 5) fun a3 =>
 A.eql 2 false a3 (.int .i64 0) fun a4 =>
 g9b11110101 a1 (.str [115, 101, 108, 101, 99, 116, 32, 63, 120, 32, 119, 104, 101, 114, 101, 32, 123, 32, 63, 120, 32, 112, 32, 63, 120]) a3 a4 st
theorem g9nr : g9C [] = .seq (g9C [0]) (g9C [1]) := by kernel_rfl
theorem g9n1 : g9C [1] = .seq (g9C [1, 0]) (g9C [1, 1]) := by kernel_rfl
theorem g9n11 : g9C [1, 1] = .seq (g9C [1, 1, 0]) (g9C [1, 1, 1]) := by kernel_rfl
theorem g9n111 : g9C [1, 1, 1] = .seq (g9C [1, 1, 1, 0]) (g9C [1, 1, 1, 1]) := by kernel_rfl
theorem g9n1111 : g9C [1, 1, 1, 1] = .seq (g9C [1, 1, 1, 1, 0]) (g9C [1, 1, 1, 1, 1]) := by kernel_rfl
theorem g9n11110 : g9C [1, 1, 1, 1, 0] = .seq (g9C [1, 1, 1, 1, 0, 0]) (g9C [1, 1, 1, 1, 0, 1]) := by kernel_rfl
theorem g9n111101 : g9C [1, 1, 1, 1, 0, 1] = .block 0 (g9C [1, 1, 1, 1, 0, 1, 0]) := by kernel_rfl
theorem g9n1111010 : g9C [1, 1, 1, 1, 0, 1, 0] = .seq (g9C [1, 1, 1, 1, 0, 1, 0, 0]) (g9C [1, 1, 1, 1, 0, 1, 0, 1]) := by kernel_rfl
theorem g9er (env : Env) (st : St) : g9X (g9C []) g9kr env st = f9 (env 0) (env 1) st := by
  rw [(g9seq g9nr (g9seq g9n1 (g9seq g9n11 (g9seq g9n111 ((g9seq g9n1111 (g9e11111)).trans (g9seq g9n11110 ((g9blk g9n111101).trans (g9seq g9n1111010 (g9e11110101)))))))))]
  kernel_rfl
theorem s9_eq (x0 : V) (x1 : V) (st : St) : s9 [x0, x1] st = f9 x0 x1 st := by
  have h : afn Try.prog g9mu g9T big (areg Try.prog g9mu g9T) 9 [x0, x1] st = g9X (g9C []) g9kr (fun t => [x0, x1].getD t (.tup [])) st := by kernel_rfl
  rw [s9, sealF_eq]
  exact h.trans (g9er _ st)
/-! sinew/sinewlaw09.QueryPlaces -/
def g7mu : Nat → Bool := fun _ => false
noncomputable def g7T : Tbl := tget [(12, s12), (13, s13)]
theorem g7t : SimT Try.prog g7T := simT_cons sim12 ( simT_cons sim13 (simT_nil))
noncomputable def s7 : Fn := sealF (afn Try.prog g7mu g7T big (areg Try.prog g7mu g7T) 7)
theorem sim7 : Sim Try.prog 7 s7 := (afn_sim g7t (fun m => areg_sound g7t hmix m) 7 (by kernel_rfl)).sealed
noncomputable def g7C (p : List Nat) : Code := sub (match Try.f7.body with | some c => c | none => .skip) p
noncomputable def g7X (c : Code) (K : Kon) : Env → St → Res := aexec Try.prog g7mu g7T big 62 (areg Try.prog g7mu g7T 62) c K
noncomputable def g7kr : Kon := aresK Try.prog Try.f7.results.toList
theorem g7reg {c : Code} {K : Kon} {G : Env → St → Res} {id : Nat} {ops : Array Oper} {l1 l2 : List Nat} (hc : c = .region id ops false) (hl : List.range ops.size = l1 ++ l2) (h : (fun env st => aops Try.prog g7mu g7T 62 ops l2 env st (K .normal)) = G) : g7X c K = fun env st => aops Try.prog g7mu g7T 62 ops l1 env st G := reg_cut hc hl h
theorem g7seq {c x y : Code} {K : Kon} {G : Env → St → Res} (hc : c = .seq x y) (hy : g7X y K = G) : g7X c K = g7X x (kSeq G K) := seq_cut hc hy
theorem g7blk {c x : Code} {K : Kon} {i : Nat} (hc : c = .block i x) : g7X c K = g7X x (kBlk i K) := blk_cut hc
theorem g7loop {c x : Code} {K : Kon} (hc : c = .loop x) : g7X c K = aloop (g7X x) K big := loop_cut hc
theorem g7cond {c x y : Code} {K : Kon} {v : Operand} {F G : Env → St → Res} (hc : c = .cond v x y) (hx : g7X x K = F) (hy : g7X y K = G) : g7X c K = condF v F G := cond_cut hc hx hy
noncomputable def g7k0 : Kon := kSeq (g7X (g7C [1, 1, 1, 1, 1, 1]) (g7kr)) (g7kr)
noncomputable def g7b1111101 (x0 : V) (x4 : V) (x8 : V) (x49 : V) (st : St) : Res :=
 A.cond x49
 (A.eql 2 false x8 (.int .i64 0) fun a1 =>
 A.guard a1 true
 (A.lenS x0 fun a2 =>
 A.bin .lss x4 a2 fun a3 =>
 A.guard a3 true
 (A.ret (s13 [] st) fun a4 z5 =>
 some (.ret a4.er1, z5))
 (some (.ret ((.bool false) : V).er1, st)))
 (some (.ret ((.bool false) : V).er1, st)))
 (A.ret (s13 [] st) fun a6 z7 =>
 some (.ret a6.er1, z7))
theorem g7e1111101 : g7X (g7C [1, 1, 1, 1, 1, 0, 1]) (g7k0) = fun env st => g7b1111101 (env 0) (env 4) (env 8) (env 49) st := by
  refine Eq.trans (Eq.refl (g7X (g7C [1, 1, 1, 1, 1, 0, 1]) (g7k0))) ?_
  funext env st
  kernel_rfl
noncomputable def g7b11111 (x0 : V) (x4 : V) (x7 : V) (x8 : V) (st : St) : Res :=
 A.eql 2 false x8 (.int .i64 0) fun a1 =>
 A.guard a1 false
 (A.eql 2 false x8 (.int .i64 90) fun a2 =>
 A.guardT a2 true
 (A.eql 2 true x7 x4 fun a3 =>
 g7b1111101 x0 x4 x8 a3 st)
 (g7b1111101 x0 x4 x8 (.bool false) st)
 (A.guardT a2 true
 (A.eql 2 true (.tup []) x4 fun a4 =>
 g7b1111101 x0 x4 x8 a4 st)
 (g7b1111101 x0 x4 x8 (.bool false) st)
 (A.guardT a2 true
 (A.eql 2 true (.tup []) (.tup []) fun a5 =>
 g7b1111101 x0 x4 x8 a5 st)
 (g7b1111101 x0 x4 x8 (.bool false) st)
 (A.pick a2 (.tup []) (.bool false) fun a6 =>
 g7b1111101 x0 x4 x8 a6 st))))
 (g7b1111101 x0 x4 x8 (.bool true) st)
theorem g7n11111 : g7C [1, 1, 1, 1, 1] = .seq (g7C [1, 1, 1, 1, 1, 0]) (g7C [1, 1, 1, 1, 1, 1]) := by kernel_rfl
theorem g7n111110 : g7C [1, 1, 1, 1, 1, 0] = .seq (g7C [1, 1, 1, 1, 1, 0, 0]) (g7C [1, 1, 1, 1, 1, 0, 1]) := by kernel_rfl
theorem g7e11111 : g7X (g7C [1, 1, 1, 1, 1]) (g7kr) = fun env st => g7b11111 (env 0) (env 4) (env 7) (env 8) st := by
  refine Eq.trans ((g7seq g7n11111 rfl).trans (g7seq g7n111110 (g7e1111101))) ?_
  funext env st
  kernel_rfl
noncomputable def g7b1111 (x0 : V) (x4 : V) (st : St) : Res :=
 A.sliceS x0 none (some x4) fun a1 =>
 A.ret (s12 [a1.er1] st) fun a2 z3 =>
 A.ext a2 0 fun a4 =>
 A.ext a2 1 fun a5 =>
 A.ext a2 2 fun a6 =>
 A.box (.agg [(.int .i64 0), (.lst [] 1), (.lst [] 1), (.lst [] 1)]) z3 fun a7 z8 =>
 A.store 4 a7 a4 z8 fun z9 =>
 g7b11111 x0 x4 a5 a6 z9
theorem g7n1111 : g7C [1, 1, 1, 1] = .seq (g7C [1, 1, 1, 1, 0]) (g7C [1, 1, 1, 1, 1]) := by kernel_rfl
theorem g7e1111 : g7X (g7C [1, 1, 1, 1]) (g7kr) = fun env st => g7b1111 (env 0) (env 4) st := by
  refine Eq.trans (g7seq g7n1111 (g7e11111)) ?_
  funext env st
  kernel_rfl
noncomputable def g7b111 (x0 : V) (x4 : V) (st : St) : Res :=
 A.bin .lss x4 (.int .i64 0) fun a1 =>
 A.guard a1 false
 (A.lenS x0 fun a2 =>
 A.bin .gtr x4 a2 fun a3 =>
 A.cond a3
 (some (.ret ((.bool false) : V).er1, st))
 (g7b1111 x0 x4 st))
 (some (.ret ((.bool false) : V).er1, st))
theorem g7n111 : g7C [1, 1, 1] = .seq (g7C [1, 1, 1, 0]) (g7C [1, 1, 1, 1]) := by kernel_rfl
theorem g7e111 : g7X (g7C [1, 1, 1]) (g7kr) = fun env st => g7b111 (env 0) (env 4) st := by
  refine Eq.trans (g7seq g7n111 (g7e1111)) ?_
  funext env st
  kernel_rfl
noncomputable def g7b11 (x0 : V) (x4 : V) (x5 : V) (st : St) : Res :=
 A.eql 2 true x5 (.int .i64 90) fun a1 =>
 A.guard a1 false
 (A.lenS x0 fun a2 =>
 A.bin .gtr a2 (.int .i64 4096) fun a3 =>
 A.cond a3
 (A.ret (s13 [] st) fun a4 z5 =>
 some (.ret a4.er1, z5))
 (g7b111 x0 x4 st))
 (A.ret (s13 [] st) fun a6 z7 =>
 some (.ret a6.er1, z7))
theorem g7n11 : g7C [1, 1] = .seq (g7C [1, 1, 0]) (g7C [1, 1, 1]) := by kernel_rfl
theorem g7e11 : g7X (g7C [1, 1]) (g7kr) = fun env st => g7b11 (env 0) (env 4) (env 5) st := by
  refine Eq.trans (g7seq g7n11 (g7e111)) ?_
  funext env st
  kernel_rfl
noncomputable def f7 (x0 : V) (st : St) : Res :=
 A.ret (s12 [x0.er1] st) fun a1 z2 =>
 A.ext a1 0 fun a3 =>
 A.ext a1 1 fun a4 =>
 A.ext a1 2 fun a5 =>
 A.box (.agg [(.int .i64 0), (.lst [] 1), (.lst [] 1), (.lst [] 1)]) z2 fun a6 z7 =>
 A.store 4 a6 a3 z7 fun z8 =>
 g7b11 x0 a4 a5 z8
theorem g7nr : g7C [] = .seq (g7C [0]) (g7C [1]) := by kernel_rfl
theorem g7n1 : g7C [1] = .seq (g7C [1, 0]) (g7C [1, 1]) := by kernel_rfl
theorem g7er (env : Env) (st : St) : g7X (g7C []) g7kr env st = f7 (env 0) st := by
  rw [(g7seq g7nr (g7seq g7n1 (g7e11)))]
  kernel_rfl
theorem s7_eq (x0 : V) (st : St) : s7 [x0] st = f7 x0 st := by
  have h : afn Try.prog g7mu g7T big (areg Try.prog g7mu g7T) 7 [x0] st = g7X (g7C []) g7kr (fun t => [x0].getD t (.tup [])) st := by kernel_rfl
  rw [s7, sealF_eq]
  exact h.trans (g7er _ st)
end Go.Ab
