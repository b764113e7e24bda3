import Derived.Test.YtimicmlpaaohoaaAbQuiet
import Derived.Test.YtimicmlpaaohoaaAbP157
namespace Go.Ab
open Go.Proofs
set_option linter.unusedVariables false
set_option maxRecDepth 100000
/-! sinew/sinewlaw15.LinkWindow -/
def g8mu : Nat → Bool := fun _ => false
noncomputable def g8T : Tbl := tget [(9, s9), (11, s11), (13, s13), (16, s16), (19, s19), (22, s22)]
theorem g8t : SimT Try.prog g8T := simT_cons sim9 ( simT_cons sim11 ( simT_cons sim13 ( simT_cons sim16 ( simT_cons sim19 ( simT_cons sim22 (simT_nil))))))
noncomputable def s8 : Fn := sealF (afn Try.prog g8mu g8T big (areg Try.prog g8mu g8T) 8)
theorem sim8 : Sim Try.prog 8 s8 := (afn_sim g8t (fun m => areg_sound g8t hmix m) 8 (by kernel_rfl)).sealed
noncomputable def g8C (p : List Nat) : Code := sub (match Try.f8.body with | some c => c | none => .skip) p
noncomputable def g8X (c : Code) (K : Kon) : Env → St → Res := aexec Try.prog g8mu g8T big 171 (areg Try.prog g8mu g8T 171) c K
noncomputable def g8kr : Kon := aresK Try.prog Try.f8.results.toList
theorem g8reg {c : Code} {K : Kon} {G : Env → St → Res} {id : Nat} {ops : Array Oper} {l1 l2 : List Nat} (hc : c = .region id ops false) (hl : List.range ops.size = l1 ++ l2) (h : (fun env st => aops Try.prog g8mu g8T 171 ops l2 env st (K .normal)) = G) : g8X c K = fun env st => aops Try.prog g8mu g8T 171 ops l1 env st G := reg_cut hc hl h
theorem g8seq {c x y : Code} {K : Kon} {G : Env → St → Res} (hc : c = .seq x y) (hy : g8X y K = G) : g8X c K = g8X x (kSeq G K) := seq_cut hc hy
theorem g8blk {c x : Code} {K : Kon} {i : Nat} (hc : c = .block i x) : g8X c K = g8X x (kBlk i K) := blk_cut hc
theorem g8loop {c x : Code} {K : Kon} (hc : c = .loop x) : g8X c K = aloop (g8X x) K big := loop_cut hc
theorem g8cond {c x y : Code} {K : Kon} {v : Operand} {F G : Env → St → Res} (hc : c = .cond v x y) (hx : g8X x K = F) (hy : g8X y K = G) : g8X c K = condF v F G := cond_cut hc hx hy
noncomputable def g8k0 : Kon := kSeq (g8X (g8C [1, 1, 1, 1, 1, 1, 1, 1, 1]) (g8kr)) (g8kr)
noncomputable def g8k1 : Kon := kBlk 2 (g8k0)
noncomputable def g8k2 (Lz35m : V → V → V → V → V → St → Res) : Kon := kSeq (fun env st => Lz35m (env 3) (env 5) (env 7) (env 8) (env 13) st) (g8k1)
noncomputable def g8k3 (Lz35m : V → V → V → V → V → St → Res) : Kon := kSeq (g8X (g8C [1, 1, 1, 1, 1, 1, 1, 1, 0, 1, 0, 0, 1, 1]) (g8k2 Lz35m)) (g8k2 Lz35m)
noncomputable def g8k4 (Lz35m : V → V → V → V → V → St → Res) : Kon := kBlk 3 (g8k3 Lz35m)
noncomputable def g8k5 (Lz35m : V → V → V → V → V → St → Res) : Kon := kBlk 4 (g8k4 Lz35m)
noncomputable def g8k6 (Lz35m : V → V → V → V → V → St → Res) (Lzmfym : V → V → V → V → V → V → V → St → Res) : Kon := kSeq (fun env st => Lzmfym (env 3) (env 5) (env 7) (env 8) (env 13) (env 14) (env 15) st) (g8k5 Lz35m)
noncomputable def g8k7 (Lz35m : V → V → V → V → V → St → Res) (Lzmfym : V → V → V → V → V → V → V → St → Res) : Kon := kSeq (g8X (g8C [1, 1, 1, 1, 1, 1, 1, 1, 0, 1, 0, 0, 1, 0, 0, 1, 1, 1, 0, 0, 1, 1]) (g8k6 Lz35m Lzmfym)) (g8k6 Lz35m Lzmfym)
noncomputable def g8k8 (Lz35m : V → V → V → V → V → St → Res) (Lzmfym : V → V → V → V → V → V → V → St → Res) : Kon := kBlk 5 (g8k7 Lz35m Lzmfym)
noncomputable def g8k9 (Lz35m : V → V → V → V → V → St → Res) (Lzmfym : V → V → V → V → V → V → V → St → Res) : Kon := kSeq (g8X (g8C [1, 1, 1, 1, 1, 1, 1, 1, 0, 1, 0, 0, 1, 0, 0, 1, 1, 1, 0, 0, 1, 0, 0, 1, 1]) (g8k8 Lz35m Lzmfym)) (g8k8 Lz35m Lzmfym)
noncomputable def g8k10 (Lz35m : V → V → V → V → V → St → Res) (Lzmfym : V → V → V → V → V → V → V → St → Res) : Kon := kSeq (g8X (g8C [1, 1, 1, 1, 1, 1, 1, 1, 0, 1, 0, 0, 1, 0, 0, 1, 1, 1, 0, 0, 1, 0, 0, 1, 0, 1]) (g8k9 Lz35m Lzmfym)) (g8k9 Lz35m Lzmfym)
noncomputable def g8bz27sr38_16 (Lz35m : V → V → V → V → V → St → Res) (Lzmfym : V → V → V → V → V → V → V → St → Res) (x3 : V) (x5 : V) (x7 : V) (x8 : V) (x13 : V) (x14 : V) (x15 : V) (x16 : V) (x146 : V) (st : St) : Res :=
 A.guard x146 false
 (A.faddr 1 x16 fun a1 =>
 A.load false 1 a1 st fun a2 z3 =>
 A.lenL a2 fun a4 =>
 A.eql 2 true a4 (.int .i64 1) fun a5 =>
 A.cond a5
 (some (.ret ((.bool false) : V).er1, z3))
 (A.bin .add x8 (.int .i64 1) fun a6 =>
 A.faddr 1 x16 fun a7 =>
 A.load false 1 a7 z3 fun a8 z9 =>
 A.iaddr 1 a8 (.int .i64 0) fun a10 =>
 A.load false 1 a10 z9 fun a11 z12 =>
 A.ret (s19 [x3.er1, a11.er1] z12) fun a13 z14 =>
 A.bin .add x15 (.int .i64 1) fun a15 =>
 Lzmfym x3 x5 x7 a6 x13 x14 a15 z14))
 (some (.ret ((.bool false) : V).er1, st))
theorem g8ez27sr38_16 (Lz35m : V → V → V → V → V → St → Res) (Lzmfym : V → V → V → V → V → V → V → St → Res) : (fun env st => aops Try.prog g8mu g8T 171 (rops (g8C [1, 1, 1, 1, 1, 1, 1, 1, 0, 1, 0, 0, 1, 0, 0, 1, 1, 1, 0, 0, 1, 0, 0, 1, 0, 0])) [16, 17, 18, 19, 20] env st ((g8k10 Lz35m Lzmfym) .normal)) = fun env st => g8bz27sr38_16 Lz35m Lzmfym (env 3) (env 5) (env 7) (env 8) (env 13) (env 14) (env 15) (env 16) (env 146) st := by
  refine Eq.trans (Eq.refl _) ?_
  funext env st
  kernel_rfl
noncomputable def g8bzjy6rt (Lz35m : V → V → V → V → V → St → Res) (Lzmfym : V → V → V → V → V → V → V → St → Res) (x3 : V) (x5 : V) (x7 : V) (x8 : V) (x13 : V) (x14 : V) (x15 : V) (x16 : V) (st : St) : Res :=
 A.faddr 0 x16 fun a1 =>
 A.load false 1 a1 st fun a2 z3 =>
 A.lenL a2 fun a4 =>
 A.eql 2 true a4 (.int .i64 1) fun a5 =>
 A.guard a5 false
 (A.faddr 0 x16 fun a6 =>
 A.load false 1 a6 z3 fun a7 z8 =>
 A.iaddr 4 a7 (.int .i64 0) fun a9 =>
 A.faddr 1 a9 fun a10 =>
 A.load false 1 a10 z8 fun a11 z12 =>
 A.iaddr 1 a11 (.int .i64 0) fun a13 =>
 A.load false 1 a13 z12 fun a14 z15 =>
 A.eql 2 true a14 x8 fun a16 =>
 g8bz27sr38_16 Lz35m Lzmfym x3 x5 x7 x8 x13 x14 x15 x16 a16 z15)
 (g8bz27sr38_16 Lz35m Lzmfym x3 x5 x7 x8 x13 x14 x15 x16 (.bool true) z3)
theorem g8nzjy6rt : g8C [1, 1, 1, 1, 1, 1, 1, 1, 0, 1, 0, 0, 1, 0, 0, 1, 1, 1, 0, 0, 1, 0, 0, 1] = .seq (g8C [1, 1, 1, 1, 1, 1, 1, 1, 0, 1, 0, 0, 1, 0, 0, 1, 1, 1, 0, 0, 1, 0, 0, 1, 0]) (g8C [1, 1, 1, 1, 1, 1, 1, 1, 0, 1, 0, 0, 1, 0, 0, 1, 1, 1, 0, 0, 1, 0, 0, 1, 1]) := by kernel_rfl
theorem g8nz13wdjm : g8C [1, 1, 1, 1, 1, 1, 1, 1, 0, 1, 0, 0, 1, 0, 0, 1, 1, 1, 0, 0, 1, 0, 0, 1, 0] = .seq (g8C [1, 1, 1, 1, 1, 1, 1, 1, 0, 1, 0, 0, 1, 0, 0, 1, 1, 1, 0, 0, 1, 0, 0, 1, 0, 0]) (g8C [1, 1, 1, 1, 1, 1, 1, 1, 0, 1, 0, 0, 1, 0, 0, 1, 1, 1, 0, 0, 1, 0, 0, 1, 0, 1]) := by kernel_rfl
theorem g8rgz27sr38 : g8C [1, 1, 1, 1, 1, 1, 1, 1, 0, 1, 0, 0, 1, 0, 0, 1, 1, 1, 0, 0, 1, 0, 0, 1, 0, 0] = .region 28 (rops (g8C [1, 1, 1, 1, 1, 1, 1, 1, 0, 1, 0, 0, 1, 0, 0, 1, 1, 1, 0, 0, 1, 0, 0, 1, 0, 0])) false := by kernel_rfl
theorem g8rgz27sr38l : List.range (rops (g8C [1, 1, 1, 1, 1, 1, 1, 1, 0, 1, 0, 0, 1, 0, 0, 1, 1, 1, 0, 0, 1, 0, 0, 1, 0, 0])).size = [0, 1, 2, 3, 4, 5, 6, 7, 8, 9, 10, 11, 12, 13, 14, 15] ++ [16, 17, 18, 19, 20] := by kernel_rfl
theorem g8ezjy6rt (Lz35m : V → V → V → V → V → St → Res) (Lzmfym : V → V → V → V → V → V → V → St → Res) : g8X (g8C [1, 1, 1, 1, 1, 1, 1, 1, 0, 1, 0, 0, 1, 0, 0, 1, 1, 1, 0, 0, 1, 0, 0, 1]) (g8k8 Lz35m Lzmfym) = fun env st => g8bzjy6rt Lz35m Lzmfym (env 3) (env 5) (env 7) (env 8) (env 13) (env 14) (env 15) (env 16) st := by
  refine Eq.trans ((g8seq g8nzjy6rt rfl).trans ((g8seq g8nz13wdjm rfl).trans (g8reg g8rgz27sr38 g8rgz27sr38l (g8ez27sr38_16 Lz35m Lzmfym)))) ?_
  funext env st
  kernel_rfl
noncomputable def g8bzmfym (Lz35m : V → V → V → V → V → St → Res) : Nat → V → V → V → V → V → V → V → St → Res
| 0, _, _, _, _, _, _, _, _ => none
| n + 1, x3, x5, x7, x8, x13, x14, x15, st =>
 A.lenL x14 fun a1 =>
 A.bin .lss x15 a1 fun a2 =>
 A.cond a2
 (A.iaddr 1 x14 x15 fun a3 =>
 A.load false 1 a3 st fun a4 z5 =>
 A.ret (s19 [x5.er1, a4.er1] z5) fun a6 z7 =>
 A.box (.agg [(.lst [] 1), (.lst [] 1), (.bool false)]) z7 fun a8 z9 =>
 A.store 3 a8 a6 z9 fun z10 =>
 g8bzjy6rt Lz35m (g8bzmfym Lz35m n) x3 x5 x7 x8 x13 x14 x15 a8 z10)
 (A.bin .add x13 (.int .i64 1) fun a11 =>
 Lz35m x3 x5 x7 x8 a11 st)
theorem g8nzmfym : g8C [1, 1, 1, 1, 1, 1, 1, 1, 0, 1, 0, 0, 1, 0, 0, 1, 1, 1, 0] = .loop (g8C [1, 1, 1, 1, 1, 1, 1, 1, 0, 1, 0, 0, 1, 0, 0, 1, 1, 1, 0, 0]) := by kernel_rfl
theorem g8nz18vx8 : g8C [1, 1, 1, 1, 1, 1, 1, 1, 0, 1, 0, 0, 1, 0, 0, 1, 1, 1, 0, 0] = .seq (g8C [1, 1, 1, 1, 1, 1, 1, 1, 0, 1, 0, 0, 1, 0, 0, 1, 1, 1, 0, 0, 0]) (g8C [1, 1, 1, 1, 1, 1, 1, 1, 0, 1, 0, 0, 1, 0, 0, 1, 1, 1, 0, 0, 1]) := by kernel_rfl
theorem g8nz2hruh : g8C [1, 1, 1, 1, 1, 1, 1, 1, 0, 1, 0, 0, 1, 0, 0, 1, 1, 1, 0, 0, 1] = .seq (g8C [1, 1, 1, 1, 1, 1, 1, 1, 0, 1, 0, 0, 1, 0, 0, 1, 1, 1, 0, 0, 1, 0]) (g8C [1, 1, 1, 1, 1, 1, 1, 1, 0, 1, 0, 0, 1, 0, 0, 1, 1, 1, 0, 0, 1, 1]) := by kernel_rfl
theorem g8nz4zjoy : g8C [1, 1, 1, 1, 1, 1, 1, 1, 0, 1, 0, 0, 1, 0, 0, 1, 1, 1, 0, 0, 1, 0] = .block 5 (g8C [1, 1, 1, 1, 1, 1, 1, 1, 0, 1, 0, 0, 1, 0, 0, 1, 1, 1, 0, 0, 1, 0, 0]) := by kernel_rfl
theorem g8nz9z3dw : g8C [1, 1, 1, 1, 1, 1, 1, 1, 0, 1, 0, 0, 1, 0, 0, 1, 1, 1, 0, 0, 1, 0, 0] = .seq (g8C [1, 1, 1, 1, 1, 1, 1, 1, 0, 1, 0, 0, 1, 0, 0, 1, 1, 1, 0, 0, 1, 0, 0, 0]) (g8C [1, 1, 1, 1, 1, 1, 1, 1, 0, 1, 0, 0, 1, 0, 0, 1, 1, 1, 0, 0, 1, 0, 0, 1]) := by kernel_rfl
theorem g8ezmfym (Lz35m : V → V → V → V → V → St → Res) : g8X (g8C [1, 1, 1, 1, 1, 1, 1, 1, 0, 1, 0, 0, 1, 0, 0, 1, 1, 1, 0]) (g8k5 Lz35m) = fun env st => g8bzmfym Lz35m big (env 3) (env 5) (env 7) (env 8) (env 13) (env 14) (env 15) st := by
  have key : ∀ n, aloop (g8X (g8C [1, 1, 1, 1, 1, 1, 1, 1, 0, 1, 0, 0, 1, 0, 0, 1, 1, 1, 0, 0])) (g8k5 Lz35m) n = fun env st => g8bzmfym Lz35m n (env 3) (env 5) (env 7) (env 8) (env 13) (env 14) (env 15) st := by
    intro n
    induction n with
    | zero => rfl
    | succ n ih =>
      have h : aloop (g8X (g8C [1, 1, 1, 1, 1, 1, 1, 1, 0, 1, 0, 0, 1, 0, 0, 1, 1, 1, 0, 0])) (g8k5 Lz35m) (n + 1) = g8X (g8C [1, 1, 1, 1, 1, 1, 1, 1, 0, 1, 0, 0, 1, 0, 0, 1, 1, 1, 0, 0]) (kSeq (aloop (g8X (g8C [1, 1, 1, 1, 1, 1, 1, 1, 0, 1, 0, 0, 1, 0, 0, 1, 1, 1, 0, 0])) (g8k5 Lz35m) n) (g8k5 Lz35m)) := rfl
      rw [h, ih]
      refine Eq.trans (g8seq g8nz18vx8 ((g8seq g8nz2hruh rfl).trans ((g8blk g8nz4zjoy).trans (g8seq g8nz9z3dw (g8ezjy6rt Lz35m (g8bzmfym Lz35m n)))))) ?_
      funext env st
      kernel_rfl
  exact (g8loop g8nzmfym).trans (key big)
noncomputable def g8bz5lzn (Lz35m : V → V → V → V → V → St → Res) (x3 : V) (x5 : V) (x7 : V) (x8 : V) (x13 : V) (x14 : V) (st : St) : Res :=
 g8bzmfym Lz35m big x3 x5 x7 x8 x13 x14 (.int .i64 0) st
theorem g8nz5lzn : g8C [1, 1, 1, 1, 1, 1, 1, 1, 0, 1, 0, 0, 1, 0, 0, 1, 1] = .seq (g8C [1, 1, 1, 1, 1, 1, 1, 1, 0, 1, 0, 0, 1, 0, 0, 1, 1, 0]) (g8C [1, 1, 1, 1, 1, 1, 1, 1, 0, 1, 0, 0, 1, 0, 0, 1, 1, 1]) := by kernel_rfl
theorem g8nzb7zb : g8C [1, 1, 1, 1, 1, 1, 1, 1, 0, 1, 0, 0, 1, 0, 0, 1, 1, 1] = .block 4 (g8C [1, 1, 1, 1, 1, 1, 1, 1, 0, 1, 0, 0, 1, 0, 0, 1, 1, 1, 0]) := by kernel_rfl
theorem g8ez5lzn (Lz35m : V → V → V → V → V → St → Res) : g8X (g8C [1, 1, 1, 1, 1, 1, 1, 1, 0, 1, 0, 0, 1, 0, 0, 1, 1]) (g8k4 Lz35m) = fun env st => g8bz5lzn Lz35m (env 3) (env 5) (env 7) (env 8) (env 13) (env 14) st := by
  refine Eq.trans (g8seq g8nz5lzn ((g8blk g8nzb7zb).trans (g8ezmfym Lz35m))) ?_
  funext env st
  kernel_rfl
noncomputable def g8bz35m : Nat → V → V → V → V → V → St → Res
| 0, _, _, _, _, _, _ => none
| n + 1, x3, x5, x7, x8, x13, st =>
 A.bin .lss x13 (.int .i64 8) fun a1 =>
 A.cond a1
 (A.ret (s16 [x3.er1] st) fun a2 z3 =>
 A.lenL a2 fun a4 =>
 A.ret (s22 [x3.er1] z3) fun a5 z6 =>
 A.min (.int .i64 64) a5 fun a7 =>
 A.eql 2 true a4 a7 fun a8 =>
 A.guard a8 false
 (A.ret (s22 [x3.er1] z6) fun a9 z10 =>
 A.bin .sub x7 x8 fun a11 =>
 A.eql 2 true a9 a11 fun a12 =>
 A.cond a12
 (some (.ret ((.bool false) : V).er1, z10))
 (g8bz5lzn (g8bz35m n) x3 x5 x7 x8 x13 a2 z10))
 (some (.ret ((.bool false) : V).er1, z6)))
 (A.eql 2 false x8 x7 fun a13 =>
 A.guard a13 true
 (A.ret (s22 [x3.er1] st) fun a14 z15 =>
 A.eql 2 false a14 (.int .i64 0) fun a16 =>
 A.guard a16 true
 (A.ret (s11 [] z15) fun a17 z18 =>
 some (.ret a17.er1, z18))
 (some (.ret ((.bool false) : V).er1, z15)))
 (some (.ret ((.bool false) : V).er1, st)))
theorem g8nz35m : g8C [1, 1, 1, 1, 1, 1, 1, 1, 0, 1, 0] = .loop (g8C [1, 1, 1, 1, 1, 1, 1, 1, 0, 1, 0, 0]) := by kernel_rfl
theorem g8nz6b8 : g8C [1, 1, 1, 1, 1, 1, 1, 1, 0, 1, 0, 0] = .seq (g8C [1, 1, 1, 1, 1, 1, 1, 1, 0, 1, 0, 0, 0]) (g8C [1, 1, 1, 1, 1, 1, 1, 1, 0, 1, 0, 0, 1]) := by kernel_rfl
theorem g8nzcmh : g8C [1, 1, 1, 1, 1, 1, 1, 1, 0, 1, 0, 0, 1] = .seq (g8C [1, 1, 1, 1, 1, 1, 1, 1, 0, 1, 0, 0, 1, 0]) (g8C [1, 1, 1, 1, 1, 1, 1, 1, 0, 1, 0, 0, 1, 1]) := by kernel_rfl
theorem g8nzp8y : g8C [1, 1, 1, 1, 1, 1, 1, 1, 0, 1, 0, 0, 1, 0] = .block 3 (g8C [1, 1, 1, 1, 1, 1, 1, 1, 0, 1, 0, 0, 1, 0, 0]) := by kernel_rfl
theorem g8nz1ehw : g8C [1, 1, 1, 1, 1, 1, 1, 1, 0, 1, 0, 0, 1, 0, 0] = .seq (g8C [1, 1, 1, 1, 1, 1, 1, 1, 0, 1, 0, 0, 1, 0, 0, 0]) (g8C [1, 1, 1, 1, 1, 1, 1, 1, 0, 1, 0, 0, 1, 0, 0, 1]) := by kernel_rfl
theorem g8nz2szt : g8C [1, 1, 1, 1, 1, 1, 1, 1, 0, 1, 0, 0, 1, 0, 0, 1] = .seq (g8C [1, 1, 1, 1, 1, 1, 1, 1, 0, 1, 0, 0, 1, 0, 0, 1, 0]) (g8C [1, 1, 1, 1, 1, 1, 1, 1, 0, 1, 0, 0, 1, 0, 0, 1, 1]) := by kernel_rfl
theorem g8ez35m : g8X (g8C [1, 1, 1, 1, 1, 1, 1, 1, 0, 1, 0]) (g8k1) = fun env st => g8bz35m big (env 3) (env 5) (env 7) (env 8) (env 13) st := by
  have key : ∀ n, aloop (g8X (g8C [1, 1, 1, 1, 1, 1, 1, 1, 0, 1, 0, 0])) (g8k1) n = fun env st => g8bz35m n (env 3) (env 5) (env 7) (env 8) (env 13) st := by
    intro n
    induction n with
    | zero => rfl
    | succ n ih =>
      have h : aloop (g8X (g8C [1, 1, 1, 1, 1, 1, 1, 1, 0, 1, 0, 0])) (g8k1) (n + 1) = g8X (g8C [1, 1, 1, 1, 1, 1, 1, 1, 0, 1, 0, 0]) (kSeq (aloop (g8X (g8C [1, 1, 1, 1, 1, 1, 1, 1, 0, 1, 0, 0])) (g8k1) n) (g8k1)) := rfl
      rw [h, ih]
      refine Eq.trans (g8seq g8nz6b8 ((g8seq g8nzcmh rfl).trans ((g8blk g8nzp8y).trans (g8seq g8nz1ehw (g8seq g8nz2szt (g8ez5lzn (g8bz35m n))))))) ?_
      funext env st
      kernel_rfl
  exact (g8loop g8nz35m).trans (key big)
noncomputable def g8bze7 (x3 : V) (x5 : V) (x7 : V) (x8 : V) (st : St) : Res :=
 g8bz35m big x3 x5 x7 x8 (.int .i64 0) st
theorem g8nze7 : g8C [1, 1, 1, 1, 1, 1, 1, 1] = .seq (g8C [1, 1, 1, 1, 1, 1, 1, 1, 0]) (g8C [1, 1, 1, 1, 1, 1, 1, 1, 1]) := by kernel_rfl
theorem g8nzse : g8C [1, 1, 1, 1, 1, 1, 1, 1, 0] = .seq (g8C [1, 1, 1, 1, 1, 1, 1, 1, 0, 0]) (g8C [1, 1, 1, 1, 1, 1, 1, 1, 0, 1]) := by kernel_rfl
theorem g8nz1kt : g8C [1, 1, 1, 1, 1, 1, 1, 1, 0, 1] = .block 2 (g8C [1, 1, 1, 1, 1, 1, 1, 1, 0, 1, 0]) := by kernel_rfl
theorem g8eze7 : g8X (g8C [1, 1, 1, 1, 1, 1, 1, 1]) (g8kr) = fun env st => g8bze7 (env 3) (env 5) (env 7) (env 8) st := by
  refine Eq.trans ((g8seq g8nze7 rfl).trans (g8seq g8nzse ((g8blk g8nz1kt).trans (g8ez35m)))) ?_
  funext env st
  kernel_rfl
noncomputable def g8k11 : Kon := kSeq (fun env st => g8bze7 (env 3) (env 5) (env 7) (env 8) st) (g8kr)
noncomputable def g8bz6az (x3 : V) (x5 : V) (x7 : V) (x8 : V) (x12 : V) (st : St) : Res :=
 A.faddr 1 x12 fun a1 =>
 A.load false 1 a1 st fun a2 z3 =>
 A.iaddr 1 a2 (.int .i64 0) fun a4 =>
 A.load false 1 a4 z3 fun a5 z6 =>
 A.ret (s19 [x3.er1, a5.er1] z6) fun a7 z8 =>
 g8bze7 x3 x5 x7 x8 z8
theorem g8ez6az : g8X (g8C [1, 1, 1, 1, 1, 1, 1, 0, 1, 0, 1, 1]) (g8k11) = fun env st => g8bz6az (env 3) (env 5) (env 7) (env 8) (env 12) st := by
  refine Eq.trans (Eq.refl (g8X (g8C [1, 1, 1, 1, 1, 1, 1, 0, 1, 0, 1, 1]) (g8k11))) ?_
  funext env st
  kernel_rfl
noncomputable def g8bz73 (x3 : V) (x5 : V) (x7 : V) (x8 : V) (st : St) : Res :=
 A.bin .gtr x7 (.int .i64 0) fun a1 =>
 A.cond a1
 (A.ret (s16 [x3.er1] st) fun a2 z3 =>
 A.iaddr 1 a2 (.int .i64 0) fun a4 =>
 A.load false 1 a4 z3 fun a5 z6 =>
 A.ret (s19 [x5.er1, a5.er1] z6) fun a7 z8 =>
 A.box (.agg [(.lst [] 1), (.lst [] 1), (.bool false)]) z8 fun a9 z10 =>
 A.store 3 a9 a7 z10 fun z11 =>
 A.faddr 0 a9 fun a12 =>
 A.load false 1 a12 z11 fun a13 z14 =>
 A.lenL a13 fun a15 =>
 A.eql 2 true a15 (.int .i64 0) fun a16 =>
 A.guard a16 false
 (A.faddr 1 a9 fun a17 =>
 A.load false 1 a17 z14 fun a18 z19 =>
 A.lenL a18 fun a20 =>
 A.eql 2 true a20 (.int .i64 1) fun a21 =>
 A.cond a21
 (some (.ret ((.bool false) : V).er1, z19))
 (g8bz6az x3 x5 x7 x8 a9 z19))
 (some (.ret ((.bool false) : V).er1, z14)))
 (g8bze7 x3 x5 x7 x8 st)
theorem g8nz73 : g8C [1, 1, 1, 1, 1, 1, 1] = .seq (g8C [1, 1, 1, 1, 1, 1, 1, 0]) (g8C [1, 1, 1, 1, 1, 1, 1, 1]) := by kernel_rfl
theorem g8nze6 : g8C [1, 1, 1, 1, 1, 1, 1, 0] = .seq (g8C [1, 1, 1, 1, 1, 1, 1, 0, 0]) (g8C [1, 1, 1, 1, 1, 1, 1, 0, 1]) := by kernel_rfl
theorem g8nzsd : g8C [1, 1, 1, 1, 1, 1, 1, 0, 1] = .cond (.tmp 76) (g8C [1, 1, 1, 1, 1, 1, 1, 0, 1, 0]) (g8C [1, 1, 1, 1, 1, 1, 1, 0, 1, 1]) := by kernel_rfl
theorem g8nz1kq : g8C [1, 1, 1, 1, 1, 1, 1, 0, 1, 0] = .seq (g8C [1, 1, 1, 1, 1, 1, 1, 0, 1, 0, 0]) (g8C [1, 1, 1, 1, 1, 1, 1, 0, 1, 0, 1]) := by kernel_rfl
theorem g8nz35h : g8C [1, 1, 1, 1, 1, 1, 1, 0, 1, 0, 1] = .seq (g8C [1, 1, 1, 1, 1, 1, 1, 0, 1, 0, 1, 0]) (g8C [1, 1, 1, 1, 1, 1, 1, 0, 1, 0, 1, 1]) := by kernel_rfl
theorem g8ez73 : g8X (g8C [1, 1, 1, 1, 1, 1, 1]) (g8kr) = fun env st => g8bz73 (env 3) (env 5) (env 7) (env 8) st := by
  refine Eq.trans ((g8seq g8nz73 (g8eze7)).trans (g8seq g8nze6 (g8cond g8nzsd (g8seq g8nz1kq (g8seq g8nz35h (g8ez6az))) rfl))) ?_
  funext env st
  kernel_rfl
noncomputable def g8k12 : Kon := kSeq (fun env st => g8bz73 (env 3) (env 5) (env 7) (env 8) st) (g8kr)
noncomputable def g8k13 : Kon := kBlk 0 (g8k12)
noncomputable def g8k14 (Lzsa : V → V → V → V → V → St → Res) : Kon := kSeq (fun env st => Lzsa (env 3) (env 5) (env 7) (env 8) (env 9) st) (g8k13)
noncomputable def g8k15 (Lzsa : V → V → V → V → V → St → Res) : Kon := kSeq (g8X (g8C [1, 1, 1, 1, 1, 1, 0, 1, 0, 0, 1, 1]) (g8k14 Lzsa)) (g8k14 Lzsa)
noncomputable def g8k16 (Lzsa : V → V → V → V → V → St → Res) : Kon := kBlk 1 (g8k15 Lzsa)
noncomputable def g8k17 (Lzsa : V → V → V → V → V → St → Res) : Kon := kSeq (g8X (g8C [1, 1, 1, 1, 1, 1, 0, 1, 0, 0, 1, 0, 0, 1, 1]) (g8k16 Lzsa)) (g8k16 Lzsa)
noncomputable def g8bz1eaa_12 (Lzsa : V → V → V → V → V → St → Res) (x3 : V) (x5 : V) (x7 : V) (x8 : V) (x9 : V) (x10 : V) (x66 : V) (st : St) : Res :=
 A.guard x66 false
 (A.lenL x10 fun a1 =>
 A.eql 2 true a1 (.int .i64 1) fun a2 =>
 A.guardT a2 true
 (A.bin .lss x9 (.int .i64 64) fun a3 =>
 A.cond a3
 (some (.ret ((.bool false) : V).er1, st))
 (A.bin .add x9 (.int .i64 1) fun a4 =>
 Lzsa x3 x5 x7 x8 a4 st))
 (A.bin .add x9 (.int .i64 1) fun a5 =>
 Lzsa x3 x5 x7 x8 a5 st)
 (A.guardT a2 true
 (A.bin .lss (.tup []) (.int .i64 64) fun a6 =>
 A.cond a6
 (some (.ret ((.bool false) : V).er1, st))
 (A.bin .add x9 (.int .i64 1) fun a7 =>
 Lzsa x3 x5 x7 x8 a7 st))
 (A.bin .add x9 (.int .i64 1) fun a8 =>
 Lzsa x3 x5 x7 x8 a8 st)
 (A.pick a2 (.tup []) (.bool false) fun a9 =>
 A.cond a9
 (some (.ret ((.bool false) : V).er1, st))
 (A.bin .add x9 (.int .i64 1) fun a10 =>
 Lzsa x3 x5 x7 x8 a10 st))))
 (some (.ret ((.bool false) : V).er1, st))
theorem g8ez1eaa_12 (Lzsa : V → V → V → V → V → St → Res) : (fun env st => aops Try.prog g8mu g8T 171 (rops (g8C [1, 1, 1, 1, 1, 1, 0, 1, 0, 0, 1, 0, 0, 1, 0])) [12, 13, 14, 15, 16, 17, 18, 19] env st ((g8k17 Lzsa) .normal)) = fun env st => g8bz1eaa_12 Lzsa (env 3) (env 5) (env 7) (env 8) (env 9) (env 10) (env 66) st := by
  refine Eq.trans (Eq.refl _) ?_
  funext env st
  kernel_rfl
noncomputable def g8bzp55 (Lzsa : V → V → V → V → V → St → Res) (x3 : V) (x5 : V) (x7 : V) (x8 : V) (x9 : V) (x10 : V) (x11 : V) (st : St) : Res :=
 A.eql 2 true x11 (.int .i64 0) fun a1 =>
 A.guard a1 false
 (A.lenL x10 fun a2 =>
 A.eql 2 true a2 (.int .i64 0) fun a3 =>
 A.guardT a3 true
 (A.bin .geq x9 (.int .i64 64) fun a4 =>
 g8bz1eaa_12 Lzsa x3 x5 x7 x8 x9 x10 a4 st)
 (g8bz1eaa_12 Lzsa x3 x5 x7 x8 x9 x10 (.bool false) st)
 (A.guardT a3 true
 (A.bin .geq (.tup []) (.int .i64 64) fun a5 =>
 g8bz1eaa_12 Lzsa x3 x5 x7 x8 x9 x10 a5 st)
 (g8bz1eaa_12 Lzsa x3 x5 x7 x8 x9 x10 (.bool false) st)
 (A.pick a3 (.tup []) (.bool false) fun a6 =>
 g8bz1eaa_12 Lzsa x3 x5 x7 x8 x9 x10 a6 st)))
 (g8bz1eaa_12 Lzsa x3 x5 x7 x8 x9 x10 (.bool true) st)
theorem g8nzp55 : g8C [1, 1, 1, 1, 1, 1, 0, 1, 0, 0, 1, 0, 0, 1] = .seq (g8C [1, 1, 1, 1, 1, 1, 0, 1, 0, 0, 1, 0, 0, 1, 0]) (g8C [1, 1, 1, 1, 1, 1, 0, 1, 0, 0, 1, 0, 0, 1, 1]) := by kernel_rfl
theorem g8rgz1eaa : g8C [1, 1, 1, 1, 1, 1, 0, 1, 0, 0, 1, 0, 0, 1, 0] = .region 11 (rops (g8C [1, 1, 1, 1, 1, 1, 0, 1, 0, 0, 1, 0, 0, 1, 0])) false := by kernel_rfl
theorem g8rgz1eaal : List.range (rops (g8C [1, 1, 1, 1, 1, 1, 0, 1, 0, 0, 1, 0, 0, 1, 0])).size = [0, 1, 2, 3, 4, 5, 6, 7, 8, 9, 10, 11] ++ [12, 13, 14, 15, 16, 17, 18, 19] := by kernel_rfl
theorem g8ezp55 (Lzsa : V → V → V → V → V → St → Res) : g8X (g8C [1, 1, 1, 1, 1, 1, 0, 1, 0, 0, 1, 0, 0, 1]) (g8k16 Lzsa) = fun env st => g8bzp55 Lzsa (env 3) (env 5) (env 7) (env 8) (env 9) (env 10) (env 11) st := by
  refine Eq.trans ((g8seq g8nzp55 rfl).trans (g8reg g8rgz1eaa g8rgz1eaal (g8ez1eaa_12 Lzsa))) ?_
  funext env st
  kernel_rfl
noncomputable def g8bzsa : Nat → V → V → V → V → V → St → Res
| 0, _, _, _, _, _, _ => none
| n + 1, x3, x5, x7, x8, x9, st =>
 A.bin .lss x9 x7 fun a1 =>
 A.cond a1
 (A.bslice 1 (.int .i64 0) 1 [(0, x9)] fun a2 =>
 A.build [(.int .i64 0), (.lst [] 1), (.lst [] 1), (.lst [] 1)] [(0, 1, (.int .i64 5)), (1, 1, a2)] fun a3 =>
 A.ret (s13 [x3.er1, a3.er1] st) fun a4 z5 =>
 A.ext a4 0 fun a6 =>
 A.ext a4 1 fun a7 =>
 g8bzp55 (g8bzsa n) x3 x5 x7 x8 x9 a6 a7 z5)
 (g8bz73 x3 x5 x7 x8 st)
theorem g8nzsa : g8C [1, 1, 1, 1, 1, 1, 0, 1, 0] = .loop (g8C [1, 1, 1, 1, 1, 1, 0, 1, 0, 0]) := by kernel_rfl
theorem g8nz1kk : g8C [1, 1, 1, 1, 1, 1, 0, 1, 0, 0] = .seq (g8C [1, 1, 1, 1, 1, 1, 0, 1, 0, 0, 0]) (g8C [1, 1, 1, 1, 1, 1, 0, 1, 0, 0, 1]) := by kernel_rfl
theorem g8nz355 : g8C [1, 1, 1, 1, 1, 1, 0, 1, 0, 0, 1] = .seq (g8C [1, 1, 1, 1, 1, 1, 0, 1, 0, 0, 1, 0]) (g8C [1, 1, 1, 1, 1, 1, 0, 1, 0, 0, 1, 1]) := by kernel_rfl
theorem g8nz6aa : g8C [1, 1, 1, 1, 1, 1, 0, 1, 0, 0, 1, 0] = .block 1 (g8C [1, 1, 1, 1, 1, 1, 0, 1, 0, 0, 1, 0, 0]) := by kernel_rfl
theorem g8nzckk : g8C [1, 1, 1, 1, 1, 1, 0, 1, 0, 0, 1, 0, 0] = .seq (g8C [1, 1, 1, 1, 1, 1, 0, 1, 0, 0, 1, 0, 0, 0]) (g8C [1, 1, 1, 1, 1, 1, 0, 1, 0, 0, 1, 0, 0, 1]) := by kernel_rfl
theorem g8ezsa : g8X (g8C [1, 1, 1, 1, 1, 1, 0, 1, 0]) (g8k13) = fun env st => g8bzsa big (env 3) (env 5) (env 7) (env 8) (env 9) st := by
  have key : ∀ n, aloop (g8X (g8C [1, 1, 1, 1, 1, 1, 0, 1, 0, 0])) (g8k13) n = fun env st => g8bzsa n (env 3) (env 5) (env 7) (env 8) (env 9) st := by
    intro n
    induction n with
    | zero => rfl
    | succ n ih =>
      have h : aloop (g8X (g8C [1, 1, 1, 1, 1, 1, 0, 1, 0, 0])) (g8k13) (n + 1) = g8X (g8C [1, 1, 1, 1, 1, 1, 0, 1, 0, 0]) (kSeq (aloop (g8X (g8C [1, 1, 1, 1, 1, 1, 0, 1, 0, 0])) (g8k13) n) (g8k13)) := rfl
      rw [h, ih]
      refine Eq.trans (g8seq g8nz1kk ((g8seq g8nz355 rfl).trans ((g8blk g8nz6aa).trans (g8seq g8nzckk (g8ezp55 (g8bzsa n)))))) ?_
      funext env st
      kernel_rfl
  exact (g8loop g8nzsa).trans (key big)
noncomputable def g8b1111 (x0 : V) (x3 : V) (x5 : V) (st : St) : Res :=
 A.bin .and x0 (.int .i64 65535) fun a1 =>
 A.bin .rem a1 (.int .i64 200) fun a2 =>
 g8bzsa big x3 x5 a2 (.int .i64 0) (.int .i64 0) st
theorem g8n1111 : g8C [1, 1, 1, 1] = .seq (g8C [1, 1, 1, 1, 0]) (g8C [1, 1, 1, 1, 1]) := by kernel_rfl
theorem g8n11111 : g8C [1, 1, 1, 1, 1] = .seq (g8C [1, 1, 1, 1, 1, 0]) (g8C [1, 1, 1, 1, 1, 1]) := by kernel_rfl
theorem g8nz3j : g8C [1, 1, 1, 1, 1, 1] = .seq (g8C [1, 1, 1, 1, 1, 1, 0]) (g8C [1, 1, 1, 1, 1, 1, 1]) := by kernel_rfl
theorem g8nz72 : g8C [1, 1, 1, 1, 1, 1, 0] = .seq (g8C [1, 1, 1, 1, 1, 1, 0, 0]) (g8C [1, 1, 1, 1, 1, 1, 0, 1]) := by kernel_rfl
theorem g8nze5 : g8C [1, 1, 1, 1, 1, 1, 0, 1] = .block 0 (g8C [1, 1, 1, 1, 1, 1, 0, 1, 0]) := by kernel_rfl
theorem g8e1111 : g8X (g8C [1, 1, 1, 1]) (g8kr) = fun env st => g8b1111 (env 0) (env 3) (env 5) st := by
  refine Eq.trans (g8seq g8n1111 (g8seq g8n11111 ((g8seq g8nz3j (g8ez73)).trans (g8seq g8nz72 ((g8blk g8nze5).trans (g8ezsa)))))) ?_
  funext env st
  kernel_rfl
noncomputable def g8b111 (x0 : V) (x3 : V) (x4 : V) (x5 : V) (x6 : V) (st : St) : Res :=
 A.eql 2 true x4 (.int .i64 0) fun a1 =>
 A.guard a1 false
 (A.eql 2 true x6 (.int .i64 0) fun a2 =>
 A.guard a2 false
 (A.eql 4 false x3 .ptr0 fun a3 =>
 A.guard a3 false
 (A.eql 4 false x5 .ptr0 fun a4 =>
 A.cond a4
 (some (.ret ((.bool false) : V).er1, st))
 (g8b1111 x0 x3 x5 st))
 (some (.ret ((.bool false) : V).er1, st)))
 (some (.ret ((.bool false) : V).er1, st)))
 (some (.ret ((.bool false) : V).er1, st))
theorem g8n111 : g8C [1, 1, 1] = .seq (g8C [1, 1, 1, 0]) (g8C [1, 1, 1, 1]) := by kernel_rfl
theorem g8e111 : g8X (g8C [1, 1, 1]) (g8kr) = fun env st => g8b111 (env 0) (env 3) (env 4) (env 5) (env 6) st := by
  refine Eq.trans (g8seq g8n111 (g8e1111)) ?_
  funext env st
  kernel_rfl
noncomputable def f8 (x0 : V) (st : St) : Res :=
 A.ret (s9 [((.int .i64 1) : V).er1] st) fun a1 z2 =>
 A.ext a1 0 fun a3 =>
 A.ext a1 1 fun a4 =>
 A.ret (s9 [((.int .i64 1) : V).er1] z2) fun a5 z6 =>
 A.ext a5 0 fun a7 =>
 A.ext a5 1 fun a8 =>
 g8b111 x0 a3 a4 a7 a8 z6
theorem g8nr : g8C [] = .seq (g8C [0]) (g8C [1]) := by kernel_rfl
theorem g8n1 : g8C [1] = .seq (g8C [1, 0]) (g8C [1, 1]) := by kernel_rfl
theorem g8n11 : g8C [1, 1] = .seq (g8C [1, 1, 0]) (g8C [1, 1, 1]) := by kernel_rfl
theorem g8er (env : Env) (st : St) : g8X (g8C []) g8kr env st = f8 (env 0) st := by
  rw [(g8seq g8nr (g8seq g8n1 (g8seq g8n11 (g8e111))))]
  kernel_rfl
theorem s8_eq (x0 : V) (st : St) : s8 [x0] st = f8 x0 st := by
  have h : afn Try.prog g8mu g8T big (areg Try.prog g8mu g8T) 8 [x0] st = g8X (g8C []) g8kr (fun t => [x0].getD t (.tup [])) st := by kernel_rfl
  rw [s8, sealF_eq]
  exact h.trans (g8er _ st)
end Go.Ab
