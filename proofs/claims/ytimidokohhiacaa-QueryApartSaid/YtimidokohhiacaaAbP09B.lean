import Derived.Test.YtimidokohhiacaaAbQuiet
import Derived.Test.YtimidokohhiacaaAbN10e
namespace Go.Ab
open Go.Proofs
set_option linter.unusedVariables false
set_option maxRecDepth 100000
/-! sinew/sinewlaw09.QueryApart -/
def g11mu : Nat → Bool := fun _ => false
noncomputable def g11T : Tbl := tget [(13, s13), (15, s15), (16, s16), (17, s17)]
theorem g11t : SimT Try.prog g11T := simT_cons sim13 ( simT_cons sim15 ( simT_cons sim16 ( simT_cons sim17 (simT_nil))))
noncomputable def s11 : Fn := sealF (afn Try.prog g11mu g11T big (areg Try.prog g11mu g11T) 11)
theorem sim11 : Sim Try.prog 11 s11 := (afn_sim g11t (fun m => areg_sound g11t hmix m) 11 (by kernel_rfl)).sealed
noncomputable def g11C (p : List Nat) : Code := sub (match Try.f11.body with | some c => c | none => .skip) p
noncomputable def g11X (c : Code) (K : Kon) : Env → St → Res := aexec Try.prog g11mu g11T big 45 (areg Try.prog g11mu g11T 45) c K
noncomputable def g11kr : Kon := aresK Try.prog Try.f11.results.toList
theorem g11reg {c : Code} {K : Kon} {G : Env → St → Res} {id : Nat} {ops : Array Oper} {l1 l2 : List Nat} (hc : c = .region id ops false) (hl : List.range ops.size = l1 ++ l2) (h : (fun env st => aops Try.prog g11mu g11T 45 ops l2 env st (K .normal)) = G) : g11X c K = fun env st => aops Try.prog g11mu g11T 45 ops l1 env st G := reg_cut hc hl h
theorem g11seq {c x y : Code} {K : Kon} {G : Env → St → Res} (hc : c = .seq x y) (hy : g11X y K = G) : g11X c K = g11X x (kSeq G K) := seq_cut hc hy
theorem g11blk {c x : Code} {K : Kon} {i : Nat} (hc : c = .block i x) : g11X c K = g11X x (kBlk i K) := blk_cut hc
theorem g11loop {c x : Code} {K : Kon} (hc : c = .loop x) : g11X c K = aloop (g11X x) K big := loop_cut hc
theorem g11cond {c x y : Code} {K : Kon} {v : Operand} {F G : Env → St → Res} (hc : c = .cond v x y) (hx : g11X x K = F) (hy : g11X y K = G) : g11X c K = condF v F G := cond_cut hc hx hy
noncomputable def g11b11111 (x2 : V) (x3 : V) (x5 : V) (x7 : V) (st : St) : Res :=
 A.eql 3 false x5 x7 fun a1 =>
 A.load true 4 x2 st fun a2 z3 =>
 A.load true 4 x3 z3 fun a4 z5 =>
 A.ret (s15 [a2.er1, a4.er1] z5) fun a6 z7 =>
 A.eql 1 false a1 a6 fun a8 =>
 A.guard a8 true
 (A.ret (s13 [] z7) fun a9 z10 =>
 some (.ret a9.er1, z10))
 (some (.ret ((.bool false) : V).er1, z7))
theorem g11e11111 : g11X (g11C [1, 1, 1, 1, 1]) (g11kr) = fun env st => g11b11111 (env 2) (env 3) (env 5) (env 7) st := by
  refine Eq.trans (Eq.refl (g11X (g11C [1, 1, 1, 1, 1]) (g11kr))) ?_
  funext env st
  kernel_rfl
noncomputable def g11b1111 (x2 : V) (x3 : V) (x5 : V) (x6 : V) (x7 : V) (x8 : V) (st : St) : Res :=
 A.eql 2 true x6 (.int .i64 0) fun a1 =>
 A.guard a1 false
 (A.eql 2 true x8 (.int .i64 0) fun a2 =>
 A.cond a2
 (A.ret (s13 [] st) fun a3 z4 =>
 some (.ret a3.er1, z4))
 (g11b11111 x2 x3 x5 x7 st))
 (A.ret (s13 [] st) fun a5 z6 =>
 some (.ret a5.er1, z6))
theorem g11n1111 : g11C [1, 1, 1, 1] = .seq (g11C [1, 1, 1, 1, 0]) (g11C [1, 1, 1, 1, 1]) := by kernel_rfl
theorem g11e1111 : g11X (g11C [1, 1, 1, 1]) (g11kr) = fun env st => g11b1111 (env 2) (env 3) (env 5) (env 6) (env 7) (env 8) st := by
  refine Eq.trans (g11seq g11n1111 (g11e11111)) ?_
  funext env st
  kernel_rfl
noncomputable def g11b11 (x2 : V) (x3 : V) (st : St) : Res :=
 A.load true 4 x2 st fun a1 z2 =>
 A.ret (s17 [a1.er1] z2) fun a3 z4 =>
 A.ext a3 0 fun a5 =>
 A.ext a3 1 fun a6 =>
 A.load true 4 x3 z4 fun a7 z8 =>
 A.ret (s17 [a7.er1] z8) fun a9 z10 =>
 A.ext a9 0 fun a11 =>
 A.ext a9 1 fun a12 =>
 g11b1111 x2 x3 a5 a6 a11 a12 z10
theorem g11n11 : g11C [1, 1] = .seq (g11C [1, 1, 0]) (g11C [1, 1, 1]) := by kernel_rfl
theorem g11n111 : g11C [1, 1, 1] = .seq (g11C [1, 1, 1, 0]) (g11C [1, 1, 1, 1]) := by kernel_rfl
theorem g11e11 : g11X (g11C [1, 1]) (g11kr) = fun env st => g11b11 (env 2) (env 3) st := by
  refine Eq.trans (g11seq g11n11 (g11seq g11n111 (g11e1111))) ?_
  funext env st
  kernel_rfl
noncomputable def f11 (x0 : V) (x1 : V) (st : St) : Res :=
 A.box x0 st fun a1 z2 =>
 A.box x1 z2 fun a3 z4 =>
 A.load true 4 a1 z4 fun a5 z6 =>
 A.ret (s16 [a5.er1] z6) fun a7 z8 =>
 A.un .not a7 fun a9 =>
 A.guard a9 false
 (A.load true 4 a3 z8 fun a10 z11 =>
 A.ret (s16 [a10.er1] z11) fun a12 z13 =>
 A.un .not a12 fun a14 =>
 A.cond a14
 (A.ret (s13 [] z13) fun a15 z16 =>
 some (.ret a15.er1, z16))
 (g11b11 a1 a3 z13))
 (A.ret (s13 [] z8) fun a17 z18 =>
 some (.ret a17.er1, z18))
theorem g11nr : g11C [] = .seq (g11C [0]) (g11C [1]) := by kernel_rfl
theorem g11n1 : g11C [1] = .seq (g11C [1, 0]) (g11C [1, 1]) := by kernel_rfl
theorem g11er (env : Env) (st : St) : g11X (g11C []) g11kr env st = f11 (env 0) (env 1) st := by
  rw [(g11seq g11nr (g11seq g11n1 (g11e11)))]
  kernel_rfl
theorem s11_eq (x0 : V) (x1 : V) (st : St) : s11 [x0, x1] st = f11 x0 x1 st := by
  have h : afn Try.prog g11mu g11T big (areg Try.prog g11mu g11T) 11 [x0, x1] st = g11X (g11C []) g11kr (fun t => [x0, x1].getD t (.tup [])) st := by kernel_rfl
  rw [s11, sealF_eq]
  exact h.trans (g11er _ st)
end Go.Ab
