import Derived.Test.YtimidokohhiacaaAbQuiet
import Derived.Test.YtimidokohhiacaaAbA09y
namespace Go.Ab
open Go.Proofs
set_option linter.unusedVariables false
set_option maxRecDepth 100000
/-! sinew/sinewlaw09.QueryParses -/
def g3mu : Nat → Bool := fun _ => false
noncomputable def g3T : Tbl := tget [(12, s12), (13, s13), (14, s14), (15, s15)]
theorem g3t : SimT Try.prog g3T := simT_cons sim12 ( simT_cons sim13 ( simT_cons sim14 ( simT_cons sim15 (simT_nil))))
noncomputable def s3 : Fn := sealF (afn Try.prog g3mu g3T big (areg Try.prog g3mu g3T) 3)
theorem sim3 : Sim Try.prog 3 s3 := (afn_sim g3t (fun m => areg_sound g3t hmix m) 3 (by kernel_rfl)).sealed
noncomputable def g3C (p : List Nat) : Code := sub (match Try.f3.body with | some c => c | none => .skip) p
noncomputable def g3X (c : Code) (K : Kon) : Env → St → Res := aexec Try.prog g3mu g3T big 58 (areg Try.prog g3mu g3T 58) c K
noncomputable def g3kr : Kon := aresK Try.prog Try.f3.results.toList
theorem g3reg {c : Code} {K : Kon} {G : Env → St → Res} {id : Nat} {ops : Array Oper} {l1 l2 : List Nat} (hc : c = .region id ops false) (hl : List.range ops.size = l1 ++ l2) (h : (fun env st => aops Try.prog g3mu g3T 58 ops l2 env st (K .normal)) = G) : g3X c K = fun env st => aops Try.prog g3mu g3T 58 ops l1 env st G := reg_cut hc hl h
theorem g3seq {c x y : Code} {K : Kon} {G : Env → St → Res} (hc : c = .seq x y) (hy : g3X y K = G) : g3X c K = g3X x (kSeq G K) := seq_cut hc hy
theorem g3blk {c x : Code} {K : Kon} {i : Nat} (hc : c = .block i x) : g3X c K = g3X x (kBlk i K) := blk_cut hc
theorem g3loop {c x : Code} {K : Kon} (hc : c = .loop x) : g3X c K = aloop (g3X x) K big := loop_cut hc
theorem g3cond {c x y : Code} {K : Kon} {v : Operand} {F G : Env → St → Res} (hc : c = .cond v x y) (hx : g3X x K = F) (hy : g3X y K = G) : g3X c K = condF v F G := cond_cut hc hx hy
noncomputable def g3k0 : Kon := kSeq (g3X (g3C [1, 1, 1, 1, 1]) (g3kr)) (g3kr)
noncomputable def g3b11110_9 (x8 : V) (x11 : V) (x50 : V) (st : St) : Res :=
 A.guard x50 true
 (A.eql 2 false x8 x11 fun a1 =>
 A.guard a1 true
 (A.ret (s13 [] st) fun a2 z3 =>
 some (.ret a2.er1, z3))
 (some (.ret ((.bool false) : V).er1, st)))
 (some (.ret ((.bool false) : V).er1, st))
theorem g3e11110_9 : (fun env st => aops Try.prog g3mu g3T 58 (rops (g3C [1, 1, 1, 1, 0])) [9, 10, 11, 12, 13, 14, 15, 16] env st ((g3k0) .normal)) = fun env st => g3b11110_9 (env 8) (env 11) (env 50) st := by
  refine Eq.trans (Eq.refl _) ?_
  funext env st
  kernel_rfl
noncomputable def g3b1111 (x6 : V) (x7 : V) (x8 : V) (x9 : V) (x10 : V) (x11 : V) (st : St) : Res :=
 A.load true 4 x6 st fun a1 z2 =>
 A.load true 4 x9 z2 fun a3 z4 =>
 A.ret (s15 [a1.er1, a3.er1] z4) fun a5 z6 =>
 A.guard a5 true
 (A.eql 2 false x7 x10 fun a7 =>
 g3b11110_9 x8 x11 a7 z6)
 (g3b11110_9 x8 x11 (.bool false) z6)
theorem g3n1111 : g3C [1, 1, 1, 1] = .seq (g3C [1, 1, 1, 1, 0]) (g3C [1, 1, 1, 1, 1]) := by kernel_rfl
theorem g3rg11110 : g3C [1, 1, 1, 1, 0] = .region 6 (rops (g3C [1, 1, 1, 1, 0])) false := by kernel_rfl
theorem g3rg11110l : List.range (rops (g3C [1, 1, 1, 1, 0])).size = [0, 1, 2, 3, 4, 5, 6, 7, 8] ++ [9, 10, 11, 12, 13, 14, 15, 16] := by kernel_rfl
theorem g3e1111 : g3X (g3C [1, 1, 1, 1]) (g3kr) = fun env st => g3b1111 (env 6) (env 7) (env 8) (env 9) (env 10) (env 11) st := by
  refine Eq.trans ((g3seq g3n1111 rfl).trans (g3reg g3rg11110 g3rg11110l (g3e11110_9))) ?_
  funext env st
  kernel_rfl
noncomputable def g3b11 (x0 : V) (st : St) : Res :=
 A.ret (s12 [x0.er1] st) fun a1 z2 =>
 A.ext a1 0 fun a3 =>
 A.ext a1 1 fun a4 =>
 A.ext a1 2 fun a5 =>
 A.box (.agg [(.int .i64 0), (.lst [] 1), (.lst [] 1), (.lst [] 1)]) z2 fun a6 z7 =>
 A.store 4 a6 a3 z7 fun z8 =>
 A.ret (s14 [x0.er1] z8) fun a9 z10 =>
 A.ext a9 0 fun a11 =>
 A.ext a9 1 fun a12 =>
 A.ext a9 2 fun a13 =>
 A.box (.agg [(.int .i64 0), (.lst [] 1), (.lst [] 1), (.lst [] 1)]) z10 fun a14 z15 =>
 A.store 4 a14 a11 z15 fun z16 =>
 g3b1111 a6 a4 a5 a14 a12 a13 z16
theorem g3n11 : g3C [1, 1] = .seq (g3C [1, 1, 0]) (g3C [1, 1, 1]) := by kernel_rfl
theorem g3n111 : g3C [1, 1, 1] = .seq (g3C [1, 1, 1, 0]) (g3C [1, 1, 1, 1]) := by kernel_rfl
theorem g3e11 : g3X (g3C [1, 1]) (g3kr) = fun env st => g3b11 (env 0) st := by
  refine Eq.trans (g3seq g3n11 (g3seq g3n111 (g3e1111))) ?_
  funext env st
  kernel_rfl
noncomputable def g3k1 : Kon := kSeq (fun env st => g3b11 (env 0) st) (g3kr)
noncomputable def g3b10101 (x4 : V) (x5 : V) (st : St) : Res :=
 A.eql 2 false x4 (.int .i64 0) fun a1 =>
 A.guard a1 true
 (A.eql 2 false x5 (.int .i64 1) fun a2 =>
 A.guard a2 true
 (A.ret (s13 [] st) fun a3 z4 =>
 some (.ret a3.er1, z4))
 (some (.ret ((.bool false) : V).er1, st)))
 (some (.ret ((.bool false) : V).er1, st))
theorem g3e10101 : g3X (g3C [1, 0, 1, 0, 1]) (g3k1) = fun env st => g3b10101 (env 4) (env 5) st := by
  refine Eq.trans (Eq.refl (g3X (g3C [1, 0, 1, 0, 1]) (g3k1))) ?_
  funext env st
  kernel_rfl
noncomputable def f3 (x0 : V) (st : St) : Res :=
 A.lenS x0 fun a1 =>
 A.bin .gtr a1 (.int .i64 4096) fun a2 =>
 A.cond a2
 (A.ret (s12 [x0.er1] st) fun a3 z4 =>
 A.ext a3 0 fun a5 =>
 A.ext a3 1 fun a6 =>
 A.ext a3 2 fun a7 =>
 A.box (.agg [(.int .i64 0), (.lst [] 1), (.lst [] 1), (.lst [] 1)]) z4 fun a8 z9 =>
 A.store 4 a8 a5 z9 fun z10 =>
 g3b10101 a6 a7 z10)
 (g3b11 x0 st)
theorem g3nr : g3C [] = .seq (g3C [0]) (g3C [1]) := by kernel_rfl
theorem g3n1 : g3C [1] = .seq (g3C [1, 0]) (g3C [1, 1]) := by kernel_rfl
theorem g3n10 : g3C [1, 0] = .seq (g3C [1, 0, 0]) (g3C [1, 0, 1]) := by kernel_rfl
theorem g3n101 : g3C [1, 0, 1] = .cond (.tmp 14) (g3C [1, 0, 1, 0]) (g3C [1, 0, 1, 1]) := by kernel_rfl
theorem g3n1010 : g3C [1, 0, 1, 0] = .seq (g3C [1, 0, 1, 0, 0]) (g3C [1, 0, 1, 0, 1]) := by kernel_rfl
theorem g3er (env : Env) (st : St) : g3X (g3C []) g3kr env st = f3 (env 0) st := by
  rw [(g3seq g3nr ((g3seq g3n1 (g3e11)).trans (g3seq g3n10 (g3cond g3n101 (g3seq g3n1010 (g3e10101)) rfl))))]
  kernel_rfl
theorem s3_eq (x0 : V) (st : St) : s3 [x0] st = f3 x0 st := by
  have h : afn Try.prog g3mu g3T big (areg Try.prog g3mu g3T) 3 [x0] st = g3X (g3C []) g3kr (fun t => [x0].getD t (.tup [])) st := by kernel_rfl
  rw [s3, sealF_eq]
  exact h.trans (g3er _ st)
end Go.Ab
