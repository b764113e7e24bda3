import Derived.Test.YtimidokohhiacaaAbQuiet
import Derived.Test.YtimidokohhiacaaAbRun2
namespace Go.Ab
open Go.Proofs
set_option linter.unusedVariables false
set_option maxRecDepth 100000
/-! sinew/sinewlaw09.QueryPrints -/
def g4mu : Nat → Bool := fun _ => false
noncomputable def g4T : Tbl := tget [(13, s13), (16, s16), (17, s17), (18, s18), (19, s19)]
theorem g4t : SimT Try.prog g4T := simT_cons sim13 ( simT_cons sim16 ( simT_cons sim17 ( simT_cons sim18 ( simT_cons sim19 (simT_nil)))))
noncomputable def s4 : Fn := sealF (afn Try.prog g4mu g4T big (areg Try.prog g4mu g4T) 4)
theorem sim4 : Sim Try.prog 4 s4 := (afn_sim g4t (fun m => areg_sound g4t hmix m) 4 (by kernel_rfl)).sealed
noncomputable def g4C (p : List Nat) : Code := sub (match Try.f4.body with | some c => c | none => .skip) p
noncomputable def g4X (c : Code) (K : Kon) : Env → St → Res := aexec Try.prog g4mu g4T big 38 (areg Try.prog g4mu g4T 38) c K
noncomputable def g4kr : Kon := aresK Try.prog Try.f4.results.toList
theorem g4reg {c : Code} {K : Kon} {G : Env → St → Res} {id : Nat} {ops : Array Oper} {l1 l2 : List Nat} (hc : c = .region id ops false) (hl : List.range ops.size = l1 ++ l2) (h : (fun env st => aops Try.prog g4mu g4T 38 ops l2 env st (K .normal)) = G) : g4X c K = fun env st => aops Try.prog g4mu g4T 38 ops l1 env st G := reg_cut hc hl h
theorem g4seq {c x y : Code} {K : Kon} {G : Env → St → Res} (hc : c = .seq x y) (hy : g4X y K = G) : g4X c K = g4X x (kSeq G K) := seq_cut hc hy
theorem g4blk {c x : Code} {K : Kon} {i : Nat} (hc : c = .block i x) : g4X c K = g4X x (kBlk i K) := blk_cut hc
theorem g4loop {c x : Code} {K : Kon} (hc : c = .loop x) : g4X c K = aloop (g4X x) K big := loop_cut hc
theorem g4cond {c x y : Code} {K : Kon} {v : Operand} {F G : Env → St → Res} (hc : c = .cond v x y) (hx : g4X x K = F) (hy : g4X y K = G) : g4X c K = condF v F G := cond_cut hc hx hy
noncomputable def g4k0 : Kon := kSeq (g4X (g4C [1, 1, 1, 1, 1]) (g4kr)) (g4kr)
noncomputable def g4b11110_15 (x35 : V) (st : St) : Res :=
 A.guard x35 true
 (A.ret (s13 [] st) fun a1 z2 =>
 some (.ret a1.er1, z2))
 (some (.ret ((.bool false) : V).er1, st))
theorem g4e11110_15 : (fun env st => aops Try.prog g4mu g4T 38 (rops (g4C [1, 1, 1, 1, 0])) [15, 16, 17] env st ((g4k0) .normal)) = fun env st => g4b11110_15 (env 35) st := by
  refine Eq.trans (Eq.refl _) ?_
  funext env st
  kernel_rfl
noncomputable def g4b11110_9 (x1 : V) (x6 : V) (x29 : V) (st : St) : Res :=
 A.guard x29 true
 (A.load true 4 x1 st fun a1 z2 =>
 A.ret (s19 [a1.er1] z2) fun a3 z4 =>
 A.eql 2 false a3 x6 fun a5 =>
 g4b11110_15 a5 z4)
 (g4b11110_15 (.bool false) st)
theorem g4e11110_9 : (fun env st => aops Try.prog g4mu g4T 38 (rops (g4C [1, 1, 1, 1, 0])) [9, 10, 11, 12, 13, 14, 15, 16, 17] env st ((g4k0) .normal)) = fun env st => g4b11110_9 (env 1) (env 6) (env 29) st := by
  refine Eq.trans (ops_cut (l1 := [9, 10, 11, 12, 13, 14]) (l2 := [15, 16, 17]) (g4e11110_15)) ?_
  funext env st
  kernel_rfl
noncomputable def g4b111 (x1 : V) (x3 : V) (x4 : V) (st : St) : Res :=
 A.load true 4 x1 st fun a1 z2 =>
 A.ret (s18 [a1.er1] z2) fun a3 z4 =>
 A.ext a3 0 fun a5 =>
 A.ext a3 1 fun a6 =>
 A.eql 3 false x3 a5 fun a7 =>
 A.guard a7 true
 (A.eql 2 false x4 a6 fun a8 =>
 g4b11110_9 x1 a6 a8 z4)
 (g4b11110_9 x1 a6 (.bool false) z4)
theorem g4n111 : g4C [1, 1, 1] = .seq (g4C [1, 1, 1, 0]) (g4C [1, 1, 1, 1]) := by kernel_rfl
theorem g4n1111 : g4C [1, 1, 1, 1] = .seq (g4C [1, 1, 1, 1, 0]) (g4C [1, 1, 1, 1, 1]) := by kernel_rfl
theorem g4rg11110 : g4C [1, 1, 1, 1, 0] = .region 5 (rops (g4C [1, 1, 1, 1, 0])) false := by kernel_rfl
theorem g4rg11110l : List.range (rops (g4C [1, 1, 1, 1, 0])).size = [0, 1, 2, 3, 4, 5, 6, 7, 8] ++ [9, 10, 11, 12, 13, 14, 15, 16, 17] := by kernel_rfl
theorem g4e111 : g4X (g4C [1, 1, 1]) (g4kr) = fun env st => g4b111 (env 1) (env 3) (env 4) st := by
  refine Eq.trans (g4seq g4n111 ((g4seq g4n1111 rfl).trans (g4reg g4rg11110 g4rg11110l (g4e11110_9)))) ?_
  funext env st
  kernel_rfl
noncomputable def f4 (x0 : V) (st : St) : Res :=
 A.box x0 st fun a1 z2 =>
 A.load true 4 a1 z2 fun a3 z4 =>
 A.ret (s16 [a3.er1] z4) fun a5 z6 =>
 A.un .not a5 fun a7 =>
 A.cond a7
 (A.ret (s13 [] z6) fun a8 z9 =>
 some (.ret a8.er1, z9))
 (A.load true 4 a1 z6 fun a10 z11 =>
 A.ret (s17 [a10.er1] z11) fun a12 z13 =>
 A.ext a12 0 fun a14 =>
 A.ext a12 1 fun a15 =>
 g4b111 a1 a14 a15 z13)
theorem g4nr : g4C [] = .seq (g4C [0]) (g4C [1]) := by kernel_rfl
theorem g4n1 : g4C [1] = .seq (g4C [1, 0]) (g4C [1, 1]) := by kernel_rfl
theorem g4n11 : g4C [1, 1] = .seq (g4C [1, 1, 0]) (g4C [1, 1, 1]) := by kernel_rfl
theorem g4er (env : Env) (st : St) : g4X (g4C []) g4kr env st = f4 (env 0) st := by
  rw [(g4seq g4nr (g4seq g4n1 (g4seq g4n11 (g4e111))))]
  kernel_rfl
theorem s4_eq (x0 : V) (st : St) : s4 [x0] st = f4 x0 st := by
  have h : afn Try.prog g4mu g4T big (areg Try.prog g4mu g4T) 4 [x0] st = g4X (g4C []) g4kr (fun t => [x0].getD t (.tup [])) st := by kernel_rfl
  rw [s4, sealF_eq]
  exact h.trans (g4er _ st)
end Go.Ab
