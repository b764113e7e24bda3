import Derived.Test.YtimidokohhiacaaAbQuiet
import Derived.Test.YtimidokohhiacaaAbN10e
namespace Go.Ab
open Go.Proofs
set_option linter.unusedVariables false
set_option maxRecDepth 100000
/-! sinew/sinewlaw09.QueryBack -/
def g5mu : Nat → Bool := fun _ => false
noncomputable def g5T : Tbl := tget [(12, s12), (13, s13), (15, s15), (16, s16), (17, s17), (19, s19)]
theorem g5t : SimT Try.prog g5T := simT_cons sim12 ( simT_cons sim13 ( simT_cons sim15 ( simT_cons sim16 ( simT_cons sim17 ( simT_cons sim19 (simT_nil))))))
noncomputable def s5 : Fn := sealF (afn Try.prog g5mu g5T big (areg Try.prog g5mu g5T) 5)
theorem sim5 : Sim Try.prog 5 s5 := (afn_sim g5t (fun m => areg_sound g5t hmix m) 5 (by kernel_rfl)).sealed
noncomputable def g5C (p : List Nat) : Code := sub (match Try.f5.body with | some c => c | none => .skip) p
noncomputable def g5X (c : Code) (K : Kon) : Env → St → Res := aexec Try.prog g5mu g5T big 91 (areg Try.prog g5mu g5T 91) c K
noncomputable def g5kr : Kon := aresK Try.prog Try.f5.results.toList
theorem g5reg {c : Code} {K : Kon} {G : Env → St → Res} {id : Nat} {ops : Array Oper} {l1 l2 : List Nat} (hc : c = .region id ops false) (hl : List.range ops.size = l1 ++ l2) (h : (fun env st => aops Try.prog g5mu g5T 91 ops l2 env st (K .normal)) = G) : g5X c K = fun env st => aops Try.prog g5mu g5T 91 ops l1 env st G := reg_cut hc hl h
theorem g5seq {c x y : Code} {K : Kon} {G : Env → St → Res} (hc : c = .seq x y) (hy : g5X y K = G) : g5X c K = g5X x (kSeq G K) := seq_cut hc hy
theorem g5blk {c x : Code} {K : Kon} {i : Nat} (hc : c = .block i x) : g5X c K = g5X x (kBlk i K) := blk_cut hc
theorem g5loop {c x : Code} {K : Kon} (hc : c = .loop x) : g5X c K = aloop (g5X x) K big := loop_cut hc
theorem g5cond {c x y : Code} {K : Kon} {v : Operand} {F G : Env → St → Res} (hc : c = .cond v x y) (hx : g5X x K = F) (hy : g5X y K = G) : g5X c K = condF v F G := cond_cut hc hx hy
noncomputable def g5bze7 (x10 : V) (x15 : V) (x17 : V) (st : St) : Res :=
 A.eql 2 false x17 (.int .i64 0) fun a1 =>
 A.guard a1 true
 (A.load true 4 x10 st fun a2 z3 =>
 A.load true 4 x15 z3 fun a4 z5 =>
 A.ret (s15 [a2.er1, a4.er1] z5) fun a6 z7 =>
 A.guard a6 true
 (A.ret (s13 [] z7) fun a8 z9 =>
 some (.ret a8.er1, z9))
 (some (.ret ((.bool false) : V).er1, z7)))
 (some (.ret ((.bool false) : V).er1, st))
theorem g5eze7 : g5X (g5C [1, 1, 1, 1, 1, 1, 1, 1]) (g5kr) = fun env st => g5bze7 (env 10) (env 15) (env 17) st := by
  refine Eq.trans (Eq.refl (g5X (g5C [1, 1, 1, 1, 1, 1, 1, 1]) (g5kr))) ?_
  funext env st
  kernel_rfl
noncomputable def g5bz3j (x10 : V) (x13 : V) (st : St) : Res :=
 A.lenS x13 fun a1 =>
 A.bin .gtr a1 (.int .i64 4096) fun a2 =>
 A.cond a2
 (A.ret (s13 [] st) fun a3 z4 =>
 some (.ret a3.er1, z4))
 (A.ret (s12 [x13.er1] st) fun a5 z6 =>
 A.ext a5 0 fun a7 =>
 A.ext a5 1 fun a8 =>
 A.ext a5 2 fun a9 =>
 A.box (.agg [(.int .i64 0), (.lst [] 1), (.lst [] 1), (.lst [] 1)]) z6 fun a10 z11 =>
 A.store 4 a10 a7 z11 fun z12 =>
 g5bze7 x10 a10 a9 z12)
theorem g5nz3j : g5C [1, 1, 1, 1, 1, 1] = .seq (g5C [1, 1, 1, 1, 1, 1, 0]) (g5C [1, 1, 1, 1, 1, 1, 1]) := by kernel_rfl
theorem g5nz73 : g5C [1, 1, 1, 1, 1, 1, 1] = .seq (g5C [1, 1, 1, 1, 1, 1, 1, 0]) (g5C [1, 1, 1, 1, 1, 1, 1, 1]) := by kernel_rfl
theorem g5ez3j : g5X (g5C [1, 1, 1, 1, 1, 1]) (g5kr) = fun env st => g5bz3j (env 10) (env 13) st := by
  refine Eq.trans (g5seq g5nz3j (g5seq g5nz73 (g5eze7))) ?_
  funext env st
  kernel_rfl
noncomputable def g5b1111 (x10 : V) (st : St) : Res :=
 A.load true 4 x10 st fun a1 z2 =>
 A.ret (s17 [a1.er1] z2) fun a3 z4 =>
 A.ext a3 0 fun a5 =>
 A.ext a3 1 fun a6 =>
 A.eql 2 true a6 (.int .i64 0) fun a7 =>
 A.guard a7 false
 (A.load true 4 x10 z4 fun a8 z9 =>
 A.ret (s19 [a8.er1] z9) fun a10 z11 =>
 A.eql 2 true a10 (.int .i64 0) fun a12 =>
 A.cond a12
 (some (.ret ((.bool false) : V).er1, z11))
 (g5bz3j x10 a5 z11))
 (some (.ret ((.bool false) : V).er1, z4))
theorem g5n1111 : g5C [1, 1, 1, 1] = .seq (g5C [1, 1, 1, 1, 0]) (g5C [1, 1, 1, 1, 1]) := by kernel_rfl
theorem g5n11111 : g5C [1, 1, 1, 1, 1] = .seq (g5C [1, 1, 1, 1, 1, 0]) (g5C [1, 1, 1, 1, 1, 1]) := by kernel_rfl
theorem g5e1111 : g5X (g5C [1, 1, 1, 1]) (g5kr) = fun env st => g5b1111 (env 10) st := by
  refine Eq.trans (g5seq g5n1111 (g5seq g5n11111 (g5ez3j))) ?_
  funext env st
  kernel_rfl
noncomputable def g5b11 (x1 : V) (st : St) : Res :=
 A.ret (s12 [x1.er1] st) fun a1 z2 =>
 A.ext a1 0 fun a3 =>
 A.ext a1 1 fun a4 =>
 A.ext a1 2 fun a5 =>
 A.box (.agg [(.int .i64 0), (.lst [] 1), (.lst [] 1), (.lst [] 1)]) z2 fun a6 z7 =>
 A.store 4 a6 a3 z7 fun z8 =>
 A.eql 2 true a5 (.int .i64 0) fun a9 =>
 A.cond a9
 (A.ret (s13 [] z8) fun a10 z11 =>
 some (.ret a10.er1, z11))
 (g5b1111 a6 z8)
theorem g5n11 : g5C [1, 1] = .seq (g5C [1, 1, 0]) (g5C [1, 1, 1]) := by kernel_rfl
theorem g5n111 : g5C [1, 1, 1] = .seq (g5C [1, 1, 1, 0]) (g5C [1, 1, 1, 1]) := by kernel_rfl
theorem g5e11 : g5X (g5C [1, 1]) (g5kr) = fun env st => g5b11 (env 1) st := by
  refine Eq.trans (g5seq g5n11 (g5seq g5n111 (g5e1111))) ?_
  funext env st
  kernel_rfl
noncomputable def g5k0 : Kon := kSeq (fun env st => g5b11 (env 1) st) (g5kr)
noncomputable def g5bz2z (x1 : V) (x2 : V) (x5 : V) (x31 : V) (st : St) : Res :=
 A.cond x31
 (A.ret (s12 [x5.er1] st) fun a1 z2 =>
 A.ext a1 0 fun a3 =>
 A.ext a1 1 fun a4 =>
 A.ext a1 2 fun a5 =>
 A.box (.agg [(.int .i64 0), (.lst [] 1), (.lst [] 1), (.lst [] 1)]) z2 fun a6 z7 =>
 A.store 4 a6 a3 z7 fun z8 =>
 A.load true 4 a6 z8 fun a9 z10 =>
 A.load true 4 x2 z10 fun a11 z12 =>
 A.ret (s15 [a9.er1, a11.er1] z12) fun a13 z14 =>
 A.un .not a13 fun a15 =>
 A.guard a15 false
 (A.eql 2 true a4 (.int .i64 0) fun a16 =>
 A.guard a16 false
 (A.eql 2 true a5 (.int .i64 0) fun a17 =>
 A.cond a17
 (some (.ret ((.bool false) : V).er1, z14))
 (g5b11 x1 z14))
 (some (.ret ((.bool false) : V).er1, z14)))
 (some (.ret ((.bool false) : V).er1, z14)))
 (g5b11 x1 st)
theorem g5ez2z : g5X (g5C [1, 0, 1, 0, 1, 1]) (g5k0) = fun env st => g5bz2z (env 1) (env 2) (env 5) (env 31) st := by
  refine Eq.trans (Eq.refl (g5X (g5C [1, 0, 1, 0, 1, 1]) (g5k0))) ?_
  funext env st
  kernel_rfl
noncomputable def g5b10101 (x1 : V) (x2 : V) (x5 : V) (x6 : V) (st : St) : Res :=
 A.eql 2 false x6 (.int .i64 0) fun a1 =>
 A.guard a1 true
 (A.lenS x5 fun a2 =>
 A.bin .leq a2 (.int .i64 4096) fun a3 =>
 g5bz2z x1 x2 x5 a3 st)
 (g5bz2z x1 x2 x5 (.bool false) st)
theorem g5n10101 : g5C [1, 0, 1, 0, 1] = .seq (g5C [1, 0, 1, 0, 1, 0]) (g5C [1, 0, 1, 0, 1, 1]) := by kernel_rfl
theorem g5e10101 : g5X (g5C [1, 0, 1, 0, 1]) (g5k0) = fun env st => g5b10101 (env 1) (env 2) (env 5) (env 6) st := by
  refine Eq.trans (g5seq g5n10101 (g5ez2z)) ?_
  funext env st
  kernel_rfl
noncomputable def f5 (x0 : V) (x1 : V) (st : St) : Res :=
 A.box x0 st fun a1 z2 =>
 A.load true 4 a1 z2 fun a3 z4 =>
 A.ret (s16 [a3.er1] z4) fun a5 z6 =>
 A.cond a5
 (A.load true 4 a1 z6 fun a7 z8 =>
 A.ret (s17 [a7.er1] z8) fun a9 z10 =>
 A.ext a9 0 fun a11 =>
 A.ext a9 1 fun a12 =>
 g5b10101 x1 a1 a11 a12 z10)
 (g5b11 x1 z6)
theorem g5nr : g5C [] = .seq (g5C [0]) (g5C [1]) := by kernel_rfl
theorem g5n1 : g5C [1] = .seq (g5C [1, 0]) (g5C [1, 1]) := by kernel_rfl
theorem g5n10 : g5C [1, 0] = .seq (g5C [1, 0, 0]) (g5C [1, 0, 1]) := by kernel_rfl
theorem g5n101 : g5C [1, 0, 1] = .cond (.tmp 19) (g5C [1, 0, 1, 0]) (g5C [1, 0, 1, 1]) := by kernel_rfl
theorem g5n1010 : g5C [1, 0, 1, 0] = .seq (g5C [1, 0, 1, 0, 0]) (g5C [1, 0, 1, 0, 1]) := by kernel_rfl
theorem g5er (env : Env) (st : St) : g5X (g5C []) g5kr env st = f5 (env 0) (env 1) st := by
  rw [(g5seq g5nr ((g5seq g5n1 (g5e11)).trans (g5seq g5n10 (g5cond g5n101 (g5seq g5n1010 (g5e10101)) rfl))))]
  kernel_rfl
theorem s5_eq (x0 : V) (x1 : V) (st : St) : s5 [x0, x1] st = f5 x0 x1 st := by
  have h : afn Try.prog g5mu g5T big (areg Try.prog g5mu g5T) 5 [x0, x1] st = g5X (g5C []) g5kr (fun t => [x0, x1].getD t (.tup [])) st := by kernel_rfl
  rw [s5, sealF_eq]
  exact h.trans (g5er _ st)
end Go.Ab
