import Derived.Test.YtimidokohhiacaaAbQuiet
import Derived.Test.YtimidokohhiacaaAbN09a
import Derived.Test.YtimidokohhiacaaAbPair
namespace Go.Ab
open Go.Proofs
set_option linter.unusedVariables false
set_option maxRecDepth 100000
/-! (*sinew/sinewref09.reader).now -/
def g56mu : Nat → Bool := fun _ => false
noncomputable def g56T : Tbl := tget []
theorem g56t : SimT Try.prog g56T := simT_nil
noncomputable def s56 : Fn := sealF (afn Try.prog g56mu g56T big (areg Try.prog g56mu g56T) 56)
theorem sim56 : Sim Try.prog 56 s56 := (afn_sim g56t (fun m => areg_sound g56t hmix m) 56 (by kernel_rfl)).sealed
noncomputable def g56C (p : List Nat) : Code := sub (match Try.f56.body with | some c => c | none => .skip) p
noncomputable def g56X (c : Code) (K : Kon) : Env → St → Res := aexec Try.prog g56mu g56T big 28 (areg Try.prog g56mu g56T 28) c K
noncomputable def g56kr : Kon := aresK Try.prog Try.f56.results.toList
theorem g56reg {c : Code} {K : Kon} {G : Env → St → Res} {id : Nat} {ops : Array Oper} {l1 l2 : List Nat} (hc : c = .region id ops false) (hl : List.range ops.size = l1 ++ l2) (h : (fun env st => aops Try.prog g56mu g56T 28 ops l2 env st (K .normal)) = G) : g56X c K = fun env st => aops Try.prog g56mu g56T 28 ops l1 env st G := reg_cut hc hl h
theorem g56seq {c x y : Code} {K : Kon} {G : Env → St → Res} (hc : c = .seq x y) (hy : g56X y K = G) : g56X c K = g56X x (kSeq G K) := seq_cut hc hy
theorem g56blk {c x : Code} {K : Kon} {i : Nat} (hc : c = .block i x) : g56X c K = g56X x (kBlk i K) := blk_cut hc
theorem g56loop {c x : Code} {K : Kon} (hc : c = .loop x) : g56X c K = aloop (g56X x) K big := loop_cut hc
theorem g56cond {c x y : Code} {K : Kon} {v : Operand} {F G : Env → St → Res} (hc : c = .cond v x y) (hx : g56X x K = F) (hy : g56X y K = G) : g56X c K = condF v F G := cond_cut hc hx hy
noncomputable def g56b11 (x0 : V) (x2 : V) (st : St) : Res :=
 A.nilc x0 fun a1 =>
 A.faddr 2 a1 fun a2 =>
 A.load false 1 a2 st fun a3 z4 =>
 A.build [(.int .i64 0), (.str []), (.int .i64 0)] [(2, 1, a3)] fun a5 =>
 A.store 3 x2 a5 z4 fun z6 =>
 A.res (rcell (A.load true 3 x2 z6 kid) (some [])) z6
theorem g56e11 : g56X (g56C [1, 1]) (g56kr) = fun env st => g56b11 (env 0) (env 2) st := by
  refine Eq.trans (Eq.refl (g56X (g56C [1, 1]) (g56kr))) ?_
  funext env st
  kernel_rfl
noncomputable def g56k0 : Kon := kSeq (fun env st => g56b11 (env 0) (env 2) st) (g56kr)
noncomputable def g56b101 (x0 : V) (x2 : V) (x12 : V) (st : St) : Res :=
 A.cond x12
 (A.nilc x0 fun a1 =>
 A.faddr 0 a1 fun a2 =>
 A.load false 1 a2 st fun a3 _ =>
 A.nilc x0 fun a4 =>
 A.faddr 1 a4 fun a5 =>
 A.load false 1 a5 st fun a6 _ =>
 A.iaddr 3 a3 a6 fun a7 =>
 A.load true 3 a7 st fun a8 _ =>
 A.ret (A.store 3 x2 a8 st fun s => kid (.tup []) s) fun a9 z10 =>
 A.res (rcell (A.load true 3 x2 z10 kid) (some [])) z10)
 (g56b11 x0 x2 st)
theorem g56e101 : g56X (g56C [1, 0, 1]) (g56k0) = fun env st => g56b101 (env 0) (env 2) (env 12) st := by
  refine Eq.trans (Eq.refl (g56X (g56C [1, 0, 1]) (g56k0))) ?_
  funext env st
  kernel_rfl
noncomputable def f56 (x0 : V) (st : St) : Res :=
 A.box (.agg [(.int .i64 0), (.str []), (.int .i64 0)]) st fun a1 z2 =>
 A.nilc x0 fun a3 =>
 A.faddr 1 a3 fun a4 =>
 A.load false 1 a4 z2 fun a5 _ =>
 A.nilc x0 fun a6 =>
 A.faddr 0 a6 fun a7 =>
 A.load false 1 a7 z2 fun a8 _ =>
 A.lenL a8 fun a9 =>
 A.bin .lss a5 a9 fun a10 =>
 g56b101 x0 a1 a10 z2
theorem g56nr : g56C [] = .seq (g56C [0]) (g56C [1]) := by kernel_rfl
theorem g56n1 : g56C [1] = .seq (g56C [1, 0]) (g56C [1, 1]) := by kernel_rfl
theorem g56n10 : g56C [1, 0] = .seq (g56C [1, 0, 0]) (g56C [1, 0, 1]) := by kernel_rfl
theorem g56er (env : Env) (st : St) : g56X (g56C []) g56kr env st = f56 (env 0) st := by
  rw [(g56seq g56nr ((g56seq g56n1 (g56e11)).trans (g56seq g56n10 (g56e101))))]
  kernel_rfl
theorem s56_eq (x0 : V) (st : St) : s56 [x0] st = f56 x0 st := by
  have h : afn Try.prog g56mu g56T big (areg Try.prog g56mu g56T) 56 [x0] st = g56X (g56C []) g56kr (fun t => [x0].getD t (.tup [])) st := by kernel_rfl
  rw [s56, sealF_eq]
  exact h.trans (g56er _ st)
/-! (*sinew/sinewref09.reader).fails -/
def g60mu : Nat → Bool := fun _ => false
noncomputable def g60T : Tbl := tget [(56, s56)]
theorem g60t : SimT Try.prog g60T := simT_cons sim56 (simT_nil)
noncomputable def s60 : Fn := sealF (afn Try.prog g60mu g60T big (areg Try.prog g60mu g60T) 60)
theorem sim60 : Sim Try.prog 60 s60 := (afn_sim g60t (fun m => areg_sound g60t hmix m) 60 (by kernel_rfl)).sealed
noncomputable def f60 (x0 : V) (st : St) : Res :=
 A.nilc x0 fun a1 =>
 A.faddr 3 a1 fun a2 =>
 A.load false 1 a2 st fun a3 z4 =>
 A.un .not a3 fun a5 =>
 A.cond a5
 (A.nilc x0 fun a6 =>
 A.faddr 3 a6 fun a7 =>
 A.store 1 a7 (.bool true) z4 fun z8 =>
 A.ret (s56 [x0.er1] z8) fun a9 z10 =>
 A.field false 1 2 a9 fun a11 =>
 A.nilc x0 fun a12 =>
 A.faddr 4 a12 fun a13 =>
 A.store 1 a13 a11 z10 fun z14 =>
 some (.ret (.tup []), z14))
 (some (.ret (.tup []), z4))
theorem s60_eq (x0 : V) (st : St) : s60 [x0] st = f60 x0 st := by
  rw [s60, sealF_eq]
  kernel_rfl
/-! (*sinew/sinewref09.reader).mark -/
def g59mu : Nat → Bool := fun _ => false
noncomputable def g59T : Tbl := tget [(56, s56)]
theorem g59t : SimT Try.prog g59T := simT_cons sim56 (simT_nil)
noncomputable def s59 : Fn := sealF (afn Try.prog g59mu g59T big (areg Try.prog g59mu g59T) 59)
theorem sim59 : Sim Try.prog 59 s59 := (afn_sim g59t (fun m => areg_sound g59t hmix m) 59 (by kernel_rfl)).sealed
noncomputable def g59C (p : List Nat) : Code := sub (match Try.f59.body with | some c => c | none => .skip) p
noncomputable def g59X (c : Code) (K : Kon) : Env → St → Res := aexec Try.prog g59mu g59T big 23 (areg Try.prog g59mu g59T 23) c K
noncomputable def g59kr : Kon := aresK Try.prog Try.f59.results.toList
theorem g59reg {c : Code} {K : Kon} {G : Env → St → Res} {id : Nat} {ops : Array Oper} {l1 l2 : List Nat} (hc : c = .region id ops false) (hl : List.range ops.size = l1 ++ l2) (h : (fun env st => aops Try.prog g59mu g59T 23 ops l2 env st (K .normal)) = G) : g59X c K = fun env st => aops Try.prog g59mu g59T 23 ops l1 env st G := reg_cut hc hl h
theorem g59seq {c x y : Code} {K : Kon} {G : Env → St → Res} (hc : c = .seq x y) (hy : g59X y K = G) : g59X c K = g59X x (kSeq G K) := seq_cut hc hy
theorem g59blk {c x : Code} {K : Kon} {i : Nat} (hc : c = .block i x) : g59X c K = g59X x (kBlk i K) := blk_cut hc
theorem g59loop {c x : Code} {K : Kon} (hc : c = .loop x) : g59X c K = aloop (g59X x) K big := loop_cut hc
theorem g59cond {c x y : Code} {K : Kon} {v : Operand} {F G : Env → St → Res} (hc : c = .cond v x y) (hx : g59X x K = F) (hy : g59X y K = G) : g59X c K = condF v F G := cond_cut hc hx hy
noncomputable def g59k0 : Kon := kSeq (g59X (g59C [1, 1]) (g59kr)) (g59kr)
noncomputable def g59b10_12 (x0 : V) (x1 : V) (x16 : V) (st : St) : Res :=
 A.guard x16 true
 (A.ret (s56 [x0.er1] st) fun a1 z2 =>
 A.field false 1 1 a1 fun a3 =>
 A.eql 3 false a3 x1 fun a4 =>
 some (.ret a4.er1, z2))
 (some (.ret ((.bool false) : V).er1, st))
theorem g59e10_12 : (fun env st => aops Try.prog g59mu g59T 23 (rops (g59C [1, 0])) [12, 13, 14, 15, 16, 17, 18] env st ((g59k0) .normal)) = fun env st => g59b10_12 (env 0) (env 1) (env 16) st := by
  refine Eq.trans (Eq.refl _) ?_
  funext env st
  kernel_rfl
noncomputable def g59b10_6 (x0 : V) (x1 : V) (x10 : V) (st : St) : Res :=
 A.guard x10 true
 (A.ret (s56 [x0.er1] st) fun a1 z2 =>
 A.field false 1 0 a1 fun a3 =>
 A.eql 2 false a3 (.int .i64 3) fun a4 =>
 g59b10_12 x0 x1 a4 z2)
 (g59b10_12 x0 x1 (.bool false) st)
theorem g59e10_6 : (fun env st => aops Try.prog g59mu g59T 23 (rops (g59C [1, 0])) [6, 7, 8, 9, 10, 11, 12, 13, 14, 15, 16, 17, 18] env st ((g59k0) .normal)) = fun env st => g59b10_6 (env 0) (env 1) (env 10) st := by
  refine Eq.trans (ops_cut (l1 := [6, 7, 8, 9, 10, 11]) (l2 := [12, 13, 14, 15, 16, 17, 18]) (g59e10_12)) ?_
  funext env st
  kernel_rfl
noncomputable def f59 (x0 : V) (x1 : V) (st : St) : Res :=
 A.nilc x0 fun a1 =>
 A.faddr 3 a1 fun a2 =>
 A.load false 1 a2 st fun a3 z4 =>
 A.un .not a3 fun a5 =>
 g59b10_6 x0 x1 a5 z4
theorem g59nr : g59C [] = .seq (g59C [0]) (g59C [1]) := by kernel_rfl
theorem g59n1 : g59C [1] = .seq (g59C [1, 0]) (g59C [1, 1]) := by kernel_rfl
theorem g59rg10 : g59C [1, 0] = .region 1 (rops (g59C [1, 0])) false := by kernel_rfl
theorem g59rg10l : List.range (rops (g59C [1, 0])).size = [0, 1, 2, 3, 4, 5] ++ [6, 7, 8, 9, 10, 11, 12, 13, 14, 15, 16, 17, 18] := by kernel_rfl
theorem g59er (env : Env) (st : St) : g59X (g59C []) g59kr env st = f59 (env 0) (env 1) st := by
  rw [(g59seq g59nr ((g59seq g59n1 rfl).trans (g59reg g59rg10 g59rg10l (g59e10_6))))]
  kernel_rfl
theorem s59_eq (x0 : V) (x1 : V) (st : St) : s59 [x0, x1] st = f59 x0 x1 st := by
  have h : afn Try.prog g59mu g59T big (areg Try.prog g59mu g59T) 59 [x0, x1] st = g59X (g59C []) g59kr (fun t => [x0, x1].getD t (.tup [])) st := by kernel_rfl
  rw [s59, sealF_eq]
  exact h.trans (g59er _ st)
/-! (*sinew/sinewref09.reader).takes -/
def g85mu : Nat → Bool := fun _ => false
noncomputable def g85T : Tbl := tget [(56, s56), (60, s60)]
theorem g85t : SimT Try.prog g85T := simT_cons sim56 ( simT_cons sim60 (simT_nil))
noncomputable def s85 : Fn := sealF (afn Try.prog g85mu g85T big (areg Try.prog g85mu g85T) 85)
theorem sim85 : Sim Try.prog 85 s85 := (afn_sim g85t (fun m => areg_sound g85t hmix m) 85 (by kernel_rfl)).sealed
noncomputable def g85C (p : List Nat) : Code := sub (match Try.f85.body with | some c => c | none => .skip) p
noncomputable def g85X (c : Code) (K : Kon) : Env → St → Res := aexec Try.prog g85mu g85T big 29 (areg Try.prog g85mu g85T 29) c K
noncomputable def g85kr : Kon := aresK Try.prog Try.f85.results.toList
theorem g85reg {c : Code} {K : Kon} {G : Env → St → Res} {id : Nat} {ops : Array Oper} {l1 l2 : List Nat} (hc : c = .region id ops false) (hl : List.range ops.size = l1 ++ l2) (h : (fun env st => aops Try.prog g85mu g85T 29 ops l2 env st (K .normal)) = G) : g85X c K = fun env st => aops Try.prog g85mu g85T 29 ops l1 env st G := reg_cut hc hl h
theorem g85seq {c x y : Code} {K : Kon} {G : Env → St → Res} (hc : c = .seq x y) (hy : g85X y K = G) : g85X c K = g85X x (kSeq G K) := seq_cut hc hy
theorem g85blk {c x : Code} {K : Kon} {i : Nat} (hc : c = .block i x) : g85X c K = g85X x (kBlk i K) := blk_cut hc
theorem g85loop {c x : Code} {K : Kon} (hc : c = .loop x) : g85X c K = aloop (g85X x) K big := loop_cut hc
theorem g85cond {c x y : Code} {K : Kon} {v : Operand} {F G : Env → St → Res} (hc : c = .cond v x y) (hx : g85X x K = F) (hy : g85X y K = G) : g85X c K = condF v F G := cond_cut hc hx hy
noncomputable def g85b111 (x0 : V) (x5 : V) (st : St) : Res :=
 A.nilc x0 fun a1 =>
 A.faddr 1 a1 fun a2 =>
 A.load false 1 a2 st fun a3 z4 =>
 A.bin .add a3 (.int .i64 1) fun a5 =>
 A.nilc x0 fun a6 =>
 A.faddr 1 a6 fun a7 =>
 A.store 1 a7 a5 z4 fun z8 =>
 A.faddr 1 x5 fun a9 =>
 A.load false 1 a9 z8 fun a10 z11 =>
 some (.ret a10.er1, z11)
theorem g85e111 : g85X (g85C [1, 1, 1]) (g85kr) = fun env st => g85b111 (env 0) (env 5) st := by
  refine Eq.trans (Eq.refl (g85X (g85C [1, 1, 1]) (g85kr))) ?_
  funext env st
  kernel_rfl
noncomputable def f85 (x0 : V) (x1 : V) (st : St) : Res :=
 A.ret (s56 [x0.er1] st) fun a1 z2 =>
 A.box (.agg [(.int .i64 0), (.str []), (.int .i64 0)]) z2 fun a3 z4 =>
 A.store 3 a3 a1 z4 fun z5 =>
 A.nilc x0 fun a6 =>
 A.faddr 3 a6 fun a7 =>
 A.load false 1 a7 z5 fun a8 z9 =>
 A.guard a8 false
 (A.faddr 0 a3 fun a10 =>
 A.load false 1 a10 z9 fun a11 z12 =>
 A.eql 2 true a11 x1 fun a13 =>
 A.cond a13
 (A.ret (s60 [x0.er1] z12) fun a14 z15 =>
 some (.ret ((.str []) : V).er1, z15))
 (g85b111 x0 a3 z12))
 (A.ret (s60 [x0.er1] z9) fun a16 z17 =>
 some (.ret ((.str []) : V).er1, z17))
theorem g85nr : g85C [] = .seq (g85C [0]) (g85C [1]) := by kernel_rfl
theorem g85n1 : g85C [1] = .seq (g85C [1, 0]) (g85C [1, 1]) := by kernel_rfl
theorem g85n11 : g85C [1, 1] = .seq (g85C [1, 1, 0]) (g85C [1, 1, 1]) := by kernel_rfl
theorem g85er (env : Env) (st : St) : g85X (g85C []) g85kr env st = f85 (env 0) (env 1) st := by
  rw [(g85seq g85nr (g85seq g85n1 (g85seq g85n11 (g85e111))))]
  kernel_rfl
theorem s85_eq (x0 : V) (x1 : V) (st : St) : s85 [x0, x1] st = f85 x0 x1 st := by
  have h : afn Try.prog g85mu g85T big (areg Try.prog g85mu g85T) 85 [x0, x1] st = g85X (g85C []) g85kr (fun t => [x0, x1].getD t (.tup [])) st := by kernel_rfl
  rw [s85, sealF_eq]
  exact h.trans (g85er _ st)
/-! (*sinew/sinewref09.reader).must -/
def g86mu : Nat → Bool := fun _ => false
noncomputable def g86T : Tbl := tget [(56, s56), (60, s60)]
theorem g86t : SimT Try.prog g86T := simT_cons sim56 ( simT_cons sim60 (simT_nil))
noncomputable def s86 : Fn := sealF (afn Try.prog g86mu g86T big (areg Try.prog g86mu g86T) 86)
theorem sim86 : Sim Try.prog 86 s86 := (afn_sim g86t (fun m => areg_sound g86t hmix m) 86 (by kernel_rfl)).sealed
noncomputable def g86C (p : List Nat) : Code := sub (match Try.f86.body with | some c => c | none => .skip) p
noncomputable def g86X (c : Code) (K : Kon) : Env → St → Res := aexec Try.prog g86mu g86T big 33 (areg Try.prog g86mu g86T 33) c K
noncomputable def g86kr : Kon := aresK Try.prog Try.f86.results.toList
theorem g86reg {c : Code} {K : Kon} {G : Env → St → Res} {id : Nat} {ops : Array Oper} {l1 l2 : List Nat} (hc : c = .region id ops false) (hl : List.range ops.size = l1 ++ l2) (h : (fun env st => aops Try.prog g86mu g86T 33 ops l2 env st (K .normal)) = G) : g86X c K = fun env st => aops Try.prog g86mu g86T 33 ops l1 env st G := reg_cut hc hl h
theorem g86seq {c x y : Code} {K : Kon} {G : Env → St → Res} (hc : c = .seq x y) (hy : g86X y K = G) : g86X c K = g86X x (kSeq G K) := seq_cut hc hy
theorem g86blk {c x : Code} {K : Kon} {i : Nat} (hc : c = .block i x) : g86X c K = g86X x (kBlk i K) := blk_cut hc
theorem g86loop {c x : Code} {K : Kon} (hc : c = .loop x) : g86X c K = aloop (g86X x) K big := loop_cut hc
theorem g86cond {c x y : Code} {K : Kon} {v : Operand} {F G : Env → St → Res} (hc : c = .cond v x y) (hx : g86X x K = F) (hy : g86X y K = G) : g86X c K = condF v F G := cond_cut hc hx hy
noncomputable def g86k0 : Kon := kSeq (g86X (g86C [1]) (g86kr)) (g86kr)
noncomputable def g86k1 : Kon := kSeq (g86X (g86C [0, 1]) (g86k0)) (g86k0)
noncomputable def g86b00_12 (x0 : V) (x2 : V) (x17 : V) (st : St) : Res :=
 A.guard x17 false
 (A.ret (s56 [x0.er1] st) fun a1 z2 =>
 A.field false 1 1 a1 fun a3 =>
 A.eql 3 true a3 x2 fun a4 =>
 A.cond a4
 (A.ret (s60 [x0.er1] z2) fun a5 z6 =>
 some (.ret (.tup []), z6))
 (A.nilc x0 fun a7 =>
 A.faddr 1 a7 fun a8 =>
 A.load false 1 a8 z2 fun a9 z10 =>
 A.bin .add a9 (.int .i64 1) fun a11 =>
 A.nilc x0 fun a12 =>
 A.faddr 1 a12 fun a13 =>
 A.store 1 a13 a11 z10 fun z14 =>
 some (.ret (.tup []), z14)))
 (A.ret (s60 [x0.er1] st) fun a15 z16 =>
 some (.ret (.tup []), z16))
theorem g86e00_12 : (fun env st => aops Try.prog g86mu g86T 33 (rops (g86C [0, 0])) [12, 13, 14, 15, 16, 17] env st ((g86k1) .normal)) = fun env st => g86b00_12 (env 0) (env 2) (env 17) st := by
  refine Eq.trans (Eq.refl _) ?_
  funext env st
  kernel_rfl
noncomputable def f86 (x0 : V) (x1 : V) (x2 : V) (st : St) : Res :=
 A.nilc x0 fun a1 =>
 A.faddr 3 a1 fun a2 =>
 A.load false 1 a2 st fun a3 z4 =>
 A.guard a3 false
 (A.ret (s56 [x0.er1] z4) fun a5 z6 =>
 A.field false 1 0 a5 fun a7 =>
 A.eql 2 true a7 x1 fun a8 =>
 g86b00_12 x0 x2 a8 z6)
 (g86b00_12 x0 x2 (.bool true) z4)
theorem g86nr : g86C [] = .seq (g86C [0]) (g86C [1]) := by kernel_rfl
theorem g86n0 : g86C [0] = .seq (g86C [0, 0]) (g86C [0, 1]) := by kernel_rfl
theorem g86rg00 : g86C [0, 0] = .region 0 (rops (g86C [0, 0])) false := by kernel_rfl
theorem g86rg00l : List.range (rops (g86C [0, 0])).size = [0, 1, 2, 3, 4, 5, 6, 7, 8, 9, 10, 11] ++ [12, 13, 14, 15, 16, 17] := by kernel_rfl
theorem g86er (env : Env) (st : St) : g86X (g86C []) g86kr env st = f86 (env 0) (env 1) (env 2) st := by
  rw [((g86seq g86nr rfl).trans ((g86seq g86n0 rfl).trans (g86reg g86rg00 g86rg00l (g86e00_12))))]
  kernel_rfl
theorem s86_eq (x0 : V) (x1 : V) (x2 : V) (st : St) : s86 [x0, x1, x2] st = f86 x0 x1 x2 st := by
  have h : afn Try.prog g86mu g86T big (areg Try.prog g86mu g86T) 86 [x0, x1, x2] st = g86X (g86C []) g86kr (fun t => [x0, x1, x2].getD t (.tup [])) st := by kernel_rfl
  rw [s86, sealF_eq]
  exact h.trans (g86er _ st)
/-! (*sinew/sinewref09.reader).path -/
def g98mu : Nat → Bool := fun _ => false
noncomputable def g98T (R : Nat → Fn) : Tbl := tget [(103, R 103), (59, s59)]
theorem g98t (R : Nat → Fn) (hR : ∀ j, j ∈ [98, 103, 105, 106] → Sim Try.prog j (R j)) : SimT Try.prog (g98T R) := simT_cons (hR 103 (by decide)) ( simT_cons sim59 (simT_nil))
noncomputable def g98C (p : List Nat) : Code := sub (match Try.f98.body with | some c => c | none => .skip) p
noncomputable def g98X (R : Nat → Fn) (c : Code) (K : Kon) : Env → St → Res := aexec Try.prog g98mu (g98T R) big 29 (areg Try.prog g98mu (g98T R) 29) c K
noncomputable def g98kr (R : Nat → Fn) : Kon := aresK Try.prog Try.f98.results.toList
theorem g98reg (R : Nat → Fn) {c : Code} {K : Kon} {G : Env → St → Res} {id : Nat} {ops : Array Oper} {l1 l2 : List Nat} (hc : c = .region id ops false) (hl : List.range ops.size = l1 ++ l2) (h : (fun env st => aops Try.prog g98mu (g98T R) 29 ops l2 env st (K .normal)) = G) : (g98X R) c K = fun env st => aops Try.prog g98mu (g98T R) 29 ops l1 env st G := reg_cut hc hl h
theorem g98seq (R : Nat → Fn) {c x y : Code} {K : Kon} {G : Env → St → Res} (hc : c = .seq x y) (hy : (g98X R) y K = G) : (g98X R) c K = (g98X R) x (kSeq G K) := seq_cut hc hy
theorem g98blk (R : Nat → Fn) {c x : Code} {K : Kon} {i : Nat} (hc : c = .block i x) : (g98X R) c K = (g98X R) x (kBlk i K) := blk_cut hc
theorem g98loop (R : Nat → Fn) {c x : Code} {K : Kon} (hc : c = .loop x) : (g98X R) c K = aloop ((g98X R) x) K big := loop_cut hc
theorem g98cond (R : Nat → Fn) {c x y : Code} {K : Kon} {v : Operand} {F G : Env → St → Res} (hc : c = .cond v x y) (hx : (g98X R) x K = F) (hy : (g98X R) y K = G) : (g98X R) c K = condF v F G := cond_cut hc hx hy
noncomputable def g98k0 (R : Nat → Fn) : Kon := kSeq ((g98X R) (g98C [1, 1, 1]) ((g98kr R))) ((g98kr R))
noncomputable def g98k1 (R : Nat → Fn) : Kon := kBlk 0 ((g98k0 R))
noncomputable def g98b1100 (R : Nat → Fn) : Nat → V → V → V → St → Res
| 0, _, _, _, _ => none
| n + 1, x0, x2, x3, st =>
 A.ret (s59 [x0.er1, ((.str [124]) : V).er1] st) fun a1 z2 =>
 A.cond a1
 (A.nilc x0 fun a3 =>
 A.faddr 1 a3 fun a4 =>
 A.load false 1 a4 z2 fun a5 z6 =>
 A.bin .add a5 (.int .i64 1) fun a7 =>
 A.nilc x0 fun a8 =>
 A.faddr 1 a8 fun a9 =>
 A.store 1 a9 a7 z6 fun z10 =>
 A.ret (R 103 [x0.er1] z10) fun a11 z12 =>
 A.bslice 3 (.agg [(.int .i64 0), (.str []), (.lst [] 1)]) 1 [(0, a11)] fun a13 =>
 A.app 3 x3 (elemsOf 5 3 a13 z12) z12 fun a14 z15 =>
 ((g98b1100 R) n) x0 x2 a14 z15)
 (A.lenL x3 fun a16 =>
 A.eql 2 false a16 (.int .i64 1) fun a17 =>
 A.cond a17
 (A.iaddr 3 x3 (.int .i64 0) fun a18 =>
 A.load true 3 a18 z2 fun a19 z20 =>
 A.store 3 x2 a19 z20 fun z21 =>
 A.res (rcell (A.load true 3 x2 z21 kid) (some [])) z21)
 (A.build [(.int .i64 0), (.str []), (.lst [] 1)] [(0, 1, (.int .i64 3)), (2, 1, x3)] fun a22 =>
 A.store 3 x2 a22 z2 fun z23 =>
 A.res (rcell (A.load true 3 x2 z23 kid) (some [])) z23))
theorem g98n1100 : g98C [1, 1, 0, 0] = .loop (g98C [1, 1, 0, 0, 0]) := by kernel_rfl
noncomputable def g98k2 (R : Nat → Fn) (L1100 : V → V → V → St → Res) : Kon := kSeq (fun env st => L1100 (env 0) (env 2) (env 3) st) ((g98k1 R))
theorem g98e1100 (R : Nat → Fn) : (g98X R) (g98C [1, 1, 0, 0]) ((g98k1 R)) = fun env st => (g98b1100 R) big (env 0) (env 2) (env 3) st := by
  have key : ∀ n, aloop ((g98X R) (g98C [1, 1, 0, 0, 0])) ((g98k1 R)) n = fun env st => (g98b1100 R) n (env 0) (env 2) (env 3) st := by
    intro n
    induction n with
    | zero => rfl
    | succ n ih =>
      have h : aloop ((g98X R) (g98C [1, 1, 0, 0, 0])) ((g98k1 R)) (n + 1) = (g98X R) (g98C [1, 1, 0, 0, 0]) (kSeq (aloop ((g98X R) (g98C [1, 1, 0, 0, 0])) ((g98k1 R)) n) ((g98k1 R))) := rfl
      rw [h, ih]
      refine Eq.trans (Eq.refl _) ?_
      funext env st
      kernel_rfl
  exact ((g98loop R) g98n1100).trans (key big)
noncomputable def f98 (R : Nat → Fn) (x0 : V) (st : St) : Res :=
 A.box (.agg [(.int .i64 0), (.str []), (.lst [] 1)]) st fun a1 z2 =>
 A.ret (R 103 [x0.er1] z2) fun a3 z4 =>
 A.bslice 3 (.agg [(.int .i64 0), (.str []), (.lst [] 1)]) 1 [(0, a3)] fun a5 =>
 (g98b1100 R) big x0 a1 a5 z4
theorem g98nr : g98C [] = .seq (g98C [0]) (g98C [1]) := by kernel_rfl
theorem g98n1 : g98C [1] = .seq (g98C [1, 0]) (g98C [1, 1]) := by kernel_rfl
theorem g98n11 : g98C [1, 1] = .seq (g98C [1, 1, 0]) (g98C [1, 1, 1]) := by kernel_rfl
theorem g98n110 : g98C [1, 1, 0] = .block 0 (g98C [1, 1, 0, 0]) := by kernel_rfl
theorem g98er (R : Nat → Fn) (env : Env) (st : St) : (g98X R) (g98C []) (g98kr R) env st = (f98 R) (env 0) st := by
  rw [((g98seq R) g98nr ((g98seq R) g98n1 (((g98seq R) g98n11 rfl).trans (((g98blk R) g98n110).trans ((g98e1100 R))))))]
  kernel_rfl
theorem s98R_eq (R : Nat → Fn) (x0 : V) (st : St) : afn Try.prog g98mu (g98T R) big (areg Try.prog g98mu (g98T R)) 98 [x0] st = (f98 R) x0 st := by
  have h : afn Try.prog g98mu (g98T R) big (areg Try.prog g98mu (g98T R)) 98 [x0] st = (g98X R) (g98C []) (g98kr R) (fun t => [x0].getD t (.tup [])) st := by kernel_rfl
  exact h.trans ((g98er R) _ st)
/-! (*sinew/sinewref09.reader).seq -/
def g103mu : Nat → Bool := fun _ => false
noncomputable def g103T (R : Nat → Fn) : Tbl := tget [(105, R 105), (59, s59)]
theorem g103t (R : Nat → Fn) (hR : ∀ j, j ∈ [98, 103, 105, 106] → Sim Try.prog j (R j)) : SimT Try.prog (g103T R) := simT_cons (hR 105 (by decide)) ( simT_cons sim59 (simT_nil))
noncomputable def g103C (p : List Nat) : Code := sub (match Try.f103.body with | some c => c | none => .skip) p
noncomputable def g103X (R : Nat → Fn) (c : Code) (K : Kon) : Env → St → Res := aexec Try.prog g103mu (g103T R) big 29 (areg Try.prog g103mu (g103T R) 29) c K
noncomputable def g103kr (R : Nat → Fn) : Kon := aresK Try.prog Try.f103.results.toList
theorem g103reg (R : Nat → Fn) {c : Code} {K : Kon} {G : Env → St → Res} {id : Nat} {ops : Array Oper} {l1 l2 : List Nat} (hc : c = .region id ops false) (hl : List.range ops.size = l1 ++ l2) (h : (fun env st => aops Try.prog g103mu (g103T R) 29 ops l2 env st (K .normal)) = G) : (g103X R) c K = fun env st => aops Try.prog g103mu (g103T R) 29 ops l1 env st G := reg_cut hc hl h
theorem g103seq (R : Nat → Fn) {c x y : Code} {K : Kon} {G : Env → St → Res} (hc : c = .seq x y) (hy : (g103X R) y K = G) : (g103X R) c K = (g103X R) x (kSeq G K) := seq_cut hc hy
theorem g103blk (R : Nat → Fn) {c x : Code} {K : Kon} {i : Nat} (hc : c = .block i x) : (g103X R) c K = (g103X R) x (kBlk i K) := blk_cut hc
theorem g103loop (R : Nat → Fn) {c x : Code} {K : Kon} (hc : c = .loop x) : (g103X R) c K = aloop ((g103X R) x) K big := loop_cut hc
theorem g103cond (R : Nat → Fn) {c x y : Code} {K : Kon} {v : Operand} {F G : Env → St → Res} (hc : c = .cond v x y) (hx : (g103X R) x K = F) (hy : (g103X R) y K = G) : (g103X R) c K = condF v F G := cond_cut hc hx hy
noncomputable def g103k0 (R : Nat → Fn) : Kon := kSeq ((g103X R) (g103C [1, 1, 1]) ((g103kr R))) ((g103kr R))
noncomputable def g103k1 (R : Nat → Fn) : Kon := kBlk 0 ((g103k0 R))
noncomputable def g103b1100 (R : Nat → Fn) : Nat → V → V → V → St → Res
| 0, _, _, _, _ => none
| n + 1, x0, x2, x3, st =>
 A.ret (s59 [x0.er1, ((.str [47]) : V).er1] st) fun a1 z2 =>
 A.cond a1
 (A.nilc x0 fun a3 =>
 A.faddr 1 a3 fun a4 =>
 A.load false 1 a4 z2 fun a5 z6 =>
 A.bin .add a5 (.int .i64 1) fun a7 =>
 A.nilc x0 fun a8 =>
 A.faddr 1 a8 fun a9 =>
 A.store 1 a9 a7 z6 fun z10 =>
 A.ret (R 105 [x0.er1] z10) fun a11 z12 =>
 A.bslice 3 (.agg [(.int .i64 0), (.str []), (.lst [] 1)]) 1 [(0, a11)] fun a13 =>
 A.app 3 x3 (elemsOf 5 3 a13 z12) z12 fun a14 z15 =>
 ((g103b1100 R) n) x0 x2 a14 z15)
 (A.lenL x3 fun a16 =>
 A.eql 2 false a16 (.int .i64 1) fun a17 =>
 A.cond a17
 (A.iaddr 3 x3 (.int .i64 0) fun a18 =>
 A.load true 3 a18 z2 fun a19 z20 =>
 A.store 3 x2 a19 z20 fun z21 =>
 A.res (rcell (A.load true 3 x2 z21 kid) (some [])) z21)
 (A.build [(.int .i64 0), (.str []), (.lst [] 1)] [(0, 1, (.int .i64 2)), (2, 1, x3)] fun a22 =>
 A.store 3 x2 a22 z2 fun z23 =>
 A.res (rcell (A.load true 3 x2 z23 kid) (some [])) z23))
theorem g103n1100 : g103C [1, 1, 0, 0] = .loop (g103C [1, 1, 0, 0, 0]) := by kernel_rfl
noncomputable def g103k2 (R : Nat → Fn) (L1100 : V → V → V → St → Res) : Kon := kSeq (fun env st => L1100 (env 0) (env 2) (env 3) st) ((g103k1 R))
theorem g103e1100 (R : Nat → Fn) : (g103X R) (g103C [1, 1, 0, 0]) ((g103k1 R)) = fun env st => (g103b1100 R) big (env 0) (env 2) (env 3) st := by
  have key : ∀ n, aloop ((g103X R) (g103C [1, 1, 0, 0, 0])) ((g103k1 R)) n = fun env st => (g103b1100 R) n (env 0) (env 2) (env 3) st := by
    intro n
    induction n with
    | zero => rfl
    | succ n ih =>
      have h : aloop ((g103X R) (g103C [1, 1, 0, 0, 0])) ((g103k1 R)) (n + 1) = (g103X R) (g103C [1, 1, 0, 0, 0]) (kSeq (aloop ((g103X R) (g103C [1, 1, 0, 0, 0])) ((g103k1 R)) n) ((g103k1 R))) := rfl
      rw [h, ih]
      refine Eq.trans (Eq.refl _) ?_
      funext env st
      kernel_rfl
  exact ((g103loop R) g103n1100).trans (key big)
noncomputable def f103 (R : Nat → Fn) (x0 : V) (st : St) : Res :=
 A.box (.agg [(.int .i64 0), (.str []), (.lst [] 1)]) st fun a1 z2 =>
 A.ret (R 105 [x0.er1] z2) fun a3 z4 =>
 A.bslice 3 (.agg [(.int .i64 0), (.str []), (.lst [] 1)]) 1 [(0, a3)] fun a5 =>
 (g103b1100 R) big x0 a1 a5 z4
theorem g103nr : g103C [] = .seq (g103C [0]) (g103C [1]) := by kernel_rfl
theorem g103n1 : g103C [1] = .seq (g103C [1, 0]) (g103C [1, 1]) := by kernel_rfl
theorem g103n11 : g103C [1, 1] = .seq (g103C [1, 1, 0]) (g103C [1, 1, 1]) := by kernel_rfl
theorem g103n110 : g103C [1, 1, 0] = .block 0 (g103C [1, 1, 0, 0]) := by kernel_rfl
theorem g103er (R : Nat → Fn) (env : Env) (st : St) : (g103X R) (g103C []) (g103kr R) env st = (f103 R) (env 0) st := by
  rw [((g103seq R) g103nr ((g103seq R) g103n1 (((g103seq R) g103n11 rfl).trans (((g103blk R) g103n110).trans ((g103e1100 R))))))]
  kernel_rfl
theorem s103R_eq (R : Nat → Fn) (x0 : V) (st : St) : afn Try.prog g103mu (g103T R) big (areg Try.prog g103mu (g103T R)) 103 [x0] st = (f103 R) x0 st := by
  have h : afn Try.prog g103mu (g103T R) big (areg Try.prog g103mu (g103T R)) 103 [x0] st = (g103X R) (g103C []) (g103kr R) (fun t => [x0].getD t (.tup [])) st := by kernel_rfl
  exact h.trans ((g103er R) _ st)
/-! (*sinew/sinewref09.reader).post -/
def g105mu : Nat → Bool := fun _ => false
noncomputable def g105T (R : Nat → Fn) : Tbl := tget [(106, R 106), (59, s59)]
theorem g105t (R : Nat → Fn) (hR : ∀ j, j ∈ [98, 103, 105, 106] → Sim Try.prog j (R j)) : SimT Try.prog (g105T R) := simT_cons (hR 106 (by decide)) ( simT_cons sim59 (simT_nil))
noncomputable def g105C (p : List Nat) : Code := sub (match Try.f105.body with | some c => c | none => .skip) p
noncomputable def g105X (R : Nat → Fn) (c : Code) (K : Kon) : Env → St → Res := aexec Try.prog g105mu (g105T R) big 27 (areg Try.prog g105mu (g105T R) 27) c K
noncomputable def g105kr (R : Nat → Fn) : Kon := aresK Try.prog Try.f105.results.toList
theorem g105reg (R : Nat → Fn) {c : Code} {K : Kon} {G : Env → St → Res} {id : Nat} {ops : Array Oper} {l1 l2 : List Nat} (hc : c = .region id ops false) (hl : List.range ops.size = l1 ++ l2) (h : (fun env st => aops Try.prog g105mu (g105T R) 27 ops l2 env st (K .normal)) = G) : (g105X R) c K = fun env st => aops Try.prog g105mu (g105T R) 27 ops l1 env st G := reg_cut hc hl h
theorem g105seq (R : Nat → Fn) {c x y : Code} {K : Kon} {G : Env → St → Res} (hc : c = .seq x y) (hy : (g105X R) y K = G) : (g105X R) c K = (g105X R) x (kSeq G K) := seq_cut hc hy
theorem g105blk (R : Nat → Fn) {c x : Code} {K : Kon} {i : Nat} (hc : c = .block i x) : (g105X R) c K = (g105X R) x (kBlk i K) := blk_cut hc
theorem g105loop (R : Nat → Fn) {c x : Code} {K : Kon} (hc : c = .loop x) : (g105X R) c K = aloop ((g105X R) x) K big := loop_cut hc
theorem g105cond (R : Nat → Fn) {c x y : Code} {K : Kon} {v : Operand} {F G : Env → St → Res} (hc : c = .cond v x y) (hx : (g105X R) x K = F) (hy : (g105X R) y K = G) : (g105X R) c K = condF v F G := cond_cut hc hx hy
noncomputable def g105k0 (R : Nat → Fn) : Kon := kBlk 0 ((g105kr R))
noncomputable def g105k1 (R : Nat → Fn) (L110 : V → V → V → St → Res) : Kon := kSeq (fun env st => L110 (env 0) (env 2) (env 3) st) ((g105k0 R))
noncomputable def g105k2 (R : Nat → Fn) (L110 : V → V → V → St → Res) : Kon := kBlk 1 ((g105k1 R) L110)
noncomputable def g105b11000111111 (R : Nat → Fn) (L110 : V → V → V → St → Res) (x0 : V) (x2 : V) (x3 : V) (x4 : V) (st : St) : Res :=
 A.load true 3 x3 st fun a1 z2 =>
 A.bslice 3 (.agg [(.int .i64 0), (.str []), (.lst [] 1)]) 1 [(0, a1)] fun a3 =>
 A.build [(.int .i64 0), (.str []), (.lst [] 1)] [(0, 1, x4), (2, 1, a3)] fun a4 =>
 A.store 3 x3 a4 z2 fun z5 =>
 L110 x0 x2 x3 z5
theorem g105e11000111111 (R : Nat → Fn) (L110 : V → V → V → St → Res) : (g105X R) (g105C [1, 1, 0, 0, 0, 1, 1, 1, 1, 1, 1]) ((g105k2 R) L110) = fun env st => (g105b11000111111 R) L110 (env 0) (env 2) (env 3) (env 4) st := by
  refine Eq.trans (Eq.refl ((g105X R) (g105C [1, 1, 0, 0, 0, 1, 1, 1, 1, 1, 1]) ((g105k2 R) L110))) ?_
  funext env st
  kernel_rfl
noncomputable def g105b110001111 (R : Nat → Fn) (L110 : V → V → V → St → Res) (x0 : V) (x2 : V) (x3 : V) (x4 : V) (st : St) : Res :=
 A.eql 2 false x4 (.int .i64 0) fun a1 =>
 A.cond a1
 (A.load true 3 x3 st fun a2 z3 =>
 A.store 3 x2 a2 z3 fun z4 =>
 A.res (rcell (A.load true 3 x2 z4 kid) (some [])) z4)
 (A.nilc x0 fun a5 =>
 A.faddr 1 a5 fun a6 =>
 A.load false 1 a6 st fun a7 z8 =>
 A.bin .add a7 (.int .i64 1) fun a9 =>
 A.nilc x0 fun a10 =>
 A.faddr 1 a10 fun a11 =>
 A.store 1 a11 a9 z8 fun z12 =>
 (g105b11000111111 R) L110 x0 x2 x3 x4 z12)
theorem g105n110001111 : g105C [1, 1, 0, 0, 0, 1, 1, 1, 1] = .seq (g105C [1, 1, 0, 0, 0, 1, 1, 1, 1, 0]) (g105C [1, 1, 0, 0, 0, 1, 1, 1, 1, 1]) := by kernel_rfl
theorem g105n1100011111 : g105C [1, 1, 0, 0, 0, 1, 1, 1, 1, 1] = .seq (g105C [1, 1, 0, 0, 0, 1, 1, 1, 1, 1, 0]) (g105C [1, 1, 0, 0, 0, 1, 1, 1, 1, 1, 1]) := by kernel_rfl
theorem g105e110001111 (R : Nat → Fn) (L110 : V → V → V → St → Res) : (g105X R) (g105C [1, 1, 0, 0, 0, 1, 1, 1, 1]) ((g105k2 R) L110) = fun env st => (g105b110001111 R) L110 (env 0) (env 2) (env 3) (env 4) st := by
  refine Eq.trans ((g105seq R) g105n110001111 ((g105seq R) g105n1100011111 ((g105e11000111111 R) L110))) ?_
  funext env st
  kernel_rfl
noncomputable def g105b11000111 (R : Nat → Fn) (L110 : V → V → V → St → Res) (x0 : V) (x2 : V) (x3 : V) (x4 : V) (st : St) : Res :=
 A.ret (s59 [x0.er1, ((.str [63]) : V).er1] st) fun a1 z2 =>
 A.cond a1
 ((g105b110001111 R) L110 x0 x2 x3 (.int .i64 6) z2)
 ((g105b110001111 R) L110 x0 x2 x3 x4 z2)
theorem g105n11000111 : g105C [1, 1, 0, 0, 0, 1, 1, 1] = .seq (g105C [1, 1, 0, 0, 0, 1, 1, 1, 0]) (g105C [1, 1, 0, 0, 0, 1, 1, 1, 1]) := by kernel_rfl
theorem g105e11000111 (R : Nat → Fn) (L110 : V → V → V → St → Res) : (g105X R) (g105C [1, 1, 0, 0, 0, 1, 1, 1]) ((g105k2 R) L110) = fun env st => (g105b11000111 R) L110 (env 0) (env 2) (env 3) (env 4) st := by
  refine Eq.trans ((g105seq R) g105n11000111 ((g105e110001111 R) L110)) ?_
  funext env st
  kernel_rfl
noncomputable def g105b1100011 (R : Nat → Fn) (L110 : V → V → V → St → Res) (x0 : V) (x2 : V) (x3 : V) (x4 : V) (st : St) : Res :=
 A.ret (s59 [x0.er1, ((.str [43]) : V).er1] st) fun a1 z2 =>
 A.cond a1
 ((g105b11000111 R) L110 x0 x2 x3 (.int .i64 5) z2)
 ((g105b11000111 R) L110 x0 x2 x3 x4 z2)
theorem g105n1100011 : g105C [1, 1, 0, 0, 0, 1, 1] = .seq (g105C [1, 1, 0, 0, 0, 1, 1, 0]) (g105C [1, 1, 0, 0, 0, 1, 1, 1]) := by kernel_rfl
theorem g105e1100011 (R : Nat → Fn) (L110 : V → V → V → St → Res) : (g105X R) (g105C [1, 1, 0, 0, 0, 1, 1]) ((g105k2 R) L110) = fun env st => (g105b1100011 R) L110 (env 0) (env 2) (env 3) (env 4) st := by
  refine Eq.trans ((g105seq R) g105n1100011 ((g105e11000111 R) L110)) ?_
  funext env st
  kernel_rfl
noncomputable def g105b110 (R : Nat → Fn) : Nat → V → V → V → St → Res
| 0, _, _, _, _ => none
| n + 1, x0, x2, x3, st =>
 A.ret (s59 [x0.er1, ((.str [42]) : V).er1] st) fun a1 z2 =>
 A.cond a1
 ((g105b1100011 R) ((g105b110 R) n) x0 x2 x3 (.int .i64 4) z2)
 ((g105b1100011 R) ((g105b110 R) n) x0 x2 x3 (.int .i64 0) z2)
theorem g105n110 : g105C [1, 1, 0] = .loop (g105C [1, 1, 0, 0]) := by kernel_rfl
theorem g105n1100 : g105C [1, 1, 0, 0] = .block 1 (g105C [1, 1, 0, 0, 0]) := by kernel_rfl
theorem g105n11000 : g105C [1, 1, 0, 0, 0] = .seq (g105C [1, 1, 0, 0, 0, 0]) (g105C [1, 1, 0, 0, 0, 1]) := by kernel_rfl
theorem g105n110001 : g105C [1, 1, 0, 0, 0, 1] = .seq (g105C [1, 1, 0, 0, 0, 1, 0]) (g105C [1, 1, 0, 0, 0, 1, 1]) := by kernel_rfl
theorem g105e110 (R : Nat → Fn) : (g105X R) (g105C [1, 1, 0]) ((g105k0 R)) = fun env st => (g105b110 R) big (env 0) (env 2) (env 3) st := by
  have key : ∀ n, aloop ((g105X R) (g105C [1, 1, 0, 0])) ((g105k0 R)) n = fun env st => (g105b110 R) n (env 0) (env 2) (env 3) st := by
    intro n
    induction n with
    | zero => rfl
    | succ n ih =>
      have h : aloop ((g105X R) (g105C [1, 1, 0, 0])) ((g105k0 R)) (n + 1) = (g105X R) (g105C [1, 1, 0, 0]) (kSeq (aloop ((g105X R) (g105C [1, 1, 0, 0])) ((g105k0 R)) n) ((g105k0 R))) := rfl
      rw [h, ih]
      refine Eq.trans (((g105blk R) g105n1100).trans ((g105seq R) g105n11000 ((g105seq R) g105n110001 ((g105e1100011 R) ((g105b110 R) n))))) ?_
      funext env st
      kernel_rfl
  exact ((g105loop R) g105n110).trans (key big)
noncomputable def f105 (R : Nat → Fn) (x0 : V) (st : St) : Res :=
 A.box (.agg [(.int .i64 0), (.str []), (.lst [] 1)]) st fun a1 z2 =>
 A.ret (R 106 [x0.er1] z2) fun a3 z4 =>
 A.box (.agg [(.int .i64 0), (.str []), (.lst [] 1)]) z4 fun a5 z6 =>
 A.store 3 a5 a3 z6 fun z7 =>
 (g105b110 R) big x0 a1 a5 z7
theorem g105nr : g105C [] = .seq (g105C [0]) (g105C [1]) := by kernel_rfl
theorem g105n1 : g105C [1] = .seq (g105C [1, 0]) (g105C [1, 1]) := by kernel_rfl
theorem g105n11 : g105C [1, 1] = .block 0 (g105C [1, 1, 0]) := by kernel_rfl
theorem g105er (R : Nat → Fn) (env : Env) (st : St) : (g105X R) (g105C []) (g105kr R) env st = (f105 R) (env 0) st := by
  rw [((g105seq R) g105nr ((g105seq R) g105n1 (((g105blk R) g105n11).trans ((g105e110 R)))))]
  kernel_rfl
theorem s105R_eq (R : Nat → Fn) (x0 : V) (st : St) : afn Try.prog g105mu (g105T R) big (areg Try.prog g105mu (g105T R)) 105 [x0] st = (f105 R) x0 st := by
  have h : afn Try.prog g105mu (g105T R) big (areg Try.prog g105mu (g105T R)) 105 [x0] st = (g105X R) (g105C []) (g105kr R) (fun t => [x0].getD t (.tup [])) st := by kernel_rfl
  exact h.trans ((g105er R) _ st)
/-! (*sinew/sinewref09.reader).prim -/
def g106mu : Nat → Bool := fun _ => false
noncomputable def g106T (R : Nat → Fn) : Tbl := tget [(98, R 98), (59, s59), (85, s85), (86, s86)]
theorem g106t (R : Nat → Fn) (hR : ∀ j, j ∈ [98, 103, 105, 106] → Sim Try.prog j (R j)) : SimT Try.prog (g106T R) := simT_cons (hR 98 (by decide)) ( simT_cons sim59 ( simT_cons sim85 ( simT_cons sim86 (simT_nil))))
noncomputable def g106C (p : List Nat) : Code := sub (match Try.f106.body with | some c => c | none => .skip) p
noncomputable def g106X (R : Nat → Fn) (c : Code) (K : Kon) : Env → St → Res := aexec Try.prog g106mu (g106T R) big 21 (areg Try.prog g106mu (g106T R) 21) c K
noncomputable def g106kr (R : Nat → Fn) : Kon := aresK Try.prog Try.f106.results.toList
theorem g106reg (R : Nat → Fn) {c : Code} {K : Kon} {G : Env → St → Res} {id : Nat} {ops : Array Oper} {l1 l2 : List Nat} (hc : c = .region id ops false) (hl : List.range ops.size = l1 ++ l2) (h : (fun env st => aops Try.prog g106mu (g106T R) 21 ops l2 env st (K .normal)) = G) : (g106X R) c K = fun env st => aops Try.prog g106mu (g106T R) 21 ops l1 env st G := reg_cut hc hl h
theorem g106seq (R : Nat → Fn) {c x y : Code} {K : Kon} {G : Env → St → Res} (hc : c = .seq x y) (hy : (g106X R) y K = G) : (g106X R) c K = (g106X R) x (kSeq G K) := seq_cut hc hy
theorem g106blk (R : Nat → Fn) {c x : Code} {K : Kon} {i : Nat} (hc : c = .block i x) : (g106X R) c K = (g106X R) x (kBlk i K) := blk_cut hc
theorem g106loop (R : Nat → Fn) {c x : Code} {K : Kon} (hc : c = .loop x) : (g106X R) c K = aloop ((g106X R) x) K big := loop_cut hc
theorem g106cond (R : Nat → Fn) {c x y : Code} {K : Kon} {v : Operand} {F G : Env → St → Res} (hc : c = .cond v x y) (hx : (g106X R) x K = F) (hy : (g106X R) y K = G) : (g106X R) c K = condF v F G := cond_cut hc hx hy
noncomputable def g106k0 (R : Nat → Fn) : Kon := kSeq ((g106X R) (g106C [1, 1]) ((g106kr R))) ((g106kr R))
noncomputable def g106b10101 (R : Nat → Fn) (x0 : V) (x2 : V) (st : St) : Res :=
 A.ret (R 98 [x0.er1] st) fun a1 z2 =>
 A.box (.agg [(.int .i64 0), (.str []), (.lst [] 1)]) z2 fun a3 z4 =>
 A.store 3 a3 a1 z4 fun z5 =>
 A.ret (s86 [x0.er1, ((.int .i64 3) : V).er1, ((.str [41]) : V).er1] z5) fun a6 z7 =>
 A.load true 3 a3 z7 fun a8 z9 =>
 A.store 3 x2 a8 z9 fun z10 =>
 A.res (rcell (A.load true 3 x2 z10 kid) (some [])) z10
theorem g106e10101 (R : Nat → Fn) : (g106X R) (g106C [1, 0, 1, 0, 1]) ((g106k0 R)) = fun env st => (g106b10101 R) (env 0) (env 2) st := by
  refine Eq.trans (Eq.refl ((g106X R) (g106C [1, 0, 1, 0, 1]) ((g106k0 R)))) ?_
  funext env st
  kernel_rfl
noncomputable def f106 (R : Nat → Fn) (x0 : V) (st : St) : Res :=
 A.box (.agg [(.int .i64 0), (.str []), (.lst [] 1)]) st fun a1 z2 =>
 A.ret (s59 [x0.er1, ((.str [40]) : V).er1] z2) fun a3 z4 =>
 A.cond a3
 (A.nilc x0 fun a5 =>
 A.faddr 1 a5 fun a6 =>
 A.load false 1 a6 z4 fun a7 z8 =>
 A.bin .add a7 (.int .i64 1) fun a9 =>
 A.nilc x0 fun a10 =>
 A.faddr 1 a10 fun a11 =>
 A.store 1 a11 a9 z8 fun z12 =>
 (g106b10101 R) x0 a1 z12)
 (A.ret (s85 [x0.er1, ((.int .i64 1) : V).er1] z4) fun a13 z14 =>
 A.build [(.int .i64 0), (.str []), (.lst [] 1)] [(0, 1, (.int .i64 1)), (1, 1, a13)] fun a15 =>
 A.store 3 a1 a15 z14 fun z16 =>
 A.res (rcell (A.load true 3 a1 z16 kid) (some [])) z16)
theorem g106nr : g106C [] = .seq (g106C [0]) (g106C [1]) := by kernel_rfl
theorem g106n1 : g106C [1] = .seq (g106C [1, 0]) (g106C [1, 1]) := by kernel_rfl
theorem g106n10 : g106C [1, 0] = .seq (g106C [1, 0, 0]) (g106C [1, 0, 1]) := by kernel_rfl
theorem g106n101 : g106C [1, 0, 1] = .cond (.tmp 5) (g106C [1, 0, 1, 0]) (g106C [1, 0, 1, 1]) := by kernel_rfl
theorem g106n1010 : g106C [1, 0, 1, 0] = .seq (g106C [1, 0, 1, 0, 0]) (g106C [1, 0, 1, 0, 1]) := by kernel_rfl
theorem g106er (R : Nat → Fn) (env : Env) (st : St) : (g106X R) (g106C []) (g106kr R) env st = (f106 R) (env 0) st := by
  rw [((g106seq R) g106nr (((g106seq R) g106n1 rfl).trans ((g106seq R) g106n10 ((g106cond R) g106n101 ((g106seq R) g106n1010 ((g106e10101 R))) rfl))))]
  kernel_rfl
theorem s106R_eq (R : Nat → Fn) (x0 : V) (st : St) : afn Try.prog g106mu (g106T R) big (areg Try.prog g106mu (g106T R)) 106 [x0] st = (f106 R) x0 st := by
  have h : afn Try.prog g106mu (g106T R) big (areg Try.prog g106mu (g106T R)) 106 [x0] st = (g106X R) (g106C []) (g106kr R) (fun t => [x0].getD t (.tup [])) st := by kernel_rfl
  exact h.trans ((g106er R) _ st)
noncomputable def G98 : Nat → Nat → Fn
| 0 => fun _ _ _ => none
| n + 1 => fun j => ((tget [(98, afn Try.prog g98mu (g98T (G98 n)) big (areg Try.prog g98mu (g98T (G98 n))) 98), (103, afn Try.prog g103mu (g103T (G98 n)) big (areg Try.prog g103mu (g103T (G98 n))) 103), (105, afn Try.prog g105mu (g105T (G98 n)) big (areg Try.prog g105mu (g105T (G98 n))) 105), (106, afn Try.prog g106mu (g106T (G98 n)) big (areg Try.prog g106mu (g106T (G98 n))) 106)]) j).getD (fun _ _ => none)
theorem G98_98 (n : Nat) : G98 (n + 1) 98 = afn Try.prog g98mu (g98T (G98 n)) big (areg Try.prog g98mu (g98T (G98 n))) 98 := by kernel_rfl
theorem G98_103 (n : Nat) : G98 (n + 1) 103 = afn Try.prog g103mu (g103T (G98 n)) big (areg Try.prog g103mu (g103T (G98 n))) 103 := by kernel_rfl
theorem G98_105 (n : Nat) : G98 (n + 1) 105 = afn Try.prog g105mu (g105T (G98 n)) big (areg Try.prog g105mu (g105T (G98 n))) 105 := by kernel_rfl
theorem G98_106 (n : Nat) : G98 (n + 1) 106 = afn Try.prog g106mu (g106T (G98 n)) big (areg Try.prog g106mu (g106T (G98 n))) 106 := by kernel_rfl
theorem G98_ok : ∀ j, j ∈ [98, 103, 105, 106] → okFn Try.prog j = true := by
  intro j hj
  simp only [List.mem_cons, List.not_mem_nil, or_false] at hj
  rcases hj with rfl | rfl | rfl | rfl <;> kernel_rfl
theorem simG98 : ∀ n j, j ∈ [98, 103, 105, 106] → Sim Try.prog j (G98 n j)
| 0, j, hj => ⟨G98_ok j hj, fun _ _ _ _ _ _ _ h => by cases h⟩
| n + 1, j, hj => by
  have ih := simG98 n
  simp only [List.mem_cons, List.not_mem_nil, or_false] at hj
  rcases hj with rfl | rfl | rfl | rfl
  · rw [G98_98]; exact afn_sim (g98t (G98 n) ih) (fun m => areg_sound (g98t (G98 n) ih) hmix m) 98 (by kernel_rfl)
  · rw [G98_103]; exact afn_sim (g103t (G98 n) ih) (fun m => areg_sound (g103t (G98 n) ih) hmix m) 103 (by kernel_rfl)
  · rw [G98_105]; exact afn_sim (g105t (G98 n) ih) (fun m => areg_sound (g105t (G98 n) ih) hmix m) 105 (by kernel_rfl)
  · rw [G98_106]; exact afn_sim (g106t (G98 n) ih) (fun m => areg_sound (g106t (G98 n) ih) hmix m) 106 (by kernel_rfl)
noncomputable def s98 : Fn := sealF (G98 big 98)
theorem sim98 : Sim Try.prog 98 s98 := (simG98 big 98 (by decide)).sealed
theorem s98_n : s98 = G98 big 98 := sealF_eq _
theorem G98_98_eq (n : Nat) (x0 : V) (st : St) : G98 (n + 1) 98 [x0] st = f98 (G98 n) x0 st := by
  rw [G98_98]; exact s98R_eq (G98 n) x0 st
noncomputable def s103 : Fn := sealF (G98 big 103)
theorem sim103 : Sim Try.prog 103 s103 := (simG98 big 103 (by decide)).sealed
theorem s103_n : s103 = G98 big 103 := sealF_eq _
theorem G98_103_eq (n : Nat) (x0 : V) (st : St) : G98 (n + 1) 103 [x0] st = f103 (G98 n) x0 st := by
  rw [G98_103]; exact s103R_eq (G98 n) x0 st
noncomputable def s105 : Fn := sealF (G98 big 105)
theorem sim105 : Sim Try.prog 105 s105 := (simG98 big 105 (by decide)).sealed
theorem s105_n : s105 = G98 big 105 := sealF_eq _
theorem G98_105_eq (n : Nat) (x0 : V) (st : St) : G98 (n + 1) 105 [x0] st = f105 (G98 n) x0 st := by
  rw [G98_105]; exact s105R_eq (G98 n) x0 st
noncomputable def s106 : Fn := sealF (G98 big 106)
theorem sim106 : Sim Try.prog 106 s106 := (simG98 big 106 (by decide)).sealed
theorem s106_n : s106 = G98 big 106 := sealF_eq _
theorem G98_106_eq (n : Nat) (x0 : V) (st : St) : G98 (n + 1) 106 [x0] st = f106 (G98 n) x0 st := by
  rw [G98_106]; exact s106R_eq (G98 n) x0 st
/-! sinew/sinewref09.SamePath -/
def g30mu : Nat → Bool := fun _ => false
noncomputable def g30T (R : Fn) : Tbl := tget [(30, R)]
theorem g30t (R : Fn) (hR : Sim Try.prog 30 R) : SimT Try.prog (g30T R) := simT_cons hR (simT_nil)
noncomputable def s30n : Nat → Fn
| 0 => fun _ _ => none
| n + 1 => fun args st => fg (afn Try.prog g30mu (g30T (s30n n)) big (areg Try.prog g30mu (g30T (s30n n))) 30 args st) st
theorem sim30n : ∀ n, Sim Try.prog 30 (s30n n)
| 0 => ⟨by kernel_rfl, fun _ _ _ _ _ _ _ h => by cases h⟩
| n + 1 => (afn_sim (g30t (s30n n) (sim30n n)) (fun m => areg_sound (g30t (s30n n) (sim30n n)) hmix m) 30 (by kernel_rfl)).fg
noncomputable def s30 : Fn := sealF (s30n big)
theorem sim30 : Sim Try.prog 30 s30 := (sim30n big).sealed
theorem s30_n : s30 = s30n big := sealF_eq _
noncomputable def g30C (p : List Nat) : Code := sub (match Try.f30.body with | some c => c | none => .skip) p
noncomputable def g30X (R : Fn) (c : Code) (K : Kon) : Env → St → Res := aexec Try.prog g30mu (g30T R) big 46 (areg Try.prog g30mu (g30T R) 46) c K
noncomputable def g30kr (R : Fn) : Kon := aresK Try.prog Try.f30.results.toList
theorem g30reg (R : Fn) {c : Code} {K : Kon} {G : Env → St → Res} {id : Nat} {ops : Array Oper} {l1 l2 : List Nat} (hc : c = .region id ops false) (hl : List.range ops.size = l1 ++ l2) (h : (fun env st => aops Try.prog g30mu (g30T R) 46 ops l2 env st (K .normal)) = G) : (g30X R) c K = fun env st => aops Try.prog g30mu (g30T R) 46 ops l1 env st G := reg_cut hc hl h
theorem g30seq (R : Fn) {c x y : Code} {K : Kon} {G : Env → St → Res} (hc : c = .seq x y) (hy : (g30X R) y K = G) : (g30X R) c K = (g30X R) x (kSeq G K) := seq_cut hc hy
theorem g30blk (R : Fn) {c x : Code} {K : Kon} {i : Nat} (hc : c = .block i x) : (g30X R) c K = (g30X R) x (kBlk i K) := blk_cut hc
theorem g30loop (R : Fn) {c x : Code} {K : Kon} (hc : c = .loop x) : (g30X R) c K = aloop ((g30X R) x) K big := loop_cut hc
theorem g30cond (R : Fn) {c x y : Code} {K : Kon} {v : Operand} {F G : Env → St → Res} (hc : c = .cond v x y) (hx : (g30X R) x K = F) (hy : (g30X R) y K = G) : (g30X R) c K = condF v F G := cond_cut hc hx hy
noncomputable def g30k0 (R : Fn) : Kon := kSeq ((g30X R) (g30C [1, 1, 1]) ((g30kr R))) ((g30kr R))
noncomputable def g30k1 (R : Fn) : Kon := kBlk 0 ((g30k0 R))
noncomputable def g30b11010 (R : Fn) : Nat → V → V → V → St → Res
| 0, _, _, _, _ => none
| n + 1, x2, x3, x5, st =>
 A.faddr 2 x2 fun a1 =>
 A.load false 1 a1 st fun a2 z3 =>
 A.lenL a2 fun a4 =>
 A.bin .lss x5 a4 fun a5 =>
 A.cond a5
 (A.faddr 2 x2 fun a6 =>
 A.load false 1 a6 z3 fun a7 _ =>
 A.iaddr 3 a7 x5 fun a8 =>
 A.load true 3 a8 z3 fun a9 _ =>
 A.faddr 2 x3 fun a10 =>
 A.load false 1 a10 z3 fun a11 _ =>
 A.iaddr 3 a11 x5 fun a12 =>
 A.load true 3 a12 z3 fun a13 _ =>
 A.ret (A.ret (R [a9.er1, a13.er1] z3) kid) fun a14 z15 =>
 A.un .not a14 fun a16 =>
 A.cond a16
 (some (.ret ((.bool false) : V).er1, z15))
 (A.bin .add x5 (.int .i64 1) fun a17 =>
 ((g30b11010 R) n) x2 x3 a17 z15))
 (some (.ret ((.bool true) : V).er1, z3))
theorem g30n11010 : g30C [1, 1, 0, 1, 0] = .loop (g30C [1, 1, 0, 1, 0, 0]) := by kernel_rfl
noncomputable def g30k2 (R : Fn) (L11010 : V → V → V → St → Res) : Kon := kSeq (fun env st => L11010 (env 2) (env 3) (env 5) st) ((g30k1 R))
theorem g30e11010 (R : Fn) : (g30X R) (g30C [1, 1, 0, 1, 0]) ((g30k1 R)) = fun env st => (g30b11010 R) big (env 2) (env 3) (env 5) st := by
  have key : ∀ n, aloop ((g30X R) (g30C [1, 1, 0, 1, 0, 0])) ((g30k1 R)) n = fun env st => (g30b11010 R) n (env 2) (env 3) (env 5) st := by
    intro n
    induction n with
    | zero => rfl
    | succ n ih =>
      have h : aloop ((g30X R) (g30C [1, 1, 0, 1, 0, 0])) ((g30k1 R)) (n + 1) = (g30X R) (g30C [1, 1, 0, 1, 0, 0]) (kSeq (aloop ((g30X R) (g30C [1, 1, 0, 1, 0, 0])) ((g30k1 R)) n) ((g30k1 R))) := rfl
      rw [h, ih]
      refine Eq.trans (Eq.refl _) ?_
      funext env st
      kernel_rfl
  exact ((g30loop R) g30n11010).trans (key big)
noncomputable def g30b11 (R : Fn) (x2 : V) (x3 : V) (st : St) : Res :=
 (g30b11010 R) big x2 x3 (.int .i64 0) st
theorem g30n11 : g30C [1, 1] = .seq (g30C [1, 1, 0]) (g30C [1, 1, 1]) := by kernel_rfl
theorem g30n110 : g30C [1, 1, 0] = .seq (g30C [1, 1, 0, 0]) (g30C [1, 1, 0, 1]) := by kernel_rfl
theorem g30n1101 : g30C [1, 1, 0, 1] = .block 0 (g30C [1, 1, 0, 1, 0]) := by kernel_rfl
theorem g30e11 (R : Fn) : (g30X R) (g30C [1, 1]) ((g30kr R)) = fun env st => (g30b11 R) (env 2) (env 3) st := by
  refine Eq.trans (((g30seq R) g30n11 rfl).trans ((g30seq R) g30n110 (((g30blk R) g30n1101).trans ((g30e11010 R))))) ?_
  funext env st
  kernel_rfl
noncomputable def g30k3 (R : Fn) : Kon := kSeq (fun env st => (g30b11 R) (env 2) (env 3) st) ((g30kr R))
noncomputable def g30k4 (R : Fn) : Kon := kSeq ((g30X R) (g30C [1, 0, 1]) ((g30k3 R))) ((g30k3 R))
noncomputable def g30b100_13 (R : Fn) (x2 : V) (x3 : V) (x18 : V) (st : St) : Res :=
 A.guard x18 false
 (A.faddr 2 x2 fun a1 =>
 A.load false 1 a1 st fun a2 z3 =>
 A.lenL a2 fun a4 =>
 A.faddr 2 x3 fun a5 =>
 A.load false 1 a5 z3 fun a6 z7 =>
 A.lenL a6 fun a8 =>
 A.eql 2 true a4 a8 fun a9 =>
 A.cond a9
 (some (.ret ((.bool false) : V).er1, z7))
 ((g30b11 R) x2 x3 z7))
 (some (.ret ((.bool false) : V).er1, st))
theorem g30e100_13 (R : Fn) : (fun env st => aops Try.prog g30mu (g30T R) 46 (rops (g30C [1, 0, 0])) [13, 14, 15, 16, 17, 18, 19, 20] env st (((g30k4 R)) .normal)) = fun env st => (g30b100_13 R) (env 2) (env 3) (env 18) st := by
  refine Eq.trans (Eq.refl _) ?_
  funext env st
  kernel_rfl
noncomputable def g30b100_6 (R : Fn) (x2 : V) (x3 : V) (x11 : V) (st : St) : Res :=
 A.guard x11 false
 (A.faddr 1 x2 fun a1 =>
 A.load false 1 a1 st fun a2 z3 =>
 A.faddr 1 x3 fun a4 =>
 A.load false 1 a4 z3 fun a5 z6 =>
 A.eql 3 true a2 a5 fun a7 =>
 (g30b100_13 R) x2 x3 a7 z6)
 ((g30b100_13 R) x2 x3 (.bool true) st)
theorem g30e100_6 (R : Fn) : (fun env st => aops Try.prog g30mu (g30T R) 46 (rops (g30C [1, 0, 0])) [6, 7, 8, 9, 10, 11, 12, 13, 14, 15, 16, 17, 18, 19, 20] env st (((g30k4 R)) .normal)) = fun env st => (g30b100_6 R) (env 2) (env 3) (env 11) st := by
  refine Eq.trans (ops_cut (l1 := [6, 7, 8, 9, 10, 11, 12]) (l2 := [13, 14, 15, 16, 17, 18, 19, 20]) ((g30e100_13 R))) ?_
  funext env st
  kernel_rfl
noncomputable def f30 (R : Fn) (x0 : V) (x1 : V) (st : St) : Res :=
 A.box x0 st fun a1 z2 =>
 A.box x1 z2 fun a3 z4 =>
 A.faddr 0 a1 fun a5 =>
 A.load false 1 a5 z4 fun a6 z7 =>
 A.faddr 0 a3 fun a8 =>
 A.load false 1 a8 z7 fun a9 z10 =>
 A.eql 2 true a6 a9 fun a11 =>
 (g30b100_6 R) a1 a3 a11 z10
theorem g30nr : g30C [] = .seq (g30C [0]) (g30C [1]) := by kernel_rfl
theorem g30n1 : g30C [1] = .seq (g30C [1, 0]) (g30C [1, 1]) := by kernel_rfl
theorem g30n10 : g30C [1, 0] = .seq (g30C [1, 0, 0]) (g30C [1, 0, 1]) := by kernel_rfl
theorem g30rg100 : g30C [1, 0, 0] = .region 1 (rops (g30C [1, 0, 0])) false := by kernel_rfl
theorem g30rg100l : List.range (rops (g30C [1, 0, 0])).size = [0, 1, 2, 3, 4, 5] ++ [6, 7, 8, 9, 10, 11, 12, 13, 14, 15, 16, 17, 18, 19, 20] := by kernel_rfl
theorem g30er (R : Fn) (env : Env) (st : St) : (g30X R) (g30C []) (g30kr R) env st = (f30 R) (env 0) (env 1) st := by
  rw [((g30seq R) g30nr (((g30seq R) g30n1 ((g30e11 R))).trans (((g30seq R) g30n10 rfl).trans ((g30reg R) g30rg100 g30rg100l ((g30e100_6 R))))))]
  kernel_rfl
theorem s30n_eq (n : Nat) (x0 : V) (x1 : V) (st : St) : s30n (n + 1) [x0, x1] st = fg ((f30 (s30n n)) x0 x1 st) st := by
  have h : afn Try.prog g30mu (g30T (s30n n)) big (areg Try.prog g30mu (g30T (s30n n))) 30 [x0, x1] st = (g30X (s30n n)) (g30C []) (g30kr (s30n n)) (fun t => [x0, x1].getD t (.tup [])) st := by kernel_rfl
  show fg (afn Try.prog g30mu (g30T (s30n n)) big (areg Try.prog g30mu (g30T (s30n n))) 30 _ st) st = fg _ st
  refine congrArg (fun r => fg r st) ?_
  exact h.trans ((g30er (s30n n)) _ st)
/-! sinew/sinewref09.Same -/
def g15mu : Nat → Bool := fun _ => false
noncomputable def g15T : Tbl := tget [(30, s30)]
theorem g15t : SimT Try.prog g15T := simT_cons sim30 (simT_nil)
noncomputable def s15 : Fn := sealF (fun args st => fg (afn Try.prog g15mu g15T big (areg2 Try.prog g15mu g15T) 15 args st) st)
theorem sim15 : Sim Try.prog 15 s15 := (afn_sim g15t (fun m => areg2_sound g15t hmix m) 15 (by kernel_rfl)).fg.sealed
noncomputable def g15C (p : List Nat) : Code := sub (match Try.f15.body with | some c => c | none => .skip) p
noncomputable def g15X (c : Code) (K : Kon) : Env → St → Res := aexec Try.prog g15mu g15T big 125 (areg2 Try.prog g15mu g15T 125) c K
noncomputable def g15kr : Kon := aresK Try.prog Try.f15.results.toList
theorem g15reg {c : Code} {K : Kon} {G : Env → St → Res} {id : Nat} {ops : Array Oper} {l1 l2 : List Nat} (hc : c = .region id ops false) (hl : List.range ops.size = l1 ++ l2) (h : (fun env st => aops Try.prog g15mu g15T 125 ops l2 env st (K .normal)) = G) : g15X c K = fun env st => aops Try.prog g15mu g15T 125 ops l1 env st G := reg_cut hc hl h
theorem g15seq {c x y : Code} {K : Kon} {G : Env → St → Res} (hc : c = .seq x y) (hy : g15X y K = G) : g15X c K = g15X x (kSeq G K) := seq_cut hc hy
theorem g15blk {c x : Code} {K : Kon} {i : Nat} (hc : c = .block i x) : g15X c K = g15X x (kBlk i K) := blk_cut hc
theorem g15loop {c x : Code} {K : Kon} (hc : c = .loop x) : g15X c K = aloop (g15X x) K big := loop_cut hc
theorem g15cond {c x y : Code} {K : Kon} {v : Operand} {F G : Env → St → Res} (hc : c = .cond v x y) (hx : g15X x K = F) (hy : g15X y K = G) : g15X c K = condF v F G := cond_cut hc hx hy
noncomputable def g15k0 : Kon := kSeq (g15X (g15C [1, 1, 1, 1, 1]) (g15kr)) (g15kr)
noncomputable def g15k1 : Kon := kBlk 4 (g15k0)
noncomputable def g15b1111010 : Nat → V → V → V → St → Res
| 0, _, _, _, _ => none
| n + 1, x2, x3, x9, st =>
 A.faddr 3 x2 fun a1 =>
 A.load false 1 a1 st fun a2 z3 =>
 A.lenL a2 fun a4 =>
 A.bin .lss x9 a4 fun a5 =>
 A.cond a5
 (A.faddr 3 x2 fun a6 =>
 A.load false 1 a6 z3 fun a7 _ =>
 A.iaddr 4 a7 x9 fun a8 =>
 A.load true 4 a8 z3 fun a9 _ =>
 A.faddr 3 x3 fun a10 =>
 A.load false 1 a10 z3 fun a11 _ =>
 A.iaddr 4 a11 x9 fun a12 =>
 A.load true 4 a12 z3 fun a13 _ =>
 A.eqS Try.prog 46 true a9 a13 fun a14 =>
 A.cond a14
 (some (.ret ((.bool false) : V).er1, z3))
 (A.bin .add x9 (.int .i64 1) fun a15 =>
 (g15b1111010 n) x2 x3 a15 z3))
 (some (.ret ((.bool true) : V).er1, z3))
theorem g15n1111010 : g15C [1, 1, 1, 1, 0, 1, 0] = .loop (g15C [1, 1, 1, 1, 0, 1, 0, 0]) := by kernel_rfl
noncomputable def g15k2 (L1111010 : V → V → V → St → Res) : Kon := kSeq (fun env st => L1111010 (env 2) (env 3) (env 9) st) (g15k1)
theorem g15e1111010 : g15X (g15C [1, 1, 1, 1, 0, 1, 0]) (g15k1) = fun env st => g15b1111010 big (env 2) (env 3) (env 9) st := by
  have key : ∀ n, aloop (g15X (g15C [1, 1, 1, 1, 0, 1, 0, 0])) (g15k1) n = fun env st => g15b1111010 n (env 2) (env 3) (env 9) st := by
    intro n
    induction n with
    | zero => rfl
    | succ n ih =>
      have h : aloop (g15X (g15C [1, 1, 1, 1, 0, 1, 0, 0])) (g15k1) (n + 1) = g15X (g15C [1, 1, 1, 1, 0, 1, 0, 0]) (kSeq (aloop (g15X (g15C [1, 1, 1, 1, 0, 1, 0, 0])) (g15k1) n) (g15k1)) := rfl
      rw [h, ih]
      refine Eq.trans (Eq.refl _) ?_
      funext env st
      kernel_rfl
  exact (g15loop g15n1111010).trans (key big)
noncomputable def g15b1111 (x2 : V) (x3 : V) (st : St) : Res :=
 g15b1111010 big x2 x3 (.int .i64 0) st
theorem g15n1111 : g15C [1, 1, 1, 1] = .seq (g15C [1, 1, 1, 1, 0]) (g15C [1, 1, 1, 1, 1]) := by kernel_rfl
theorem g15n11110 : g15C [1, 1, 1, 1, 0] = .seq (g15C [1, 1, 1, 1, 0, 0]) (g15C [1, 1, 1, 1, 0, 1]) := by kernel_rfl
theorem g15n111101 : g15C [1, 1, 1, 1, 0, 1] = .block 4 (g15C [1, 1, 1, 1, 0, 1, 0]) := by kernel_rfl
theorem g15e1111 : g15X (g15C [1, 1, 1, 1]) (g15kr) = fun env st => g15b1111 (env 2) (env 3) st := by
  refine Eq.trans ((g15seq g15n1111 rfl).trans (g15seq g15n11110 ((g15blk g15n111101).trans (g15e1111010)))) ?_
  funext env st
  kernel_rfl
noncomputable def g15k3 : Kon := kSeq (fun env st => g15b1111 (env 2) (env 3) st) (g15kr)
noncomputable def g15k4 : Kon := kBlk 2 (g15k3)
noncomputable def g15k5 (L111010 : V → V → V → St → Res) : Kon := kSeq (fun env st => L111010 (env 2) (env 3) (env 6) st) (g15k4)
noncomputable def g15k6 (L111010 : V → V → V → St → Res) : Kon := kSeq (g15X (g15C [1, 1, 1, 0, 1, 0, 0, 1, 1]) (g15k5 L111010)) (g15k5 L111010)
noncomputable def g15k7 (L111010 : V → V → V → St → Res) : Kon := kBlk 3 (g15k6 L111010)
noncomputable def g15k8 (L111010 : V → V → V → St → Res) : Kon := kSeq (g15X (g15C [1, 1, 1, 0, 1, 0, 0, 1, 0, 0, 1, 1]) (g15k7 L111010)) (g15k7 L111010)
noncomputable def g15b111010010010_13 (L111010 : V → V → V → St → Res) (x2 : V) (x3 : V) (x6 : V) (x7 : V) (x8 : V) (x99 : V) (st : St) : Res :=
 A.guard x99 false
 (A.faddr 2 x7 fun a1 =>
 A.load true 3 a1 st fun a2 z3 =>
 A.faddr 2 x8 fun a4 =>
 A.load true 3 a4 z3 fun a5 z6 =>
 A.ret (s30 [a2.er1, a5.er1] z6) fun a7 z8 =>
 A.un .not a7 fun a9 =>
 A.cond a9
 (some (.ret ((.bool false) : V).er1, z8))
 (A.bin .add x6 (.int .i64 1) fun a10 =>
 L111010 x2 x3 a10 z8))
 (some (.ret ((.bool false) : V).er1, st))
theorem g15e111010010010_13 (L111010 : V → V → V → St → Res) : (fun env st => aops Try.prog g15mu g15T 125 (rops (g15C [1, 1, 1, 0, 1, 0, 0, 1, 0, 0, 1, 0])) [13, 14, 15, 16, 17, 18, 19] env st ((g15k8 L111010) .normal)) = fun env st => g15b111010010010_13 L111010 (env 2) (env 3) (env 6) (env 7) (env 8) (env 99) st := by
  refine Eq.trans (Eq.refl _) ?_
  funext env st
  kernel_rfl
noncomputable def g15b111010010010_6 (L111010 : V → V → V → St → Res) (x2 : V) (x3 : V) (x6 : V) (x7 : V) (x8 : V) (x92 : V) (st : St) : Res :=
 A.guard x92 false
 (A.faddr 5 x7 fun a1 =>
 A.load true 2 a1 st fun a2 z3 =>
 A.faddr 5 x8 fun a4 =>
 A.load true 2 a4 z3 fun a5 z6 =>
 A.eqS Try.prog 63 true a2 a5 fun a7 =>
 g15b111010010010_13 L111010 x2 x3 x6 x7 x8 a7 z6)
 (g15b111010010010_13 L111010 x2 x3 x6 x7 x8 (.bool true) st)
theorem g15e111010010010_6 (L111010 : V → V → V → St → Res) : (fun env st => aops Try.prog g15mu g15T 125 (rops (g15C [1, 1, 1, 0, 1, 0, 0, 1, 0, 0, 1, 0])) [6, 7, 8, 9, 10, 11, 12, 13, 14, 15, 16, 17, 18, 19] env st ((g15k8 L111010) .normal)) = fun env st => g15b111010010010_6 L111010 (env 2) (env 3) (env 6) (env 7) (env 8) (env 92) st := by
  refine Eq.trans (ops_cut (l1 := [6, 7, 8, 9, 10, 11, 12]) (l2 := [13, 14, 15, 16, 17, 18, 19]) (g15e111010010010_13 L111010)) ?_
  funext env st
  kernel_rfl
noncomputable def g15b11101001001 (L111010 : V → V → V → St → Res) (x2 : V) (x3 : V) (x6 : V) (x7 : V) (x8 : V) (st : St) : Res :=
 A.faddr 0 x7 fun a1 =>
 A.load true 2 a1 st fun a2 z3 =>
 A.faddr 0 x8 fun a4 =>
 A.load true 2 a4 z3 fun a5 z6 =>
 A.eqS Try.prog 63 true a2 a5 fun a7 =>
 g15b111010010010_6 L111010 x2 x3 x6 x7 x8 a7 z6
theorem g15n11101001001 : g15C [1, 1, 1, 0, 1, 0, 0, 1, 0, 0, 1] = .seq (g15C [1, 1, 1, 0, 1, 0, 0, 1, 0, 0, 1, 0]) (g15C [1, 1, 1, 0, 1, 0, 0, 1, 0, 0, 1, 1]) := by kernel_rfl
theorem g15rg111010010010 : g15C [1, 1, 1, 0, 1, 0, 0, 1, 0, 0, 1, 0] = .region 12 (rops (g15C [1, 1, 1, 0, 1, 0, 0, 1, 0, 0, 1, 0])) false := by kernel_rfl
theorem g15rg111010010010l : List.range (rops (g15C [1, 1, 1, 0, 1, 0, 0, 1, 0, 0, 1, 0])).size = [0, 1, 2, 3, 4, 5] ++ [6, 7, 8, 9, 10, 11, 12, 13, 14, 15, 16, 17, 18, 19] := by kernel_rfl
theorem g15e11101001001 (L111010 : V → V → V → St → Res) : g15X (g15C [1, 1, 1, 0, 1, 0, 0, 1, 0, 0, 1]) (g15k7 L111010) = fun env st => g15b11101001001 L111010 (env 2) (env 3) (env 6) (env 7) (env 8) st := by
  refine Eq.trans ((g15seq g15n11101001001 rfl).trans (g15reg g15rg111010010010 g15rg111010010010l (g15e111010010010_6 L111010))) ?_
  funext env st
  kernel_rfl
noncomputable def g15b111010 : Nat → V → V → V → St → Res
| 0, _, _, _, _ => none
| n + 1, x2, x3, x6, st =>
 A.faddr 1 x2 fun a1 =>
 A.faddr 1 a1 fun a2 =>
 A.load false 1 a2 st fun a3 z4 =>
 A.lenL a3 fun a5 =>
 A.bin .lss x6 a5 fun a6 =>
 A.cond a6
 (A.faddr 1 x2 fun a7 =>
 A.faddr 1 a7 fun a8 =>
 A.load false 1 a8 z4 fun a9 _ =>
 A.iaddr 7 a9 x6 fun a10 =>
 A.load true 7 a10 z4 fun a11 _ =>
 A.faddr 1 x3 fun a12 =>
 A.faddr 1 a12 fun a13 =>
 A.load false 1 a13 z4 fun a14 _ =>
 A.iaddr 7 a14 x6 fun a15 =>
 A.load true 7 a15 z4 fun a16 _ =>
 A.ret (A.box (.agg [(.bool false), (.str []), (.int .i64 0), (.str []), (.lst [] 1), (.bool false), (.str [])]) z4 kid) fun a17 z18 =>
 A.chk (ldv true 7 a15 z18) a16
 (A.chk (ldv false 1 a13 z18) a14
 (A.chk (ldv true 7 a10 z18) a11
 (A.chk (ldv false 1 a8 z18) a9
 (A.ret (A.box (.agg [(.bool false), (.str []), (.int .i64 0), (.str []), (.lst [] 1), (.bool false), (.str [])]) z18 kid) fun a19 z20 =>
 A.chk (ldv true 7 a15 z20) a16
 (A.chk (ldv false 1 a13 z20) a14
 (A.chk (ldv true 7 a10 z20) a11
 (A.chk (ldv false 1 a8 z20) a9
 (A.ret (A.store 7 a17 a11 z20 fun s => kid (.tup []) s) fun a21 z22 =>
 A.chk (ldv true 7 a15 z22) a16
 (A.chk (ldv false 1 a13 z22) a14
 (A.ret (A.store 7 a19 a16 z22 fun s => kid (.tup []) s) fun a23 z24 =>
 g15b11101001001 (g15b111010 n) x2 x3 x6 a17 a19 z24)))))))))))
 (g15b1111 x2 x3 z4)
theorem g15n111010 : g15C [1, 1, 1, 0, 1, 0] = .loop (g15C [1, 1, 1, 0, 1, 0, 0]) := by kernel_rfl
theorem g15n1110100 : g15C [1, 1, 1, 0, 1, 0, 0] = .seq (g15C [1, 1, 1, 0, 1, 0, 0, 0]) (g15C [1, 1, 1, 0, 1, 0, 0, 1]) := by kernel_rfl
theorem g15n11101001 : g15C [1, 1, 1, 0, 1, 0, 0, 1] = .seq (g15C [1, 1, 1, 0, 1, 0, 0, 1, 0]) (g15C [1, 1, 1, 0, 1, 0, 0, 1, 1]) := by kernel_rfl
theorem g15n111010010 : g15C [1, 1, 1, 0, 1, 0, 0, 1, 0] = .block 3 (g15C [1, 1, 1, 0, 1, 0, 0, 1, 0, 0]) := by kernel_rfl
theorem g15n1110100100 : g15C [1, 1, 1, 0, 1, 0, 0, 1, 0, 0] = .seq (g15C [1, 1, 1, 0, 1, 0, 0, 1, 0, 0, 0]) (g15C [1, 1, 1, 0, 1, 0, 0, 1, 0, 0, 1]) := by kernel_rfl
theorem g15e111010 : g15X (g15C [1, 1, 1, 0, 1, 0]) (g15k4) = fun env st => g15b111010 big (env 2) (env 3) (env 6) st := by
  have key : ∀ n, aloop (g15X (g15C [1, 1, 1, 0, 1, 0, 0])) (g15k4) n = fun env st => g15b111010 n (env 2) (env 3) (env 6) st := by
    intro n
    induction n with
    | zero => rfl
    | succ n ih =>
      have h : aloop (g15X (g15C [1, 1, 1, 0, 1, 0, 0])) (g15k4) (n + 1) = g15X (g15C [1, 1, 1, 0, 1, 0, 0]) (kSeq (aloop (g15X (g15C [1, 1, 1, 0, 1, 0, 0])) (g15k4) n) (g15k4)) := rfl
      rw [h, ih]
      refine Eq.trans (g15seq g15n1110100 ((g15seq g15n11101001 rfl).trans ((g15blk g15n111010010).trans (g15seq g15n1110100100 (g15e11101001001 (g15b111010 n)))))) ?_
      funext env st
      kernel_rfl
  exact (g15loop g15n111010).trans (key big)
noncomputable def g15b111 (x2 : V) (x3 : V) (st : St) : Res :=
 g15b111010 big x2 x3 (.int .i64 0) st
theorem g15n111 : g15C [1, 1, 1] = .seq (g15C [1, 1, 1, 0]) (g15C [1, 1, 1, 1]) := by kernel_rfl
theorem g15n1110 : g15C [1, 1, 1, 0] = .seq (g15C [1, 1, 1, 0, 0]) (g15C [1, 1, 1, 0, 1]) := by kernel_rfl
theorem g15n11101 : g15C [1, 1, 1, 0, 1] = .block 2 (g15C [1, 1, 1, 0, 1, 0]) := by kernel_rfl
theorem g15e111 : g15X (g15C [1, 1, 1]) (g15kr) = fun env st => g15b111 (env 2) (env 3) st := by
  refine Eq.trans ((g15seq g15n111 (g15e1111)).trans (g15seq g15n1110 ((g15blk g15n11101).trans (g15e111010)))) ?_
  funext env st
  kernel_rfl
noncomputable def g15k9 : Kon := kSeq (fun env st => g15b111 (env 2) (env 3) st) (g15kr)
noncomputable def g15k10 : Kon := kBlk 0 (g15k9)
noncomputable def g15b11010 : Nat → V → V → V → St → Res
| 0, _, _, _, _ => none
| n + 1, x2, x3, x5, st =>
 A.faddr 1 x2 fun a1 =>
 A.faddr 0 a1 fun a2 =>
 A.load false 1 a2 st fun a3 z4 =>
 A.lenL a3 fun a5 =>
 A.bin .lss x5 a5 fun a6 =>
 A.cond a6
 (A.faddr 1 x2 fun a7 =>
 A.faddr 0 a7 fun a8 =>
 A.load false 1 a8 z4 fun a9 _ =>
 A.iaddr 1 a9 x5 fun a10 =>
 A.load false 1 a10 z4 fun a11 _ =>
 A.faddr 1 x3 fun a12 =>
 A.faddr 0 a12 fun a13 =>
 A.load false 1 a13 z4 fun a14 _ =>
 A.iaddr 1 a14 x5 fun a15 =>
 A.load false 1 a15 z4 fun a16 _ =>
 A.eql 3 true a11 a16 fun a17 =>
 A.cond a17
 (some (.ret ((.bool false) : V).er1, z4))
 (A.bin .add x5 (.int .i64 1) fun a18 =>
 (g15b11010 n) x2 x3 a18 z4))
 (g15b111 x2 x3 z4)
theorem g15n11010 : g15C [1, 1, 0, 1, 0] = .loop (g15C [1, 1, 0, 1, 0, 0]) := by kernel_rfl
noncomputable def g15k11 (L11010 : V → V → V → St → Res) : Kon := kSeq (fun env st => L11010 (env 2) (env 3) (env 5) st) (g15k10)
theorem g15e11010 : g15X (g15C [1, 1, 0, 1, 0]) (g15k10) = fun env st => g15b11010 big (env 2) (env 3) (env 5) st := by
  have key : ∀ n, aloop (g15X (g15C [1, 1, 0, 1, 0, 0])) (g15k10) n = fun env st => g15b11010 n (env 2) (env 3) (env 5) st := by
    intro n
    induction n with
    | zero => rfl
    | succ n ih =>
      have h : aloop (g15X (g15C [1, 1, 0, 1, 0, 0])) (g15k10) (n + 1) = g15X (g15C [1, 1, 0, 1, 0, 0]) (kSeq (aloop (g15X (g15C [1, 1, 0, 1, 0, 0])) (g15k10) n) (g15k10)) := rfl
      rw [h, ih]
      refine Eq.trans (Eq.refl _) ?_
      funext env st
      kernel_rfl
  exact (g15loop g15n11010).trans (key big)
noncomputable def g15b11 (x2 : V) (x3 : V) (st : St) : Res :=
 g15b11010 big x2 x3 (.int .i64 0) st
theorem g15n11 : g15C [1, 1] = .seq (g15C [1, 1, 0]) (g15C [1, 1, 1]) := by kernel_rfl
theorem g15n110 : g15C [1, 1, 0] = .seq (g15C [1, 1, 0, 0]) (g15C [1, 1, 0, 1]) := by kernel_rfl
theorem g15n1101 : g15C [1, 1, 0, 1] = .block 0 (g15C [1, 1, 0, 1, 0]) := by kernel_rfl
theorem g15e11 : g15X (g15C [1, 1]) (g15kr) = fun env st => g15b11 (env 2) (env 3) st := by
  refine Eq.trans ((g15seq g15n11 (g15e111)).trans (g15seq g15n110 ((g15blk g15n1101).trans (g15e11010)))) ?_
  funext env st
  kernel_rfl
noncomputable def g15k12 : Kon := kSeq (fun env st => g15b11 (env 2) (env 3) st) (g15kr)
noncomputable def g15k13 : Kon := kSeq (g15X (g15C [1, 0, 1]) (g15k12)) (g15k12)
noncomputable def g15b100_28 (x2 : V) (x3 : V) (x37 : V) (st : St) : Res :=
 A.guard x37 false
 (A.faddr 3 x2 fun a1 =>
 A.load false 1 a1 st fun a2 z3 =>
 A.lenL a2 fun a4 =>
 A.faddr 3 x3 fun a5 =>
 A.load false 1 a5 z3 fun a6 z7 =>
 A.lenL a6 fun a8 =>
 A.eql 2 true a4 a8 fun a9 =>
 A.cond a9
 (some (.ret ((.bool false) : V).er1, z7))
 (g15b11 x2 x3 z7))
 (some (.ret ((.bool false) : V).er1, st))
theorem g15e100_28 : (fun env st => aops Try.prog g15mu g15T 125 (rops (g15C [1, 0, 0])) [28, 29, 30, 31, 32, 33, 34, 35] env st ((g15k13) .normal)) = fun env st => g15b100_28 (env 2) (env 3) (env 37) st := by
  refine Eq.trans (Eq.refl _) ?_
  funext env st
  kernel_rfl
noncomputable def g15b100_17 (x2 : V) (x3 : V) (x26 : V) (st : St) : Res :=
 A.guard x26 false
 (A.faddr 1 x2 fun a1 =>
 A.faddr 1 a1 fun a2 =>
 A.load false 1 a2 st fun a3 z4 =>
 A.lenL a3 fun a5 =>
 A.faddr 1 x3 fun a6 =>
 A.faddr 1 a6 fun a7 =>
 A.load false 1 a7 z4 fun a8 z9 =>
 A.lenL a8 fun a10 =>
 A.eql 2 true a5 a10 fun a11 =>
 g15b100_28 x2 x3 a11 z9)
 (g15b100_28 x2 x3 (.bool true) st)
theorem g15e100_17 : (fun env st => aops Try.prog g15mu g15T 125 (rops (g15C [1, 0, 0])) [17, 18, 19, 20, 21, 22, 23, 24, 25, 26, 27, 28, 29, 30, 31, 32, 33, 34, 35] env st ((g15k13) .normal)) = fun env st => g15b100_17 (env 2) (env 3) (env 26) st := by
  refine Eq.trans (ops_cut (l1 := [17, 18, 19, 20, 21, 22, 23, 24, 25, 26, 27]) (l2 := [28, 29, 30, 31, 32, 33, 34, 35]) (g15e100_28)) ?_
  funext env st
  kernel_rfl
noncomputable def g15b100_6 (x2 : V) (x3 : V) (x15 : V) (st : St) : Res :=
 A.guard x15 false
 (A.faddr 1 x2 fun a1 =>
 A.faddr 0 a1 fun a2 =>
 A.load false 1 a2 st fun a3 z4 =>
 A.lenL a3 fun a5 =>
 A.faddr 1 x3 fun a6 =>
 A.faddr 0 a6 fun a7 =>
 A.load false 1 a7 z4 fun a8 z9 =>
 A.lenL a8 fun a10 =>
 A.eql 2 true a5 a10 fun a11 =>
 g15b100_17 x2 x3 a11 z9)
 (g15b100_17 x2 x3 (.bool true) st)
theorem g15e100_6 : (fun env st => aops Try.prog g15mu g15T 125 (rops (g15C [1, 0, 0])) [6, 7, 8, 9, 10, 11, 12, 13, 14, 15, 16, 17, 18, 19, 20, 21, 22, 23, 24, 25, 26, 27, 28, 29, 30, 31, 32, 33, 34, 35] env st ((g15k13) .normal)) = fun env st => g15b100_6 (env 2) (env 3) (env 15) st := by
  refine Eq.trans (ops_cut (l1 := [6, 7, 8, 9, 10, 11, 12, 13, 14, 15, 16]) (l2 := [17, 18, 19, 20, 21, 22, 23, 24, 25, 26, 27, 28, 29, 30, 31, 32, 33, 34, 35]) (g15e100_17)) ?_
  funext env st
  kernel_rfl
noncomputable def f15 (x0 : V) (x1 : V) (st : St) : Res :=
 A.box x0 st fun a1 z2 =>
 A.box x1 z2 fun a3 z4 =>
 A.faddr 0 a1 fun a5 =>
 A.load false 1 a5 z4 fun a6 z7 =>
 A.faddr 0 a3 fun a8 =>
 A.load false 1 a8 z7 fun a9 z10 =>
 A.eql 2 true a6 a9 fun a11 =>
 g15b100_6 a1 a3 a11 z10
theorem g15nr : g15C [] = .seq (g15C [0]) (g15C [1]) := by kernel_rfl
theorem g15n1 : g15C [1] = .seq (g15C [1, 0]) (g15C [1, 1]) := by kernel_rfl
theorem g15n10 : g15C [1, 0] = .seq (g15C [1, 0, 0]) (g15C [1, 0, 1]) := by kernel_rfl
theorem g15rg100 : g15C [1, 0, 0] = .region 1 (rops (g15C [1, 0, 0])) false := by kernel_rfl
theorem g15rg100l : List.range (rops (g15C [1, 0, 0])).size = [0, 1, 2, 3, 4, 5] ++ [6, 7, 8, 9, 10, 11, 12, 13, 14, 15, 16, 17, 18, 19, 20, 21, 22, 23, 24, 25, 26, 27, 28, 29, 30, 31, 32, 33, 34, 35] := by kernel_rfl
theorem g15er (env : Env) (st : St) : g15X (g15C []) g15kr env st = f15 (env 0) (env 1) st := by
  rw [(g15seq g15nr ((g15seq g15n1 (g15e11)).trans ((g15seq g15n10 rfl).trans (g15reg g15rg100 g15rg100l (g15e100_6)))))]
  kernel_rfl
theorem s15_eq (x0 : V) (x1 : V) (st : St) : s15 [x0, x1] st = fg (f15 x0 x1 st) st := by
  have h : afn Try.prog g15mu g15T big (areg2 Try.prog g15mu g15T) 15 [x0, x1] st = g15X (g15C []) g15kr (fun t => [x0, x1].getD t (.tup [])) st := by kernel_rfl
  rw [s15, sealF_eq]
  show fg _ st = fg _ st
  refine congrArg (fun r => fg r st) ?_
  exact h.trans (g15er _ st)
end Go.Ab
