import Derived.Test.YtjmkmfolpimieaaAbQuiet
import Derived.Test.YtjmkmfolpimieaaAbR16
import Derived.Test.YtjmkmfolpimieaaAbOpmerged0
namespace Go.Ab
open Go.Proofs
set_option linter.unusedVariables false
set_option maxRecDepth 100000
theorem hmix : Try.prog.follows .mixedOrders = true := by kernel_rfl
/-! (*sinew/field.Field).has -/
def g22mu : Nat → Bool := fun _ => false
noncomputable def g22T : Tbl := tget []
theorem g22t : SimT Try.prog g22T := simT_nil
noncomputable def s22 : Fn := sealF (afn Try.prog g22mu g22T big (areg Try.prog g22mu g22T) 22)
theorem sim22 : Sim Try.prog 22 s22 := (afn_sim g22t (fun m => areg_sound g22t hmix m) 22 (by kernel_rfl)).sealed
noncomputable def g22C (p : List Nat) : Code := sub (match Try.f22.body with | some c => c | none => .skip) p
noncomputable def g22X (c : Code) (K : Kon) : Env → St → Res := aexec Try.prog g22mu g22T big 19 (areg Try.prog g22mu g22T 19) c K
noncomputable def g22kr : Kon := aresK Try.prog Try.f22.results.toList
theorem g22reg {c : Code} {K : Kon} {G : Env → St → Res} {id : Nat} {ops : Array Oper} {l1 l2 : List Nat} (hc : c = .region id ops false) (hl : List.range ops.size = l1 ++ l2) (h : (fun env st => aops Try.prog g22mu g22T 19 ops l2 env st (K .normal)) = G) : g22X c K = fun env st => aops Try.prog g22mu g22T 19 ops l1 env st G := reg_cut hc hl h
theorem g22seq {c x y : Code} {K : Kon} {G : Env → St → Res} (hc : c = .seq x y) (hy : g22X y K = G) : g22X c K = g22X x (kSeq G K) := seq_cut hc hy
theorem g22blk {c x : Code} {K : Kon} {i : Nat} (hc : c = .block i x) : g22X c K = g22X x (kBlk i K) := blk_cut hc
theorem g22loop {c x : Code} {K : Kon} (hc : c = .loop x) : g22X c K = aloop (g22X x) K big := loop_cut hc
theorem g22cond {c x y : Code} {K : Kon} {v : Operand} {F G : Env → St → Res} (hc : c = .cond v x y) (hx : g22X x K = F) (hy : g22X y K = G) : g22X c K = condF v F G := cond_cut hc hx hy
noncomputable def g22k0 : Kon := kSeq (g22X (g22C [1, 1]) (g22kr)) (g22kr)
noncomputable def g22b10_7 (x0 : V) (x1 : V) (x11 : V) (st : St) : Res :=
 A.guard x11 true
 (A.nilc x0 fun a1 =>
 A.faddr 0 a1 fun a2 =>
 A.load false 1 a2 st fun a3 z4 =>
 A.bin .lss x1 a3 fun a5 =>
 some (.ret a5.er1, z4))
 (some (.ret ((.bool false) : V).er1, st))
theorem g22e10_7 : (fun env st => aops Try.prog g22mu g22T 19 (rops (g22C [1, 0])) [7, 8, 9, 10, 11, 12, 13, 14] env st ((g22k0) .normal)) = fun env st => g22b10_7 (env 0) (env 1) (env 11) st := by
  refine Eq.trans (Eq.refl _) ?_
  funext env st
  kernel_rfl
noncomputable def f22 (x0 : V) (x1 : V) (st : St) : Res :=
 A.eql 4 true x0 .ptr0 fun a1 =>
 A.guard a1 true
 (A.bin .geq x1 (.int .i64 0) fun a2 =>
 g22b10_7 x0 x1 a2 st)
 (g22b10_7 x0 x1 (.bool false) st)
theorem g22nr : g22C [] = .seq (g22C [0]) (g22C [1]) := by kernel_rfl
theorem g22n1 : g22C [1] = .seq (g22C [1, 0]) (g22C [1, 1]) := by kernel_rfl
theorem g22rg10 : g22C [1, 0] = .region 1 (rops (g22C [1, 0])) false := by kernel_rfl
theorem g22rg10l : List.range (rops (g22C [1, 0])).size = [0, 1, 2, 3, 4, 5, 6] ++ [7, 8, 9, 10, 11, 12, 13, 14] := by kernel_rfl
theorem g22er (env : Env) (st : St) : g22X (g22C []) g22kr env st = f22 (env 0) (env 1) st := by
  rw [(g22seq g22nr ((g22seq g22n1 rfl).trans (g22reg g22rg10 g22rg10l (g22e10_7))))]
  kernel_rfl
theorem s22_eq (x0 : V) (x1 : V) (st : St) : s22 [x0, x1] st = f22 x0 x1 st := by
  have h : afn Try.prog g22mu g22T big (areg Try.prog g22mu g22T) 22 [x0, x1] st = g22X (g22C []) g22kr (fun t => [x0, x1].getD t (.tup [])) st := by kernel_rfl
  rw [s22, sealF_eq]
  exact h.trans (g22er _ st)
/-! sinew/field.New -/
def g7mu : Nat → Bool := fun _ => false
noncomputable def g7T : Tbl := tget []
theorem g7t : SimT Try.prog g7T := simT_nil
noncomputable def s7 : Fn := sealF (afn Try.prog g7mu g7T big (areg Try.prog g7mu g7T) 7)
theorem sim7 : Sim Try.prog 7 s7 := (afn_sim g7t (fun m => areg_sound g7t hmix m) 7 (by kernel_rfl)).sealed
noncomputable def g7C (p : List Nat) : Code := sub (match Try.f7.body with | some c => c | none => .skip) p
noncomputable def g7X (c : Code) (K : Kon) : Env → St → Res := aexec Try.prog g7mu g7T big 14 (areg Try.prog g7mu g7T 14) c K
noncomputable def g7kr : Kon := aresK Try.prog Try.f7.results.toList
theorem g7reg {c : Code} {K : Kon} {G : Env → St → Res} {id : Nat} {ops : Array Oper} {l1 l2 : List Nat} (hc : c = .region id ops false) (hl : List.range ops.size = l1 ++ l2) (h : (fun env st => aops Try.prog g7mu g7T 14 ops l2 env st (K .normal)) = G) : g7X c K = fun env st => aops Try.prog g7mu g7T 14 ops l1 env st G := reg_cut hc hl h
theorem g7seq {c x y : Code} {K : Kon} {G : Env → St → Res} (hc : c = .seq x y) (hy : g7X y K = G) : g7X c K = g7X x (kSeq G K) := seq_cut hc hy
theorem g7blk {c x : Code} {K : Kon} {i : Nat} (hc : c = .block i x) : g7X c K = g7X x (kBlk i K) := blk_cut hc
theorem g7loop {c x : Code} {K : Kon} (hc : c = .loop x) : g7X c K = aloop (g7X x) K big := loop_cut hc
theorem g7cond {c x y : Code} {K : Kon} {v : Operand} {F G : Env → St → Res} (hc : c = .cond v x y) (hx : g7X x K = F) (hy : g7X y K = G) : g7X c K = condF v F G := cond_cut hc hx hy
noncomputable def g7b11 (x0 : V) (st : St) : Res :=
 A.mkmap st fun a1 z2 =>
 A.build [(.int .i64 0), (.int .i64 0), .map0] [(0, 1, x0), (2, 1, a1)] fun a3 =>
 A.box a3 z2 fun a4 z5 =>
 some (.ret (.tup [a4.er1, ((.int .i64 0) : V).er1]), z5)
theorem g7e11 : g7X (g7C [1, 1]) (g7kr) = fun env st => g7b11 (env 0) st := by
  refine Eq.trans (Eq.refl (g7X (g7C [1, 1]) (g7kr))) ?_
  funext env st
  kernel_rfl
noncomputable def f7 (x0 : V) (st : St) : Res :=
 A.bin .lss x0 (.int .i64 1) fun a1 =>
 A.guard a1 false
 (A.bin .gtr x0 (.int .i64 65) fun a2 =>
 A.cond a2
 (some (.ret (.tup [(.ptr0 : V).er1, ((.int .i64 1) : V).er1]), st))
 (g7b11 x0 st))
 (some (.ret (.tup [(.ptr0 : V).er1, ((.int .i64 1) : V).er1]), st))
theorem g7nr : g7C [] = .seq (g7C [0]) (g7C [1]) := by kernel_rfl
theorem g7n1 : g7C [1] = .seq (g7C [1, 0]) (g7C [1, 1]) := by kernel_rfl
theorem g7er (env : Env) (st : St) : g7X (g7C []) g7kr env st = f7 (env 0) st := by
  rw [(g7seq g7nr (g7seq g7n1 (g7e11)))]
  kernel_rfl
theorem s7_eq (x0 : V) (st : St) : s7 [x0] st = f7 x0 st := by
  have h : afn Try.prog g7mu g7T big (areg Try.prog g7mu g7T) 7 [x0] st = g7X (g7C []) g7kr (fun t => [x0].getD t (.tup [])) st := by kernel_rfl
  rw [s7, sealF_eq]
  exact h.trans (g7er _ st)
/-! (*sinew/field.Field).find -/
def g23mu : Nat → Bool := fun _ => false
noncomputable def g23T : Tbl := tget [(22, s22)]
theorem g23t : SimT Try.prog g23T := simT_cons sim22 (simT_nil)
noncomputable def s23 : Fn := sealF (afn Try.prog g23mu g23T big (areg Try.prog g23mu g23T) 23)
theorem sim23 : Sim Try.prog 23 s23 := (afn_sim g23t (fun m => areg_sound g23t hmix m) 23 (by kernel_rfl)).sealed
noncomputable def g23C (p : List Nat) : Code := sub (match Try.f23.body with | some c => c | none => .skip) p
noncomputable def g23X (c : Code) (K : Kon) : Env → St → Res := aexec Try.prog g23mu g23T big 25 (areg Try.prog g23mu g23T 25) c K
noncomputable def g23kr : Kon := aresK Try.prog Try.f23.results.toList
theorem g23reg {c : Code} {K : Kon} {G : Env → St → Res} {id : Nat} {ops : Array Oper} {l1 l2 : List Nat} (hc : c = .region id ops false) (hl : List.range ops.size = l1 ++ l2) (h : (fun env st => aops Try.prog g23mu g23T 25 ops l2 env st (K .normal)) = G) : g23X c K = fun env st => aops Try.prog g23mu g23T 25 ops l1 env st G := reg_cut hc hl h
theorem g23seq {c x y : Code} {K : Kon} {G : Env → St → Res} (hc : c = .seq x y) (hy : g23X y K = G) : g23X c K = g23X x (kSeq G K) := seq_cut hc hy
theorem g23blk {c x : Code} {K : Kon} {i : Nat} (hc : c = .block i x) : g23X c K = g23X x (kBlk i K) := blk_cut hc
theorem g23loop {c x : Code} {K : Kon} (hc : c = .loop x) : g23X c K = aloop (g23X x) K big := loop_cut hc
theorem g23cond {c x y : Code} {K : Kon} {v : Operand} {F G : Env → St → Res} (hc : c = .cond v x y) (hx : g23X x K = F) (hy : g23X y K = G) : g23X c K = condF v F G := cond_cut hc hx hy
noncomputable def g23b111 (x4 : V) (x6 : V) (x7 : V) (st : St) : Res :=
 A.un .not x7 fun a1 =>
 A.cond a1
 (A.build [(.int .i64 0), (.int .i64 0), (.int .i64 0), (.str [])] [] fun a2 =>
 A.store 4 x4 a2 st fun z3 =>
 A.res (rcell (A.load true 4 x4 z3 kid) (rtmp (.int .i64 3) (some []))) z3)
 (A.load true 4 x6 st fun a4 z5 =>
 A.store 4 x4 a4 z5 fun z6 =>
 A.res (rcell (A.load true 4 x4 z6 kid) (rtmp (.int .i64 0) (some []))) z6)
theorem g23e111 : g23X (g23C [1, 1, 1]) (g23kr) = fun env st => g23b111 (env 4) (env 6) (env 7) st := by
  refine Eq.trans (Eq.refl (g23X (g23C [1, 1, 1]) (g23kr))) ?_
  funext env st
  kernel_rfl
noncomputable def f23 (x0 : V) (x1 : V) (st : St) : Res :=
 A.box (.agg [(.int .i64 0), (.int .i64 0), (.int .i64 0), (.str [])]) st fun a1 z2 =>
 A.ret (s22 [x0.er1, ((.int .i64 0) : V).er1] z2) fun a3 z4 =>
 A.un .not a3 fun a5 =>
 A.cond a5
 (A.build [(.int .i64 0), (.int .i64 0), (.int .i64 0), (.str [])] [] fun a6 =>
 A.store 4 a1 a6 z4 fun z7 =>
 A.res (rcell (A.load true 4 a1 z7 kid) (rtmp (.int .i64 1) (some []))) z7)
 (A.nilc x0 fun a8 =>
 A.faddr 2 a8 fun a9 =>
 A.load false 1 a9 z4 fun a10 z11 =>
 A.lookupK (keyB Try.prog 3 x1) (.agg [(.int .i64 0), (.int .i64 0), (.int .i64 0), (.str [])]) true a10 x1 z11 fun a12 =>
 A.ext a12 0 fun a13 =>
 A.ext a12 1 fun a14 =>
 A.box (.agg [(.int .i64 0), (.int .i64 0), (.int .i64 0), (.str [])]) z11 fun a15 z16 =>
 A.store 4 a15 a13 z16 fun z17 =>
 g23b111 a1 a15 a14 z17)
theorem g23nr : g23C [] = .seq (g23C [0]) (g23C [1]) := by kernel_rfl
theorem g23n1 : g23C [1] = .seq (g23C [1, 0]) (g23C [1, 1]) := by kernel_rfl
theorem g23n11 : g23C [1, 1] = .seq (g23C [1, 1, 0]) (g23C [1, 1, 1]) := by kernel_rfl
theorem g23er (env : Env) (st : St) : g23X (g23C []) g23kr env st = f23 (env 0) (env 1) st := by
  rw [(g23seq g23nr (g23seq g23n1 (g23seq g23n11 (g23e111))))]
  kernel_rfl
theorem s23_eq (x0 : V) (x1 : V) (st : St) : s23 [x0, x1] st = f23 x0 x1 st := by
  have h : afn Try.prog g23mu g23T big (areg Try.prog g23mu g23T) 23 [x0, x1] st = g23X (g23C []) g23kr (fun t => [x0, x1].getD t (.tup [])) st := by kernel_rfl
  rw [s23, sealF_eq]
  exact h.trans (g23er _ st)
/-! (*sinew/field.Field).Send -/
def g9mu : Nat → Bool := fun _ => false
noncomputable def g9T : Tbl := tget [(22, s22)]
theorem g9t : SimT Try.prog g9T := simT_cons sim22 (simT_nil)
noncomputable def s9 : Fn := sealF (afn Try.prog g9mu g9T big (areg Try.prog g9mu g9T) 9)
theorem sim9 : Sim Try.prog 9 s9 := (afn_sim g9t (fun m => areg_sound g9t hmix m) 9 (by kernel_rfl)).sealed
noncomputable def g9C (p : List Nat) : Code := sub (match Try.f9.body with | some c => c | none => .skip) p
noncomputable def g9X (c : Code) (K : Kon) : Env → St → Res := aexec Try.prog g9mu g9T big 60 (areg Try.prog g9mu g9T 60) c K
noncomputable def g9kr : Kon := aresK Try.prog Try.f9.results.toList
theorem g9reg {c : Code} {K : Kon} {G : Env → St → Res} {id : Nat} {ops : Array Oper} {l1 l2 : List Nat} (hc : c = .region id ops false) (hl : List.range ops.size = l1 ++ l2) (h : (fun env st => aops Try.prog g9mu g9T 60 ops l2 env st (K .normal)) = G) : g9X c K = fun env st => aops Try.prog g9mu g9T 60 ops l1 env st G := reg_cut hc hl h
theorem g9seq {c x y : Code} {K : Kon} {G : Env → St → Res} (hc : c = .seq x y) (hy : g9X y K = G) : g9X c K = g9X x (kSeq G K) := seq_cut hc hy
theorem g9blk {c x : Code} {K : Kon} {i : Nat} (hc : c = .block i x) : g9X c K = g9X x (kBlk i K) := blk_cut hc
theorem g9loop {c x : Code} {K : Kon} (hc : c = .loop x) : g9X c K = aloop (g9X x) K big := loop_cut hc
theorem g9cond {c x y : Code} {K : Kon} {v : Operand} {F G : Env → St → Res} (hc : c = .cond v x y) (hx : g9X x K = F) (hy : g9X y K = G) : g9X c K = condF v F G := cond_cut hc hx hy
noncomputable def g9b1111 (x0 : V) (st : St) : Res :=
 A.nilc x0 fun a1 =>
 A.faddr 1 a1 fun a2 =>
 A.load false 1 a2 st fun a3 z4 =>
 some (.ret (.tup [a3.er1, ((.int .i64 0) : V).er1]), z4)
theorem g9e1111 : g9X (g9C [1, 1, 1, 1]) (g9kr) = fun env st => g9b1111 (env 0) st := by
  refine Eq.trans (Eq.refl (g9X (g9C [1, 1, 1, 1]) (g9kr))) ?_
  funext env st
  kernel_rfl
noncomputable def g9b111 (x0 : V) (x1 : V) (x2 : V) (x3 : V) (st : St) : Res :=
 A.nilc x0 fun a1 =>
 A.faddr 2 a1 fun a2 =>
 A.load false 1 a2 st fun a3 _ =>
 A.nilc x0 fun a4 =>
 A.faddr 1 a4 fun a5 =>
 A.load false 1 a5 st fun a6 _ =>
 A.nilc x0 fun a7 =>
 A.faddr 1 a7 fun a8 =>
 A.load false 1 a8 st fun a9 _ =>
 A.build [(.int .i64 0), (.int .i64 0), (.int .i64 0), (.str [])] [(0, 1, a9), (1, 1, x1), (2, 1, x2), (3, 1, x3)] fun a10 =>
 A.noP (A.mapUpdK (keyB Try.prog 3 a6) a3 a6 a10 st fun s => kid (.tup []) s) fun a11 z12 =>
 g9b1111 x0 z12
theorem g9n111 : g9C [1, 1, 1] = .seq (g9C [1, 1, 1, 0]) (g9C [1, 1, 1, 1]) := by kernel_rfl
theorem g9e111 : g9X (g9C [1, 1, 1]) (g9kr) = fun env st => g9b111 (env 0) (env 1) (env 2) (env 3) st := by
  refine Eq.trans (g9seq g9n111 (g9e1111)) ?_
  funext env st
  kernel_rfl
noncomputable def g9b11 (x0 : V) (x1 : V) (x2 : V) (x3 : V) (st : St) : Res :=
 A.nilc x0 fun a1 =>
 A.faddr 1 a1 fun a2 =>
 A.load false 1 a2 st fun a3 z4 =>
 A.bin .add a3 (.int .i64 1) fun a5 =>
 A.nilc x0 fun a6 =>
 A.faddr 1 a6 fun a7 =>
 A.store 1 a7 a5 z4 fun z8 =>
 g9b111 x0 x1 x2 x3 z8
theorem g9n11 : g9C [1, 1] = .seq (g9C [1, 1, 0]) (g9C [1, 1, 1]) := by kernel_rfl
theorem g9e11 : g9X (g9C [1, 1]) (g9kr) = fun env st => g9b11 (env 0) (env 1) (env 2) (env 3) st := by
  refine Eq.trans (g9seq g9n11 (g9e111)) ?_
  funext env st
  kernel_rfl
noncomputable def g9k0 : Kon := kSeq (fun env st => g9b11 (env 0) (env 1) (env 2) (env 3) st) (g9kr)
noncomputable def g9k1 : Kon := kBlk 0 (g9k0)
noncomputable def g9b1001 (x0 : V) (x1 : V) (x2 : V) (x3 : V) (x10 : V) (st : St) : Res :=
 A.cond x10
 (some (.ret (.tup [((.int .i64 0) : V).er1, ((.int .i64 1) : V).er1]), st))
 (A.nilc x0 fun a1 =>
 A.faddr 2 a1 fun a2 =>
 A.load false 1 a2 st fun a3 z4 =>
 A.lenM a3 z4 fun a5 =>
 A.bin .geq a5 (.int .i64 16384) fun a6 =>
 A.cond a6
 (some (.ret (.tup [((.int .i64 0) : V).er1, ((.int .i64 2) : V).er1]), z4))
 (g9b11 x0 x1 x2 x3 z4))
theorem g9e1001 : g9X (g9C [1, 0, 0, 1]) (g9k1) = fun env st => g9b1001 (env 0) (env 1) (env 2) (env 3) (env 10) st := by
  refine Eq.trans (Eq.refl (g9X (g9C [1, 0, 0, 1]) (g9k1))) ?_
  funext env st
  kernel_rfl
noncomputable def g9k2 : Kon := kSeq (fun env st => g9b1001 (env 0) (env 1) (env 2) (env 3) (env 10) st) (g9k1)
noncomputable def g9b1000_11 (x0 : V) (x1 : V) (x2 : V) (x3 : V) (x21 : V) (st : St) : Res :=
 A.guard x21 false
 (A.lenS x3 fun a1 =>
 A.bin .gtr a1 (.int .i64 1048640) fun a2 =>
 g9b1001 x0 x1 x2 x3 a2 st)
 (g9b1001 x0 x1 x2 x3 (.bool true) st)
theorem g9e1000_11 : (fun env st => aops Try.prog g9mu g9T 60 (rops (g9C [1, 0, 0, 0])) [11, 12, 13, 14, 15] env st ((g9k2) .normal)) = fun env st => g9b1000_11 (env 0) (env 1) (env 2) (env 3) (env 21) st := by
  refine Eq.trans (Eq.refl _) ?_
  funext env st
  kernel_rfl
noncomputable def f9 (x0 : V) (x1 : V) (x2 : V) (x3 : V) (st : St) : Res :=
 A.ret (s22 [x0.er1, x1.er1] st) fun a1 z2 =>
 A.un .not a1 fun a3 =>
 A.guard a3 false
 (A.ret (s22 [x0.er1, x2.er1] z2) fun a4 z5 =>
 A.un .not a4 fun a6 =>
 g9b1000_11 x0 x1 x2 x3 a6 z5)
 (g9b1000_11 x0 x1 x2 x3 (.bool true) z2)
theorem g9nr : g9C [] = .seq (g9C [0]) (g9C [1]) := by kernel_rfl
theorem g9n1 : g9C [1] = .seq (g9C [1, 0]) (g9C [1, 1]) := by kernel_rfl
theorem g9n10 : g9C [1, 0] = .block 0 (g9C [1, 0, 0]) := by kernel_rfl
theorem g9n100 : g9C [1, 0, 0] = .seq (g9C [1, 0, 0, 0]) (g9C [1, 0, 0, 1]) := by kernel_rfl
theorem g9rg1000 : g9C [1, 0, 0, 0] = .region 1 (rops (g9C [1, 0, 0, 0])) false := by kernel_rfl
theorem g9rg1000l : List.range (rops (g9C [1, 0, 0, 0])).size = [0, 1, 2, 3, 4, 5, 6, 7, 8, 9, 10] ++ [11, 12, 13, 14, 15] := by kernel_rfl
theorem g9er (env : Env) (st : St) : g9X (g9C []) g9kr env st = f9 (env 0) (env 1) (env 2) (env 3) st := by
  rw [(g9seq g9nr ((g9seq g9n1 (g9e11)).trans ((g9blk g9n10).trans ((g9seq g9n100 (g9e1001)).trans (g9reg g9rg1000 g9rg1000l (g9e1000_11))))))]
  kernel_rfl
theorem s9_eq (x0 : V) (x1 : V) (x2 : V) (x3 : V) (st : St) : s9 [x0, x1, x2, x3] st = f9 x0 x1 x2 x3 st := by
  have h : afn Try.prog g9mu g9T big (areg Try.prog g9mu g9T) 9 [x0, x1, x2, x3] st = g9X (g9C []) g9kr (fun t => [x0, x1, x2, x3].getD t (.tup [])) st := by kernel_rfl
  rw [s9, sealF_eq]
  exact h.trans (g9er _ st)
/-! (*sinew/field.Field).Copy -/
def g10mu : Nat → Bool := fun _ => false
noncomputable def g10T : Tbl := tget [(9, s9), (23, s23)]
theorem g10t : SimT Try.prog g10T := simT_cons sim9 ( simT_cons sim23 (simT_nil))
noncomputable def s10 : Fn := sealF (afn Try.prog g10mu g10T big (areg Try.prog g10mu g10T) 10)
theorem sim10 : Sim Try.prog 10 s10 := (afn_sim g10t (fun m => areg_sound g10t hmix m) 10 (by kernel_rfl)).sealed
noncomputable def g10C (p : List Nat) : Code := sub (match Try.f10.body with | some c => c | none => .skip) p
noncomputable def g10X (c : Code) (K : Kon) : Env → St → Res := aexec Try.prog g10mu g10T big 27 (areg Try.prog g10mu g10T 27) c K
noncomputable def g10kr : Kon := aresK Try.prog Try.f10.results.toList
theorem g10reg {c : Code} {K : Kon} {G : Env → St → Res} {id : Nat} {ops : Array Oper} {l1 l2 : List Nat} (hc : c = .region id ops false) (hl : List.range ops.size = l1 ++ l2) (h : (fun env st => aops Try.prog g10mu g10T 27 ops l2 env st (K .normal)) = G) : g10X c K = fun env st => aops Try.prog g10mu g10T 27 ops l1 env st G := reg_cut hc hl h
theorem g10seq {c x y : Code} {K : Kon} {G : Env → St → Res} (hc : c = .seq x y) (hy : g10X y K = G) : g10X c K = g10X x (kSeq G K) := seq_cut hc hy
theorem g10blk {c x : Code} {K : Kon} {i : Nat} (hc : c = .block i x) : g10X c K = g10X x (kBlk i K) := blk_cut hc
theorem g10loop {c x : Code} {K : Kon} (hc : c = .loop x) : g10X c K = aloop (g10X x) K big := loop_cut hc
theorem g10cond {c x y : Code} {K : Kon} {v : Operand} {F G : Env → St → Res} (hc : c = .cond v x y) (hx : g10X x K = F) (hy : g10X y K = G) : g10X c K = condF v F G := cond_cut hc hx hy
noncomputable def g10b11 (x0 : V) (x6 : V) (x7 : V) (st : St) : Res :=
 A.eql 2 true x7 (.int .i64 0) fun a1 =>
 A.cond a1
 (some (.ret (.tup [((.int .i64 0) : V).er1, x7.er1]), st))
 (A.faddr 1 x6 fun a2 =>
 A.load false 1 a2 st fun a3 z4 =>
 A.faddr 2 x6 fun a5 =>
 A.load false 1 a5 z4 fun a6 z7 =>
 A.faddr 3 x6 fun a8 =>
 A.load false 1 a8 z7 fun a9 z10 =>
 A.ret (s9 [x0.er1, a3.er1, a6.er1, a9.er1] z10) fun a11 z12 =>
 A.ext a11 0 fun a13 =>
 A.ext a11 1 fun a14 =>
 some (.ret (.tup [a13.er1, a14.er1]), z12))
theorem g10e11 : g10X (g10C [1, 1]) (g10kr) = fun env st => g10b11 (env 0) (env 6) (env 7) st := by
  refine Eq.trans (Eq.refl (g10X (g10C [1, 1]) (g10kr))) ?_
  funext env st
  kernel_rfl
noncomputable def f10 (x0 : V) (x1 : V) (st : St) : Res :=
 A.ret (s23 [x0.er1, x1.er1] st) fun a1 z2 =>
 A.ext a1 0 fun a3 =>
 A.ext a1 1 fun a4 =>
 A.box (.agg [(.int .i64 0), (.int .i64 0), (.int .i64 0), (.str [])]) z2 fun a5 z6 =>
 A.store 4 a5 a3 z6 fun z7 =>
 g10b11 x0 a5 a4 z7
theorem g10nr : g10C [] = .seq (g10C [0]) (g10C [1]) := by kernel_rfl
theorem g10n1 : g10C [1] = .seq (g10C [1, 0]) (g10C [1, 1]) := by kernel_rfl
theorem g10er (env : Env) (st : St) : g10X (g10C []) g10kr env st = f10 (env 0) (env 1) st := by
  rw [(g10seq g10nr (g10seq g10n1 (g10e11)))]
  kernel_rfl
theorem s10_eq (x0 : V) (x1 : V) (st : St) : s10 [x0, x1] st = f10 x0 x1 st := by
  have h : afn Try.prog g10mu g10T big (areg Try.prog g10mu g10T) 10 [x0, x1] st = g10X (g10C []) g10kr (fun t => [x0, x1].getD t (.tup [])) st := by kernel_rfl
  rw [s10, sealF_eq]
  exact h.trans (g10er _ st)
/-! (*sinew/field.Field).Arrive -/
def g11mu : Nat → Bool := fun _ => false
noncomputable def g11T : Tbl := tget [(23, s23)]
theorem g11t : SimT Try.prog g11T := simT_cons sim23 (simT_nil)
noncomputable def s11 : Fn := sealF (afn Try.prog g11mu g11T big (areg Try.prog g11mu g11T) 11)
theorem sim11 : Sim Try.prog 11 s11 := (afn_sim g11t (fun m => areg_sound g11t hmix m) 11 (by kernel_rfl)).sealed
noncomputable def g11C (p : List Nat) : Code := sub (match Try.f11.body with | some c => c | none => .skip) p
noncomputable def g11X (c : Code) (K : Kon) : Env → St → Res := aexec Try.prog g11mu g11T big 23 (areg Try.prog g11mu g11T 23) c K
noncomputable def g11kr : Kon := aresK Try.prog Try.f11.results.toList
theorem g11reg {c : Code} {K : Kon} {G : Env → St → Res} {id : Nat} {ops : Array Oper} {l1 l2 : List Nat} (hc : c = .region id ops false) (hl : List.range ops.size = l1 ++ l2) (h : (fun env st => aops Try.prog g11mu g11T 23 ops l2 env st (K .normal)) = G) : g11X c K = fun env st => aops Try.prog g11mu g11T 23 ops l1 env st G := reg_cut hc hl h
theorem g11seq {c x y : Code} {K : Kon} {G : Env → St → Res} (hc : c = .seq x y) (hy : g11X y K = G) : g11X c K = g11X x (kSeq G K) := seq_cut hc hy
theorem g11blk {c x : Code} {K : Kon} {i : Nat} (hc : c = .block i x) : g11X c K = g11X x (kBlk i K) := blk_cut hc
theorem g11loop {c x : Code} {K : Kon} (hc : c = .loop x) : g11X c K = aloop (g11X x) K big := loop_cut hc
theorem g11cond {c x y : Code} {K : Kon} {v : Operand} {F G : Env → St → Res} (hc : c = .cond v x y) (hx : g11X x K = F) (hy : g11X y K = G) : g11X c K = condF v F G := cond_cut hc hx hy
noncomputable def g11b11 (x0 : V) (x1 : V) (x4 : V) (x6 : V) (x7 : V) (st : St) : Res :=
 A.eql 2 false x7 (.int .i64 0) fun a1 =>
 A.cond a1
 (A.nilc x0 fun a2 =>
 A.faddr 2 a2 fun a3 =>
 A.load false 1 a3 st fun a4 z5 =>
 A.delM (keyB Try.prog 3 x1) a4 x1 z5 fun a6 z7 =>
 A.load true 4 x6 z7 fun a8 z9 =>
 A.store 4 x4 a8 z9 fun z10 =>
 A.res (rcell (A.load true 4 x4 z10 kid) (rtmp x7 (some []))) z10)
 (A.load true 4 x6 st fun a11 z12 =>
 A.store 4 x4 a11 z12 fun z13 =>
 A.res (rcell (A.load true 4 x4 z13 kid) (rtmp x7 (some []))) z13)
theorem g11e11 : g11X (g11C [1, 1]) (g11kr) = fun env st => g11b11 (env 0) (env 1) (env 4) (env 6) (env 7) st := by
  refine Eq.trans (Eq.refl (g11X (g11C [1, 1]) (g11kr))) ?_
  funext env st
  kernel_rfl
noncomputable def f11 (x0 : V) (x1 : V) (st : St) : Res :=
 A.box (.agg [(.int .i64 0), (.int .i64 0), (.int .i64 0), (.str [])]) st fun a1 z2 =>
 A.ret (s23 [x0.er1, x1.er1] z2) fun a3 z4 =>
 A.ext a3 0 fun a5 =>
 A.ext a3 1 fun a6 =>
 A.box (.agg [(.int .i64 0), (.int .i64 0), (.int .i64 0), (.str [])]) z4 fun a7 z8 =>
 A.store 4 a7 a5 z8 fun z9 =>
 g11b11 x0 x1 a1 a7 a6 z9
theorem g11nr : g11C [] = .seq (g11C [0]) (g11C [1]) := by kernel_rfl
theorem g11n1 : g11C [1] = .seq (g11C [1, 0]) (g11C [1, 1]) := by kernel_rfl
theorem g11er (env : Env) (st : St) : g11X (g11C []) g11kr env st = f11 (env 0) (env 1) st := by
  rw [(g11seq g11nr (g11seq g11n1 (g11e11)))]
  kernel_rfl
theorem s11_eq (x0 : V) (x1 : V) (st : St) : s11 [x0, x1] st = f11 x0 x1 st := by
  have h : afn Try.prog g11mu g11T big (areg Try.prog g11mu g11T) 11 [x0, x1] st = g11X (g11C []) g11kr (fun t => [x0, x1].getD t (.tup [])) st := by kernel_rfl
  rw [s11, sealF_eq]
  exact h.trans (g11er _ st)
/-! maps.Keys[map[int]sinew/api.Packet,int,sinew/api.Packet] -/
def g25mu : Nat → Bool := fun _ => false
noncomputable def g25T : Tbl := tget []
theorem g25t : SimT Try.prog g25T := simT_nil
noncomputable def s25 : Fn := sealF (afn Try.prog g25mu g25T big (areg Try.prog g25mu g25T) 25)
theorem sim25 : Sim Try.prog 25 s25 := (afn_sim g25t (fun m => areg_sound g25t hmix m) 25 (by kernel_rfl)).sealed
noncomputable def f25 (x0 : V) (st : St) : Res :=
 A.box x0 st fun a1 z2 =>
 some (.ret ((.fn 32 [] [a1]) : V).er1, z2)
theorem s25_eq (x0 : V) (st : St) : s25 [x0] st = f25 x0 st := by
  rw [s25, sealF_eq]
  kernel_rfl
/-! (*sinew/field.Field).Ids -/
def g12mu : Nat → Bool := fun _ => false
noncomputable def g12T : Tbl := tget [(22, s22), (24, s24), (25, s25)]
theorem g12t : SimT Try.prog g12T := simT_cons sim22 ( simT_cons sim24 ( simT_cons sim25 (simT_nil)))
noncomputable def s12 : Fn := sealF (afn Try.prog g12mu g12T big (areg Try.prog g12mu g12T) 12)
theorem sim12 : Sim Try.prog 12 s12 := (afn_sim g12t (fun m => areg_sound g12t hmix m) 12 (by kernel_rfl)).sealed
noncomputable def f12 (x0 : V) (st : St) : Res :=
 A.ret (s22 [x0.er1, ((.int .i64 0) : V).er1] st) fun a1 z2 =>
 A.un .not a1 fun a3 =>
 A.cond a3
 (some (.ret ((.lst [] 1) : V).er1, z2))
 (A.nilc x0 fun a4 =>
 A.faddr 2 a4 fun a5 =>
 A.load false 1 a5 z2 fun a6 z7 =>
 A.ret (s25 [a6.er1] z7) fun a8 z9 =>
 A.ret (s24 [a8.er1] z9) fun a10 z11 =>
 some (.ret a10.er1, z11))
theorem s12_eq (x0 : V) (st : St) : s12 [x0] st = f12 x0 st := by
  rw [s12, sealF_eq]
  kernel_rfl
/-! (*sinew/field.Field).Pick -/
def g8mu : Nat → Bool := fun _ => false
noncomputable def g8T : Tbl := tget [(12, s12)]
theorem g8t : SimT Try.prog g8T := simT_cons sim12 (simT_nil)
noncomputable def s8 : Fn := sealF (afn Try.prog g8mu g8T big (areg Try.prog g8mu g8T) 8)
theorem sim8 : Sim Try.prog 8 s8 := (afn_sim g8t (fun m => areg_sound g8t hmix m) 8 (by kernel_rfl)).sealed
noncomputable def g8C (p : List Nat) : Code := sub (match Try.f8.body with | some c => c | none => .skip) p
noncomputable def g8X (c : Code) (K : Kon) : Env → St → Res := aexec Try.prog g8mu g8T big 27 (areg Try.prog g8mu g8T 27) c K
noncomputable def g8kr : Kon := aresK Try.prog Try.f8.results.toList
theorem g8reg {c : Code} {K : Kon} {G : Env → St → Res} {id : Nat} {ops : Array Oper} {l1 l2 : List Nat} (hc : c = .region id ops false) (hl : List.range ops.size = l1 ++ l2) (h : (fun env st => aops Try.prog g8mu g8T 27 ops l2 env st (K .normal)) = G) : g8X c K = fun env st => aops Try.prog g8mu g8T 27 ops l1 env st G := reg_cut hc hl h
theorem g8seq {c x y : Code} {K : Kon} {G : Env → St → Res} (hc : c = .seq x y) (hy : g8X y K = G) : g8X c K = g8X x (kSeq G K) := seq_cut hc hy
theorem g8blk {c x : Code} {K : Kon} {i : Nat} (hc : c = .block i x) : g8X c K = g8X x (kBlk i K) := blk_cut hc
theorem g8loop {c x : Code} {K : Kon} (hc : c = .loop x) : g8X c K = aloop (g8X x) K big := loop_cut hc
theorem g8cond {c x y : Code} {K : Kon} {v : Operand} {F G : Env → St → Res} (hc : c = .cond v x y) (hx : g8X x K = F) (hy : g8X y K = G) : g8X c K = condF v F G := cond_cut hc hx hy
noncomputable def g8b11111 (x5 : V) (x6 : V) (st : St) : Res :=
 A.un .neg x6 fun a1 =>
 A.max x6 a1 fun a2 =>
 A.iaddr 1 x5 a2 fun a3 =>
 A.load false 1 a3 st fun a4 z5 =>
 some (.ret a4.er1, z5)
theorem g8e11111 : g8X (g8C [1, 1, 1, 1, 1]) (g8kr) = fun env st => g8b11111 (env 5) (env 6) st := by
  refine Eq.trans (Eq.refl (g8X (g8C [1, 1, 1, 1, 1]) (g8kr))) ?_
  funext env st
  kernel_rfl
noncomputable def g8b1111 (x1 : V) (x5 : V) (x6 : V) (st : St) : Res :=
 A.un .neg x1 fun a1 =>
 A.eql 2 false x1 a1 fun a2 =>
 A.cond a2
 (g8b11111 x5 (.int .i64 0) st)
 (g8b11111 x5 x6 st)
theorem g8n1111 : g8C [1, 1, 1, 1] = .seq (g8C [1, 1, 1, 1, 0]) (g8C [1, 1, 1, 1, 1]) := by kernel_rfl
theorem g8e1111 : g8X (g8C [1, 1, 1, 1]) (g8kr) = fun env st => g8b1111 (env 1) (env 5) (env 6) st := by
  refine Eq.trans (g8seq g8n1111 (g8e11111)) ?_
  funext env st
  kernel_rfl
noncomputable def f8 (x0 : V) (x1 : V) (st : St) : Res :=
 A.ret (s12 [x0.er1] st) fun a1 z2 =>
 A.lenL a1 fun a3 =>
 A.eql 2 false a3 (.int .i64 0) fun a4 =>
 A.cond a4
 (some (.ret ((.int .i64 (-1)) : V).er1, z2))
 (A.lenL a1 fun a5 =>
 A.bin .rem x1 a5 fun a6 =>
 g8b1111 x1 a1 a6 z2)
theorem g8nr : g8C [] = .seq (g8C [0]) (g8C [1]) := by kernel_rfl
theorem g8n1 : g8C [1] = .seq (g8C [1, 0]) (g8C [1, 1]) := by kernel_rfl
theorem g8n11 : g8C [1, 1] = .seq (g8C [1, 1, 0]) (g8C [1, 1, 1]) := by kernel_rfl
theorem g8n111 : g8C [1, 1, 1] = .seq (g8C [1, 1, 1, 0]) (g8C [1, 1, 1, 1]) := by kernel_rfl
theorem g8er (env : Env) (st : St) : g8X (g8C []) g8kr env st = f8 (env 0) (env 1) st := by
  rw [(g8seq g8nr (g8seq g8n1 (g8seq g8n11 (g8seq g8n111 (g8e1111)))))]
  kernel_rfl
theorem s8_eq (x0 : V) (x1 : V) (st : St) : s8 [x0, x1] st = f8 x0 x1 st := by
  have h : afn Try.prog g8mu g8T big (areg Try.prog g8mu g8T) 8 [x0, x1] st = g8X (g8C []) g8kr (fun t => [x0, x1].getD t (.tup [])) st := by kernel_rfl
  rw [s8, sealF_eq]
  exact h.trans (g8er _ st)
/-! (*sinew/field.Field).To$1 -/
def g29mu : Nat → Bool := fun _ => false
noncomputable def g29T : Tbl := tget []
theorem g29t : SimT Try.prog g29T := simT_nil
noncomputable def s29 : Fn := sealF (afn Try.prog g29mu g29T big (areg Try.prog g29mu g29T) 29)
theorem sim29 : Sim Try.prog 29 s29 := (afn_sim g29t (fun m => areg_sound g29t hmix m) 29 (by kernel_rfl)).sealed
noncomputable def f29 (x0 : V) (x1 : V) (x2 : V) (st : St) : Res :=
 A.load false 1 x1 st fun a1 _ =>
 A.nilc a1 fun a2 =>
 A.faddr 2 a2 fun a3 =>
 A.load false 1 a3 st fun a4 _ =>
 A.noP (A.lookupK (keyB Try.prog 3 x0) (.agg [(.int .i64 0), (.int .i64 0), (.int .i64 0), (.str [])]) false a4 x0 st fun v => kid v st) fun a5 z6 =>
 A.field false 1 2 a5 fun a7 =>
 A.load false 1 x2 z6 fun a8 _ =>
 A.chk (ldv false 1 x2 st) a8
 (A.eql 2 true a7 a8 fun a9 =>
 some (.ret a9.er1, z6))
theorem s29_eq (x0 : V) (x1 : V) (x2 : V) (st : St) : s29 [x0, x1, x2] st = f29 x0 x1 x2 st := by
  rw [s29, sealF_eq]
  kernel_rfl
/-! slices.IndexFunc[[]int,int] -/
def g33mu : Nat → Bool := fun _ => false
noncomputable def g33T : Tbl := tget [(29, s29)]
theorem g33t : SimT Try.prog g33T := simT_cons sim29 (simT_nil)
noncomputable def s33 : Fn := sealF (afn Try.prog g33mu g33T big (areg Try.prog g33mu g33T) 33)
theorem sim33 : Sim Try.prog 33 s33 := (afn_sim g33t (fun m => areg_sound g33t hmix m) 33 (by kernel_rfl)).sealed
noncomputable def g33C (p : List Nat) : Code := sub (match Try.f33.body with | some c => c | none => .skip) p
noncomputable def g33X (c : Code) (K : Kon) : Env → St → Res := aexec Try.prog g33mu g33T big 19 (areg Try.prog g33mu g33T 19) c K
noncomputable def g33kr : Kon := aresK Try.prog Try.f33.results.toList
theorem g33reg {c : Code} {K : Kon} {G : Env → St → Res} {id : Nat} {ops : Array Oper} {l1 l2 : List Nat} (hc : c = .region id ops false) (hl : List.range ops.size = l1 ++ l2) (h : (fun env st => aops Try.prog g33mu g33T 19 ops l2 env st (K .normal)) = G) : g33X c K = fun env st => aops Try.prog g33mu g33T 19 ops l1 env st G := reg_cut hc hl h
theorem g33seq {c x y : Code} {K : Kon} {G : Env → St → Res} (hc : c = .seq x y) (hy : g33X y K = G) : g33X c K = g33X x (kSeq G K) := seq_cut hc hy
theorem g33blk {c x : Code} {K : Kon} {i : Nat} (hc : c = .block i x) : g33X c K = g33X x (kBlk i K) := blk_cut hc
theorem g33loop {c x : Code} {K : Kon} (hc : c = .loop x) : g33X c K = aloop (g33X x) K big := loop_cut hc
theorem g33cond {c x y : Code} {K : Kon} {v : Operand} {F G : Env → St → Res} (hc : c = .cond v x y) (hx : g33X x K = F) (hy : g33X y K = G) : g33X c K = condF v F G := cond_cut hc hx hy
noncomputable def g33k0 : Kon := kSeq (g33X (g33C [1, 1]) (g33kr)) (g33kr)
noncomputable def g33k1 : Kon := kBlk 0 (g33k0)
noncomputable def g33b1010 : Nat → V → V → V → V → St → Res
| 0, _, _, _, _, _ => none
| n + 1, x0, x1, x7, x8, st =>
 A.bin .lss x8 x7 fun a1 =>
 A.cond a1
 (A.iaddr 1 x0 x8 fun a2 =>
 A.load false 1 a2 st fun a3 z4 =>
 A.call g33T x1 [a3] z4 fun a5 z6 =>
 A.cond a5
 (some (.ret x8.er1, z6))
 (A.bin .add x8 (.int .i64 1) fun a7 =>
 (g33b1010 n) x0 x1 x7 a7 z6))
 (some (.ret ((.int .i64 (-1)) : V).er1, st))
theorem g33n1010 : g33C [1, 0, 1, 0] = .loop (g33C [1, 0, 1, 0, 0]) := by kernel_rfl
noncomputable def g33k2 (L1010 : V → V → V → V → St → Res) : Kon := kSeq (fun env st => L1010 (env 0) (env 1) (env 7) (env 8) st) (g33k1)
theorem g33e1010 : g33X (g33C [1, 0, 1, 0]) (g33k1) = fun env st => g33b1010 big (env 0) (env 1) (env 7) (env 8) st := by
  have key : ∀ n, aloop (g33X (g33C [1, 0, 1, 0, 0])) (g33k1) n = fun env st => g33b1010 n (env 0) (env 1) (env 7) (env 8) st := by
    intro n
    induction n with
    | zero => rfl
    | succ n ih =>
      have h : aloop (g33X (g33C [1, 0, 1, 0, 0])) (g33k1) (n + 1) = g33X (g33C [1, 0, 1, 0, 0]) (kSeq (aloop (g33X (g33C [1, 0, 1, 0, 0])) (g33k1) n) (g33k1)) := rfl
      rw [h, ih]
      refine Eq.trans (Eq.refl _) ?_
      funext env st
      kernel_rfl
  exact (g33loop g33n1010).trans (key big)
noncomputable def f33 (x0 : V) (x1 : V) (st : St) : Res :=
 A.lenL x0 fun a1 =>
 g33b1010 big x0 x1 a1 (.int .i64 0) st
theorem g33nr : g33C [] = .seq (g33C [0]) (g33C [1]) := by kernel_rfl
theorem g33n1 : g33C [1] = .seq (g33C [1, 0]) (g33C [1, 1]) := by kernel_rfl
theorem g33n10 : g33C [1, 0] = .seq (g33C [1, 0, 0]) (g33C [1, 0, 1]) := by kernel_rfl
theorem g33n101 : g33C [1, 0, 1] = .block 0 (g33C [1, 0, 1, 0]) := by kernel_rfl
theorem g33er (env : Env) (st : St) : g33X (g33C []) g33kr env st = f33 (env 0) (env 1) st := by
  rw [(g33seq g33nr ((g33seq g33n1 rfl).trans (g33seq g33n10 ((g33blk g33n101).trans (g33e1010)))))]
  kernel_rfl
theorem s33_eq (x0 : V) (x1 : V) (st : St) : s33 [x0, x1] st = f33 x0 x1 st := by
  have h : afn Try.prog g33mu g33T big (areg Try.prog g33mu g33T) 33 [x0, x1] st = g33X (g33C []) g33kr (fun t => [x0, x1].getD t (.tup [])) st := by kernel_rfl
  rw [s33, sealF_eq]
  exact h.trans (g33er _ st)
/-! slices.DeleteFunc[[]int,int] -/
def g28mu : Nat → Bool := fun _ => false
noncomputable def g28T : Tbl := tget [(29, s29), (33, s33)]
theorem g28t : SimT Try.prog g28T := simT_cons sim29 ( simT_cons sim33 (simT_nil))
noncomputable def s28 : Fn := sealF (afn Try.prog g28mu g28T big (areg Try.prog g28mu g28T) 28)
theorem sim28 : Sim Try.prog 28 s28 := (afn_sim g28t (fun m => areg_sound g28t hmix m) 28 (by kernel_rfl)).sealed
noncomputable def g28C (p : List Nat) : Code := sub (match Try.f28.body with | some c => c | none => .skip) p
noncomputable def g28X (c : Code) (K : Kon) : Env → St → Res := aexec Try.prog g28mu g28T big 42 (areg Try.prog g28mu g28T 42) c K
noncomputable def g28kr : Kon := aresK Try.prog Try.f28.results.toList
theorem g28reg {c : Code} {K : Kon} {G : Env → St → Res} {id : Nat} {ops : Array Oper} {l1 l2 : List Nat} (hc : c = .region id ops false) (hl : List.range ops.size = l1 ++ l2) (h : (fun env st => aops Try.prog g28mu g28T 42 ops l2 env st (K .normal)) = G) : g28X c K = fun env st => aops Try.prog g28mu g28T 42 ops l1 env st G := reg_cut hc hl h
theorem g28seq {c x y : Code} {K : Kon} {G : Env → St → Res} (hc : c = .seq x y) (hy : g28X y K = G) : g28X c K = g28X x (kSeq G K) := seq_cut hc hy
theorem g28blk {c x : Code} {K : Kon} {i : Nat} (hc : c = .block i x) : g28X c K = g28X x (kBlk i K) := blk_cut hc
theorem g28loop {c x : Code} {K : Kon} (hc : c = .loop x) : g28X c K = aloop (g28X x) K big := loop_cut hc
theorem g28cond {c x y : Code} {K : Kon} {v : Operand} {F G : Env → St → Res} (hc : c = .cond v x y) (hx : g28X x K = F) (hy : g28X y K = G) : g28X c K = condF v F G := cond_cut hc hx hy
noncomputable def g28k0 : Kon := kSeq (g28X (g28C [1, 1, 1, 1]) (g28kr)) (g28kr)
noncomputable def g28k1 : Kon := kBlk 0 (g28k0)
noncomputable def g28k2 (L111010 : V → V → V → V → St → Res) : Kon := kSeq (fun env st => L111010 (env 0) (env 1) (env 5) (env 6) st) (g28k1)
noncomputable def g28k3 (L111010 : V → V → V → V → St → Res) : Kon := kSeq (g28X (g28C [1, 1, 1, 0, 1, 0, 0, 1, 1]) (g28k2 L111010)) (g28k2 L111010)
noncomputable def g28k4 (L111010 : V → V → V → V → St → Res) : Kon := kBlk 1 (g28k3 L111010)
noncomputable def g28b111010010011 (L111010 : V → V → V → V → St → Res) (x0 : V) (x1 : V) (x5 : V) (x6 : V) (x7 : V) (x29 : V) (st : St) : Res :=
 A.cond x29
 (A.iaddr 1 x0 x5 fun a1 =>
 A.store 1 a1 x7 st fun z2 =>
 A.bin .add x5 (.int .i64 1) fun a3 =>
 A.bin .add x6 (.int .i64 1) fun a4 =>
 L111010 x0 x1 a3 a4 z2)
 (A.bin .add x6 (.int .i64 1) fun a5 =>
 L111010 x0 x1 x5 a5 st)
theorem g28e111010010011 (L111010 : V → V → V → V → St → Res) : g28X (g28C [1, 1, 1, 0, 1, 0, 0, 1, 0, 0, 1, 1]) (g28k4 L111010) = fun env st => g28b111010010011 L111010 (env 0) (env 1) (env 5) (env 6) (env 7) (env 29) st := by
  refine Eq.trans (Eq.refl (g28X (g28C [1, 1, 1, 0, 1, 0, 0, 1, 0, 0, 1, 1]) (g28k4 L111010))) ?_
  funext env st
  kernel_rfl
noncomputable def g28b111010 : Nat → V → V → V → V → St → Res
| 0, _, _, _, _, _ => none
| n + 1, x0, x1, x5, x6, st =>
 A.lenL x0 fun a1 =>
 A.bin .lss x6 a1 fun a2 =>
 A.cond a2
 (A.iaddr 1 x0 x6 fun a3 =>
 A.load false 1 a3 st fun a4 z5 =>
 A.call g28T x1 [a4] z5 fun a6 z7 =>
 A.un .not a6 fun a8 =>
 g28b111010010011 (g28b111010 n) x0 x1 x5 x6 a4 a8 z7)
 (A.slice 1 x0 (some x5) none none fun a9 =>
 A.clearS (.int .i64 0) a9 st fun a10 z11 =>
 A.slice 1 x0 none (some x5) none fun a12 =>
 some (.ret a12.er1, z11))
theorem g28n111010 : g28C [1, 1, 1, 0, 1, 0] = .loop (g28C [1, 1, 1, 0, 1, 0, 0]) := by kernel_rfl
theorem g28n1110100 : g28C [1, 1, 1, 0, 1, 0, 0] = .seq (g28C [1, 1, 1, 0, 1, 0, 0, 0]) (g28C [1, 1, 1, 0, 1, 0, 0, 1]) := by kernel_rfl
theorem g28n11101001 : g28C [1, 1, 1, 0, 1, 0, 0, 1] = .seq (g28C [1, 1, 1, 0, 1, 0, 0, 1, 0]) (g28C [1, 1, 1, 0, 1, 0, 0, 1, 1]) := by kernel_rfl
theorem g28n111010010 : g28C [1, 1, 1, 0, 1, 0, 0, 1, 0] = .block 1 (g28C [1, 1, 1, 0, 1, 0, 0, 1, 0, 0]) := by kernel_rfl
theorem g28n1110100100 : g28C [1, 1, 1, 0, 1, 0, 0, 1, 0, 0] = .seq (g28C [1, 1, 1, 0, 1, 0, 0, 1, 0, 0, 0]) (g28C [1, 1, 1, 0, 1, 0, 0, 1, 0, 0, 1]) := by kernel_rfl
theorem g28n11101001001 : g28C [1, 1, 1, 0, 1, 0, 0, 1, 0, 0, 1] = .seq (g28C [1, 1, 1, 0, 1, 0, 0, 1, 0, 0, 1, 0]) (g28C [1, 1, 1, 0, 1, 0, 0, 1, 0, 0, 1, 1]) := by kernel_rfl
theorem g28e111010 : g28X (g28C [1, 1, 1, 0, 1, 0]) (g28k1) = fun env st => g28b111010 big (env 0) (env 1) (env 5) (env 6) st := by
  have key : ∀ n, aloop (g28X (g28C [1, 1, 1, 0, 1, 0, 0])) (g28k1) n = fun env st => g28b111010 n (env 0) (env 1) (env 5) (env 6) st := by
    intro n
    induction n with
    | zero => rfl
    | succ n ih =>
      have h : aloop (g28X (g28C [1, 1, 1, 0, 1, 0, 0])) (g28k1) (n + 1) = g28X (g28C [1, 1, 1, 0, 1, 0, 0]) (kSeq (aloop (g28X (g28C [1, 1, 1, 0, 1, 0, 0])) (g28k1) n) (g28k1)) := rfl
      rw [h, ih]
      refine Eq.trans (g28seq g28n1110100 ((g28seq g28n11101001 rfl).trans ((g28blk g28n111010010).trans (g28seq g28n1110100100 (g28seq g28n11101001001 (g28e111010010011 (g28b111010 n))))))) ?_
      funext env st
      kernel_rfl
  exact (g28loop g28n111010).trans (key big)
noncomputable def g28b11101 (x0 : V) (x1 : V) (x5 : V) (x6 : V) (st : St) : Res :=
 g28b111010 big x0 x1 x5 x6 st
theorem g28n11101 : g28C [1, 1, 1, 0, 1] = .block 0 (g28C [1, 1, 1, 0, 1, 0]) := by kernel_rfl
theorem g28e11101 : g28X (g28C [1, 1, 1, 0, 1]) (g28k0) = fun env st => g28b11101 (env 0) (env 1) (env 5) (env 6) st := by
  refine Eq.trans ((g28blk g28n11101).trans (g28e111010)) ?_
  funext env st
  kernel_rfl
noncomputable def f28 (x0 : V) (x1 : V) (st : St) : Res :=
 A.ret (s33 [x0.er1, x1.er1] st) fun a1 z2 =>
 A.eql 2 false a1 (.int .i64 (-1)) fun a3 =>
 A.cond a3
 (some (.ret x0.er1, z2))
 (A.bin .add a1 (.int .i64 1) fun a4 =>
 g28b11101 x0 x1 a1 a4 z2)
theorem g28nr : g28C [] = .seq (g28C [0]) (g28C [1]) := by kernel_rfl
theorem g28n1 : g28C [1] = .seq (g28C [1, 0]) (g28C [1, 1]) := by kernel_rfl
theorem g28n11 : g28C [1, 1] = .seq (g28C [1, 1, 0]) (g28C [1, 1, 1]) := by kernel_rfl
theorem g28n111 : g28C [1, 1, 1] = .seq (g28C [1, 1, 1, 0]) (g28C [1, 1, 1, 1]) := by kernel_rfl
theorem g28n1110 : g28C [1, 1, 1, 0] = .seq (g28C [1, 1, 1, 0, 0]) (g28C [1, 1, 1, 0, 1]) := by kernel_rfl
theorem g28er (env : Env) (st : St) : g28X (g28C []) g28kr env st = f28 (env 0) (env 1) st := by
  rw [(g28seq g28nr (g28seq g28n1 (g28seq g28n11 ((g28seq g28n111 rfl).trans (g28seq g28n1110 (g28e11101))))))]
  kernel_rfl
theorem s28_eq (x0 : V) (x1 : V) (st : St) : s28 [x0, x1] st = f28 x0 x1 st := by
  have h : afn Try.prog g28mu g28T big (areg Try.prog g28mu g28T) 28 [x0, x1] st = g28X (g28C []) g28kr (fun t => [x0, x1].getD t (.tup [])) st := by kernel_rfl
  rw [s28, sealF_eq]
  exact h.trans (g28er _ st)
/-! (*sinew/field.Field).To -/
def g20mu : Nat → Bool := fun _ => false
noncomputable def g20T : Tbl := tget [(12, s12), (28, s28)]
theorem g20t : SimT Try.prog g20T := simT_cons sim12 ( simT_cons sim28 (simT_nil))
noncomputable def s20 : Fn := sealF (afn Try.prog g20mu g20T big (areg Try.prog g20mu g20T) 20)
theorem sim20 : Sim Try.prog 20 s20 := (afn_sim g20t (fun m => areg_sound g20t hmix m) 20 (by kernel_rfl)).sealed
noncomputable def f20 (x0 : V) (x1 : V) (st : St) : Res :=
 A.box x0 st fun a1 z2 =>
 A.box x1 z2 fun a3 z4 =>
 A.load false 1 a1 z4 fun a5 z6 =>
 A.ret (s12 [a5.er1] z6) fun a7 z8 =>
 A.ret (s28 [a7.er1, ((.fn 29 [] [a1, a3]) : V).er1] z8) fun a9 z10 =>
 some (.ret a9.er1, z10)
theorem s20_eq (x0 : V) (x1 : V) (st : St) : s20 [x0, x1] st = f20 x0 x1 st := by
  rw [s20, sealF_eq]
  kernel_rfl
end Go.Ab
