import Derived.Test.YtimidokohhiacaaAbQuiet
import Derived.Test.YtimidokohhiacaaAbN09a
namespace Go.Ab
open Go.Proofs
set_option linter.unusedVariables false
set_option maxRecDepth 100000
/-! (*sinew/query.parser).now -/
def g50mu : Nat → Bool := fun _ => false
noncomputable def g50T : Tbl := tget []
theorem g50t : SimT Try.prog g50T := simT_nil
noncomputable def s50 : Fn := sealF (afn Try.prog g50mu g50T big (areg Try.prog g50mu g50T) 50)
theorem sim50 : Sim Try.prog 50 s50 := (afn_sim g50t (fun m => areg_sound g50t hmix m) 50 (by kernel_rfl)).sealed
noncomputable def g50C (p : List Nat) : Code := sub (match Try.f50.body with | some c => c | none => .skip) p
noncomputable def g50X (c : Code) (K : Kon) : Env → St → Res := aexec Try.prog g50mu g50T big 20 (areg Try.prog g50mu g50T 20) c K
noncomputable def g50kr : Kon := aresK Try.prog Try.f50.results.toList
theorem g50reg {c : Code} {K : Kon} {G : Env → St → Res} {id : Nat} {ops : Array Oper} {l1 l2 : List Nat} (hc : c = .region id ops false) (hl : List.range ops.size = l1 ++ l2) (h : (fun env st => aops Try.prog g50mu g50T 20 ops l2 env st (K .normal)) = G) : g50X c K = fun env st => aops Try.prog g50mu g50T 20 ops l1 env st G := reg_cut hc hl h
theorem g50seq {c x y : Code} {K : Kon} {G : Env → St → Res} (hc : c = .seq x y) (hy : g50X y K = G) : g50X c K = g50X x (kSeq G K) := seq_cut hc hy
theorem g50blk {c x : Code} {K : Kon} {i : Nat} (hc : c = .block i x) : g50X c K = g50X x (kBlk i K) := blk_cut hc
theorem g50loop {c x : Code} {K : Kon} (hc : c = .loop x) : g50X c K = aloop (g50X x) K big := loop_cut hc
theorem g50cond {c x y : Code} {K : Kon} {v : Operand} {F G : Env → St → Res} (hc : c = .cond v x y) (hx : g50X x K = F) (hy : g50X y K = G) : g50X c K = condF v F G := cond_cut hc hx hy
noncomputable def g50b11 (x0 : V) (x2 : V) (st : St) : Res :=
 A.nilc x0 fun a1 =>
 A.faddr 0 a1 fun a2 =>
 A.load false 1 a2 st fun a3 z4 =>
 A.iaddr 3 a3 (.int .i64 0) fun a5 =>
 A.load true 3 a5 z4 fun a6 z7 =>
 A.store 3 x2 a6 z7 fun z8 =>
 A.res (rcell (A.load true 3 x2 z8 kid) (some [])) z8
theorem g50e11 : g50X (g50C [1, 1]) (g50kr) = fun env st => g50b11 (env 0) (env 2) st := by
  refine Eq.trans (Eq.refl (g50X (g50C [1, 1]) (g50kr))) ?_
  funext env st
  kernel_rfl
noncomputable def f50 (x0 : V) (st : St) : Res :=
 A.box (.agg [(.int .i64 0), (.str []), (.int .i64 0)]) st fun a1 z2 =>
 A.nilc x0 fun a3 =>
 A.faddr 0 a3 fun a4 =>
 A.load false 1 a4 z2 fun a5 z6 =>
 A.lenL a5 fun a7 =>
 A.eql 2 false a7 (.int .i64 0) fun a8 =>
 A.cond a8
 (A.nilc x0 fun a9 =>
 A.faddr 1 a9 fun a10 =>
 A.load false 1 a10 z6 fun a11 z12 =>
 A.build [(.int .i64 0), (.str []), (.int .i64 0)] [(2, 1, a11)] fun a13 =>
 A.store 3 a1 a13 z12 fun z14 =>
 A.res (rcell (A.load true 3 a1 z14 kid) (some [])) z14)
 (g50b11 x0 a1 z6)
theorem g50nr : g50C [] = .seq (g50C [0]) (g50C [1]) := by kernel_rfl
theorem g50n1 : g50C [1] = .seq (g50C [1, 0]) (g50C [1, 1]) := by kernel_rfl
theorem g50er (env : Env) (st : St) : g50X (g50C []) g50kr env st = f50 (env 0) st := by
  rw [(g50seq g50nr (g50seq g50n1 (g50e11)))]
  kernel_rfl
theorem s50_eq (x0 : V) (st : St) : s50 [x0] st = f50 x0 st := by
  have h : afn Try.prog g50mu g50T big (areg Try.prog g50mu g50T) 50 [x0] st = g50X (g50C []) g50kr (fun t => [x0].getD t (.tup [])) st := by kernel_rfl
  rw [s50, sealF_eq]
  exact h.trans (g50er _ st)
/-! (*sinew/query.parser).is -/
def g83mu : Nat → Bool := fun _ => false
noncomputable def g83T : Tbl := tget [(50, s50)]
theorem g83t : SimT Try.prog g83T := simT_cons sim50 (simT_nil)
noncomputable def s83 : Fn := sealF (afn Try.prog g83mu g83T big (areg Try.prog g83mu g83T) 83)
theorem sim83 : Sim Try.prog 83 s83 := (afn_sim g83t (fun m => areg_sound g83t hmix m) 83 (by kernel_rfl)).sealed
noncomputable def g83C (p : List Nat) : Code := sub (match Try.f83.body with | some c => c | none => .skip) p
noncomputable def g83X (c : Code) (K : Kon) : Env → St → Res := aexec Try.prog g83mu g83T big 25 (areg Try.prog g83mu g83T 25) c K
noncomputable def g83kr : Kon := aresK Try.prog Try.f83.results.toList
theorem g83reg {c : Code} {K : Kon} {G : Env → St → Res} {id : Nat} {ops : Array Oper} {l1 l2 : List Nat} (hc : c = .region id ops false) (hl : List.range ops.size = l1 ++ l2) (h : (fun env st => aops Try.prog g83mu g83T 25 ops l2 env st (K .normal)) = G) : g83X c K = fun env st => aops Try.prog g83mu g83T 25 ops l1 env st G := reg_cut hc hl h
theorem g83seq {c x y : Code} {K : Kon} {G : Env → St → Res} (hc : c = .seq x y) (hy : g83X y K = G) : g83X c K = g83X x (kSeq G K) := seq_cut hc hy
theorem g83blk {c x : Code} {K : Kon} {i : Nat} (hc : c = .block i x) : g83X c K = g83X x (kBlk i K) := blk_cut hc
theorem g83loop {c x : Code} {K : Kon} (hc : c = .loop x) : g83X c K = aloop (g83X x) K big := loop_cut hc
theorem g83cond {c x y : Code} {K : Kon} {v : Operand} {F G : Env → St → Res} (hc : c = .cond v x y) (hx : g83X x K = F) (hy : g83X y K = G) : g83X c K = condF v F G := cond_cut hc hx hy
noncomputable def g83b11 (x0 : V) (st : St) : Res :=
 A.nilc x0 fun a1 =>
 A.faddr 0 a1 fun a2 =>
 A.load false 1 a2 st fun a3 z4 =>
 A.slice 3 a3 (some (.int .i64 1)) none none fun a5 =>
 A.nilc x0 fun a6 =>
 A.faddr 0 a6 fun a7 =>
 A.store 1 a7 a5 z4 fun z8 =>
 some (.ret ((.bool true) : V).er1, z8)
theorem g83e11 : g83X (g83C [1, 1]) (g83kr) = fun env st => g83b11 (env 0) st := by
  refine Eq.trans (Eq.refl (g83X (g83C [1, 1]) (g83kr))) ?_
  funext env st
  kernel_rfl
noncomputable def f83 (x0 : V) (x1 : V) (st : St) : Res :=
 A.ret (s50 [x0.er1] st) fun a1 z2 =>
 A.box (.agg [(.int .i64 0), (.str []), (.int .i64 0)]) z2 fun a3 z4 =>
 A.store 3 a3 a1 z4 fun z5 =>
 A.faddr 0 a3 fun a6 =>
 A.load false 1 a6 z5 fun a7 z8 =>
 A.eql 2 true a7 (.int .i64 3) fun a9 =>
 A.guard a9 false
 (A.faddr 1 a3 fun a10 =>
 A.load false 1 a10 z8 fun a11 z12 =>
 A.eql 3 true a11 x1 fun a13 =>
 A.cond a13
 (some (.ret ((.bool false) : V).er1, z12))
 (g83b11 x0 z12))
 (some (.ret ((.bool false) : V).er1, z8))
theorem g83nr : g83C [] = .seq (g83C [0]) (g83C [1]) := by kernel_rfl
theorem g83n1 : g83C [1] = .seq (g83C [1, 0]) (g83C [1, 1]) := by kernel_rfl
theorem g83er (env : Env) (st : St) : g83X (g83C []) g83kr env st = f83 (env 0) (env 1) st := by
  rw [(g83seq g83nr (g83seq g83n1 (g83e11)))]
  kernel_rfl
theorem s83_eq (x0 : V) (x1 : V) (st : St) : s83 [x0, x1] st = f83 x0 x1 st := by
  have h : afn Try.prog g83mu g83T big (areg Try.prog g83mu g83T) 83 [x0, x1] st = g83X (g83C []) g83kr (fun t => [x0, x1].getD t (.tup [])) st := by kernel_rfl
  rw [s83, sealF_eq]
  exact h.trans (g83er _ st)
/-! (*sinew/query.parser).take -/
def g80mu : Nat → Bool := fun _ => false
noncomputable def g80T : Tbl := tget [(44, s44), (50, s50)]
theorem g80t : SimT Try.prog g80T := simT_cons sim44 ( simT_cons sim50 (simT_nil))
noncomputable def s80 : Fn := sealF (afn Try.prog g80mu g80T big (areg Try.prog g80mu g80T) 80)
theorem sim80 : Sim Try.prog 80 s80 := (afn_sim g80t (fun m => areg_sound g80t hmix m) 80 (by kernel_rfl)).sealed
noncomputable def g80C (p : List Nat) : Code := sub (match Try.f80.body with | some c => c | none => .skip) p
noncomputable def g80X (c : Code) (K : Kon) : Env → St → Res := aexec Try.prog g80mu g80T big 40 (areg Try.prog g80mu g80T 40) c K
noncomputable def g80kr : Kon := aresK Try.prog Try.f80.results.toList
theorem g80reg {c : Code} {K : Kon} {G : Env → St → Res} {id : Nat} {ops : Array Oper} {l1 l2 : List Nat} (hc : c = .region id ops false) (hl : List.range ops.size = l1 ++ l2) (h : (fun env st => aops Try.prog g80mu g80T 40 ops l2 env st (K .normal)) = G) : g80X c K = fun env st => aops Try.prog g80mu g80T 40 ops l1 env st G := reg_cut hc hl h
theorem g80seq {c x y : Code} {K : Kon} {G : Env → St → Res} (hc : c = .seq x y) (hy : g80X y K = G) : g80X c K = g80X x (kSeq G K) := seq_cut hc hy
theorem g80blk {c x : Code} {K : Kon} {i : Nat} (hc : c = .block i x) : g80X c K = g80X x (kBlk i K) := blk_cut hc
theorem g80loop {c x : Code} {K : Kon} (hc : c = .loop x) : g80X c K = aloop (g80X x) K big := loop_cut hc
theorem g80cond {c x y : Code} {K : Kon} {v : Operand} {F G : Env → St → Res} (hc : c = .cond v x y) (hx : g80X x K = F) (hy : g80X y K = G) : g80X c K = condF v F G := cond_cut hc hx hy
noncomputable def g80b111 (x0 : V) (x7 : V) (st : St) : Res :=
 A.nilc x0 fun a1 =>
 A.faddr 0 a1 fun a2 =>
 A.load false 1 a2 st fun a3 z4 =>
 A.slice 3 a3 (some (.int .i64 1)) none none fun a5 =>
 A.nilc x0 fun a6 =>
 A.faddr 0 a6 fun a7 =>
 A.store 1 a7 a5 z4 fun z8 =>
 A.faddr 1 x7 fun a9 =>
 A.load false 1 a9 z8 fun a10 z11 =>
 some (.ret a10.er1, z11)
theorem g80e111 : g80X (g80C [1, 1, 1]) (g80kr) = fun env st => g80b111 (env 0) (env 7) st := by
  refine Eq.trans (Eq.refl (g80X (g80C [1, 1, 1]) (g80kr))) ?_
  funext env st
  kernel_rfl
noncomputable def g80k0 : Kon := kSeq (fun env st => g80b111 (env 0) (env 7) st) (g80kr)
noncomputable def g80b1101 (x0 : V) (x7 : V) (x25 : V) (st : St) : Res :=
 A.cond x25
 (A.faddr 2 x7 fun a1 =>
 A.load false 1 a1 st fun a2 z3 =>
 A.build [(.int .i64 0)] [(0, 1, a2)] fun a4 =>
 some (.panic (.iface 88 a4), z3))
 (g80b111 x0 x7 st)
theorem g80e1101 : g80X (g80C [1, 1, 0, 1]) (g80k0) = fun env st => g80b1101 (env 0) (env 7) (env 25) st := by
  refine Eq.trans (Eq.refl (g80X (g80C [1, 1, 0, 1]) (g80k0))) ?_
  funext env st
  kernel_rfl
noncomputable def f80 (x0 : V) (x1 : V) (x2 : V) (st : St) : Res :=
 A.ret (s50 [x0.er1] st) fun a1 z2 =>
 A.box (.agg [(.int .i64 0), (.str []), (.int .i64 0)]) z2 fun a3 z4 =>
 A.store 3 a3 a1 z4 fun z5 =>
 A.faddr 0 a3 fun a6 =>
 A.load false 1 a6 z5 fun a7 z8 =>
 A.eql 2 true a7 x1 fun a9 =>
 A.guard a9 false
 (A.lenL x2 fun a10 =>
 A.bin .gtr a10 (.int .i64 0) fun a11 =>
 A.guardT a11 true
 (A.faddr 1 a3 fun a12 =>
 A.load false 1 a12 z8 fun a13 z14 =>
 A.ret (s44 [x2.er1, a13.er1] z14) fun a15 z16 =>
 A.un .not a15 fun a17 =>
 g80b1101 x0 a3 a17 z16)
 (g80b1101 x0 a3 (.bool false) z8)
 (A.guardT a11 true
 (A.faddr 1 a3 fun a18 =>
 A.load false 1 a18 z8 fun a19 z20 =>
 A.ret (s44 [((.tup []) : V).er1, a19.er1] z20) fun a21 z22 =>
 A.un .not a21 fun a23 =>
 g80b1101 x0 a3 a23 z22)
 (g80b1101 x0 a3 (.bool false) z8)
 (A.guardT a11 true
 (A.load false 1 (.tup []) z8 fun a24 z25 =>
 A.ret (s44 [((.tup []) : V).er1, a24.er1] z25) fun a26 z27 =>
 A.un .not a26 fun a28 =>
 g80b1101 x0 a3 a28 z27)
 (g80b1101 x0 a3 (.bool false) z8)
 (A.guardT a11 true
 (A.ret (s44 [((.tup []) : V).er1, ((.tup []) : V).er1] z8) fun a29 z30 =>
 A.un .not a29 fun a31 =>
 g80b1101 x0 a3 a31 z30)
 (g80b1101 x0 a3 (.bool false) z8)
 (A.guardT a11 true
 (A.un .not (.tup []) fun a32 =>
 g80b1101 x0 a3 a32 z8)
 (g80b1101 x0 a3 (.bool false) z8)
 (A.pick a11 (.tup []) (.bool false) fun a33 =>
 g80b1101 x0 a3 a33 z8))))))
 (g80b1101 x0 a3 (.bool true) z8)
theorem g80nr : g80C [] = .seq (g80C [0]) (g80C [1]) := by kernel_rfl
theorem g80n1 : g80C [1] = .seq (g80C [1, 0]) (g80C [1, 1]) := by kernel_rfl
theorem g80n11 : g80C [1, 1] = .seq (g80C [1, 1, 0]) (g80C [1, 1, 1]) := by kernel_rfl
theorem g80n110 : g80C [1, 1, 0] = .seq (g80C [1, 1, 0, 0]) (g80C [1, 1, 0, 1]) := by kernel_rfl
theorem g80er (env : Env) (st : St) : g80X (g80C []) g80kr env st = f80 (env 0) (env 1) (env 2) st := by
  rw [(g80seq g80nr (g80seq g80n1 ((g80seq g80n11 (g80e111)).trans (g80seq g80n110 (g80e1101)))))]
  kernel_rfl
theorem s80_eq (x0 : V) (x1 : V) (x2 : V) (st : St) : s80 [x0, x1, x2] st = f80 x0 x1 x2 st := by
  have h : afn Try.prog g80mu g80T big (areg Try.prog g80mu g80T) 80 [x0, x1, x2] st = g80X (g80C []) g80kr (fun t => [x0, x1, x2].getD t (.tup [])) st := by kernel_rfl
  rw [s80, sealF_eq]
  exact h.trans (g80er _ st)
/-! (*sinew/query.parser).term -/
def g81mu : Nat → Bool := fun _ => false
noncomputable def g81T : Tbl := tget [(50, s50), (80, s80)]
theorem g81t : SimT Try.prog g81T := simT_cons sim50 ( simT_cons sim80 (simT_nil))
noncomputable def s81 : Fn := sealF (afn Try.prog g81mu g81T big (areg Try.prog g81mu g81T) 81)
theorem sim81 : Sim Try.prog 81 s81 := (afn_sim g81t (fun m => areg_sound g81t hmix m) 81 (by kernel_rfl)).sealed
noncomputable def f81 (x0 : V) (st : St) : Res :=
 A.box (.agg [(.bool false), (.str [])]) st fun a1 z2 =>
 A.ret (s50 [x0.er1] z2) fun a3 z4 =>
 A.field false 1 0 a3 fun a5 =>
 A.eql 2 false a5 (.int .i64 2) fun a6 =>
 A.cond a6
 (A.ret (s80 [x0.er1, ((.int .i64 2) : V).er1, ((.lst [] 1) : V).er1] z4) fun a7 z8 =>
 A.build [(.bool false), (.str [])] [(0, 1, (.bool true)), (1, 1, a7)] fun a9 =>
 A.store 2 a1 a9 z8 fun z10 =>
 A.res (rcell (A.load true 2 a1 z10 kid) (some [])) z10)
 (A.ret (s80 [x0.er1, ((.int .i64 1) : V).er1, ((.lst [] 1) : V).er1] z4) fun a11 z12 =>
 A.build [(.bool false), (.str [])] [(1, 1, a11)] fun a13 =>
 A.store 2 a1 a13 z12 fun z14 =>
 A.res (rcell (A.load true 2 a1 z14 kid) (some [])) z14)
theorem s81_eq (x0 : V) (st : St) : s81 [x0] st = f81 x0 st := by
  rw [s81, sealF_eq]
  kernel_rfl
/-! (*sinew/query.parser).some -/
def g95mu : Nat → Bool := fun _ => false
noncomputable def g95T (R : Nat → Fn) : Tbl := tget [(96, R 96), (102, R 102), (83, s83)]
theorem g95t (R : Nat → Fn) (hR : ∀ j, j ∈ [82, 95, 96, 102, 104] → Sim Try.prog j (R j)) : SimT Try.prog (g95T R) := simT_cons (hR 96 (by decide)) ( simT_cons (hR 102 (by decide)) ( simT_cons sim83 (simT_nil)))
noncomputable def g95C (p : List Nat) : Code := sub (match Try.f95.body with | some c => c | none => .skip) p
noncomputable def g95X (R : Nat → Fn) (c : Code) (K : Kon) : Env → St → Res := aexec Try.prog g95mu (g95T R) big 30 (areg Try.prog g95mu (g95T R) 30) c K
noncomputable def g95kr (R : Nat → Fn) : Kon := aresK Try.prog Try.f95.results.toList
theorem g95reg (R : Nat → Fn) {c : Code} {K : Kon} {G : Env → St → Res} {id : Nat} {ops : Array Oper} {l1 l2 : List Nat} (hc : c = .region id ops false) (hl : List.range ops.size = l1 ++ l2) (h : (fun env st => aops Try.prog g95mu (g95T R) 30 ops l2 env st (K .normal)) = G) : (g95X R) c K = fun env st => aops Try.prog g95mu (g95T R) 30 ops l1 env st G := reg_cut hc hl h
theorem g95seq (R : Nat → Fn) {c x y : Code} {K : Kon} {G : Env → St → Res} (hc : c = .seq x y) (hy : (g95X R) y K = G) : (g95X R) c K = (g95X R) x (kSeq G K) := seq_cut hc hy
theorem g95blk (R : Nat → Fn) {c x : Code} {K : Kon} {i : Nat} (hc : c = .block i x) : (g95X R) c K = (g95X R) x (kBlk i K) := blk_cut hc
theorem g95loop (R : Nat → Fn) {c x : Code} {K : Kon} (hc : c = .loop x) : (g95X R) c K = aloop ((g95X R) x) K big := loop_cut hc
theorem g95cond (R : Nat → Fn) {c x y : Code} {K : Kon} {v : Operand} {F G : Env → St → Res} (hc : c = .cond v x y) (hx : (g95X R) x K = F) (hy : (g95X R) y K = G) : (g95X R) c K = condF v F G := cond_cut hc hx hy
noncomputable def g95k0 (R : Nat → Fn) : Kon := kSeq ((g95X R) (g95C [1, 1, 1]) ((g95kr R))) ((g95kr R))
noncomputable def g95k1 (R : Nat → Fn) : Kon := kBlk 0 ((g95k0 R))
noncomputable def g95b1100 (R : Nat → Fn) : Nat → V → V → V → V → V → V → St → Res
| 0, _, _, _, _, _, _, _ => none
| n + 1, x0, x1, x2, x3, x8, x9, st =>
 A.ret (s83 [x0.er1, x2.er1] st) fun a1 z2 =>
 A.cond a1
 (A.call (g95T R) x3 [] z2 fun a3 z4 =>
 A.bslice 3 (.agg [(.int .i64 0), (.str []), (.lst [] 1)]) 1 [(0, a3)] fun a5 =>
 A.app 3 x9 (elemsOf 5 3 a5 z4) z4 fun a6 z7 =>
 ((g95b1100 R) n) x0 x1 x2 x3 x8 a6 z7)
 (A.lenL x9 fun a8 =>
 A.eql 2 false a8 (.int .i64 1) fun a9 =>
 A.cond a9
 (A.iaddr 3 x9 (.int .i64 0) fun a10 =>
 A.load true 3 a10 z2 fun a11 z12 =>
 A.store 3 x8 a11 z12 fun z13 =>
 A.res (rcell (A.load true 3 x8 z13 kid) (some [])) z13)
 (A.build [(.int .i64 0), (.str []), (.lst [] 1)] [(0, 1, x1), (2, 1, x9)] fun a14 =>
 A.store 3 x8 a14 z2 fun z15 =>
 A.res (rcell (A.load true 3 x8 z15 kid) (some [])) z15))
theorem g95n1100 : g95C [1, 1, 0, 0] = .loop (g95C [1, 1, 0, 0, 0]) := by kernel_rfl
noncomputable def g95k2 (R : Nat → Fn) (L1100 : V → V → V → V → V → V → St → Res) : Kon := kSeq (fun env st => L1100 (env 0) (env 1) (env 2) (env 3) (env 8) (env 9) st) ((g95k1 R))
theorem g95e1100 (R : Nat → Fn) : (g95X R) (g95C [1, 1, 0, 0]) ((g95k1 R)) = fun env st => (g95b1100 R) big (env 0) (env 1) (env 2) (env 3) (env 8) (env 9) st := by
  have key : ∀ n, aloop ((g95X R) (g95C [1, 1, 0, 0, 0])) ((g95k1 R)) n = fun env st => (g95b1100 R) n (env 0) (env 1) (env 2) (env 3) (env 8) (env 9) st := by
    intro n
    induction n with
    | zero => rfl
    | succ n ih =>
      have h : aloop ((g95X R) (g95C [1, 1, 0, 0, 0])) ((g95k1 R)) (n + 1) = (g95X R) (g95C [1, 1, 0, 0, 0]) (kSeq (aloop ((g95X R) (g95C [1, 1, 0, 0, 0])) ((g95k1 R)) n) ((g95k1 R))) := rfl
      rw [h, ih]
      refine Eq.trans (Eq.refl _) ?_
      funext env st
      kernel_rfl
  exact ((g95loop R) g95n1100).trans (key big)
noncomputable def f95 (R : Nat → Fn) (x0 : V) (x1 : V) (x2 : V) (x3 : V) (st : St) : Res :=
 A.box (.agg [(.int .i64 0), (.str []), (.lst [] 1)]) st fun a1 z2 =>
 A.call (g95T R) x3 [] z2 fun a3 z4 =>
 A.bslice 3 (.agg [(.int .i64 0), (.str []), (.lst [] 1)]) 1 [(0, a3)] fun a5 =>
 (g95b1100 R) big x0 x1 x2 x3 a1 a5 z4
theorem g95nr : g95C [] = .seq (g95C [0]) (g95C [1]) := by kernel_rfl
theorem g95n1 : g95C [1] = .seq (g95C [1, 0]) (g95C [1, 1]) := by kernel_rfl
theorem g95n11 : g95C [1, 1] = .seq (g95C [1, 1, 0]) (g95C [1, 1, 1]) := by kernel_rfl
theorem g95n110 : g95C [1, 1, 0] = .block 0 (g95C [1, 1, 0, 0]) := by kernel_rfl
theorem g95er (R : Nat → Fn) (env : Env) (st : St) : (g95X R) (g95C []) (g95kr R) env st = (f95 R) (env 0) (env 1) (env 2) (env 3) st := by
  rw [((g95seq R) g95nr ((g95seq R) g95n1 (((g95seq R) g95n11 rfl).trans (((g95blk R) g95n110).trans ((g95e1100 R))))))]
  kernel_rfl
theorem s95R_eq (R : Nat → Fn) (x0 : V) (x1 : V) (x2 : V) (x3 : V) (st : St) : afn Try.prog g95mu (g95T R) big (areg Try.prog g95mu (g95T R)) 95 [x0, x1, x2, x3] st = (f95 R) x0 x1 x2 x3 st := by
  have h : afn Try.prog g95mu (g95T R) big (areg Try.prog g95mu (g95T R)) 95 [x0, x1, x2, x3] st = (g95X R) (g95C []) (g95kr R) (fun t => [x0, x1, x2, x3].getD t (.tup [])) st := by kernel_rfl
  exact h.trans ((g95er R) _ st)
/-! (*sinew/query.parser).seq -/
def g96mu : Nat → Bool := fun _ => false
noncomputable def g96T (R : Nat → Fn) : Tbl := tget [(95, R 95)]
theorem g96t (R : Nat → Fn) (hR : ∀ j, j ∈ [82, 95, 96, 102, 104] → Sim Try.prog j (R j)) : SimT Try.prog (g96T R) := simT_cons (hR 95 (by decide)) (simT_nil)
noncomputable def f96 (R : Nat → Fn) (x0 : V) (st : St) : Res :=
 A.box (.agg [(.int .i64 0), (.str []), (.lst [] 1)]) st fun a1 z2 =>
 A.ret (R 95 [x0.er1, ((.int .i64 2) : V).er1, ((.str [47]) : V).er1, ((.fn 102 [x0] []) : V).er1] z2) fun a3 z4 =>
 A.store 3 a1 a3 z4 fun z5 =>
 A.res (rcell (A.load true 3 a1 z5 kid) (some [])) z5
theorem s96R_eq (R : Nat → Fn) (x0 : V) (st : St) : afn Try.prog g96mu (g96T R) big (areg Try.prog g96mu (g96T R)) 96 [x0] st = (f96 R) x0 st := by
  kernel_rfl
/-! (*sinew/query.parser).post -/
def g102mu : Nat → Bool := fun _ => false
noncomputable def g102T (R : Nat → Fn) : Tbl := tget [(104, R 104), (83, s83)]
theorem g102t (R : Nat → Fn) (hR : ∀ j, j ∈ [82, 95, 96, 102, 104] → Sim Try.prog j (R j)) : SimT Try.prog (g102T R) := simT_cons (hR 104 (by decide)) ( simT_cons sim83 (simT_nil))
noncomputable def g102C (p : List Nat) : Code := sub (match Try.f102.body with | some c => c | none => .skip) p
noncomputable def g102X (R : Nat → Fn) (c : Code) (K : Kon) : Env → St → Res := aexec Try.prog g102mu (g102T R) big 21 (areg Try.prog g102mu (g102T R) 21) c K
noncomputable def g102kr (R : Nat → Fn) : Kon := aresK Try.prog Try.f102.results.toList
theorem g102reg (R : Nat → Fn) {c : Code} {K : Kon} {G : Env → St → Res} {id : Nat} {ops : Array Oper} {l1 l2 : List Nat} (hc : c = .region id ops false) (hl : List.range ops.size = l1 ++ l2) (h : (fun env st => aops Try.prog g102mu (g102T R) 21 ops l2 env st (K .normal)) = G) : (g102X R) c K = fun env st => aops Try.prog g102mu (g102T R) 21 ops l1 env st G := reg_cut hc hl h
theorem g102seq (R : Nat → Fn) {c x y : Code} {K : Kon} {G : Env → St → Res} (hc : c = .seq x y) (hy : (g102X R) y K = G) : (g102X R) c K = (g102X R) x (kSeq G K) := seq_cut hc hy
theorem g102blk (R : Nat → Fn) {c x : Code} {K : Kon} {i : Nat} (hc : c = .block i x) : (g102X R) c K = (g102X R) x (kBlk i K) := blk_cut hc
theorem g102loop (R : Nat → Fn) {c x : Code} {K : Kon} (hc : c = .loop x) : (g102X R) c K = aloop ((g102X R) x) K big := loop_cut hc
theorem g102cond (R : Nat → Fn) {c x y : Code} {K : Kon} {v : Operand} {F G : Env → St → Res} (hc : c = .cond v x y) (hx : (g102X R) x K = F) (hy : (g102X R) y K = G) : (g102X R) c K = condF v F G := cond_cut hc hx hy
noncomputable def g102k0 (R : Nat → Fn) : Kon := kBlk 0 ((g102kr R))
noncomputable def g102k1 (R : Nat → Fn) (L110 : V → V → V → St → Res) : Kon := kSeq (fun env st => L110 (env 0) (env 2) (env 3) st) ((g102k0 R))
noncomputable def g102k2 (R : Nat → Fn) (L110 : V → V → V → St → Res) : Kon := kBlk 1 ((g102k1 R) L110)
noncomputable def g102b1100011 (R : Nat → Fn) (L110 : V → V → V → St → Res) (x0 : V) (x2 : V) (x3 : V) (x4 : V) (st : St) : Res :=
 A.load true 3 x3 st fun a1 z2 =>
 A.bslice 3 (.agg [(.int .i64 0), (.str []), (.lst [] 1)]) 1 [(0, a1)] fun a3 =>
 A.build [(.int .i64 0), (.str []), (.lst [] 1)] [(0, 1, x4), (2, 1, a3)] fun a4 =>
 A.store 3 x3 a4 z2 fun z5 =>
 L110 x0 x2 x3 z5
theorem g102e1100011 (R : Nat → Fn) (L110 : V → V → V → St → Res) : (g102X R) (g102C [1, 1, 0, 0, 0, 1, 1]) ((g102k2 R) L110) = fun env st => (g102b1100011 R) L110 (env 0) (env 2) (env 3) (env 4) st := by
  refine Eq.trans (Eq.refl ((g102X R) (g102C [1, 1, 0, 0, 0, 1, 1]) ((g102k2 R) L110))) ?_
  funext env st
  kernel_rfl
noncomputable def g102b110 (R : Nat → Fn) : Nat → V → V → V → St → Res
| 0, _, _, _, _ => none
| n + 1, x0, x2, x3, st =>
 A.ret (s83 [x0.er1, ((.str [42]) : V).er1] st) fun a1 z2 =>
 A.cond a1
 ((g102b1100011 R) ((g102b110 R) n) x0 x2 x3 (.int .i64 4) z2)
 (A.ret (s83 [x0.er1, ((.str [43]) : V).er1] z2) fun a3 z4 =>
 A.cond a3
 ((g102b1100011 R) ((g102b110 R) n) x0 x2 x3 (.int .i64 5) z4)
 (A.ret (s83 [x0.er1, ((.str [63]) : V).er1] z4) fun a5 z6 =>
 A.cond a5
 ((g102b1100011 R) ((g102b110 R) n) x0 x2 x3 (.int .i64 6) z6)
 (A.load true 3 x3 z6 fun a7 z8 =>
 A.store 3 x2 a7 z8 fun z9 =>
 A.res (rcell (A.load true 3 x2 z9 kid) (some [])) z9)))
theorem g102n110 : g102C [1, 1, 0] = .loop (g102C [1, 1, 0, 0]) := by kernel_rfl
theorem g102n1100 : g102C [1, 1, 0, 0] = .block 1 (g102C [1, 1, 0, 0, 0]) := by kernel_rfl
theorem g102n11000 : g102C [1, 1, 0, 0, 0] = .seq (g102C [1, 1, 0, 0, 0, 0]) (g102C [1, 1, 0, 0, 0, 1]) := by kernel_rfl
theorem g102n110001 : g102C [1, 1, 0, 0, 0, 1] = .seq (g102C [1, 1, 0, 0, 0, 1, 0]) (g102C [1, 1, 0, 0, 0, 1, 1]) := by kernel_rfl
theorem g102e110 (R : Nat → Fn) : (g102X R) (g102C [1, 1, 0]) ((g102k0 R)) = fun env st => (g102b110 R) big (env 0) (env 2) (env 3) st := by
  have key : ∀ n, aloop ((g102X R) (g102C [1, 1, 0, 0])) ((g102k0 R)) n = fun env st => (g102b110 R) n (env 0) (env 2) (env 3) st := by
    intro n
    induction n with
    | zero => rfl
    | succ n ih =>
      have h : aloop ((g102X R) (g102C [1, 1, 0, 0])) ((g102k0 R)) (n + 1) = (g102X R) (g102C [1, 1, 0, 0]) (kSeq (aloop ((g102X R) (g102C [1, 1, 0, 0])) ((g102k0 R)) n) ((g102k0 R))) := rfl
      rw [h, ih]
      refine Eq.trans (((g102blk R) g102n1100).trans ((g102seq R) g102n11000 ((g102seq R) g102n110001 ((g102e1100011 R) ((g102b110 R) n))))) ?_
      funext env st
      kernel_rfl
  exact ((g102loop R) g102n110).trans (key big)
noncomputable def f102 (R : Nat → Fn) (x0 : V) (st : St) : Res :=
 A.box (.agg [(.int .i64 0), (.str []), (.lst [] 1)]) st fun a1 z2 =>
 A.ret (R 104 [x0.er1] z2) fun a3 z4 =>
 A.box (.agg [(.int .i64 0), (.str []), (.lst [] 1)]) z4 fun a5 z6 =>
 A.store 3 a5 a3 z6 fun z7 =>
 (g102b110 R) big x0 a1 a5 z7
theorem g102nr : g102C [] = .seq (g102C [0]) (g102C [1]) := by kernel_rfl
theorem g102n1 : g102C [1] = .seq (g102C [1, 0]) (g102C [1, 1]) := by kernel_rfl
theorem g102n11 : g102C [1, 1] = .block 0 (g102C [1, 1, 0]) := by kernel_rfl
theorem g102er (R : Nat → Fn) (env : Env) (st : St) : (g102X R) (g102C []) (g102kr R) env st = (f102 R) (env 0) st := by
  rw [((g102seq R) g102nr ((g102seq R) g102n1 (((g102blk R) g102n11).trans ((g102e110 R)))))]
  kernel_rfl
theorem s102R_eq (R : Nat → Fn) (x0 : V) (st : St) : afn Try.prog g102mu (g102T R) big (areg Try.prog g102mu (g102T R)) 102 [x0] st = (f102 R) x0 st := by
  have h : afn Try.prog g102mu (g102T R) big (areg Try.prog g102mu (g102T R)) 102 [x0] st = (g102X R) (g102C []) (g102kr R) (fun t => [x0].getD t (.tup [])) st := by kernel_rfl
  exact h.trans ((g102er R) _ st)
/-! (*sinew/query.parser).prim -/
def g104mu : Nat → Bool := fun _ => false
noncomputable def g104T (R : Nat → Fn) : Tbl := tget [(82, R 82), (80, s80), (83, s83)]
theorem g104t (R : Nat → Fn) (hR : ∀ j, j ∈ [82, 95, 96, 102, 104] → Sim Try.prog j (R j)) : SimT Try.prog (g104T R) := simT_cons (hR 82 (by decide)) ( simT_cons sim80 ( simT_cons sim83 (simT_nil)))
noncomputable def g104C (p : List Nat) : Code := sub (match Try.f104.body with | some c => c | none => .skip) p
noncomputable def g104X (R : Nat → Fn) (c : Code) (K : Kon) : Env → St → Res := aexec Try.prog g104mu (g104T R) big 16 (areg Try.prog g104mu (g104T R) 16) c K
noncomputable def g104kr (R : Nat → Fn) : Kon := aresK Try.prog Try.f104.results.toList
theorem g104reg (R : Nat → Fn) {c : Code} {K : Kon} {G : Env → St → Res} {id : Nat} {ops : Array Oper} {l1 l2 : List Nat} (hc : c = .region id ops false) (hl : List.range ops.size = l1 ++ l2) (h : (fun env st => aops Try.prog g104mu (g104T R) 16 ops l2 env st (K .normal)) = G) : (g104X R) c K = fun env st => aops Try.prog g104mu (g104T R) 16 ops l1 env st G := reg_cut hc hl h
theorem g104seq (R : Nat → Fn) {c x y : Code} {K : Kon} {G : Env → St → Res} (hc : c = .seq x y) (hy : (g104X R) y K = G) : (g104X R) c K = (g104X R) x (kSeq G K) := seq_cut hc hy
theorem g104blk (R : Nat → Fn) {c x : Code} {K : Kon} {i : Nat} (hc : c = .block i x) : (g104X R) c K = (g104X R) x (kBlk i K) := blk_cut hc
theorem g104loop (R : Nat → Fn) {c x : Code} {K : Kon} (hc : c = .loop x) : (g104X R) c K = aloop ((g104X R) x) K big := loop_cut hc
theorem g104cond (R : Nat → Fn) {c x y : Code} {K : Kon} {v : Operand} {F G : Env → St → Res} (hc : c = .cond v x y) (hx : (g104X R) x K = F) (hy : (g104X R) y K = G) : (g104X R) c K = condF v F G := cond_cut hc hx hy
noncomputable def g104b111 (R : Nat → Fn) (x0 : V) (x2 : V) (x3 : V) (st : St) : Res :=
 A.bslice 1 (.str []) 1 [(0, (.str [41]))] fun a1 =>
 A.ret (s80 [x0.er1, ((.int .i64 3) : V).er1, a1.er1] st) fun a2 z3 =>
 A.load true 3 x3 z3 fun a4 z5 =>
 A.store 3 x2 a4 z5 fun z6 =>
 A.res (rcell (A.load true 3 x2 z6 kid) (some [])) z6
theorem g104e111 (R : Nat → Fn) : (g104X R) (g104C [1, 1, 1]) ((g104kr R)) = fun env st => (g104b111 R) (env 0) (env 2) (env 3) st := by
  refine Eq.trans (Eq.refl ((g104X R) (g104C [1, 1, 1]) ((g104kr R)))) ?_
  funext env st
  kernel_rfl
noncomputable def f104 (R : Nat → Fn) (x0 : V) (st : St) : Res :=
 A.box (.agg [(.int .i64 0), (.str []), (.lst [] 1)]) st fun a1 z2 =>
 A.ret (s83 [x0.er1, ((.str [40]) : V).er1] z2) fun a3 z4 =>
 A.un .not a3 fun a5 =>
 A.cond a5
 (A.ret (s80 [x0.er1, ((.int .i64 1) : V).er1, ((.lst [] 1) : V).er1] z4) fun a6 z7 =>
 A.build [(.int .i64 0), (.str []), (.lst [] 1)] [(0, 1, (.int .i64 1)), (1, 1, a6)] fun a8 =>
 A.store 3 a1 a8 z7 fun z9 =>
 A.res (rcell (A.load true 3 a1 z9 kid) (some [])) z9)
 (A.ret (R 82 [x0.er1] z4) fun a10 z11 =>
 A.box (.agg [(.int .i64 0), (.str []), (.lst [] 1)]) z11 fun a12 z13 =>
 A.store 3 a12 a10 z13 fun z14 =>
 (g104b111 R) x0 a1 a12 z14)
theorem g104nr : g104C [] = .seq (g104C [0]) (g104C [1]) := by kernel_rfl
theorem g104n1 : g104C [1] = .seq (g104C [1, 0]) (g104C [1, 1]) := by kernel_rfl
theorem g104n11 : g104C [1, 1] = .seq (g104C [1, 1, 0]) (g104C [1, 1, 1]) := by kernel_rfl
theorem g104er (R : Nat → Fn) (env : Env) (st : St) : (g104X R) (g104C []) (g104kr R) env st = (f104 R) (env 0) st := by
  rw [((g104seq R) g104nr ((g104seq R) g104n1 ((g104seq R) g104n11 ((g104e111 R)))))]
  kernel_rfl
theorem s104R_eq (R : Nat → Fn) (x0 : V) (st : St) : afn Try.prog g104mu (g104T R) big (areg Try.prog g104mu (g104T R)) 104 [x0] st = (f104 R) x0 st := by
  have h : afn Try.prog g104mu (g104T R) big (areg Try.prog g104mu (g104T R)) 104 [x0] st = (g104X R) (g104C []) (g104kr R) (fun t => [x0].getD t (.tup [])) st := by kernel_rfl
  exact h.trans ((g104er R) _ st)
/-! (*sinew/query.parser).path -/
def g82mu : Nat → Bool := fun _ => false
noncomputable def g82T (R : Nat → Fn) : Tbl := tget [(95, R 95)]
theorem g82t (R : Nat → Fn) (hR : ∀ j, j ∈ [82, 95, 96, 102, 104] → Sim Try.prog j (R j)) : SimT Try.prog (g82T R) := simT_cons (hR 95 (by decide)) (simT_nil)
noncomputable def f82 (R : Nat → Fn) (x0 : V) (st : St) : Res :=
 A.box (.agg [(.int .i64 0), (.str []), (.lst [] 1)]) st fun a1 z2 =>
 A.ret (R 95 [x0.er1, ((.int .i64 3) : V).er1, ((.str [124]) : V).er1, ((.fn 96 [x0] []) : V).er1] z2) fun a3 z4 =>
 A.store 3 a1 a3 z4 fun z5 =>
 A.res (rcell (A.load true 3 a1 z5 kid) (some [])) z5
theorem s82R_eq (R : Nat → Fn) (x0 : V) (st : St) : afn Try.prog g82mu (g82T R) big (areg Try.prog g82mu (g82T R)) 82 [x0] st = (f82 R) x0 st := by
  kernel_rfl
noncomputable def G82 : Nat → Nat → Fn
| 0 => fun _ _ _ => none
| n + 1 => fun j => ((tget [(82, afn Try.prog g82mu (g82T (G82 n)) big (areg Try.prog g82mu (g82T (G82 n))) 82), (95, afn Try.prog g95mu (g95T (G82 n)) big (areg Try.prog g95mu (g95T (G82 n))) 95), (96, afn Try.prog g96mu (g96T (G82 n)) big (areg Try.prog g96mu (g96T (G82 n))) 96), (102, afn Try.prog g102mu (g102T (G82 n)) big (areg Try.prog g102mu (g102T (G82 n))) 102), (104, afn Try.prog g104mu (g104T (G82 n)) big (areg Try.prog g104mu (g104T (G82 n))) 104)]) j).getD (fun _ _ => none)
theorem G82_82 (n : Nat) : G82 (n + 1) 82 = afn Try.prog g82mu (g82T (G82 n)) big (areg Try.prog g82mu (g82T (G82 n))) 82 := by kernel_rfl
theorem G82_95 (n : Nat) : G82 (n + 1) 95 = afn Try.prog g95mu (g95T (G82 n)) big (areg Try.prog g95mu (g95T (G82 n))) 95 := by kernel_rfl
theorem G82_96 (n : Nat) : G82 (n + 1) 96 = afn Try.prog g96mu (g96T (G82 n)) big (areg Try.prog g96mu (g96T (G82 n))) 96 := by kernel_rfl
theorem G82_102 (n : Nat) : G82 (n + 1) 102 = afn Try.prog g102mu (g102T (G82 n)) big (areg Try.prog g102mu (g102T (G82 n))) 102 := by kernel_rfl
theorem G82_104 (n : Nat) : G82 (n + 1) 104 = afn Try.prog g104mu (g104T (G82 n)) big (areg Try.prog g104mu (g104T (G82 n))) 104 := by kernel_rfl
theorem G82_ok : ∀ j, j ∈ [82, 95, 96, 102, 104] → okFn Try.prog j = true := by
  intro j hj
  simp only [List.mem_cons, List.not_mem_nil, or_false] at hj
  rcases hj with rfl | rfl | rfl | rfl | rfl <;> kernel_rfl
theorem simG82 : ∀ n j, j ∈ [82, 95, 96, 102, 104] → Sim Try.prog j (G82 n j)
| 0, j, hj => ⟨G82_ok j hj, fun _ _ _ _ _ _ _ h => by cases h⟩
| n + 1, j, hj => by
  have ih := simG82 n
  simp only [List.mem_cons, List.not_mem_nil, or_false] at hj
  rcases hj with rfl | rfl | rfl | rfl | rfl
  · rw [G82_82]; exact afn_sim (g82t (G82 n) ih) (fun m => areg_sound (g82t (G82 n) ih) hmix m) 82 (by kernel_rfl)
  · rw [G82_95]; exact afn_sim (g95t (G82 n) ih) (fun m => areg_sound (g95t (G82 n) ih) hmix m) 95 (by kernel_rfl)
  · rw [G82_96]; exact afn_sim (g96t (G82 n) ih) (fun m => areg_sound (g96t (G82 n) ih) hmix m) 96 (by kernel_rfl)
  · rw [G82_102]; exact afn_sim (g102t (G82 n) ih) (fun m => areg_sound (g102t (G82 n) ih) hmix m) 102 (by kernel_rfl)
  · rw [G82_104]; exact afn_sim (g104t (G82 n) ih) (fun m => areg_sound (g104t (G82 n) ih) hmix m) 104 (by kernel_rfl)
noncomputable def s82 : Fn := sealF (G82 big 82)
theorem sim82 : Sim Try.prog 82 s82 := (simG82 big 82 (by decide)).sealed
theorem s82_n : s82 = G82 big 82 := sealF_eq _
theorem G82_82_eq (n : Nat) (x0 : V) (st : St) : G82 (n + 1) 82 [x0] st = f82 (G82 n) x0 st := by
  rw [G82_82]; exact s82R_eq (G82 n) x0 st
noncomputable def s95 : Fn := sealF (G82 big 95)
theorem sim95 : Sim Try.prog 95 s95 := (simG82 big 95 (by decide)).sealed
theorem s95_n : s95 = G82 big 95 := sealF_eq _
theorem G82_95_eq (n : Nat) (x0 : V) (x1 : V) (x2 : V) (x3 : V) (st : St) : G82 (n + 1) 95 [x0, x1, x2, x3] st = f95 (G82 n) x0 x1 x2 x3 st := by
  rw [G82_95]; exact s95R_eq (G82 n) x0 x1 x2 x3 st
noncomputable def s96 : Fn := sealF (G82 big 96)
theorem sim96 : Sim Try.prog 96 s96 := (simG82 big 96 (by decide)).sealed
theorem s96_n : s96 = G82 big 96 := sealF_eq _
theorem G82_96_eq (n : Nat) (x0 : V) (st : St) : G82 (n + 1) 96 [x0] st = f96 (G82 n) x0 st := by
  rw [G82_96]; exact s96R_eq (G82 n) x0 st
noncomputable def s102 : Fn := sealF (G82 big 102)
theorem sim102 : Sim Try.prog 102 s102 := (simG82 big 102 (by decide)).sealed
theorem s102_n : s102 = G82 big 102 := sealF_eq _
theorem G82_102_eq (n : Nat) (x0 : V) (st : St) : G82 (n + 1) 102 [x0] st = f102 (G82 n) x0 st := by
  rw [G82_102]; exact s102R_eq (G82 n) x0 st
noncomputable def s104 : Fn := sealF (G82 big 104)
theorem sim104 : Sim Try.prog 104 s104 := (simG82 big 104 (by decide)).sealed
theorem s104_n : s104 = G82 big 104 := sealF_eq _
theorem G82_104_eq (n : Nat) (x0 : V) (st : St) : G82 (n + 1) 104 [x0] st = f104 (G82 n) x0 st := by
  rw [G82_104]; exact s104R_eq (G82 n) x0 st
/-! (*sinew/query.parser).query -/
def g51mu : Nat → Bool := fun _ => false
noncomputable def g51T : Tbl := tget [(50, s50), (80, s80), (81, s81), (82, s82), (83, s83)]
theorem g51t : SimT Try.prog g51T := simT_cons sim50 ( simT_cons sim80 ( simT_cons sim81 ( simT_cons sim82 ( simT_cons sim83 (simT_nil)))))
noncomputable def s51 : Fn := sealF (afn Try.prog g51mu g51T big (areg Try.prog g51mu g51T) 51)
theorem sim51 : Sim Try.prog 51 s51 := (afn_sim g51t (fun m => areg_sound g51t hmix m) 51 (by kernel_rfl)).sealed
noncomputable def g51C (p : List Nat) : Code := sub (match Try.f51.body with | some c => c | none => .skip) p
noncomputable def g51X (c : Code) (K : Kon) : Env → St → Res := aexec Try.prog g51mu g51T big 60 (areg Try.prog g51mu g51T 60) c K
noncomputable def g51kr : Kon := aresK Try.prog Try.f51.results.toList
theorem g51reg {c : Code} {K : Kon} {G : Env → St → Res} {id : Nat} {ops : Array Oper} {l1 l2 : List Nat} (hc : c = .region id ops false) (hl : List.range ops.size = l1 ++ l2) (h : (fun env st => aops Try.prog g51mu g51T 60 ops l2 env st (K .normal)) = G) : g51X c K = fun env st => aops Try.prog g51mu g51T 60 ops l1 env st G := reg_cut hc hl h
theorem g51seq {c x y : Code} {K : Kon} {G : Env → St → Res} (hc : c = .seq x y) (hy : g51X y K = G) : g51X c K = g51X x (kSeq G K) := seq_cut hc hy
theorem g51blk {c x : Code} {K : Kon} {i : Nat} (hc : c = .block i x) : g51X c K = g51X x (kBlk i K) := blk_cut hc
theorem g51loop {c x : Code} {K : Kon} (hc : c = .loop x) : g51X c K = aloop (g51X x) K big := loop_cut hc
theorem g51cond {c x y : Code} {K : Kon} {v : Operand} {F G : Env → St → Res} (hc : c = .cond v x y) (hx : g51X x K = F) (hy : g51X y K = G) : g51X c K = condF v F G := cond_cut hc hx hy
noncomputable def g51k0 : Kon := kSeq (g51X (g51C [1, 1, 1, 1, 1, 1, 1]) (g51kr)) (g51kr)
noncomputable def g51k1 : Kon := kBlk 2 (g51k0)
noncomputable def g51k2 (L111111010 : V → V → V → St → Res) : Kon := kSeq (fun env st => L111111010 (env 0) (env 2) (env 3) st) (g51k1)
noncomputable def g51k3 (L111111010 : V → V → V → St → Res) : Kon := kBlk 3 (g51k2 L111111010)
noncomputable def g51b111111010010111 (L111111010 : V → V → V → St → Res) (x0 : V) (x2 : V) (x4 : V) (st : St) : Res :=
 A.faddr 1 x2 fun a1 =>
 A.load false 1 a1 st fun a2 z3 =>
 A.load true 7 x4 z3 fun a4 z5 =>
 A.bslice 7 (.agg [(.bool false), (.str []), (.int .i64 0), (.str []), (.lst [] 1), (.bool false), (.str [])]) 1 [(0, a4)] fun a6 =>
 A.app 7 a2 (elemsOf 5 7 a6 z5) z5 fun a7 z8 =>
 A.faddr 1 x2 fun a9 =>
 A.store 1 a9 a7 z8 fun z10 =>
 A.ret (s83 [x0.er1, ((.str [46]) : V).er1] z10) fun a11 z12 =>
 A.guard a11 true
 (A.ret (s50 [x0.er1] z12) fun a13 z14 =>
 A.field false 1 1 a13 fun a15 =>
 A.eql 3 true a15 (.str [125]) fun a16 =>
 L111111010 x0 x2 a16 z14)
 (L111111010 x0 x2 (.bool false) z12)
theorem g51e111111010010111 (L111111010 : V → V → V → St → Res) : g51X (g51C [1, 1, 1, 1, 1, 1, 0, 1, 0, 0, 1, 0, 1, 1, 1]) (g51k3 L111111010) = fun env st => g51b111111010010111 L111111010 (env 0) (env 2) (env 4) st := by
  refine Eq.trans (Eq.refl (g51X (g51C [1, 1, 1, 1, 1, 1, 0, 1, 0, 0, 1, 0, 1, 1, 1]) (g51k3 L111111010))) ?_
  funext env st
  kernel_rfl
noncomputable def g51b111111010 : Nat → V → V → V → St → Res
| 0, _, _, _, _ => none
| n + 1, x0, x2, x3, st =>
 A.cond x3
 (A.ret (s81 [x0.er1] st) fun a1 z2 =>
 A.build [(.bool false), (.str []), (.int .i64 0), (.str []), (.lst [] 1), (.bool false), (.str [])] [(0, 2, a1)] fun a3 =>
 A.box (.agg [(.bool false), (.str []), (.int .i64 0), (.str []), (.lst [] 1), (.bool false), (.str [])]) z2 fun a4 z5 =>
 A.store 7 a4 a3 z5 fun z6 =>
 A.ret (s82 [x0.er1] z6) fun a7 z8 =>
 A.faddr 2 a4 fun a9 =>
 A.store 3 a9 a7 z8 fun z10 =>
 A.ret (s81 [x0.er1] z10) fun a11 z12 =>
 A.faddr 5 a4 fun a13 =>
 A.store 2 a13 a11 z12 fun z14 =>
 g51b111111010010111 (g51b111111010 n) x0 x2 a4 z14)
 (A.bslice 1 (.str []) 1 [(0, (.str [125]))] fun a15 =>
 A.ret (s80 [x0.er1, ((.int .i64 3) : V).er1, a15.er1] st) fun a16 z17 =>
 A.load true 2 x2 z17 fun a18 z19 =>
 A.store 2 x2 a18 z19 fun z20 =>
 A.res (rcell (A.load true 2 x2 z20 kid) (some [])) z20)
theorem g51n111111010 : g51C [1, 1, 1, 1, 1, 1, 0, 1, 0] = .loop (g51C [1, 1, 1, 1, 1, 1, 0, 1, 0, 0]) := by kernel_rfl
theorem g51n1111110100 : g51C [1, 1, 1, 1, 1, 1, 0, 1, 0, 0] = .seq (g51C [1, 1, 1, 1, 1, 1, 0, 1, 0, 0, 0]) (g51C [1, 1, 1, 1, 1, 1, 0, 1, 0, 0, 1]) := by kernel_rfl
theorem g51n11111101001 : g51C [1, 1, 1, 1, 1, 1, 0, 1, 0, 0, 1] = .block 3 (g51C [1, 1, 1, 1, 1, 1, 0, 1, 0, 0, 1, 0]) := by kernel_rfl
theorem g51n111111010010 : g51C [1, 1, 1, 1, 1, 1, 0, 1, 0, 0, 1, 0] = .seq (g51C [1, 1, 1, 1, 1, 1, 0, 1, 0, 0, 1, 0, 0]) (g51C [1, 1, 1, 1, 1, 1, 0, 1, 0, 0, 1, 0, 1]) := by kernel_rfl
theorem g51n1111110100101 : g51C [1, 1, 1, 1, 1, 1, 0, 1, 0, 0, 1, 0, 1] = .seq (g51C [1, 1, 1, 1, 1, 1, 0, 1, 0, 0, 1, 0, 1, 0]) (g51C [1, 1, 1, 1, 1, 1, 0, 1, 0, 0, 1, 0, 1, 1]) := by kernel_rfl
theorem g51n11111101001011 : g51C [1, 1, 1, 1, 1, 1, 0, 1, 0, 0, 1, 0, 1, 1] = .seq (g51C [1, 1, 1, 1, 1, 1, 0, 1, 0, 0, 1, 0, 1, 1, 0]) (g51C [1, 1, 1, 1, 1, 1, 0, 1, 0, 0, 1, 0, 1, 1, 1]) := by kernel_rfl
theorem g51e111111010 : g51X (g51C [1, 1, 1, 1, 1, 1, 0, 1, 0]) (g51k1) = fun env st => g51b111111010 big (env 0) (env 2) (env 3) st := by
  have key : ∀ n, aloop (g51X (g51C [1, 1, 1, 1, 1, 1, 0, 1, 0, 0])) (g51k1) n = fun env st => g51b111111010 n (env 0) (env 2) (env 3) st := by
    intro n
    induction n with
    | zero => rfl
    | succ n ih =>
      have h : aloop (g51X (g51C [1, 1, 1, 1, 1, 1, 0, 1, 0, 0])) (g51k1) (n + 1) = g51X (g51C [1, 1, 1, 1, 1, 1, 0, 1, 0, 0]) (kSeq (aloop (g51X (g51C [1, 1, 1, 1, 1, 1, 0, 1, 0, 0])) (g51k1) n) (g51k1)) := rfl
      rw [h, ih]
      refine Eq.trans (g51seq g51n1111110100 ((g51blk g51n11111101001).trans (g51seq g51n111111010010 (g51seq g51n1111110100101 (g51seq g51n11111101001011 (g51e111111010010111 (g51b111111010 n))))))) ?_
      funext env st
      kernel_rfl
  exact (g51loop g51n111111010).trans (key big)
noncomputable def g51b1111 (x0 : V) (x2 : V) (st : St) : Res :=
 A.bslice 1 (.str []) 1 [(0, (.str [119, 104, 101, 114, 101]))] fun a1 =>
 A.ret (s80 [x0.er1, ((.int .i64 1) : V).er1, a1.er1] st) fun a2 z3 =>
 A.bslice 1 (.str []) 1 [(0, (.str [123]))] fun a4 =>
 A.ret (s80 [x0.er1, ((.int .i64 3) : V).er1, a4.er1] z3) fun a5 z6 =>
 g51b111111010 big x0 x2 (.bool true) z6
theorem g51n1111 : g51C [1, 1, 1, 1] = .seq (g51C [1, 1, 1, 1, 0]) (g51C [1, 1, 1, 1, 1]) := by kernel_rfl
theorem g51n11111 : g51C [1, 1, 1, 1, 1] = .seq (g51C [1, 1, 1, 1, 1, 0]) (g51C [1, 1, 1, 1, 1, 1]) := by kernel_rfl
theorem g51n111111 : g51C [1, 1, 1, 1, 1, 1] = .seq (g51C [1, 1, 1, 1, 1, 1, 0]) (g51C [1, 1, 1, 1, 1, 1, 1]) := by kernel_rfl
theorem g51n1111110 : g51C [1, 1, 1, 1, 1, 1, 0] = .seq (g51C [1, 1, 1, 1, 1, 1, 0, 0]) (g51C [1, 1, 1, 1, 1, 1, 0, 1]) := by kernel_rfl
theorem g51n11111101 : g51C [1, 1, 1, 1, 1, 1, 0, 1] = .block 2 (g51C [1, 1, 1, 1, 1, 1, 0, 1, 0]) := by kernel_rfl
theorem g51e1111 : g51X (g51C [1, 1, 1, 1]) (g51kr) = fun env st => g51b1111 (env 0) (env 2) st := by
  refine Eq.trans (g51seq g51n1111 (g51seq g51n11111 ((g51seq g51n111111 rfl).trans (g51seq g51n1111110 ((g51blk g51n11111101).trans (g51e111111010)))))) ?_
  funext env st
  kernel_rfl
noncomputable def g51k4 : Kon := kSeq (fun env st => g51b1111 (env 0) (env 2) st) (g51kr)
noncomputable def g51k5 : Kon := kBlk 0 (g51k4)
noncomputable def g51b11100 : Nat → V → V → St → Res
| 0, _, _, _ => none
| n + 1, x0, x2, st =>
 A.ret (s50 [x0.er1] st) fun a1 z2 =>
 A.field false 1 0 a1 fun a3 =>
 A.eql 2 false a3 (.int .i64 2) fun a4 =>
 A.cond a4
 (A.faddr 0 x2 fun a5 =>
 A.load false 1 a5 z2 fun a6 _ =>
 A.ret (A.ret (s80 [x0.er1, ((.int .i64 2) : V).er1, ((.lst [] 1) : V).er1] z2) kid) fun a7 z8 =>
 A.chk (ldv false 1 a5 z8) a6
 (A.bslice 1 (.str []) 1 [(0, a7)] fun a9 =>
 A.ret (A.app 1 a6 (elemsOf 5 1 a9 z8) z8 kid) fun a10 z11 =>
 A.faddr 0 x2 fun a12 =>
 A.ret (A.store 1 a12 a10 z11 fun s => kid (.tup []) s) fun a13 z14 =>
 (g51b11100 n) x0 x2 z14))
 (g51b1111 x0 x2 z2)
theorem g51n11100 : g51C [1, 1, 1, 0, 0] = .loop (g51C [1, 1, 1, 0, 0, 0]) := by kernel_rfl
noncomputable def g51k6 (L11100 : V → V → St → Res) : Kon := kSeq (fun env st => L11100 (env 0) (env 2) st) (g51k5)
theorem g51e11100 : g51X (g51C [1, 1, 1, 0, 0]) (g51k5) = fun env st => g51b11100 big (env 0) (env 2) st := by
  have key : ∀ n, aloop (g51X (g51C [1, 1, 1, 0, 0, 0])) (g51k5) n = fun env st => g51b11100 n (env 0) (env 2) st := by
    intro n
    induction n with
    | zero => rfl
    | succ n ih =>
      have h : aloop (g51X (g51C [1, 1, 1, 0, 0, 0])) (g51k5) (n + 1) = g51X (g51C [1, 1, 1, 0, 0, 0]) (kSeq (aloop (g51X (g51C [1, 1, 1, 0, 0, 0])) (g51k5) n) (g51k5)) := rfl
      rw [h, ih]
      refine Eq.trans (Eq.refl _) ?_
      funext env st
      kernel_rfl
  exact (g51loop g51n11100).trans (key big)
noncomputable def g51b111 (x0 : V) (x2 : V) (st : St) : Res :=
 g51b11100 big x0 x2 st
theorem g51n111 : g51C [1, 1, 1] = .seq (g51C [1, 1, 1, 0]) (g51C [1, 1, 1, 1]) := by kernel_rfl
theorem g51n1110 : g51C [1, 1, 1, 0] = .block 0 (g51C [1, 1, 1, 0, 0]) := by kernel_rfl
theorem g51e111 : g51X (g51C [1, 1, 1]) (g51kr) = fun env st => g51b111 (env 0) (env 2) st := by
  refine Eq.trans ((g51seq g51n111 (g51e1111)).trans ((g51blk g51n1110).trans (g51e11100))) ?_
  funext env st
  kernel_rfl
noncomputable def f51 (x0 : V) (st : St) : Res :=
 A.box (.agg [(.lst [] 1), (.lst [] 1)]) st fun a1 z2 =>
 A.bslice 1 (.str []) 1 [(0, (.str [115, 101, 108, 101, 99, 116]))] fun a3 =>
 A.ret (s80 [x0.er1, ((.int .i64 1) : V).er1, a3.er1] z2) fun a4 z5 =>
 A.faddr 0 a1 fun a6 =>
 A.load false 1 a6 z5 fun a7 _ =>
 A.ret (A.ret (s80 [x0.er1, ((.int .i64 2) : V).er1, ((.lst [] 1) : V).er1] z5) kid) fun a8 z9 =>
 A.chk (ldv false 1 a6 z9) a7
 (A.bslice 1 (.str []) 1 [(0, a8)] fun a10 =>
 A.ret (A.app 1 a7 (elemsOf 5 1 a10 z9) z9 kid) fun a11 z12 =>
 A.faddr 0 a1 fun a13 =>
 A.ret (A.store 1 a13 a11 z12 fun s => kid (.tup []) s) fun a14 z15 =>
 g51b111 x0 a1 z15)
theorem g51nr : g51C [] = .seq (g51C [0]) (g51C [1]) := by kernel_rfl
theorem g51n1 : g51C [1] = .seq (g51C [1, 0]) (g51C [1, 1]) := by kernel_rfl
theorem g51n11 : g51C [1, 1] = .seq (g51C [1, 1, 0]) (g51C [1, 1, 1]) := by kernel_rfl
theorem g51er (env : Env) (st : St) : g51X (g51C []) g51kr env st = f51 (env 0) st := by
  rw [(g51seq g51nr (g51seq g51n1 (g51seq g51n11 (g51e111))))]
  kernel_rfl
theorem s51_eq (x0 : V) (st : St) : s51 [x0] st = f51 x0 st := by
  have h : afn Try.prog g51mu g51T big (areg Try.prog g51mu g51T) 51 [x0] st = g51X (g51C []) g51kr (fun t => [x0].getD t (.tup [])) st := by kernel_rfl
  rw [s51, sealF_eq]
  exact h.trans (g51er _ st)
/-! (*sinew/query.parser).batch -/
def g52mu : Nat → Bool := fun _ => false
noncomputable def g52T : Tbl := tget [(80, s80), (83, s83)]
theorem g52t : SimT Try.prog g52T := simT_cons sim80 ( simT_cons sim83 (simT_nil))
noncomputable def s52 : Fn := sealF (afn Try.prog g52mu g52T big (areg Try.prog g52mu g52T) 52)
theorem sim52 : Sim Try.prog 52 s52 := (afn_sim g52t (fun m => areg_sound g52t hmix m) 52 (by kernel_rfl)).sealed
noncomputable def g52C (p : List Nat) : Code := sub (match Try.f52.body with | some c => c | none => .skip) p
noncomputable def g52X (c : Code) (K : Kon) : Env → St → Res := aexec Try.prog g52mu g52T big 29 (areg Try.prog g52mu g52T 29) c K
noncomputable def g52kr : Kon := aresK Try.prog Try.f52.results.toList
theorem g52reg {c : Code} {K : Kon} {G : Env → St → Res} {id : Nat} {ops : Array Oper} {l1 l2 : List Nat} (hc : c = .region id ops false) (hl : List.range ops.size = l1 ++ l2) (h : (fun env st => aops Try.prog g52mu g52T 29 ops l2 env st (K .normal)) = G) : g52X c K = fun env st => aops Try.prog g52mu g52T 29 ops l1 env st G := reg_cut hc hl h
theorem g52seq {c x y : Code} {K : Kon} {G : Env → St → Res} (hc : c = .seq x y) (hy : g52X y K = G) : g52X c K = g52X x (kSeq G K) := seq_cut hc hy
theorem g52blk {c x : Code} {K : Kon} {i : Nat} (hc : c = .block i x) : g52X c K = g52X x (kBlk i K) := blk_cut hc
theorem g52loop {c x : Code} {K : Kon} (hc : c = .loop x) : g52X c K = aloop (g52X x) K big := loop_cut hc
theorem g52cond {c x y : Code} {K : Kon} {v : Operand} {F G : Env → St → Res} (hc : c = .cond v x y) (hx : g52X x K = F) (hy : g52X y K = G) : g52X c K = condF v F G := cond_cut hc hx hy
noncomputable def g52k0 : Kon := kSeq (g52X (g52C [1, 1]) (g52kr)) (g52kr)
noncomputable def g52k1 : Kon := kBlk 0 (g52k0)
noncomputable def g52k2 (L1010 : V → V → V → St → Res) : Kon := kSeq (fun env st => L1010 (env 0) (env 2) (env 3) st) (g52k1)
noncomputable def g52k3 (L1010 : V → V → V → St → Res) : Kon := kSeq (g52X (g52C [1, 0, 1, 0, 0, 1, 1]) (g52k2 L1010)) (g52k2 L1010)
noncomputable def g52k4 (L1010 : V → V → V → St → Res) : Kon := kBlk 1 (g52k3 L1010)
noncomputable def g52b1010010011 (L1010 : V → V → V → St → Res) (x0 : V) (x2 : V) (x4 : V) (x5 : V) (st : St) : Res :=
 A.ret (s80 [x0.er1, ((.int .i64 1) : V).er1, ((.lst [] 1) : V).er1] st) fun a1 z2 =>
 A.faddr 1 x5 fun a3 =>
 A.store 1 a3 a1 z2 fun z4 =>
 A.ret (s80 [x0.er1, ((.int .i64 1) : V).er1, ((.lst [] 1) : V).er1] z4) fun a5 z6 =>
 A.faddr 2 x5 fun a7 =>
 A.store 1 a7 a5 z6 fun z8 =>
 A.load true 3 x5 z8 fun a9 z10 =>
 A.build [(.bool false), (.str []), (.str []), (.str [])] [(0, 1, x4), (1, 3, a9)] fun a11 =>
 A.bslice 4 (.agg [(.bool false), (.str []), (.str []), (.str [])]) 1 [(0, a11)] fun a12 =>
 A.app 4 x2 (elemsOf 5 4 a12 z10) z10 fun a13 z14 =>
 A.ret (s83 [x0.er1, ((.str [46]) : V).er1] z14) fun a15 z16 =>
 L1010 x0 a13 a15 z16
theorem g52e1010010011 (L1010 : V → V → V → St → Res) : g52X (g52C [1, 0, 1, 0, 0, 1, 0, 0, 1, 1]) (g52k4 L1010) = fun env st => g52b1010010011 L1010 (env 0) (env 2) (env 4) (env 5) st := by
  refine Eq.trans (Eq.refl (g52X (g52C [1, 0, 1, 0, 0, 1, 0, 0, 1, 1]) (g52k4 L1010))) ?_
  funext env st
  kernel_rfl
noncomputable def g52b1010 : Nat → V → V → V → St → Res
| 0, _, _, _, _ => none
| n + 1, x0, x2, x3, st =>
 A.cond x3
 (A.bslice 1 (.str []) 2 [(0, (.str [105, 110, 115, 101, 114, 116])), (1, (.str [100, 101, 108, 101, 116, 101]))] fun a1 =>
 A.ret (s80 [x0.er1, ((.int .i64 1) : V).er1, a1.er1] st) fun a2 z3 =>
 A.eql 3 false a2 (.str [100, 101, 108, 101, 116, 101]) fun a4 =>
 A.ret (s80 [x0.er1, ((.int .i64 1) : V).er1, ((.lst [] 1) : V).er1] z3) fun a5 z6 =>
 A.build [(.str []), (.str []), (.str [])] [(0, 1, a5)] fun a7 =>
 A.box (.agg [(.str []), (.str []), (.str [])]) z6 fun a8 z9 =>
 A.store 3 a8 a7 z9 fun z10 =>
 g52b1010010011 (g52b1010 n) x0 x2 a4 a8 z10)
 (some (.ret x2.er1, st))
theorem g52n1010 : g52C [1, 0, 1, 0] = .loop (g52C [1, 0, 1, 0, 0]) := by kernel_rfl
theorem g52n10100 : g52C [1, 0, 1, 0, 0] = .seq (g52C [1, 0, 1, 0, 0, 0]) (g52C [1, 0, 1, 0, 0, 1]) := by kernel_rfl
theorem g52n101001 : g52C [1, 0, 1, 0, 0, 1] = .seq (g52C [1, 0, 1, 0, 0, 1, 0]) (g52C [1, 0, 1, 0, 0, 1, 1]) := by kernel_rfl
theorem g52n1010010 : g52C [1, 0, 1, 0, 0, 1, 0] = .block 1 (g52C [1, 0, 1, 0, 0, 1, 0, 0]) := by kernel_rfl
theorem g52n10100100 : g52C [1, 0, 1, 0, 0, 1, 0, 0] = .seq (g52C [1, 0, 1, 0, 0, 1, 0, 0, 0]) (g52C [1, 0, 1, 0, 0, 1, 0, 0, 1]) := by kernel_rfl
theorem g52n101001001 : g52C [1, 0, 1, 0, 0, 1, 0, 0, 1] = .seq (g52C [1, 0, 1, 0, 0, 1, 0, 0, 1, 0]) (g52C [1, 0, 1, 0, 0, 1, 0, 0, 1, 1]) := by kernel_rfl
theorem g52e1010 : g52X (g52C [1, 0, 1, 0]) (g52k1) = fun env st => g52b1010 big (env 0) (env 2) (env 3) st := by
  have key : ∀ n, aloop (g52X (g52C [1, 0, 1, 0, 0])) (g52k1) n = fun env st => g52b1010 n (env 0) (env 2) (env 3) st := by
    intro n
    induction n with
    | zero => rfl
    | succ n ih =>
      have h : aloop (g52X (g52C [1, 0, 1, 0, 0])) (g52k1) (n + 1) = g52X (g52C [1, 0, 1, 0, 0]) (kSeq (aloop (g52X (g52C [1, 0, 1, 0, 0])) (g52k1) n) (g52k1)) := rfl
      rw [h, ih]
      refine Eq.trans (g52seq g52n10100 ((g52seq g52n101001 rfl).trans ((g52blk g52n1010010).trans (g52seq g52n10100100 (g52seq g52n101001001 (g52e1010010011 (g52b1010 n))))))) ?_
      funext env st
      kernel_rfl
  exact (g52loop g52n1010).trans (key big)
noncomputable def f52 (x0 : V) (st : St) : Res :=
 g52b1010 big x0 (.lst [] 1) (.bool true) st
theorem g52nr : g52C [] = .seq (g52C [0]) (g52C [1]) := by kernel_rfl
theorem g52n1 : g52C [1] = .seq (g52C [1, 0]) (g52C [1, 1]) := by kernel_rfl
theorem g52n10 : g52C [1, 0] = .seq (g52C [1, 0, 0]) (g52C [1, 0, 1]) := by kernel_rfl
theorem g52n101 : g52C [1, 0, 1] = .block 0 (g52C [1, 0, 1, 0]) := by kernel_rfl
theorem g52er (env : Env) (st : St) : g52X (g52C []) g52kr env st = f52 (env 0) st := by
  rw [(g52seq g52nr ((g52seq g52n1 rfl).trans (g52seq g52n10 ((g52blk g52n101).trans (g52e1010)))))]
  kernel_rfl
theorem s52_eq (x0 : V) (st : St) : s52 [x0] st = f52 x0 st := by
  have h : afn Try.prog g52mu g52T big (areg Try.prog g52mu g52T) 52 [x0] st = g52X (g52C []) g52kr (fun t => [x0].getD t (.tup [])) st := by kernel_rfl
  rw [s52, sealF_eq]
  exact h.trans (g52er _ st)
noncomputable def g25T : Tbl := tget [(50, s50), (51, s51), (52, s52)]
theorem g25t : SimT Try.prog g25T := simT_cons sim50 ( simT_cons sim51 ( simT_cons sim52 (simT_nil)))
noncomputable def s25 : Fn := sealF (a25 g25T big (fun m => areg Try.prog (fun _ => false) g25T m))
theorem sim25 : Sim Try.prog 25 s25 := (simA25 g25t (fun m => areg_sound g25t hmix m) big).sealed
/-! sinew/query.size -/
def g53mu : Nat → Bool := fun _ => false
noncomputable def g53T (R : Fn) : Tbl := tget [(53, R)]
theorem g53t (R : Fn) (hR : Sim Try.prog 53 R) : SimT Try.prog (g53T R) := simT_cons hR (simT_nil)
noncomputable def s53n : Nat → Fn
| 0 => fun _ _ => none
| n + 1 => fun args st => fg (afn Try.prog g53mu (g53T (s53n n)) big (areg Try.prog g53mu (g53T (s53n n))) 53 args st) st
theorem sim53n : ∀ n, Sim Try.prog 53 (s53n n)
| 0 => ⟨by kernel_rfl, fun _ _ _ _ _ _ _ h => by cases h⟩
| n + 1 => (afn_sim (g53t (s53n n) (sim53n n)) (fun m => areg_sound (g53t (s53n n) (sim53n n)) hmix m) 53 (by kernel_rfl)).fg
noncomputable def s53 : Fn := sealF (s53n big)
theorem sim53 : Sim Try.prog 53 s53 := (sim53n big).sealed
theorem s53_n : s53 = s53n big := sealF_eq _
noncomputable def g53C (p : List Nat) : Code := sub (match Try.f53.body with | some c => c | none => .skip) p
noncomputable def g53X (R : Fn) (c : Code) (K : Kon) : Env → St → Res := aexec Try.prog g53mu (g53T R) big 33 (areg Try.prog g53mu (g53T R) 33) c K
noncomputable def g53kr (R : Fn) : Kon := aresK Try.prog Try.f53.results.toList
theorem g53reg (R : Fn) {c : Code} {K : Kon} {G : Env → St → Res} {id : Nat} {ops : Array Oper} {l1 l2 : List Nat} (hc : c = .region id ops false) (hl : List.range ops.size = l1 ++ l2) (h : (fun env st => aops Try.prog g53mu (g53T R) 33 ops l2 env st (K .normal)) = G) : (g53X R) c K = fun env st => aops Try.prog g53mu (g53T R) 33 ops l1 env st G := reg_cut hc hl h
theorem g53seq (R : Fn) {c x y : Code} {K : Kon} {G : Env → St → Res} (hc : c = .seq x y) (hy : (g53X R) y K = G) : (g53X R) c K = (g53X R) x (kSeq G K) := seq_cut hc hy
theorem g53blk (R : Fn) {c x : Code} {K : Kon} {i : Nat} (hc : c = .block i x) : (g53X R) c K = (g53X R) x (kBlk i K) := blk_cut hc
theorem g53loop (R : Fn) {c x : Code} {K : Kon} (hc : c = .loop x) : (g53X R) c K = aloop ((g53X R) x) K big := loop_cut hc
theorem g53cond (R : Fn) {c x y : Code} {K : Kon} {v : Operand} {F G : Env → St → Res} (hc : c = .cond v x y) (hx : (g53X R) x K = F) (hy : (g53X R) y K = G) : (g53X R) c K = condF v F G := cond_cut hc hx hy
noncomputable def g53k0 (R : Fn) : Kon := kSeq ((g53X R) (g53C [1, 1, 1]) ((g53kr R))) ((g53kr R))
noncomputable def g53k1 (R : Fn) : Kon := kBlk 0 ((g53k0 R))
noncomputable def g53k2 (R : Fn) (L11010 : V → V → V → V → V → St → Res) : Kon := kSeq (fun env st => L11010 (env 2) (env 3) (env 12) (env 13) (env 14) st) ((g53k1 R))
noncomputable def g53k3 (R : Fn) (L11010 : V → V → V → V → V → St → Res) : Kon := kSeq ((g53X R) (g53C [1, 1, 0, 1, 0, 0, 1, 1, 1]) ((g53k2 R) L11010)) ((g53k2 R) L11010)
noncomputable def g53k4 (R : Fn) (L11010 : V → V → V → V → V → St → Res) : Kon := kBlk 1 ((g53k3 R) L11010)
noncomputable def g53b110100110011 (R : Fn) (L11010 : V → V → V → V → V → St → Res) (x2 : V) (x3 : V) (x6 : V) (x7 : V) (x12 : V) (x13 : V) (x14 : V) (st : St) : Res :=
 A.bin .add x2 x6 fun a1 =>
 A.max x3 x7 fun a2 =>
 A.bin .add x14 (.int .i64 1) fun a3 =>
 L11010 a1 a2 x12 x13 a3 st
theorem g53e110100110011 (R : Fn) (L11010 : V → V → V → V → V → St → Res) : (g53X R) (g53C [1, 1, 0, 1, 0, 0, 1, 1, 0, 0, 1, 1]) ((g53k4 R) L11010) = fun env st => (g53b110100110011 R) L11010 (env 2) (env 3) (env 6) (env 7) (env 12) (env 13) (env 14) st := by
  refine Eq.trans (Eq.refl ((g53X R) (g53C [1, 1, 0, 1, 0, 0, 1, 1, 0, 0, 1, 1]) ((g53k4 R) L11010))) ?_
  funext env st
  kernel_rfl
noncomputable def g53b11010 (R : Fn) : Nat → V → V → V → V → V → St → Res
| 0, _, _, _, _, _, _ => none
| n + 1, x2, x3, x12, x13, x14, st =>
 A.bin .lss x14 x13 fun a1 =>
 A.cond a1
 (A.iaddr 3 x12 x14 fun a2 =>
 A.load true 3 a2 st fun a3 z4 =>
 A.box (.agg [(.int .i64 0), (.str []), (.lst [] 1)]) z4 fun a5 z6 =>
 A.store 3 a5 a3 z6 fun z7 =>
 A.load true 3 a5 z7 fun a8 z9 =>
 A.ret (R [a8.er1] z9) fun a10 z11 =>
 A.ext a10 0 fun a12 =>
 A.ext a10 1 fun a13 =>
 (g53b110100110011 R) ((g53b11010 R) n) x2 x3 a12 a13 x12 x13 x14 z11)
 (A.bin .add x3 (.int .i64 1) fun a14 =>
 some (.ret (.tup [x2.er1, a14.er1]), st))
theorem g53n11010 : g53C [1, 1, 0, 1, 0] = .loop (g53C [1, 1, 0, 1, 0, 0]) := by kernel_rfl
theorem g53n110100 : g53C [1, 1, 0, 1, 0, 0] = .seq (g53C [1, 1, 0, 1, 0, 0, 0]) (g53C [1, 1, 0, 1, 0, 0, 1]) := by kernel_rfl
theorem g53n1101001 : g53C [1, 1, 0, 1, 0, 0, 1] = .seq (g53C [1, 1, 0, 1, 0, 0, 1, 0]) (g53C [1, 1, 0, 1, 0, 0, 1, 1]) := by kernel_rfl
theorem g53n11010011 : g53C [1, 1, 0, 1, 0, 0, 1, 1] = .seq (g53C [1, 1, 0, 1, 0, 0, 1, 1, 0]) (g53C [1, 1, 0, 1, 0, 0, 1, 1, 1]) := by kernel_rfl
theorem g53n110100110 : g53C [1, 1, 0, 1, 0, 0, 1, 1, 0] = .block 1 (g53C [1, 1, 0, 1, 0, 0, 1, 1, 0, 0]) := by kernel_rfl
theorem g53n1101001100 : g53C [1, 1, 0, 1, 0, 0, 1, 1, 0, 0] = .seq (g53C [1, 1, 0, 1, 0, 0, 1, 1, 0, 0, 0]) (g53C [1, 1, 0, 1, 0, 0, 1, 1, 0, 0, 1]) := by kernel_rfl
theorem g53n11010011001 : g53C [1, 1, 0, 1, 0, 0, 1, 1, 0, 0, 1] = .seq (g53C [1, 1, 0, 1, 0, 0, 1, 1, 0, 0, 1, 0]) (g53C [1, 1, 0, 1, 0, 0, 1, 1, 0, 0, 1, 1]) := by kernel_rfl
theorem g53e11010 (R : Fn) : (g53X R) (g53C [1, 1, 0, 1, 0]) ((g53k1 R)) = fun env st => (g53b11010 R) big (env 2) (env 3) (env 12) (env 13) (env 14) st := by
  have key : ∀ n, aloop ((g53X R) (g53C [1, 1, 0, 1, 0, 0])) ((g53k1 R)) n = fun env st => (g53b11010 R) n (env 2) (env 3) (env 12) (env 13) (env 14) st := by
    intro n
    induction n with
    | zero => rfl
    | succ n ih =>
      have h : aloop ((g53X R) (g53C [1, 1, 0, 1, 0, 0])) ((g53k1 R)) (n + 1) = (g53X R) (g53C [1, 1, 0, 1, 0, 0]) (kSeq (aloop ((g53X R) (g53C [1, 1, 0, 1, 0, 0])) ((g53k1 R)) n) ((g53k1 R))) := rfl
      rw [h, ih]
      refine Eq.trans ((g53seq R) g53n110100 ((g53seq R) g53n1101001 (((g53seq R) g53n11010011 rfl).trans (((g53blk R) g53n110100110).trans ((g53seq R) g53n1101001100 ((g53seq R) g53n11010011001 ((g53e110100110011 R) ((g53b11010 R) n)))))))) ?_
      funext env st
      kernel_rfl
  exact ((g53loop R) g53n11010).trans (key big)
noncomputable def g53b11 (R : Fn) (x1 : V) (x2 : V) (x3 : V) (st : St) : Res :=
 A.faddr 2 x1 fun a1 =>
 A.load false 1 a1 st fun a2 z3 =>
 A.lenL a2 fun a4 =>
 (g53b11010 R) big x2 x3 a2 a4 (.int .i64 0) z3
theorem g53n11 : g53C [1, 1] = .seq (g53C [1, 1, 0]) (g53C [1, 1, 1]) := by kernel_rfl
theorem g53n110 : g53C [1, 1, 0] = .seq (g53C [1, 1, 0, 0]) (g53C [1, 1, 0, 1]) := by kernel_rfl
theorem g53n1101 : g53C [1, 1, 0, 1] = .block 0 (g53C [1, 1, 0, 1, 0]) := by kernel_rfl
theorem g53e11 (R : Fn) : (g53X R) (g53C [1, 1]) ((g53kr R)) = fun env st => (g53b11 R) (env 1) (env 2) (env 3) st := by
  refine Eq.trans (((g53seq R) g53n11 rfl).trans ((g53seq R) g53n110 (((g53blk R) g53n1101).trans ((g53e11010 R))))) ?_
  funext env st
  kernel_rfl
noncomputable def f53 (R : Fn) (x0 : V) (st : St) : Res :=
 A.box x0 st fun a1 z2 =>
 A.faddr 0 a1 fun a3 =>
 A.load false 1 a3 z2 fun a4 z5 =>
 A.eql 2 false a4 (.int .i64 1) fun a6 =>
 A.cond a6
 ((g53b11 R) a1 (.int .i64 1) (.int .i64 0) z5)
 ((g53b11 R) a1 (.int .i64 0) (.int .i64 0) z5)
theorem g53nr : g53C [] = .seq (g53C [0]) (g53C [1]) := by kernel_rfl
theorem g53n1 : g53C [1] = .seq (g53C [1, 0]) (g53C [1, 1]) := by kernel_rfl
theorem g53er (R : Fn) (env : Env) (st : St) : (g53X R) (g53C []) (g53kr R) env st = (f53 R) (env 0) st := by
  rw [((g53seq R) g53nr ((g53seq R) g53n1 ((g53e11 R))))]
  kernel_rfl
theorem s53n_eq (n : Nat) (x0 : V) (st : St) : s53n (n + 1) [x0] st = fg ((f53 (s53n n)) x0 st) st := by
  have h : afn Try.prog g53mu (g53T (s53n n)) big (areg Try.prog g53mu (g53T (s53n n))) 53 [x0] st = (g53X (s53n n)) (g53C []) (g53kr (s53n n)) (fun t => [x0].getD t (.tup [])) st := by kernel_rfl
  show fg (afn Try.prog g53mu (g53T (s53n n)) big (areg Try.prog g53mu (g53T (s53n n))) 53 _ st) st = fg _ st
  refine congrArg (fun r => fg r st) ?_
  exact h.trans ((g53er (s53n n)) _ st)
/-! sinew/query.why -/
def g26mu : Nat → Bool := fun _ => false
noncomputable def g26T : Tbl := tget [(21, s21), (44, s44), (53, s53)]
theorem g26t : SimT Try.prog g26T := simT_cons sim21 ( simT_cons sim44 ( simT_cons sim53 (simT_nil)))
noncomputable def s26 : Fn := sealF (fun args st => fg (afn Try.prog g26mu g26T big (areg Try.prog g26mu g26T) 26 args st) st)
theorem sim26 : Sim Try.prog 26 s26 := (afn_sim g26t (fun m => areg_sound g26t hmix m) 26 (by kernel_rfl)).fg.sealed
noncomputable def g26C (p : List Nat) : Code := sub (match Try.f26.body with | some c => c | none => .skip) p
noncomputable def g26X (c : Code) (K : Kon) : Env → St → Res := aexec Try.prog g26mu g26T big 85 (areg Try.prog g26mu g26T 85) c K
noncomputable def g26kr : Kon := aresK Try.prog Try.f26.results.toList
theorem g26reg {c : Code} {K : Kon} {G : Env → St → Res} {id : Nat} {ops : Array Oper} {l1 l2 : List Nat} (hc : c = .region id ops false) (hl : List.range ops.size = l1 ++ l2) (h : (fun env st => aops Try.prog g26mu g26T 85 ops l2 env st (K .normal)) = G) : g26X c K = fun env st => aops Try.prog g26mu g26T 85 ops l1 env st G := reg_cut hc hl h
theorem g26seq {c x y : Code} {K : Kon} {G : Env → St → Res} (hc : c = .seq x y) (hy : g26X y K = G) : g26X c K = g26X x (kSeq G K) := seq_cut hc hy
theorem g26blk {c x : Code} {K : Kon} {i : Nat} (hc : c = .block i x) : g26X c K = g26X x (kBlk i K) := blk_cut hc
theorem g26loop {c x : Code} {K : Kon} (hc : c = .loop x) : g26X c K = aloop (g26X x) K big := loop_cut hc
theorem g26cond {c x y : Code} {K : Kon} {v : Operand} {F G : Env → St → Res} (hc : c = .cond v x y) (hx : g26X x K = F) (hy : g26X y K = G) : g26X c K = condF v F G := cond_cut hc hx hy
noncomputable def g26k0 : Kon := kSeq (g26X (g26C [1, 1, 1, 1, 1, 1, 1]) (g26kr)) (g26kr)
noncomputable def g26k1 : Kon := kBlk 4 (g26k0)
noncomputable def g26b111111010 : Nat → V → V → V → V → St → Res
| 0, _, _, _, _, _ => none
| n + 1, x3, x74, x75, x76, st =>
 A.bin .lss x76 x75 fun a1 =>
 A.cond a1
 (A.iaddr 1 x74 x76 fun a2 =>
 A.load false 1 a2 st fun a3 z4 =>
 A.ret (s44 [x3.er1, a3.er1] z4) fun a5 z6 =>
 A.un .not a5 fun a7 =>
 A.cond a7
 (some (.ret ((.int .i64 91) : V).er1, z6))
 (A.bin .add x76 (.int .i64 1) fun a8 =>
 (g26b111111010 n) x3 x74 x75 a8 z6))
 (some (.ret ((.int .i64 0) : V).er1, st))
theorem g26n111111010 : g26C [1, 1, 1, 1, 1, 1, 0, 1, 0] = .loop (g26C [1, 1, 1, 1, 1, 1, 0, 1, 0, 0]) := by kernel_rfl
noncomputable def g26k2 (L111111010 : V → V → V → V → St → Res) : Kon := kSeq (fun env st => L111111010 (env 3) (env 74) (env 75) (env 76) st) (g26k1)
theorem g26e111111010 : g26X (g26C [1, 1, 1, 1, 1, 1, 0, 1, 0]) (g26k1) = fun env st => g26b111111010 big (env 3) (env 74) (env 75) (env 76) st := by
  have key : ∀ n, aloop (g26X (g26C [1, 1, 1, 1, 1, 1, 0, 1, 0, 0])) (g26k1) n = fun env st => g26b111111010 n (env 3) (env 74) (env 75) (env 76) st := by
    intro n
    induction n with
    | zero => rfl
    | succ n ih =>
      have h : aloop (g26X (g26C [1, 1, 1, 1, 1, 1, 0, 1, 0, 0])) (g26k1) (n + 1) = g26X (g26C [1, 1, 1, 1, 1, 1, 0, 1, 0, 0]) (kSeq (aloop (g26X (g26C [1, 1, 1, 1, 1, 1, 0, 1, 0, 0])) (g26k1) n) (g26k1)) := rfl
      rw [h, ih]
      refine Eq.trans (Eq.refl _) ?_
      funext env st
      kernel_rfl
  exact (g26loop g26n111111010).trans (key big)
noncomputable def g26b111111 (x3 : V) (x8 : V) (st : St) : Res :=
 A.lenL x8 fun a1 =>
 g26b111111010 big x3 x8 a1 (.int .i64 0) st
theorem g26n111111 : g26C [1, 1, 1, 1, 1, 1] = .seq (g26C [1, 1, 1, 1, 1, 1, 0]) (g26C [1, 1, 1, 1, 1, 1, 1]) := by kernel_rfl
theorem g26n1111110 : g26C [1, 1, 1, 1, 1, 1, 0] = .seq (g26C [1, 1, 1, 1, 1, 1, 0, 0]) (g26C [1, 1, 1, 1, 1, 1, 0, 1]) := by kernel_rfl
theorem g26n11111101 : g26C [1, 1, 1, 1, 1, 1, 0, 1] = .block 4 (g26C [1, 1, 1, 1, 1, 1, 0, 1, 0]) := by kernel_rfl
theorem g26e111111 : g26X (g26C [1, 1, 1, 1, 1, 1]) (g26kr) = fun env st => g26b111111 (env 3) (env 8) st := by
  refine Eq.trans ((g26seq g26n111111 rfl).trans (g26seq g26n1111110 ((g26blk g26n11111101).trans (g26e111111010)))) ?_
  funext env st
  kernel_rfl
noncomputable def g26k3 : Kon := kSeq (fun env st => g26b111111 (env 3) (env 8) st) (g26kr)
noncomputable def g26k4 : Kon := kBlk 2 (g26k3)
noncomputable def g26b11111010 : Nat → V → V → V → V → V → St → Res
| 0, _, _, _, _, _, _ => none
| n + 1, x3, x8, x61, x62, x63, st =>
 A.bin .lss x63 x62 fun a1 =>
 A.cond a1
 (A.iaddr 1 x61 x63 fun a2 =>
 A.load false 1 a2 st fun a3 z4 =>
 A.slice 1 x8 none (some x63) none fun a5 =>
 A.ret (s44 [a5.er1, a3.er1] z4) fun a6 z7 =>
 A.cond a6
 (some (.ret ((.int .i64 1) : V).er1, z7))
 (A.bin .add x63 (.int .i64 1) fun a8 =>
 (g26b11111010 n) x3 x8 x61 x62 a8 z7))
 (g26b111111 x3 x8 st)
theorem g26n11111010 : g26C [1, 1, 1, 1, 1, 0, 1, 0] = .loop (g26C [1, 1, 1, 1, 1, 0, 1, 0, 0]) := by kernel_rfl
noncomputable def g26k5 (L11111010 : V → V → V → V → V → St → Res) : Kon := kSeq (fun env st => L11111010 (env 3) (env 8) (env 61) (env 62) (env 63) st) (g26k4)
theorem g26e11111010 : g26X (g26C [1, 1, 1, 1, 1, 0, 1, 0]) (g26k4) = fun env st => g26b11111010 big (env 3) (env 8) (env 61) (env 62) (env 63) st := by
  have key : ∀ n, aloop (g26X (g26C [1, 1, 1, 1, 1, 0, 1, 0, 0])) (g26k4) n = fun env st => g26b11111010 n (env 3) (env 8) (env 61) (env 62) (env 63) st := by
    intro n
    induction n with
    | zero => rfl
    | succ n ih =>
      have h : aloop (g26X (g26C [1, 1, 1, 1, 1, 0, 1, 0, 0])) (g26k4) (n + 1) = g26X (g26C [1, 1, 1, 1, 1, 0, 1, 0, 0]) (kSeq (aloop (g26X (g26C [1, 1, 1, 1, 1, 0, 1, 0, 0])) (g26k4) n) (g26k4)) := rfl
      rw [h, ih]
      refine Eq.trans (Eq.refl _) ?_
      funext env st
      kernel_rfl
  exact (g26loop g26n11111010).trans (key big)
noncomputable def g26b11111 (x3 : V) (x8 : V) (st : St) : Res :=
 A.lenL x8 fun a1 =>
 g26b11111010 big x3 x8 x8 a1 (.int .i64 0) st
theorem g26n11111 : g26C [1, 1, 1, 1, 1] = .seq (g26C [1, 1, 1, 1, 1, 0]) (g26C [1, 1, 1, 1, 1, 1]) := by kernel_rfl
theorem g26n111110 : g26C [1, 1, 1, 1, 1, 0] = .seq (g26C [1, 1, 1, 1, 1, 0, 0]) (g26C [1, 1, 1, 1, 1, 0, 1]) := by kernel_rfl
theorem g26n1111101 : g26C [1, 1, 1, 1, 1, 0, 1] = .block 2 (g26C [1, 1, 1, 1, 1, 0, 1, 0]) := by kernel_rfl
theorem g26e11111 : g26X (g26C [1, 1, 1, 1, 1]) (g26kr) = fun env st => g26b11111 (env 3) (env 8) st := by
  refine Eq.trans ((g26seq g26n11111 (g26e111111)).trans (g26seq g26n111110 ((g26blk g26n1111101).trans (g26e11111010)))) ?_
  funext env st
  kernel_rfl
noncomputable def g26k6 : Kon := kSeq (fun env st => g26b11111 (env 3) (env 8) st) (g26kr)
noncomputable def g26k7 : Kon := kSeq (g26X (g26C [1, 1, 1, 1, 0, 1]) (g26k6)) (g26k6)
noncomputable def g26b111100_11 (x1 : V) (x3 : V) (x8 : V) (x50 : V) (st : St) : Res :=
 A.guard x50 false
 (A.lenL x3 fun a1 =>
 A.bin .gtr a1 (.int .i64 6) fun a2 =>
 A.guard a2 false
 (A.faddr 3 x1 fun a3 =>
 A.load false 1 a3 st fun a4 z5 =>
 A.lenL a4 fun a6 =>
 A.bin .gtr a6 (.int .i64 64) fun a7 =>
 A.cond a7
 (some (.ret ((.int .i64 2) : V).er1, z5))
 (g26b11111 x3 x8 z5))
 (some (.ret ((.int .i64 2) : V).er1, st)))
 (some (.ret ((.int .i64 2) : V).er1, st))
theorem g26e111100_11 : (fun env st => aops Try.prog g26mu g26T 85 (rops (g26C [1, 1, 1, 1, 0, 0])) [11, 12, 13, 14, 15, 16, 17, 18, 19, 20] env st ((g26k7) .normal)) = fun env st => g26b111100_11 (env 1) (env 3) (env 8) (env 50) st := by
  refine Eq.trans (Eq.refl _) ?_
  funext env st
  kernel_rfl
noncomputable def g26b111 (x1 : V) (x3 : V) (st : St) : Res :=
 A.faddr 1 x1 fun a1 =>
 A.faddr 0 a1 fun a2 =>
 A.load false 1 a2 st fun a3 z4 =>
 A.lenL a3 fun a5 =>
 A.bin .gtr a5 (.int .i64 6) fun a6 =>
 A.guard a6 false
 (A.faddr 1 x1 fun a7 =>
 A.faddr 1 a7 fun a8 =>
 A.load false 1 a8 z4 fun a9 z10 =>
 A.lenL a9 fun a11 =>
 A.bin .gtr a11 (.int .i64 6) fun a12 =>
 g26b111100_11 x1 x3 a3 a12 z10)
 (g26b111100_11 x1 x3 a3 (.bool true) z4)
theorem g26n111 : g26C [1, 1, 1] = .seq (g26C [1, 1, 1, 0]) (g26C [1, 1, 1, 1]) := by kernel_rfl
theorem g26n1111 : g26C [1, 1, 1, 1] = .seq (g26C [1, 1, 1, 1, 0]) (g26C [1, 1, 1, 1, 1]) := by kernel_rfl
theorem g26n11110 : g26C [1, 1, 1, 1, 0] = .seq (g26C [1, 1, 1, 1, 0, 0]) (g26C [1, 1, 1, 1, 0, 1]) := by kernel_rfl
theorem g26rg111100 : g26C [1, 1, 1, 1, 0, 0] = .region 10 (rops (g26C [1, 1, 1, 1, 0, 0])) false := by kernel_rfl
theorem g26rg111100l : List.range (rops (g26C [1, 1, 1, 1, 0, 0])).size = [0, 1, 2, 3, 4, 5, 6, 7, 8, 9, 10] ++ [11, 12, 13, 14, 15, 16, 17, 18, 19, 20] := by kernel_rfl
theorem g26e111 : g26X (g26C [1, 1, 1]) (g26kr) = fun env st => g26b111 (env 1) (env 3) st := by
  refine Eq.trans (g26seq g26n111 ((g26seq g26n1111 (g26e11111)).trans ((g26seq g26n11110 rfl).trans (g26reg g26rg111100 g26rg111100l (g26e111100_11))))) ?_
  funext env st
  kernel_rfl
noncomputable def g26k8 : Kon := kSeq (fun env st => g26b111 (env 1) (env 3) st) (g26kr)
noncomputable def g26k9 : Kon := kBlk 0 (g26k8)
noncomputable def g26k10 (L11010 : V → V → V → V → V → St → Res) : Kon := kSeq (fun env st => L11010 (env 1) (env 3) (env 18) (env 19) (env 20) st) (g26k9)
noncomputable def g26k11 (L11010 : V → V → V → V → V → St → Res) : Kon := kSeq (g26X (g26C [1, 1, 0, 1, 0, 0, 1, 1, 1]) (g26k10 L11010)) (g26k10 L11010)
noncomputable def g26k12 (L11010 : V → V → V → V → V → St → Res) : Kon := kBlk 1 (g26k11 L11010)
noncomputable def g26b110100110011 (L11010 : V → V → V → V → V → St → Res) (x1 : V) (x3 : V) (x6 : V) (x7 : V) (x18 : V) (x19 : V) (x20 : V) (st : St) : Res :=
 A.bin .gtr x6 (.int .i64 24) fun a1 =>
 A.guard a1 false
 (A.bin .gtr x7 (.int .i64 12) fun a2 =>
 A.cond a2
 (some (.ret ((.int .i64 100) : V).er1, st))
 (A.bin .add x20 (.int .i64 1) fun a3 =>
 L11010 x1 x3 x18 x19 a3 st))
 (some (.ret ((.int .i64 100) : V).er1, st))
theorem g26e110100110011 (L11010 : V → V → V → V → V → St → Res) : g26X (g26C [1, 1, 0, 1, 0, 0, 1, 1, 0, 0, 1, 1]) (g26k12 L11010) = fun env st => g26b110100110011 L11010 (env 1) (env 3) (env 6) (env 7) (env 18) (env 19) (env 20) st := by
  refine Eq.trans (Eq.refl (g26X (g26C [1, 1, 0, 1, 0, 0, 1, 1, 0, 0, 1, 1]) (g26k12 L11010))) ?_
  funext env st
  kernel_rfl
noncomputable def g26b11010 : Nat → V → V → V → V → V → St → Res
| 0, _, _, _, _, _, _ => none
| n + 1, x1, x3, x18, x19, x20, st =>
 A.bin .lss x20 x19 fun a1 =>
 A.cond a1
 (A.iaddr 7 x18 x20 fun a2 =>
 A.load true 7 a2 st fun a3 z4 =>
 A.box (.agg [(.bool false), (.str []), (.int .i64 0), (.str []), (.lst [] 1), (.bool false), (.str [])]) z4 fun a5 z6 =>
 A.store 7 a5 a3 z6 fun z7 =>
 A.faddr 2 a5 fun a8 =>
 A.load true 3 a8 z7 fun a9 z10 =>
 A.ret (s53 [a9.er1] z10) fun a11 z12 =>
 A.ext a11 0 fun a13 =>
 A.ext a11 1 fun a14 =>
 g26b110100110011 (g26b11010 n) x1 x3 a13 a14 x18 x19 x20 z12)
 (g26b111 x1 x3 st)
theorem g26n11010 : g26C [1, 1, 0, 1, 0] = .loop (g26C [1, 1, 0, 1, 0, 0]) := by kernel_rfl
theorem g26n110100 : g26C [1, 1, 0, 1, 0, 0] = .seq (g26C [1, 1, 0, 1, 0, 0, 0]) (g26C [1, 1, 0, 1, 0, 0, 1]) := by kernel_rfl
theorem g26n1101001 : g26C [1, 1, 0, 1, 0, 0, 1] = .seq (g26C [1, 1, 0, 1, 0, 0, 1, 0]) (g26C [1, 1, 0, 1, 0, 0, 1, 1]) := by kernel_rfl
theorem g26n11010011 : g26C [1, 1, 0, 1, 0, 0, 1, 1] = .seq (g26C [1, 1, 0, 1, 0, 0, 1, 1, 0]) (g26C [1, 1, 0, 1, 0, 0, 1, 1, 1]) := by kernel_rfl
theorem g26n110100110 : g26C [1, 1, 0, 1, 0, 0, 1, 1, 0] = .block 1 (g26C [1, 1, 0, 1, 0, 0, 1, 1, 0, 0]) := by kernel_rfl
theorem g26n1101001100 : g26C [1, 1, 0, 1, 0, 0, 1, 1, 0, 0] = .seq (g26C [1, 1, 0, 1, 0, 0, 1, 1, 0, 0, 0]) (g26C [1, 1, 0, 1, 0, 0, 1, 1, 0, 0, 1]) := by kernel_rfl
theorem g26n11010011001 : g26C [1, 1, 0, 1, 0, 0, 1, 1, 0, 0, 1] = .seq (g26C [1, 1, 0, 1, 0, 0, 1, 1, 0, 0, 1, 0]) (g26C [1, 1, 0, 1, 0, 0, 1, 1, 0, 0, 1, 1]) := by kernel_rfl
theorem g26e11010 : g26X (g26C [1, 1, 0, 1, 0]) (g26k9) = fun env st => g26b11010 big (env 1) (env 3) (env 18) (env 19) (env 20) st := by
  have key : ∀ n, aloop (g26X (g26C [1, 1, 0, 1, 0, 0])) (g26k9) n = fun env st => g26b11010 n (env 1) (env 3) (env 18) (env 19) (env 20) st := by
    intro n
    induction n with
    | zero => rfl
    | succ n ih =>
      have h : aloop (g26X (g26C [1, 1, 0, 1, 0, 0])) (g26k9) (n + 1) = g26X (g26C [1, 1, 0, 1, 0, 0]) (kSeq (aloop (g26X (g26C [1, 1, 0, 1, 0, 0])) (g26k9) n) (g26k9)) := rfl
      rw [h, ih]
      refine Eq.trans (g26seq g26n110100 (g26seq g26n1101001 ((g26seq g26n11010011 rfl).trans ((g26blk g26n110100110).trans (g26seq g26n1101001100 (g26seq g26n11010011001 (g26e110100110011 (g26b11010 n)))))))) ?_
      funext env st
      kernel_rfl
  exact (g26loop g26n11010).trans (key big)
noncomputable def g26b1101 (x1 : V) (x3 : V) (x18 : V) (x19 : V) (x20 : V) (st : St) : Res :=
 g26b11010 big x1 x3 x18 x19 x20 st
theorem g26n1101 : g26C [1, 1, 0, 1] = .block 0 (g26C [1, 1, 0, 1, 0]) := by kernel_rfl
theorem g26e1101 : g26X (g26C [1, 1, 0, 1]) (g26k8) = fun env st => g26b1101 (env 1) (env 3) (env 18) (env 19) (env 20) st := by
  refine Eq.trans ((g26blk g26n1101).trans (g26e11010)) ?_
  funext env st
  kernel_rfl
noncomputable def f26 (x0 : V) (st : St) : Res :=
 A.box x0 st fun a1 z2 =>
 A.faddr 1 a1 fun a3 =>
 A.load true 2 a3 z2 fun a4 z5 =>
 A.ret (s21 [a4.er1] z5) fun a6 z7 =>
 A.faddr 1 a1 fun a8 =>
 A.faddr 1 a8 fun a9 =>
 A.load false 1 a9 z7 fun a10 z11 =>
 A.lenL a10 fun a12 =>
 g26b1101 a1 a6 a10 a12 (.int .i64 0) z11
theorem g26nr : g26C [] = .seq (g26C [0]) (g26C [1]) := by kernel_rfl
theorem g26n1 : g26C [1] = .seq (g26C [1, 0]) (g26C [1, 1]) := by kernel_rfl
theorem g26n11 : g26C [1, 1] = .seq (g26C [1, 1, 0]) (g26C [1, 1, 1]) := by kernel_rfl
theorem g26n110 : g26C [1, 1, 0] = .seq (g26C [1, 1, 0, 0]) (g26C [1, 1, 0, 1]) := by kernel_rfl
theorem g26er (env : Env) (st : St) : g26X (g26C []) g26kr env st = f26 (env 0) st := by
  rw [(g26seq g26nr (g26seq g26n1 ((g26seq g26n11 (g26e111)).trans (g26seq g26n110 (g26e1101)))))]
  kernel_rfl
theorem s26_eq (x0 : V) (st : St) : s26 [x0] st = fg (f26 x0 st) st := by
  have h : afn Try.prog g26mu g26T big (areg Try.prog g26mu g26T) 26 [x0] st = g26X (g26C []) g26kr (fun t => [x0].getD t (.tup [])) st := by kernel_rfl
  rw [s26, sealF_eq]
  show fg _ st = fg _ st
  refine congrArg (fun r => fg r st) ?_
  exact h.trans (g26er _ st)
end Go.Ab
