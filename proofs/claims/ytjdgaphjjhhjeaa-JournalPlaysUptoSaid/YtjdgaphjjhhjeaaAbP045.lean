import Derived.Test.YtjdgaphjjhhjeaaAbQuiet
import Derived.Test.YtjdgaphjjhhjeaaAbP044
namespace Go.Ab
open Go.Proofs
set_option linter.unusedVariables false
set_option maxRecDepth 100000
/-! sinew/sinewref04.Write -/
def g26mu : Nat → Bool := fun _ => false
noncomputable def g26T : Tbl := tget [(20, s20), (39, s39)]
theorem g26t : SimT Try.prog g26T := simT_cons sim20 ( simT_cons sim39 (simT_nil))
noncomputable def s26 : Fn := sealF (fun args st => fg (afn Try.prog g26mu g26T big (areg Try.prog g26mu g26T) 26 args st) st)
theorem sim26 : Sim Try.prog 26 s26 := (afn_sim g26t (fun m => areg_sound g26t hmix m) 26 (by kernel_rfl)).fg.sealed
noncomputable def g26C (p : List Nat) : Code := sub (match Try.f26.body with | some c => c | none => .skip) p
noncomputable def g26X (c : Code) (K : Kon) : Env → St → Res := aexec Try.prog g26mu g26T big 52 (areg Try.prog g26mu g26T 52) c K
noncomputable def g26kr : Kon := aresK Try.prog Try.f26.results.toList
theorem g26reg {c : Code} {K : Kon} {G : Env → St → Res} {id : Nat} {ops : Array Oper} {l1 l2 : List Nat} (hc : c = .region id ops false) (hl : List.range ops.size = l1 ++ l2) (h : (fun env st => aops Try.prog g26mu g26T 52 ops l2 env st (K .normal)) = G) : g26X c K = fun env st => aops Try.prog g26mu g26T 52 ops l1 env st G := reg_cut hc hl h
theorem g26seq {c x y : Code} {K : Kon} {G : Env → St → Res} (hc : c = .seq x y) (hy : g26X y K = G) : g26X c K = g26X x (kSeq G K) := seq_cut hc hy
theorem g26blk {c x : Code} {K : Kon} {i : Nat} (hc : c = .block i x) : g26X c K = g26X x (kBlk i K) := blk_cut hc
theorem g26loop {c x : Code} {K : Kon} (hc : c = .loop x) : g26X c K = aloop (g26X x) K big := loop_cut hc
theorem g26cond {c x y : Code} {K : Kon} {v : Operand} {F G : Env → St → Res} (hc : c = .cond v x y) (hx : g26X x K = F) (hy : g26X y K = G) : g26X c K = condF v F G := cond_cut hc hx hy
noncomputable def g26b1111111111 (x2 : V) (x4 : V) (x8 : V) (x10 : V) (st : St) : Res :=
 A.bslice 1 (.int .i64 0) 1 [(0, x8)] fun a1 =>
 A.app 1 x10 (elemsOf 5 1 a1 st) st fun a2 z3 =>
 A.faddr 3 x2 fun a4 =>
 A.store 1 a4 a2 z3 fun z5 =>
 A.load true 4 x2 z5 fun a6 z7 =>
 A.store 4 x4 a6 z7 fun z8 =>
 A.res (rcell (A.load true 4 x4 z8 kid) (rtmp (.int .i64 0) (some []))) z8
theorem g26e1111111111 : g26X (g26C [1, 1, 1, 1, 1, 1, 1, 1, 1, 1]) (g26kr) = fun env st => g26b1111111111 (env 2) (env 4) (env 8) (env 10) st := by
  refine Eq.trans (Eq.refl (g26X (g26C [1, 1, 1, 1, 1, 1, 1, 1, 1, 1]) (g26kr))) ?_
  funext env st
  kernel_rfl
noncomputable def g26b11111111 (x2 : V) (x3 : V) (x4 : V) (x8 : V) (x9 : V) (x10 : V) (st : St) : Res :=
 A.faddr 3 x2 fun a1 =>
 A.load false 1 a1 st fun a2 z3 =>
 A.app 1 x10 (elemsOf 5 1 a2 z3) z3 fun a4 z5 =>
 A.load true 4 x3 z5 fun a6 z7 =>
 A.bslice 4 (.agg [(.int .i64 0), (.lst [] 1), (.lst [] 1), (.lst [] 1)]) 1 [(0, a6)] fun a8 =>
 A.app 4 x9 (elemsOf 5 4 a8 z7) z7 fun a9 z10 =>
 A.faddr 2 x2 fun a11 =>
 A.store 1 a11 a9 z10 fun z12 =>
 g26b1111111111 x2 x4 x8 a4 z12
theorem g26n11111111 : g26C [1, 1, 1, 1, 1, 1, 1, 1] = .seq (g26C [1, 1, 1, 1, 1, 1, 1, 1, 0]) (g26C [1, 1, 1, 1, 1, 1, 1, 1, 1]) := by kernel_rfl
theorem g26n111111111 : g26C [1, 1, 1, 1, 1, 1, 1, 1, 1] = .seq (g26C [1, 1, 1, 1, 1, 1, 1, 1, 1, 0]) (g26C [1, 1, 1, 1, 1, 1, 1, 1, 1, 1]) := by kernel_rfl
theorem g26e11111111 : g26X (g26C [1, 1, 1, 1, 1, 1, 1, 1]) (g26kr) = fun env st => g26b11111111 (env 2) (env 3) (env 4) (env 8) (env 9) (env 10) st := by
  refine Eq.trans (g26seq g26n11111111 (g26seq g26n111111111 (g26e1111111111))) ?_
  funext env st
  kernel_rfl
noncomputable def g26b1111 (x2 : V) (x3 : V) (x4 : V) (x6 : V) (st : St) : Res :=
 A.load true 4 x2 st fun a1 z2 =>
 A.ret (s20 [a1.er1] z2) fun a3 z4 =>
 A.lenS x6 fun a5 =>
 A.bin .add a3 a5 fun a6 =>
 A.faddr 2 x2 fun a7 =>
 A.load false 1 a7 z4 fun a8 z9 =>
 A.app 4 (.lst [] 1) (elemsOf 5 4 a8 z9) z9 fun a10 z11 =>
 g26b11111111 x2 x3 x4 a6 a10 (.lst [] 1) z11
theorem g26n1111 : g26C [1, 1, 1, 1] = .seq (g26C [1, 1, 1, 1, 0]) (g26C [1, 1, 1, 1, 1]) := by kernel_rfl
theorem g26n11111 : g26C [1, 1, 1, 1, 1] = .seq (g26C [1, 1, 1, 1, 1, 0]) (g26C [1, 1, 1, 1, 1, 1]) := by kernel_rfl
theorem g26n111111 : g26C [1, 1, 1, 1, 1, 1] = .seq (g26C [1, 1, 1, 1, 1, 1, 0]) (g26C [1, 1, 1, 1, 1, 1, 1]) := by kernel_rfl
theorem g26n1111111 : g26C [1, 1, 1, 1, 1, 1, 1] = .seq (g26C [1, 1, 1, 1, 1, 1, 1, 0]) (g26C [1, 1, 1, 1, 1, 1, 1, 1]) := by kernel_rfl
theorem g26e1111 : g26X (g26C [1, 1, 1, 1]) (g26kr) = fun env st => g26b1111 (env 2) (env 3) (env 4) (env 6) st := by
  refine Eq.trans (g26seq g26n1111 (g26seq g26n11111 (g26seq g26n111111 (g26seq g26n1111111 (g26e11111111))))) ?_
  funext env st
  kernel_rfl
noncomputable def g26b11 (x2 : V) (x3 : V) (x4 : V) (x6 : V) (x7 : V) (st : St) : Res :=
 A.eql 2 true x7 (.int .i64 0) fun a1 =>
 A.cond a1
 (A.load true 4 x2 st fun a2 z3 =>
 A.store 4 x4 a2 z3 fun z4 =>
 A.res (rcell (A.load true 4 x4 z4 kid) (rtmp (.int .i64 1) (some []))) z4)
 (A.lenS x6 fun a5 =>
 A.faddr 0 x2 fun a6 =>
 A.load false 1 a6 st fun a7 _ =>
 A.load true 4 x2 st fun a8 _ =>
 A.ret (A.ret (s20 [a8.er1] st) kid) fun a9 z10 =>
 A.chk (ldv false 1 a6 z10) a7
 (A.bin .sub a7 a9 fun a11 =>
 A.bin .gtr a5 a11 fun a12 =>
 A.cond a12
 (A.load true 4 x2 z10 fun a13 z14 =>
 A.store 4 x4 a13 z14 fun z15 =>
 A.res (rcell (A.load true 4 x4 z15 kid) (rtmp (.int .i64 40) (some []))) z15)
 (g26b1111 x2 x3 x4 x6 z10)))
theorem g26n11 : g26C [1, 1] = .seq (g26C [1, 1, 0]) (g26C [1, 1, 1]) := by kernel_rfl
theorem g26n111 : g26C [1, 1, 1] = .seq (g26C [1, 1, 1, 0]) (g26C [1, 1, 1, 1]) := by kernel_rfl
theorem g26e11 : g26X (g26C [1, 1]) (g26kr) = fun env st => g26b11 (env 2) (env 3) (env 4) (env 6) (env 7) st := by
  refine Eq.trans (g26seq g26n11 (g26seq g26n111 (g26e1111))) ?_
  funext env st
  kernel_rfl
noncomputable def f26 (x0 : V) (x1 : V) (st : St) : Res :=
 A.box x0 st fun a1 z2 =>
 A.box x1 z2 fun a3 z4 =>
 A.box (.agg [(.int .i64 0), (.int .i64 0), (.lst [] 1), (.lst [] 1)]) z4 fun a5 z6 =>
 A.load true 4 a3 z6 fun a7 z8 =>
 A.ret (s39 [a7.er1] z8) fun a9 z10 =>
 A.ext a9 0 fun a11 =>
 A.ext a9 1 fun a12 =>
 g26b11 a1 a3 a5 a11 a12 z10
theorem g26nr : g26C [] = .seq (g26C [0]) (g26C [1]) := by kernel_rfl
theorem g26n1 : g26C [1] = .seq (g26C [1, 0]) (g26C [1, 1]) := by kernel_rfl
theorem g26er (env : Env) (st : St) : g26X (g26C []) g26kr env st = f26 (env 0) (env 1) st := by
  rw [(g26seq g26nr (g26seq g26n1 (g26e11)))]
  kernel_rfl
theorem s26_eq (x0 : V) (x1 : V) (st : St) : s26 [x0, x1] st = fg (f26 x0 x1 st) st := by
  have h : afn Try.prog g26mu g26T big (areg Try.prog g26mu g26T) 26 [x0, x1] st = g26X (g26C []) g26kr (fun t => [x0, x1].getD t (.tup [])) st := by kernel_rfl
  rw [s26, sealF_eq]
  show fg _ st = fg _ st
  refine congrArg (fun r => fg r st) ?_
  exact h.trans (g26er _ st)
/-! sinew/sinewref04.Sure -/
def g27mu : Nat → Bool := fun _ => false
noncomputable def g27T : Tbl := tget [(20, s20)]
theorem g27t : SimT Try.prog g27T := simT_cons sim20 (simT_nil)
noncomputable def s27 : Fn := sealF (fun args st => fg (afn Try.prog g27mu g27T big (areg Try.prog g27mu g27T) 27 args st) st)
theorem sim27 : Sim Try.prog 27 s27 := (afn_sim g27t (fun m => areg_sound g27t hmix m) 27 (by kernel_rfl)).fg.sealed
noncomputable def f27 (x0 : V) (st : St) : Res :=
 A.box x0 st fun a1 z2 =>
 A.box (.agg [(.int .i64 0), (.int .i64 0), (.lst [] 1), (.lst [] 1)]) z2 fun a3 z4 =>
 A.load true 4 a1 z4 fun a5 z6 =>
 A.ret (s20 [a5.er1] z6) fun a7 z8 =>
 A.faddr 1 a1 fun a9 =>
 A.store 1 a9 a7 z8 fun z10 =>
 A.load true 4 a1 z10 fun a11 z12 =>
 A.store 4 a3 a11 z12 fun z13 =>
 A.res (rcell (A.load true 4 a3 z13 kid) (some [])) z13
theorem s27_eq (x0 : V) (st : St) : s27 [x0] st = fg (f27 x0 st) st := by
  rw [s27, sealF_eq]
  show fg _ st = fg _ st
  refine congrArg (fun r => fg r st) ?_
  kernel_rfl
/-! sinew/sinewref04.Fail -/
def g28mu : Nat → Bool := fun _ => false
noncomputable def g28T : Tbl := tget [(20, s20), (27, s27)]
theorem g28t : SimT Try.prog g28T := simT_cons sim20 ( simT_cons sim27 (simT_nil))
noncomputable def s28 : Fn := sealF (fun args st => fg (afn Try.prog g28mu g28T big (areg Try.prog g28mu g28T) 28 args st) st)
theorem sim28 : Sim Try.prog 28 s28 := (afn_sim g28t (fun m => areg_sound g28t hmix m) 28 (by kernel_rfl)).fg.sealed
noncomputable def g28C (p : List Nat) : Code := sub (match Try.f28.body with | some c => c | none => .skip) p
noncomputable def g28X (c : Code) (K : Kon) : Env → St → Res := aexec Try.prog g28mu g28T big 54 (areg Try.prog g28mu g28T 54) c K
noncomputable def g28kr : Kon := aresK Try.prog Try.f28.results.toList
theorem g28reg {c : Code} {K : Kon} {G : Env → St → Res} {id : Nat} {ops : Array Oper} {l1 l2 : List Nat} (hc : c = .region id ops false) (hl : List.range ops.size = l1 ++ l2) (h : (fun env st => aops Try.prog g28mu g28T 54 ops l2 env st (K .normal)) = G) : g28X c K = fun env st => aops Try.prog g28mu g28T 54 ops l1 env st G := reg_cut hc hl h
theorem g28seq {c x y : Code} {K : Kon} {G : Env → St → Res} (hc : c = .seq x y) (hy : g28X y K = G) : g28X c K = g28X x (kSeq G K) := seq_cut hc hy
theorem g28blk {c x : Code} {K : Kon} {i : Nat} (hc : c = .block i x) : g28X c K = g28X x (kBlk i K) := blk_cut hc
theorem g28loop {c x : Code} {K : Kon} (hc : c = .loop x) : g28X c K = aloop (g28X x) K big := loop_cut hc
theorem g28cond {c x y : Code} {K : Kon} {v : Operand} {F G : Env → St → Res} (hc : c = .cond v x y) (hx : g28X x K = F) (hy : g28X y K = G) : g28X c K = condF v F G := cond_cut hc hx hy
noncomputable def g28k0 : Kon := kSeq (g28X (g28C [1, 1, 1, 1, 1, 1]) (g28kr)) (g28kr)
noncomputable def g28k1 : Kon := kBlk 0 (g28k0)
noncomputable def g28b1111100 : Nat → V → V → V → V → St → Res
| 0, _, _, _, _, _ => none
| n + 1, x2, x4, x6, x7, st =>
 A.faddr 3 x2 fun a1 =>
 A.load false 1 a1 st fun a2 z3 =>
 A.lenL a2 fun a4 =>
 A.bin .lss x7 a4 fun a5 =>
 A.guard a5 true
 (A.faddr 3 x2 fun a6 =>
 A.load false 1 a6 z3 fun a7 z8 =>
 A.iaddr 1 a7 x7 fun a9 =>
 A.load false 1 a9 z8 fun a10 z11 =>
 A.bin .leq a10 x6 fun a12 =>
 A.cond a12
 (A.bin .add x7 (.int .i64 1) fun a13 =>
 (g28b1111100 n) x2 x4 x6 a13 z11)
 (A.faddr 2 x2 fun a14 =>
 A.load false 1 a14 z11 fun a15 z16 =>
 A.slice 4 a15 none (some x7) (some x7) fun a17 =>
 A.faddr 2 x2 fun a18 =>
 A.store 1 a18 a17 z16 fun z19 =>
 A.faddr 3 x2 fun a20 =>
 A.load false 1 a20 z19 fun a21 z22 =>
 A.slice 1 a21 none (some x7) (some x7) fun a23 =>
 A.faddr 3 x2 fun a24 =>
 A.store 1 a24 a23 z22 fun z25 =>
 A.load true 4 x2 z25 fun a26 z27 =>
 A.ret (s27 [a26.er1] z27) fun a28 z29 =>
 A.store 4 x4 a28 z29 fun z30 =>
 A.res (rcell (A.load true 4 x4 z30 kid) (some [])) z30))
 (A.faddr 2 x2 fun a31 =>
 A.load false 1 a31 z3 fun a32 z33 =>
 A.slice 4 a32 none (some x7) (some x7) fun a34 =>
 A.faddr 2 x2 fun a35 =>
 A.store 1 a35 a34 z33 fun z36 =>
 A.faddr 3 x2 fun a37 =>
 A.load false 1 a37 z36 fun a38 z39 =>
 A.slice 1 a38 none (some x7) (some x7) fun a40 =>
 A.faddr 3 x2 fun a41 =>
 A.store 1 a41 a40 z39 fun z42 =>
 A.load true 4 x2 z42 fun a43 z44 =>
 A.ret (s27 [a43.er1] z44) fun a45 z46 =>
 A.store 4 x4 a45 z46 fun z47 =>
 A.res (rcell (A.load true 4 x4 z47 kid) (some [])) z47)
theorem g28n1111100 : g28C [1, 1, 1, 1, 1, 0, 0] = .loop (g28C [1, 1, 1, 1, 1, 0, 0, 0]) := by kernel_rfl
noncomputable def g28k2 (L1111100 : V → V → V → V → St → Res) : Kon := kSeq (fun env st => L1111100 (env 2) (env 4) (env 6) (env 7) st) (g28k1)
theorem g28e1111100 : g28X (g28C [1, 1, 1, 1, 1, 0, 0]) (g28k1) = fun env st => g28b1111100 big (env 2) (env 4) (env 6) (env 7) st := by
  have key : ∀ n, aloop (g28X (g28C [1, 1, 1, 1, 1, 0, 0, 0])) (g28k1) n = fun env st => g28b1111100 n (env 2) (env 4) (env 6) (env 7) st := by
    intro n
    induction n with
    | zero => rfl
    | succ n ih =>
      have h : aloop (g28X (g28C [1, 1, 1, 1, 1, 0, 0, 0])) (g28k1) (n + 1) = g28X (g28C [1, 1, 1, 1, 1, 0, 0, 0]) (kSeq (aloop (g28X (g28C [1, 1, 1, 1, 1, 0, 0, 0])) (g28k1) n) (g28k1)) := rfl
      rw [h, ih]
      refine Eq.trans (Eq.refl _) ?_
      funext env st
      kernel_rfl
  exact (g28loop g28n1111100).trans (key big)
noncomputable def g28b1111 (x2 : V) (x4 : V) (x6 : V) (st : St) : Res :=
 g28b1111100 big x2 x4 x6 (.int .i64 0) st
theorem g28n1111 : g28C [1, 1, 1, 1] = .seq (g28C [1, 1, 1, 1, 0]) (g28C [1, 1, 1, 1, 1]) := by kernel_rfl
theorem g28n11111 : g28C [1, 1, 1, 1, 1] = .seq (g28C [1, 1, 1, 1, 1, 0]) (g28C [1, 1, 1, 1, 1, 1]) := by kernel_rfl
theorem g28n111110 : g28C [1, 1, 1, 1, 1, 0] = .block 0 (g28C [1, 1, 1, 1, 1, 0, 0]) := by kernel_rfl
theorem g28e1111 : g28X (g28C [1, 1, 1, 1]) (g28kr) = fun env st => g28b1111 (env 2) (env 4) (env 6) st := by
  refine Eq.trans (g28seq g28n1111 ((g28seq g28n11111 rfl).trans ((g28blk g28n111110).trans (g28e1111100)))) ?_
  funext env st
  kernel_rfl
noncomputable def g28b111 (x1 : V) (x2 : V) (x4 : V) (x5 : V) (x6 : V) (st : St) : Res :=
 A.bin .gtr x1 (.int .i64 0) fun a1 =>
 A.cond a1
 (A.faddr 1 x2 fun a2 =>
 A.load false 1 a2 st fun a3 _ =>
 A.bin .add x5 (.int .i64 1) fun a4 =>
 A.bin .rem x1 a4 fun a5 =>
 A.bin .add a3 a5 fun a6 =>
 g28b1111 x2 x4 a6 st)
 (g28b1111 x2 x4 x6 st)
theorem g28n111 : g28C [1, 1, 1] = .seq (g28C [1, 1, 1, 0]) (g28C [1, 1, 1, 1]) := by kernel_rfl
theorem g28e111 : g28X (g28C [1, 1, 1]) (g28kr) = fun env st => g28b111 (env 1) (env 2) (env 4) (env 5) (env 6) st := by
  refine Eq.trans (g28seq g28n111 (g28e1111)) ?_
  funext env st
  kernel_rfl
noncomputable def f28 (x0 : V) (x1 : V) (st : St) : Res :=
 A.box x0 st fun a1 z2 =>
 A.box (.agg [(.int .i64 0), (.int .i64 0), (.lst [] 1), (.lst [] 1)]) z2 fun a3 z4 =>
 A.load true 4 a1 z4 fun a5 _ =>
 A.noP (A.ret (s20 [a5.er1] z4) kid) fun a6 z7 =>
 A.faddr 1 a1 fun a8 =>
 A.load false 1 a8 z7 fun a9 _ =>
 A.chk (ldv false 1 a8 z4) a9
 (A.bin .sub a6 a9 fun a10 =>
 A.faddr 1 a1 fun a11 =>
 A.load false 1 a11 z7 fun a12 z13 =>
 g28b111 x1 a1 a3 a10 a12 z13)
theorem g28nr : g28C [] = .seq (g28C [0]) (g28C [1]) := by kernel_rfl
theorem g28n1 : g28C [1] = .seq (g28C [1, 0]) (g28C [1, 1]) := by kernel_rfl
theorem g28n11 : g28C [1, 1] = .seq (g28C [1, 1, 0]) (g28C [1, 1, 1]) := by kernel_rfl
theorem g28er (env : Env) (st : St) : g28X (g28C []) g28kr env st = f28 (env 0) (env 1) st := by
  rw [(g28seq g28nr (g28seq g28n1 (g28seq g28n11 (g28e111))))]
  kernel_rfl
theorem s28_eq (x0 : V) (x1 : V) (st : St) : s28 [x0, x1] st = fg (f28 x0 x1 st) st := by
  have h : afn Try.prog g28mu g28T big (areg Try.prog g28mu g28T) 28 [x0, x1] st = g28X (g28C []) g28kr (fun t => [x0, x1].getD t (.tup [])) st := by kernel_rfl
  rw [s28, sealF_eq]
  show fg _ st = fg _ st
  refine congrArg (fun r => fg r st) ?_
  exact h.trans (g28er _ st)
/-! sinew/sinewref03.Check -/
def g40mu : Nat → Bool := fun _ => false
noncomputable def g40T : Tbl := tget [(53, s53)]
theorem g40t : SimT Try.prog g40T := simT_cons sim53 (simT_nil)
noncomputable def s40 : Fn := sealF (fun args st => fg (afn Try.prog g40mu g40T big (areg Try.prog g40mu g40T) 40 args st) st)
theorem sim40 : Sim Try.prog 40 s40 := (afn_sim g40t (fun m => areg_sound g40t hmix m) 40 (by kernel_rfl)).fg.sealed
noncomputable def f40 (x0 : V) (st : St) : Res :=
 A.box x0 st fun a1 z2 =>
 A.load true 4 a1 z2 fun a3 z4 =>
 A.ret (s53 [a3.er1] z4) fun a5 z6 =>
 A.ext a5 0 fun a7 =>
 A.ext a5 1 fun a8 =>
 A.un .not a8 fun a9 =>
 A.cond a9
 (some (.ret ((.int .i64 1) : V).er1, z6))
 (some (.ret ((.int .i64 0) : V).er1, z6))
theorem s40_eq (x0 : V) (st : St) : s40 [x0] st = fg (f40 x0 st) st := by
  rw [s40, sealF_eq]
  show fg _ st = fg _ st
  refine congrArg (fun r => fg r st) ?_
  kernel_rfl
end Go.Ab
